/- The law WordSays, walked. -/
import Derived.Test.YtolnhplgaolieaaWord4
namespace Go.Proofs.Ytolnhplgaolieaa
open Go.RowKit
theorem Rd.ofO {w : World} {base : Nat} {A : Option Addr} {n c : Nat} {l : List Int} (h : w.ownsRow base 3 1 (.slice A n c) n (ints l)) : Rd w w.heap.size 1 A n (ints l) := Rd.of_own h
set_option maxRecDepth 100000 in
set_option maxHeartbeats 4000000 in
theorem wordSays_any (s : ByteArray) (w : World) (hz : s.size ≤ 140737488351232) :
    Calls Try.prog 4 #[.string s] w fun e w' => e = .returned (.bool true) ∧ Below w.heap.size w w' := by
  have HL : Hid (longAll [s] = longErr s.size) := longAll_one s
  by_cases hs : 200 < s.size
  · have HE : Hid (longErr s.size = 2) := by unfold Hid longErr; rw [if_pos hs]
    go_enter Try.func4, Try.ntmps4
    go_wp2_with fail
    refine (wordBorders_large s hs _).mono ?_
    rintro e w1 ⟨rfl, hb1⟩
    go_wp2_with fail
    refine (wordPeriods_large s hs _).mono ?_
    rintro e w2 ⟨rfl, hb2⟩
    go_wp2_with fail
    refine (wordRoot_large s hs _).mono ?_
    rintro e w3 ⟨rfl, hb3⟩
    go_wp2_with fail
    refine (long_any [s] _ 1 _ (w3.heap.size + 1) _ (Rd.new_ (size := 1) (n := 1) w3 _ _ (Nat.lt_succ_self _) rfl) (by omega)).mono ?_
    rintro e w4 ⟨rfl, hb4⟩
    rw [HL.out, HE.out]
    have hb5 : Below w3.heap.size w3 w4 := ((Below.refl _ _).alloc (Nat.le_refl _) _).trans (hb4.mono (by simp))
    clear hb4
    go_wp2_with fail
    refine (wordCheck_any s _).mono ?_
    rintro e w6 ⟨rfl, hb6⟩
    rw [HE.out]
    go_wp2_with fail
    go_ret
    exact ⟨rfl, bthen hb1 (bthen hb2 (bthen hb3 (bthen hb5 hb6)))⟩
  have hs : s.size ≤ 200 := by omega
  have HE : Hid (longErr s.size = 0) := by unfold Hid longErr; rw [if_neg (by omega)]
  have hBL := bI_len (L s) s.size
  have hPL := pI_len (L s) (s.size + 1)
  have HB1 := Lib.hid (wordBorders_any s hs)
  have HB2 := Lib.hid (bordersOf_any s hs)
  have HP1 := Lib.hid (wordPeriods_any s hs)
  have HP2 := Lib.hid (periodsOf_any s hs)
  have HR1 := Lib.hid (wordRoot_any s hs)
  have HR2 := Lib.hid (rootOf_any s hs)
  generalize bI (L s) s.size = B at *
  generalize pI (L s) (s.size + 1) = P at *
  generalize s.size / rootN (L s) = D at *
  generalize S ((L s).take (rootN (L s))) = R at *
  rw [hBL] at HB2
  have HBL := Lib.hid hBL
  clear hBL
  go_enter Try.func4, Try.ntmps4
  go_wp2_with fail
  refine (HB1.out _).mono ?_
  rintro e w1 ⟨g, rfl, hA, hb1⟩
  have HA : Hid (Rd w1 w1.heap.size 1 (some ⟨g, 0, none⟩) s.size (ints B)) := Rd.of_own hA
  clear hA
  go_wp2_with fail
  refine (HP1.out _).mono ?_
  rintro e w2 ⟨v2, rfl, hown2, hb2⟩
  obtain ⟨A2, c2, rfl, hn2, hm2, hrd2⟩ := own_form hown2
  have HQ := Lib.hid hrd2
  have HA2 := Lib.hid (HA.out.below hb2)
  have hz2 := hb2.size
  clear hown2 hrd2 HA
  go_wp2_with fail
  refine (HR1.out _).mono ?_
  rintro e w3 ⟨rfl, hb3⟩
  have HQ3 := Lib.hid (HQ.out.below hb3)
  have HA3 := Lib.hid (HA2.out.below (hb3.mono hz2))
  have hz3 := hb3.size
  clear HQ HA2
  go_wp2_with fail
  refine (long_any [s] _ 1 _ (w3.heap.size + 1) _ (Rd.new_ (size := 1) (n := 1) w3 _ _ (Nat.lt_succ_self _) rfl) (by omega)).mono ?_
  rintro e w4 ⟨rfl, hb4⟩
  rw [HL.out, HE.out]
  have hb5 : Below w3.heap.size w3 w4 := ((Below.refl _ _).alloc (Nat.le_refl _) _).trans (hb4.mono (by simp))
  clear hb4
  have HQ4 := Lib.hid (HQ3.out.below (hb5.mono hz3))
  have HA4 := Lib.hid (HA3.out.below (hb5.mono (Nat.le_trans hz2 hz3)))
  have hz4 := hb5.size
  clear HQ3 HA3
  go_wp2_with fail
  refine (wordCheck_any s _).mono ?_
  rintro e w6 ⟨rfl, hb6⟩
  rw [HE.out]
  have HQ6 := Lib.hid (HQ4.out.below (hb6.mono (Nat.le_trans hz3 hz4)))
  have HA6 := Lib.hid (HA4.out.below (hb6.mono (Nat.le_trans hz2 (Nat.le_trans hz3 hz4))))
  have hz6 := hb6.size
  have hball := bthen hb1 (bthen hb2 (bthen hb3 (bthen hb5 hb6)))
  clear HQ4 HA4 hb1 hb2 hb3 hb5 hb6
  go_wp2_with fail
  refine (HR2.out _).mono ?_
  rintro e w7 ⟨rfl, hb7⟩
  have HQ7 := Lib.hid (HQ6.out.below (hb7.mono (Nat.le_trans hz3 (Nat.le_trans hz4 hz6))))
  have HA7 := Lib.hid (HA6.out.below (hb7.mono (Nat.le_trans hz2 (Nat.le_trans hz3 (Nat.le_trans hz4 hz6)))))
  have hz7 := hb7.size
  have hball7 := bthen hball hb7
  clear HQ6 HA6 hb7 hball
  go_wp2_with fail
  refine (HB2.out _).mono ?_
  rintro e w8 ⟨v8, rfl, hown8, hb8⟩
  obtain ⟨A8, c8, rfl, hn8, hm8, hrd8⟩ := own_form hown8
  have h1 := HA7.out.below (hb8.mono (show w1.heap.size ≤ w7.heap.size by omega))
  have HQ8 := Lib.hid (HQ7.out.below (hb8.mono (show w2.heap.size ≤ w7.heap.size by omega)))
  have hz8 := hb8.size
  have hball8 := bthen hball7 hb8
  clear HQ7 HA7 hb8 hball7 hown8
  go_wp2_with fail
  refine (alike_int_true _ _ _ _ _ _ _ B _ (by omega) h1 hrd8).mono ?_
  rintro e w9 ⟨rfl, hb9⟩
  have HQ9 := Lib.hid (HQ8.out.below (hb9.mono (show w2.heap.size ≤ w8.heap.size by omega)))
  have hz9 := hb9.size
  have hball9 := bthen hball8 hb9
  clear HQ8 hb9 hball8 h1 hrd8
  go_wp2_with fail
  refine (HP2.out _).mono ?_
  rintro e w10 ⟨v10, rfl, hown10, hb10⟩
  obtain ⟨A10, c10, rfl, hn10, hm10, hrd10⟩ := own_form hown10
  have h2 := HQ9.out.below (hb10.mono (show w2.heap.size ≤ w9.heap.size by omega))
  have hball10 := bthen hball9 hb10
  clear HQ9 hb10 hball9 hown10
  go_wp2_with fail
  refine (alike_int_true _ _ _ _ _ _ _ P _ (by omega) h2 hrd10).mono ?_
  rintro e w11 ⟨rfl, hb11⟩
  have hball11 := bthen hball10 hb11
  clear hb11 hball10 h2 hrd10
  go_wp2_with fail
  go_ret
  exact ⟨rfl, hball11⟩
end Go.Proofs.Ytolnhplgaolieaa
