/- The law MirrorSays, walked. -/
import Derived.Test.YtmmamdjbbpeifaaMirrC
import Derived.Test.YtmmamdjbbpeifaaMirrD
import Derived.Test.YtmmamdjbbpeifaaMirrE
namespace Go.Proofs.Ytmmamdjbbpeifaa
open Go.RowKit
theorem ArrI.rd {w : World} {base g n : Nat} {l : List Int} (h : ArrI w base g n l) : Rd w w.heap.size 1 (some ⟨g, 0, none⟩) n (ints l) := Rd.of_own h
set_option maxRecDepth 100000 in
set_option maxHeartbeats 4000000 in
theorem mirrorSays_any (s : ByteArray) (w : World) (hz : s.size ≤ 140737488351232) (m0 : Int) (hm0 : w.cell? ⟨0, 0, none⟩ = some (.int .i64 m0)) :
    Calls Try.prog 3 #[.string s] w fun e w' => e = .returned (.bool true) ∧ Below w.heap.size w w' := by
  have HL : Hid (longAll [s] = longErr s.size) := longAll_one s
  by_cases hs : 200 < s.size
  · have HE : Hid (longErr s.size = 2) := by unfold Hid longErr; rw [if_pos hs]
    clear hm0
    go_enter Try.func3, Try.ntmps3
    go_wp2_with fail
    refine (mirrArms_large s hs _).mono ?_
    rintro e w1 ⟨rfl, hb1⟩
    go_wp2_with fail
    refine (mirrLong_large s hs _).mono ?_
    rintro e w2 ⟨rfl, hb2⟩
    go_wp2_with fail
    refine (mirrUnlike_large s hs _).mono ?_
    rintro e w3 ⟨rfl, hb3⟩
    go_wp2_with fail
    refine (long_any [s] _ 1 _ (w3.heap.size + 1) _ (Rd.new_ (size := 1) (n := 1) w3 _ _ (Nat.lt_succ_self _) rfl) (by omega)).mono ?_
    rintro e w4 ⟨rfl, hb4⟩
    rw [HL.out, HE.out]
    have hb5 : Below w3.heap.size w3 w4 := ((Below.refl _ _).alloc (Nat.le_refl _) _).trans (hb4.mono (by simp))
    clear hb4
    go_wp2_with fail
    go_ret
    exact ⟨rfl, bthen hb1 (bthen hb2 (bthen hb3 hb5))⟩
  have hs : s.size ≤ 200 := by omega
  have HE : Hid (longErr s.size = 0) := by unfold Hid longErr; rw [if_neg (by omega)]
  have HZ : Hid ((L s).length = s.size) := L_len s
  have h0 : (0 : Nat) < w.heap.size := by
    rcases Nat.eq_zero_or_pos w.heap.size with h | h
    · exfalso
      have : w.heap[0]? = none := Array.getElem?_eq_none (by omega)
      simp [World.cell?, this] at hm0
    · exact h
  have HM0 := Lib.hid hm0
  clear hm0
  have HA1 := Lib.hid (mirrArms_any s hs)
  have HL1 := Lib.hid (mirrLong_any s hs)
  have HU1 := Lib.hid (mirrUnlike_any s hs)
  have HA2 := Lib.hid (armsOf_any s hs)
  have HM2 := Lib.hid (mirrorsOf_any s hs)
  have HCI : Hid ((Lib.compact (sortB (allP (L s) (2 * s.size + 1)))).length = cntOf (L s) (fact (L s)).length) := by
    have := count_is (L s)
    rw [HZ.out] at this
    exact this
  have HBI : Hid (∀ a n, BestAt (L s) (2 * s.size + 1) a n → part (L s) a (a + n) = bestOf (L s) (fact (L s)).length) := by
    intro a n h
    refine best_is ?_
    rw [HZ.out]; exact h
  rw [HCI.out] at HU1
  clear HCI
  generalize cntOf (L s) (fact (L s)).length = N at *
  generalize bestOf (L s) (fact (L s)).length = B at *
  generalize armI (L s) = R at *
  go_enter Try.func3, Try.ntmps3
  go_wp2_with fail
  refine (HA1.out _).mono ?_
  rintro e w1 ⟨g, rfl, hA, hb1⟩
  have HA := Lib.hid hA.rd
  clear hA
  go_wp2_with fail
  refine (HL1.out _).mono ?_
  rintro e w2 ⟨a, n, hbest, rfl, hb2⟩
  rw [HBI.out a n hbest]
  have HA := Lib.hid (HA.out.below hb2)
  have hz2 := hb2.size
  clear hbest
  go_wp2_with fail
  refine (HU1.out _).mono ?_
  rintro e w3 ⟨rfl, hb3⟩
  have HA3 := Lib.hid (HA.out.below (hb3.mono hz2))
  have hz3 := hb3.size
  clear HA
  go_wp2_with fail
  refine (long_any [s] _ 1 _ (w3.heap.size + 1) _ (Rd.new_ (size := 1) (n := 1) w3 _ _ (Nat.lt_succ_self _) rfl) (by omega)).mono ?_
  rintro e w4 ⟨rfl, hb4⟩
  rw [HL.out, HE.out]
  have hb5 : Below w3.heap.size w3 w4 := ((Below.refl _ _).alloc (Nat.le_refl _) _).trans (hb4.mono (by simp))
  clear hb4
  have HA4 := Lib.hid (HA3.out.below (hb5.mono (Nat.le_trans hz2 hz3)))
  have hz4 := hb5.size
  have hball := bthen hb1 (bthen hb2 (bthen hb3 hb5))
  clear HA3 hb1 hb2 hb3 hb5
  go_wp2_with fail
  refine (HM2.out _ m0 ((hball.cell (p := ⟨0, 0, none⟩) h0).trans HM0.out)).mono ?_
  rintro e w6 ⟨rfl, hb6⟩
  have HA6 := Lib.hid (HA4.out.below (hb6.mono (show w1.heap.size ≤ w4.heap.size by omega)))
  have hz6 := hb6.size
  have hball6 := bthen hball hb6
  clear HA4 hb6 hball
  go_wp2_with fail
  refine (HA2.out _).mono ?_
  rintro e w7 ⟨g7, rfl, hA7, hb7⟩
  have h1 := HA6.out.below (hb7.mono (show w1.heap.size ≤ w6.heap.size by omega))
  have h2 := hA7.rd
  have hball7 := bthen hball6 hb7
  clear HA6 hA7 hb7 hball6
  go_wp2_with fail
  refine (alike_int_true _ _ _ _ _ _ _ R _ (by omega) h1 h2).mono ?_
  rintro e w9 ⟨rfl, hb9⟩
  have hball9 := bthen hball7 hb9
  clear hb9 hball7 h1 h2
  go_wp2_with fail
  go_ret
  exact ⟨rfl, hball9⟩
end Go.Proofs.Ytmmamdjbbpeifaa
