/- The law LyndonSays, walked. -/
import Derived.Test.YtolnhplgaolieaaLynU
import Derived.Test.YtolnhplgaolieaaJoinS
namespace Go.Proofs.Ytolnhplgaolieaa
open Go.RowKit
set_option maxRecDepth 100000 in
set_option maxHeartbeats 4000000 in
theorem lyndonSays_any (s : ByteArray) (w : World) (hz : s.size ≤ 140737488351232) :
    Calls Try.prog 5 #[.string s] w fun e w' => e = .returned (.bool true) ∧ Below w.heap.size w w' := by
  have HL : Hid (longAll [s] = longErr s.size) := longAll_one s
  by_cases hs : 200 < s.size
  · have HE : Hid (longErr s.size = 2) := by unfold Hid longErr; rw [if_pos hs]
    go_enter Try.func5, Try.ntmps5
    go_wp2_with fail
    refine (lynSplit_large s hs _).mono ?_
    rintro e w1 ⟨rfl, hb1⟩
    go_wp2_with fail
    refine (lynIs_large s hs _).mono ?_
    rintro e w2 ⟨rfl, hb2⟩
    go_wp2_with fail
    refine (lynLeast_large s hs _).mono ?_
    rintro e w3 ⟨rfl, hb3⟩
    go_wp2_with fail
    refine (long_any [s] _ 1 _ (w3.heap.size + 1) _ (Rd.new_ (size := 1) (n := 1) w3 _ _ (Nat.lt_succ_self _) rfl) (by omega)).mono ?_
    rintro e w4 ⟨rfl, hb4⟩
    rw [HL.out, HE.out]
    have hb5 : Below w3.heap.size w3 w4 := ((Below.refl _ _).alloc (Nat.le_refl _) _).trans (hb4.mono (by simp))
    clear hb4
    go_wp2_with fail
    go_ret
    exact ⟨rfl, bthen hb1 (bthen hb2 (bthen hb3 hb5))⟩
  have hs : s.size ≤ 200 := by omega
  have HE : Hid (longErr s.size = 0) := by unfold Hid longErr; rw [if_neg (by omega)]
  have HIS := Lib.hid (lynIs_any s hs)
  have HLE := Lib.hid (lynLeast_any s hs)
  have HLT := Lib.hid (leastTurn_any s hs)
  have HRL := Lib.hid (refLyndon_any s hs)
  generalize lynB (L s) = isB at *
  generalize turn (L s) (lst (L s) s.size) = T at *
  generalize lst (L s) s.size = D at *
  generalize S T = TT at *
  go_enter Try.func5, Try.ntmps5
  go_wp2_with fail
  refine (lynSplit_any s hs _).mono ?_
  rintro e w1 ⟨v1, out, rfl, hsp, hol, hown1, hb1⟩
  obtain ⟨A1, c1, rfl, hn1, hm1, hrd1⟩ := own_form hown1
  have HR1 := Lib.hid hrd1
  have HFL : Hid (out.flatten = L s) := by
    unfold Hid; rw [hsp.fl, List.take_of_length_le (by rw [L_len]; exact Nat.le_refl _)]
  have HLY : Hid (∀ i (h : i < out.length), lynB out[i] = true) := fun i h => lynB_of (hsp.ly _ (List.getElem_mem h))
  have HNI : Hid (∀ i (h : i + 1 < out.length), ¬ out[i]'(by omega) < out[i + 1]) := hsp.ni
  have HWL : Hid (∀ i (h : i < out.length), out[i].length ≤ 200) := fun i h => by
    have h1 : out[i].length ≤ out.flatten.length := by
      have := List.Sublist.length_le (List.sublist_flatten_of_mem (List.getElem_mem h))
      exact this
    have := HFL.out
    rw [this, L_len] at h1; omega
  clear hrd1 hown1 hsp
  go_wp2_with fail
  refine (HIS.out _).mono ?_
  rintro e w2 ⟨rfl, hb2⟩
  have HR2 := Lib.hid (HR1.out.below hb2)
  have hz2 := hb2.size
  go_wp2_with fail
  refine (HLE.out _).mono ?_
  rintro e w3 ⟨rfl, hb3⟩
  have HR3 := Lib.hid (HR2.out.below (hb3.mono hz2))
  have hz3 := hb3.size
  clear HR1 HR2
  go_wp2_with fail
  refine (long_any [s] _ 1 _ (w3.heap.size + 1) _ (Rd.new_ (size := 1) (n := 1) w3 _ _ (Nat.lt_succ_self _) rfl) (by omega)).mono ?_
  rintro e w4 ⟨rfl, hb4⟩
  rw [HL.out, HE.out]
  have hb5 : Below w3.heap.size w3 w4 := ((Below.refl _ _).alloc (Nat.le_refl _) _).trans (hb4.mono (by simp))
  clear hb4
  have HR4 := Lib.hid (HR3.out.below (hb5.mono (Nat.le_trans hz2 hz3)))
  have hz4 := hb5.size
  have hball := bthen hb1 (bthen hb2 (bthen hb3 hb5))
  have hz14 : w1.heap.size ≤ w4.heap.size := by omega
  clear HR3 hb1 hb2 hb3 hb5
  go_wp2_with fail
  go_loopw [68] (fun i wr => ∃ k : Nat, k ≤ out.length ∧ i = .int .i64 (k : Int) ∧ Below w4.heap.size w4 wr) (fun i _ => out.length - (intOf i).toNat)
  case atStart => exact ⟨0, Nat.zero_le _, rfl, Below.refl _ _⟩
  case round =>
    obtain ⟨k, hk, rfl, hb⟩ := hrel
    have HR := Lib.hid (HR4.out.below (hb.mono hz14))
    have hballk := bthen hball hb
    have hzk := hb.size
    by_cases hlt : k < out.length
    · have g1 : decide ((k : Int) < (out.length : Int)) = true := decide_eq_true (by omega)
      obtain ⟨ad, hA, hab, hc⟩ := str_cell HR.out hlt
      subst hA
      have hgk : out.getD k [] = out[k] := by rw [List.getD_eq_getElem?_getD, List.getElem?_eq_getElem hlt]; rfl
      rw [hgk] at hc
      have HY : Hid (lynB out[k] = true) := HLY.out k hlt
      have hwl : (S out[k]).size ≤ 200 := by rw [S_size]; exact HWL.out k hlt
      have HRY := Lib.hid (refLyndon_any (S out[k]) hwl)
      rw [L_S, HY.out] at HRY
      by_cases hk0 : 0 < k
      · have g2 : decide ((0 : Int) < (k : Int)) = true := decide_eq_true (by omega)
        obtain ⟨ad', hA', _, hc'⟩ := str_cell (k := k - 1) HR.out (by omega)
        cases hA'
        have hgk' : out.getD (k - 1) [] = out[k - 1] := by rw [List.getD_eq_getElem?_getD, List.getElem?_eq_getElem (by omega)]; rfl
        rw [hgk'] at hc'
        have g3 : Op.bytesLess (S out[k - 1]).toList (S out[k]).toList = false := by
          rw [less_S, decide_eq_false_iff_not]
          have := HNI.out (k - 1) (by omega)
          simp only [show k - 1 + 1 = k by omega] at this
          exact this
        have HC' : Hid (∀ w' : World, Below wr.heap.size wr w' → w'.cell? (ad.add (k - 1)) = some (.string (S out[k - 1]))) := fun w' hb' =>
          (hb'.cell (p := ad.add (k - 1)) (by rw [blk_add]; omega)).trans hc'
        clear hc' hgk hgk'
        generalize S out[k] = X at *
        generalize S out[k - 1] = Y at *
        go_wp2_with fail
        refine (HRY.out _).mono ?_
        rintro e w5 ⟨rfl, hb5⟩
        have c5 := HC'.out w5 hb5
        go_wp2_with fail
        go_roundw
        case rel => exact ⟨k + 1, by omega, by go_num, bthen hb hb5⟩
        case measure => simp [intOf]; omega
      · obtain rfl : k = 0 := by omega
        have g2 : decide ((0 : Int) < ((0 : Nat) : Int)) = false := by decide
        clear hgk
        have e0 : ad.add 0 = ad := by unfold Addr.add; rfl
        rw [e0] at hc
        clear e0
        generalize S out[0] = X at *
        go_wp2_with fail
        refine (HRY.out _).mono ?_
        rintro e w5 ⟨rfl, hb5⟩
        go_wp2_with fail
        go_roundw
        case rel => exact ⟨0 + 1, by omega, by go_num, bthen hb hb5⟩
        case measure => simp [intOf]; omega
    · obtain rfl : k = out.length := by omega
      have g1 : decide ((out.length : Int) < (out.length : Int)) = false := by simp
      have HJ : Hid (∀ w' : World, Below wr.heap.size wr w' → Calls Try.prog 34 #[.slice A1 out.length c1, .string ⟨#[]⟩] w' fun e w'' => e = .returned (.string s) ∧ Below w'.heap.size w' w'') := fun w' hb' => by
        have := joinS out A1 out.length c1 w1.heap.size w' (HR.out.below (hb'.mono (by omega))) (by have := hb'.size; omega) hn1 (by omega) (by rw [HFL.out, L_len]; omega)
        rw [HFL.out] at this
        exact this
      go_wp2_with fail
      refine (HLT.out _).mono ?_
      rintro e w5 ⟨rfl, hb5⟩
      go_wp2_with fail
      refine (HJ.out _ hb5).mono ?_
      rintro e w6 ⟨rfl, hb6⟩
      go_wp2_with fail
      refine (HRL.out _).mono ?_
      rintro e w7 ⟨rfl, hb7⟩
      go_wp2_with fail
      go_ret
      exact ⟨rfl, bthen hballk (bthen hb5 (bthen hb6 hb7))⟩
end Go.Proofs.Ytolnhplgaolieaa
