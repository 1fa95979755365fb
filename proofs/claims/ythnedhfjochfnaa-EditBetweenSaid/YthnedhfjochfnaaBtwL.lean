/- The law EditBetween, walked. -/
import Derived.Test.YthnedhfjochfnaaBtwR
import Derived.Test.YthnedhfjochfnaaEditR
import Derived.Test.YthnedhfjochfnaaWordC
namespace Go.Proofs.Ythnedhfjochfnaa
open Go.RowKit
theorem btwRef_any (s t : ByteArray) (hs : s.size ≤ 200) (ht : t.size ≤ 200) (w : World) :
    Calls Try.prog 43 #[.string s, .string t] w fun e w' => ∃ v, e = .returned v ∧ w'.ownsRow w.heap.size 73 3 v (between (L s) (L t)).length (edCells (between (L s) (L t))) ∧ Below w.heap.size w w' := by
  by_cases h : s = t
  · subst h
    refine (btwRef_same s w).mono fun e w' ⟨he, hb⟩ => ⟨_, he, ?_, hb⟩
    unfold between; rw [if_pos rfl]; exact World.ownsRow_nil _ _ _ _
  · have h2 : ¬ L s = L t := fun e => h (L_inj e)
    unfold between; rw [if_neg h2]
    exact btwRef_ne s t hs ht h w
theorem edGetE {l : List Ed} {k : Nat} (hl : k < l.length) : l[k]? = some l[k] := List.getElem?_eq_getElem hl
set_option maxHeartbeats 400000 in
theorem equal_ed_true (A B : Option Addr) (n c d BA BB : Nat) (l : List Ed) (w : World) (hn : n ≤ 9223372036854775807)
    (ha : Rd w BA 3 A n (edCells l)) (hb : Rd w BB 3 B n (edCells l)) :
    Calls Try.prog 86 #[.slice A n c, .slice B n d] w fun e w' => e = .returned (.bool true) ∧ Below w.heap.size w w' := by
  have Ha := Lib.hid ha; clear ha
  have Hb := Lib.hid hb; clear hb
  go_enter Try.func86, Try.ntmps86
  go_wp2
  go_loopw [13] (fun i wr => ∃ k m : Nat, k ≤ n ∧ i = .int .i64 k ∧ wr = w.drewN m) (fun i _ => n - (intOf i).toNat)
  case atStart => exact ⟨0, 0, Nat.zero_le _, rfl, rfl⟩
  case round =>
    obtain ⟨k, m, hk, rfl, rfl⟩ := hrel
    by_cases hlt : k < n
    · obtain ⟨ad, hl, rfl, _, c0, c1, c2⟩ := Ha.out.at_ed hlt
      obtain ⟨bd, hl', rfl, _, d0, d1, d2⟩ := Hb.out.at_ed hlt
      generalize l[k] = x at *
      obtain ⟨xa, xd, xi⟩ := x
      simp only at c0 c1 c2 d0 d1 d2
      generalize S xi = si at *
      go_wp2
      go_quiet (fail)
      go_wp2
      go_roundw
      case rel => exact ⟨k + 1, _, by omega, by go_num, rfl⟩
      case measure => simp [intOf]; omega
    · go_wp2
      go_ret
      exact ⟨rfl, below_drewN (Below.refl _ _) _⟩
theorem alike_ed_true (A B : Option Addr) (n c d BA BB : Nat) (l : List Ed) (w : World) (hn : n ≤ 9223372036854775807)
    (ha : Rd w BA 3 A n (edCells l)) (hb : Rd w BB 3 B n (edCells l)) :
    Calls Try.prog 44 #[.slice A n c, .slice B n d] w fun e w' => e = .returned (.bool true) ∧ Below w.heap.size w w' := by
  have Ha := Lib.hid ha; clear ha
  have Hb := Lib.hid hb; clear hb
  go_enter Try.func44, Try.ntmps44
  go_wp2_with fail
  refine (equal_ed_true A B n c d BA BB l w hn Ha.out Hb.out).mono ?_
  rintro e w1 ⟨rfl, hb1⟩
  go_wp2_with fail
  go_ret
  exact ⟨rfl, hb1⟩
theorem longTwo (s t : ByteArray) : longAll [s, t] = if 200 < s.size ∨ 200 < t.size then 2 else 0 := by simp [longAll]
set_option maxRecDepth 100000 in
set_option maxHeartbeats 1000000 in
theorem editBetween_any (s t : ByteArray) (w : World) :
    Calls Try.prog 9 #[.string s, .string t] w fun e w' => e = .returned (.bool true) ∧ Below w.heap.size w w' := by
  by_cases hl : 200 < s.size ∨ 200 < t.size
  · have HV : Hid (longAll [s, t] = 2) := by unfold Hid; rw [longTwo, if_pos hl]
    have g1 : (longAll [s, t] == 0) = false := by rw [HV.out]; rfl
    have g2 : (longAll [s, t] != 0) = true := by rw [HV.out]; rfl
    have g3 : ((2 : Int) == longAll [s, t]) = true := by rw [HV.out]; rfl
    go_enter Try.func9, Try.ntmps9
    go_wp2_with fail
    refine (editOf_long s t hl _).mono ?_
    rintro e w1 ⟨rfl, hb1⟩
    go_wp2_with fail
    refine (long_any [s, t] _ 2 _ (w1.heap.size + 1) _ (Rd.new_ (size := 1) (n := 2) w1 _ _ (Nat.lt_succ_self _) rfl) (by omega)).mono ?_
    rintro e w2 ⟨rfl, hb2⟩
    go_wp2_with fail
    go_ret
    exact ⟨ret_bool (by simp), bthen hb1 (((Below.refl _ _).alloc (Nat.le_refl _) _).trans (hb2.mono (by simp)))⟩
  · have hs : s.size ≤ 200 := by omega
    have ht : t.size ≤ 200 := by omega
    have HV : Hid (longAll [s, t] = 0) := by unfold Hid; rw [longTwo, if_neg hl]
    have g1 : (longAll [s, t] == 0) = true := by rw [HV.out]; rfl
    clear hl
    go_enter Try.func9, Try.ntmps9
    go_wp2_with fail
    refine (editOf_any s t hs ht _).mono ?_
    rintro e w1 ⟨v1, rfl, hv0, hv1, hb1⟩
    have HV0 := Lib.hid hv0; have HV1 := Lib.hid hv1
    clear hv0 hv1
    go_wp2_with fail
    refine (long_any [s, t] _ 2 _ (w1.heap.size + 1) _ (Rd.new_ (size := 1) (n := 2) w1 _ _ (Nat.lt_succ_self _) rfl) (by omega)).mono ?_
    rintro e w2 ⟨rfl, hb2⟩
    have hb2' : Below w1.heap.size w1 w2 := ((Below.refl _ _).alloc (Nat.le_refl _) _).trans (hb2.mono (by simp))
    go_wp2_with fail
    refine (btwRef_any s t hs ht _).mono ?_
    rintro e w3 ⟨v3, rfl, hown3, hb3⟩
    obtain ⟨A3, c3, rfl, hn3, hm3, hrd3⟩ := own_form hown3
    clear hown3
    go_wp2_with fail
    refine (editsErr_any s.size (between (L s) (L t)) A3 _ c3 _ _ hrd3 (Nat.le_refl _) (by unfold maxLen at hm3; omega)).mono ?_
    rintro e w4 ⟨rfl, hb4⟩
    have hb14 := bthen hb2' (bthen hb3 hb4)
    have hB4 := bthen hb1 hb14
    clear hrd3 hb2 hb2' hb3 hb4
    by_cases hE : edErr s.size (between (L s) (L t)) = 0
    · have hown1 := HV1.out hE
      obtain ⟨A1, c1, rfl, hn1, hm1, hrd1⟩ := own_form hown1
      have g2 : (edErr s.size (between (L s) (L t)) != 0) = false := by rw [hE]; rfl
      have g3 : (edErr s.size (between (L s) (L t)) == 0) = true := by rw [hE]; rfl
      have HRD1 := Lib.hid (hrd1.below hb14)
      clear hE hown1 hrd1
      go_wp2_with fail
      refine (btwRef_any s t hs ht _).mono ?_
      rintro e w5 ⟨v5, rfl, hown5, hb5⟩
      obtain ⟨A5, c5, rfl, hn5, hm5, hrd5⟩ := own_form hown5
      have h1 := HRD1.out.below (hb5.mono hb14.size)
      clear hown5
      go_wp2_with fail
      refine (alike_ed_true _ _ _ _ _ _ _ _ _ (by unfold maxLen at hm5; omega) h1 hrd5).mono ?_
      rintro e w6 ⟨rfl, hb6⟩
      go_wp2_with fail
      go_ret
      exact ⟨rfl, bthen (bthen hB4 hb5) hb6⟩
    · have hv := HV0.out hE
      subst hv
      have g2 : (edErr s.size (between (L s) (L t)) != 0) = true := by simpa using hE
      clear hE
      go_wp2_with fail
      go_ret
      exact ⟨ret_bool (by simp), hB4⟩
end Go.Proofs.Ythnedhfjochfnaa
