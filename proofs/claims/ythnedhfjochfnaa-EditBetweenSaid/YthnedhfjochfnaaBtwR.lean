/- The reference's Between. -/
import Derived.Test.YthnedhfjochfnaaBtw
namespace Go.Proofs.Ythnedhfjochfnaa
open Go.RowKit
theorem drop_len (s : ByteArray) (n : Nat) (h : n ≤ s.size) : (s.extract n s.size).size = s.size - n := by rw [ByteArray.size_extract]; omega
theorem L_drop (s : ByteArray) (n : Nat) : L (s.extract n s.size) = (L s).drop n := by
  rw [L_extract, List.take_of_length_le (by rw [List.length_drop, L_len]; exact Nat.le_refl _)]
theorem rev_getD (a : List UInt8) (k : Nat) (h : k < a.length) : a.reverse.getD k 0 = a.getD (a.length - 1 - k) 0 := by
  have := drop_rev_getD a 0 k (by omega)
  simpa using this
theorem rcs_eq {a b : List UInt8} {k : Nat} (h : k < cpl a.reverse b.reverse) : a.getD (a.length - 1 - k) 0 = b.getD (b.length - 1 - k) 0 := by
  have hl := cpl_le a.reverse b.reverse
  simp only [List.length_reverse] at hl
  rw [← rev_getD a k (by omega), ← rev_getD b k (by omega)]
  exact cpl_eq h
theorem rcs_ne (a b : List UInt8) (h1 : cpl a.reverse b.reverse < a.length) (h2 : cpl a.reverse b.reverse < b.length) : a.getD (a.length - 1 - cpl a.reverse b.reverse) 0 ≠ b.getD (b.length - 1 - cpl a.reverse b.reverse) 0 := by
  rw [← rev_getD a _ h1, ← rev_getD b _ h2]
  exact cpl_ne _ _ (by simpa using h1) (by simpa using h2)
set_option maxRecDepth 100000 in
set_option maxHeartbeats 2000000 in
theorem btwRef_same (s : ByteArray) (w : World) :
    Calls Try.prog 43 #[.string s, .string s] w fun e w' => e = .returned (.slice none 0 0) ∧ Below w.heap.size w w' := by
  have g : (s.toList == s.toList) = true := by simp
  go_enter Try.func43, Try.ntmps43
  go_wp2_with fail
  go_ret
  exact ⟨rfl, (by repeat (first | exact Below.refl _ _ | assumption | refine Below.alloc ?_ (by first | exact Nat.le_refl _ | assumption | omega | (simp <;> omega)) _ | refine Below.setCell ?_ (by first | exact Nat.le_refl _ | assumption | omega | (simp <;> omega)) _ | refine Below.drew ?_ | refine below_drewN ?_ _))⟩
set_option maxRecDepth 100000 in
set_option maxHeartbeats 2000000 in
theorem btwRef_ne (s t : ByteArray) (hs : s.size ≤ 200) (ht : t.size ≤ 200) (hne : s ≠ t) (w : World) :
    Calls Try.prog 43 #[.string s, .string t] w fun e w' => ∃ v, e = .returned v ∧ w'.ownsRow w.heap.size 73 3 v 1 (edCells [btw (L s) (L t)]) ∧ Below w.heap.size w w' := by
  have hcl := cpl_le (L s) (L t)
  rw [L_len, L_len] at hcl
  obtain ⟨hc1, hc2⟩ := hcl
  have g : (s.toList == t.toList) = false := by rw [beqB, decide_eq_false_iff_not]; exact hne
  have HCS : Hid (csl (L s) (L t) = cpl (L (s.extract (cpl (L s) (L t)) s.size)).reverse (L (t.extract (cpl (L s) (L t)) t.size)).reverse) := by
    unfold Hid csl; rw [L_drop, L_drop]
  have HSA := drop_len s _ hc1
  have HSB := drop_len t _ hc2
  have HBT : Hid (btw (L s) (L t) = ⟨(cpl (L s) (L t) : Nat), ((s.extract (cpl (L s) (L t)) s.size).size : Int) - (csl (L s) (L t) : Nat), L ((t.extract (cpl (L s) (L t)) t.size).extract 0 ((t.extract (cpl (L s) (L t)) t.size).size - csl (L s) (L t)))⟩) := by
    have h1 := csl_le (L s) (L t)
    rw [L_len, L_len] at h1
    unfold Hid btw
    rw [L_len, L_len, HSA, HSB, L_extract, L_drop, List.drop_zero]
    congr 1
    omega
  have hzA : (s.extract (cpl (L s) (L t)) s.size).size ≤ 200 := by omega
  have hzB : (t.extract (cpl (L s) (L t)) t.size).size ≤ 200 := by omega
  have hne2 := hne
  clear hne hne2 HSA HSB
  go_enter Try.func43, Try.ntmps43
  go_wp2_with fail
  refine (alikeN_any s t (by omega) (by omega) _).mono ?_
  rintro e w1 ⟨rfl, hb1⟩
  have hcn : cpl (L s) (L t) ≤ 200 := by omega
  generalize csl (L s) (L t) = c0 at *
  generalize cpl (L s) (L t) = n at *
  go_wp2_with fail
  go_quiet (fail)
  have hb2 := below_drewN hb1 nq
  generalize World.drewN w1 nq = w2 at *
  clear hb1
  go_wp2_with fail
  generalize s.extract n s.size = sa at *
  generalize t.extract n t.size = sb at *
  have hcl2 := cpl_le (L sa).reverse (L sb).reverse
  simp only [List.length_reverse, L_len] at hcl2
  rw [← HCS.out] at hcl2
  obtain ⟨hk1, hk2⟩ := hcl2
  have HBe : Hid (∀ k, k < c0 → (L sa).getD (sa.size - 1 - k) 0 = (L sb).getD (sb.size - 1 - k) 0) := fun k hk => by
    have := rcs_eq (a := L sa) (b := L sb) (k := k) (by rw [← HCS.out]; exact hk)
    rw [L_len, L_len] at this; exact this
  have HBn : Hid (c0 < sa.size → c0 < sb.size → ∀ (q1 : sa.size - 1 - c0 < sa.size) (q2 : sb.size - 1 - c0 < sb.size), ((sa[sa.size - 1 - c0].toNat : Int) == (sb[sb.size - 1 - c0].toNat : Int)) = false) := by
    intro h1 h2 q1 q2
    rw [beq_eq_false_iff_ne]
    intro h
    have := rcs_ne (L sa) (L sb) (by rw [← HCS.out, L_len]; exact h1) (by rw [← HCS.out, L_len]; exact h2)
    rw [← HCS.out, L_len, L_len, ← getB sa _ q1, ← getB sb _ q2] at this
    exact this (UInt8.toNat_inj.1 (by omega))
  clear HCS
  rcases Nat.lt_or_ge sb.size sa.size with hmn | hmn
  all_goals
    go_loopw [8] (fun i wr => ∃ k : Nat, k ≤ c0 ∧ i = .int .i64 k ∧ Below w.heap.size w wr) (fun i _ => sa.size - (intOf i).toNat)
    case atStart => exact ⟨0, Nat.zero_le _, rfl, hb2⟩
    case round =>
      obtain ⟨k, hk, rfl, hb⟩ := hrel
      by_cases hgo : k < c0
      · have q1 : sa.size - 1 - k < sa.size := by omega
        have q2 : sb.size - 1 - k < sb.size := by omega
        have g7 : decide ((k : Int) < (sb.size : Int)) = true := decide_eq_true (by omega)
        have g8 : decide ((k : Int) < (sa.size : Int)) = true := decide_eq_true (by omega)
        have ixs := fun W => idx_back (P := Try.prog) Try.underlying9 sa k q1 W (by omega)
        have ixt := fun W => idx_back (P := Try.prog) Try.underlying9 sb k q2 W (by omega)
        have g9 : decide (k < sb.size) = true := decide_eq_true (by omega)
        have g10 : decide (k < sa.size) = true := decide_eq_true (by omega)
        have he : Hid (sa[sa.size - 1 - k] = sb[sb.size - 1 - k]) := by unfold Hid; rw [getB, getB]; exact HBe.out k hgo
        have g5 : ((sa[sa.size - 1 - k].toNat : Int) == (sb[sb.size - 1 - k].toNat : Int)) = true := by rw [he.out]; simp
        go_wp2
        go_quiet (fail)
        go_wp2
        go_roundw
        case rel => exact ⟨k + 1, hgo, by go_num, (by repeat (first | exact Below.refl _ _ | assumption | refine Below.alloc ?_ (by first | exact Nat.le_refl _ | assumption | omega | (simp <;> omega)) _ | refine Below.setCell ?_ (by first | exact Nat.le_refl _ | assumption | omega | (simp <;> omega)) _ | refine Below.drew ?_ | refine below_drewN ?_ _))⟩
        case measure => simp [intOf]; omega
      · obtain rfl : k = c0 := by omega
        by_cases hin2 : k < sa.size ∧ k < sb.size
        · have q1 : sa.size - 1 - k < sa.size := by omega
          have q2 : sb.size - 1 - k < sb.size := by omega
          have g7 : decide ((k : Int) < (sb.size : Int)) = true := decide_eq_true (by omega)
          have g8 : decide ((k : Int) < (sa.size : Int)) = true := decide_eq_true (by omega)
          have ixs := fun W => idx_back (P := Try.prog) Try.underlying9 sa k q1 W (by omega)
          have ixt := fun W => idx_back (P := Try.prog) Try.underlying9 sb k q2 W (by omega)
          have g5 := HBn.out hin2.1 hin2.2 q1 q2
          go_wp2
          go_quiet (fail)
          have hb9 := below_drewN hb nq
          generalize World.drewN wr nq = w9 at *
          have hs9 := hb9.size
          clear hb
          go_wp2_with fail
          go_ret
          exact ⟨_, rfl, by rw [HBT.out]; exact World.ownsRow_lit w9 #[_, _, _] 1 hs9 (by unfold maxLen; omega) rfl, (by repeat (first | exact Below.refl _ _ | assumption | refine Below.alloc ?_ (by first | exact Nat.le_refl _ | assumption | omega | (simp <;> omega)) _ | refine Below.setCell ?_ (by first | exact Nat.le_refl _ | assumption | omega | (simp <;> omega)) _ | refine Below.drew ?_ | refine below_drewN ?_ _))⟩
        · first | (have g6 : decide ((k : Int) < (sb.size : Int)) = false := decide_eq_false (by omega); have g7 : decide (k < sb.size) = false := decide_eq_false (by omega)) | (have g6 : decide ((k : Int) < (sa.size : Int)) = false := decide_eq_false (by omega); have g7 : decide (k < sa.size) = false := decide_eq_false (by omega))
          go_wp2
          go_quiet (fail)
          have hb9 := below_drewN hb nq
          generalize World.drewN wr nq = w9 at *
          have hs9 := hb9.size
          clear hb
          go_wp2_with fail
          go_ret
          exact ⟨_, rfl, by rw [HBT.out]; exact World.ownsRow_lit w9 #[_, _, _] 1 hs9 (by unfold maxLen; omega) rfl, (by repeat (first | exact Below.refl _ _ | assumption | refine Below.alloc ?_ (by first | exact Nat.le_refl _ | assumption | omega | (simp <;> omega)) _ | refine Below.setCell ?_ (by first | exact Nat.le_refl _ | assumption | omega | (simp <;> omega)) _ | refine Below.drew ?_ | refine below_drewN ?_ _))⟩
end Go.Proofs.Ythnedhfjochfnaa
