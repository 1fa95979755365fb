/- strings.HasPrefix. -/
import Derived.Test.YtmmamdjbbpeifaaBase
namespace Go.Proofs.Ytmmamdjbbpeifaa
open Go.RowKit
theorem pre_iffB (s p : List UInt8) : p.isPrefixOf s = decide (p.length ≤ s.length ∧ s.take p.length = p) := by
  rw [Bool.eq_iff_iff, List.isPrefixOf_iff_prefix, decide_eq_true_iff]
  constructor
  · rintro ⟨z, rfl⟩; simp
  · rintro ⟨_, h⟩; rw [← h]; exact List.take_prefix _ _
set_option maxRecDepth 100000 in
theorem hasPreI_any (s p : ByteArray) (w : World) :
    Calls Try.prog 55 #[.string s, .string p] w fun e w' => e = .returned (.bool ((L p).isPrefixOf (L s))) ∧ Below w.heap.size w w' := by
  have HP := Lib.hid (pre_iffB (L s) (L p))
  rw [Hid, L_len, L_len] at HP
  by_cases h : p.size ≤ s.size
  · have HE : Hid (s.extract 0 p.size = S ((L s).take p.size)) := by unfold Hid; rw [extract_S, List.drop_zero, Nat.sub_zero]
    by_cases h2 : (L s).take p.size = L p
    · have g : ((s.extract 0 p.size).toList == p.toList) = true := by rw [beqB, decide_eq_true_iff, HE, h2]; rfl
      have HR : Hid ((L p).isPrefixOf (L s) = true) := by unfold Hid; rw [HP]; simp [h, h2]
      clear h2 HP
      go_enter Try.func55, Try.ntmps55
      go_wp2_with fail
      go_ret
      exact ⟨ret_bool HR.out.symm, (by repeat (first | exact Below.refl _ _ | assumption | refine Below.alloc ?_ (by first | exact Nat.le_refl _ | assumption | omega | (simp <;> omega)) _ | refine Below.setCell ?_ (by first | exact Nat.le_refl _ | assumption | omega | (simp <;> omega)) _ | refine Below.drew ?_ | refine below_drewN ?_ _))⟩
    · have g : ((s.extract 0 p.size).toList == p.toList) = false := by
        rw [beqB, decide_eq_false_iff_not, HE]; intro e; exact h2 (by rw [← L_S ((L s).take p.size), e])
      have HR : Hid ((L p).isPrefixOf (L s) = false) := by unfold Hid; rw [HP]; simp [h2]
      clear h2 HP
      go_enter Try.func55, Try.ntmps55
      go_wp2_with fail
      go_ret
      exact ⟨ret_bool HR.out.symm, (by repeat (first | exact Below.refl _ _ | assumption | refine Below.alloc ?_ (by first | exact Nat.le_refl _ | assumption | omega | (simp <;> omega)) _ | refine Below.setCell ?_ (by first | exact Nat.le_refl _ | assumption | omega | (simp <;> omega)) _ | refine Below.drew ?_ | refine below_drewN ?_ _))⟩
  · have HR : Hid ((L p).isPrefixOf (L s) = false) := by unfold Hid; rw [HP]; simp [h]
    clear HP
    go_enter Try.func55, Try.ntmps55
    go_wp2_with fail
    go_ret
    exact ⟨ret_bool HR.out.symm, (by repeat (first | exact Below.refl _ _ | assumption | refine Below.alloc ?_ (by first | exact Nat.le_refl _ | assumption | omega | (simp <;> omega)) _ | refine Below.setCell ?_ (by first | exact Nat.le_refl _ | assumption | omega | (simp <;> omega)) _ | refine Below.drew ?_ | refine below_drewN ?_ _))⟩
theorem hasPre_any (s p : ByteArray) (w : World) :
    Calls Try.prog 26 #[.string s, .string p] w fun e w' => e = .returned (.bool ((L p).isPrefixOf (L s))) ∧ Below w.heap.size w w' := by
  go_enter Try.func26, Try.ntmps26
  go_wp2_with fail
  refine (hasPreI_any s p _).mono ?_
  rintro e w1 ⟨rfl, hb1⟩
  go_wp2_with fail
  go_ret
  exact ⟨rfl, hb1⟩
end Go.Proofs.Ytmmamdjbbpeifaa
