/- The walks of package shift's Check, Do and Past, and of the reference's. -/
import Derived.Test.YtllcmmpepchieaaShift0
namespace Go.Proofs.Ytllcmmpepchieaa
open Go.RowKit
set_option maxRecDepth 100000 in
set_option maxHeartbeats 1000000 in
theorem shCheck_any (n : Int) (x : Op) (w : World) :
    Calls Try.prog 40 #[.int .i64 n, x.val] w fun e w' => e = .returned (.int .i64 (opErr n x)) ∧ ∃ o, w' = w.alloc o := by
  obtain ⟨k, p, b⟩ := x
  unfold Op.val
  have HE : Hid (∀ c, c = opErr n ⟨k, p, b⟩ → Ending.returned (.int .i64 c) = .returned (.int .i64 (opErr n ⟨k, p, b⟩))) := fun c h => by rw [h]
  go_enter Try.func40, Try.ntmps40
  go_wp2
  all_goals go_ret
  all_goals refine ⟨?_, _, rfl⟩
  all_goals (refine HE.out _ ?_; clear HE)
  all_goals (unfold opErr; simp only [])
  all_goals grind
theorem op_out {a p b e : Int} {z : Op} {c : Int} (h : (⟨a, p, b⟩ : Op) = z) (he : e = c) :
    Ending.returned (.tuple #[.agg #[.int .i64 a, .int .i64 p, .int .u8 b], .int .i64 e]) = .returned (.tuple #[z.val, .int .i64 c]) := by subst h; subst he; rfl
theorem op_out1 {a p b : Int} {z : Op} (h : (⟨a, p, b⟩ : Op) = z) : Ending.returned (.agg #[.int .i64 a, .int .i64 p, .int .u8 b]) = .returned z.val := by subst h; rfl
theorem opErr_bound {n : Int} {x : Op} (h : opErr n x = 0) : 0 ≤ n ∧ n ≤ 200 ∧ 0 ≤ x.pos ∧ x.pos ≤ n := by
  unfold opErr at h; grind
set_option maxRecDepth 100000 in
set_option maxHeartbeats 2000000 in
theorem shPast_any (n : Int) (x y : Op) (first : Bool) (w : World) :
    Calls Try.prog 42 #[.int .i64 n, x.val, y.val, .bool first] w fun e w' => e = .returned (.tuple #[(pastAns n x y first).val, .int .i64 (pastErr n x y)]) ∧ Below w.heap.size w w' := by
  by_cases hx : opErr n x = 0
  · by_cases hy : opErr n y = 0
    · have hy' : (opErr n y != 0) = false := by simpa using hy
      have hx' : (opErr n x != 0) = false := by simpa using hx
      have HA : Hid (pastAns n x y first = past x y first ∧ pastErr n x y = 0) := ⟨by simp [pastAns, hx, hy], by simp [pastErr, hx, hy]⟩
      obtain ⟨_, _, px0, px1⟩ := opErr_bound hx
      obtain ⟨_, _, py0, py1⟩ := opErr_bound hy
      clear hx hy
      go_enter Try.func42, Try.ntmps42
      unfold Op.val
      go_wp2_with fail
      refine (shCheck_any n x _).mono ?_
      rintro e w1 ⟨rfl, o1, rfl⟩
      go_wp2_with fail
      refine (shCheck_any n y _).mono ?_
      rintro e w2 ⟨rfl, o2, rfl⟩
      have hx2 := hx'; have hy2 := hy'
      go_wp2
      all_goals (apply bodyPost_ret; (simp [results, Try.results42, go_sem]; rfl); rfl)
      all_goals refine ⟨op_out (Eq.trans ?_ HA.out.1.symm) HA.out.2.symm, (by repeat (first | exact Below.refl _ _ | assumption | refine Below.alloc ?_ (by first | exact Nat.le_refl _ | assumption | omega | (simp <;> omega)) _ | refine Below.setCell ?_ (by first | exact Nat.le_refl _ | assumption | omega | (simp <;> omega)) _ | refine Below.drew ?_ | refine below_drewN ?_ _))⟩
      all_goals (clear HA; go_light)
      all_goals (clear hx' hy' hx2 hy2; obtain ⟨xk, xp, xb⟩ := x; obtain ⟨yk, yp, yb⟩ := y)
      all_goals unfold past
      all_goals grind
    · have hy' : (opErr n y != 0) = true := by simpa using hy
      have hx' : (opErr n x != 0) = false := by simpa using hx
      have HA : Hid (pastAns n x y first = ⟨0, 0, 0⟩ ∧ pastErr n x y = opErr n y) := ⟨by simp [pastAns, hy], by simp [pastErr, hx]⟩
      clear hx hy
      go_enter Try.func42, Try.ntmps42
      unfold Op.val
      go_wp2_with fail
      refine (shCheck_any n x _).mono ?_
      rintro e w1 ⟨rfl, o1, rfl⟩
      go_wp2_with fail
      refine (shCheck_any n y _).mono ?_
      rintro e w2 ⟨rfl, o2, rfl⟩
      go_wp2_with fail
      (apply bodyPost_ret; (simp [results, Try.results42, go_sem]; rfl); rfl)
      exact ⟨op_out HA.out.1.symm HA.out.2.symm, (by repeat (first | exact Below.refl _ _ | assumption | refine Below.alloc ?_ (by first | exact Nat.le_refl _ | assumption | omega | (simp <;> omega)) _ | refine Below.setCell ?_ (by first | exact Nat.le_refl _ | assumption | omega | (simp <;> omega)) _ | refine Below.drew ?_ | refine below_drewN ?_ _))⟩
  · have hx' : (opErr n x != 0) = true := by simpa using hx
    have HA : Hid (pastAns n x y first = ⟨0, 0, 0⟩ ∧ pastErr n x y = opErr n x) := ⟨by simp [pastAns, hx], by simp [pastErr, hx]⟩
    clear hx
    go_enter Try.func42, Try.ntmps42
    unfold Op.val
    go_wp2_with fail
    refine (shCheck_any n x _).mono ?_
    rintro e w1 ⟨rfl, o1, rfl⟩
    go_wp2_with fail
    (apply bodyPost_ret; (simp [results, Try.results42, go_sem]; rfl); rfl)
    exact ⟨op_out HA.out.1.symm HA.out.2.symm, (by repeat (first | exact Below.refl _ _ | assumption | refine Below.alloc ?_ (by first | exact Nat.le_refl _ | assumption | omega | (simp <;> omega)) _ | refine Below.setCell ?_ (by first | exact Nat.le_refl _ | assumption | omega | (simp <;> omega)) _ | refine Below.drew ?_ | refine below_drewN ?_ _))⟩
end Go.Proofs.Ytllcmmpepchieaa
