/- merge.clash, merge.Check. -/
import Derived.Test.YtllcmmpepchieaaMet2
import Derived.Test.YtllcmmpepchieaaEditW
namespace Go.Proofs.Ytllcmmpepchieaa
open Go.RowKit
set_option maxRecDepth 100000 in
set_option maxHeartbeats 2000000 in
theorem clash_any (x y : Ed) (hx : 0 ≤ x.at_ ∧ x.at_ ≤ 200 ∧ 0 ≤ x.del ∧ x.del ≤ 200) (hy : 0 ≤ y.at_ ∧ y.at_ ≤ 200 ∧ 0 ≤ y.del ∧ y.del ≤ 200) (w : World) :
    Calls Try.prog 36 #[.agg #[.int .i64 x.at_, .int .i64 x.del, .string (S x.ins)], .agg #[.int .i64 y.at_, .int .i64 y.del, .string (S y.ins)]] w fun e w' => e = .returned (.bool (decide (clashE x y))) ∧ Below w.heap.size w w' := by
  obtain ⟨xa, xd, xi⟩ := x
  obtain ⟨ya, yd, yi⟩ := y
  simp only at hx hy ⊢
  have HR : Hid ((decide (clashE ⟨xa, xd, xi⟩ ⟨ya, yd, yi⟩) = true) ↔ (¬ (xa = ya ∧ xd = yd ∧ (S xi).toList = (S yi).toList) ∧ xa ≤ ya + yd ∧ ya ≤ xa + xd)) := by
    rw [Hid, decide_eq_true_iff, ByteArray.toList_eq, ByteArray.toList_eq]
    unfold clashE
    rw [ne_eq, Ed.mk.injEq]
    exact Iff.rfl
  generalize decide (clashE ⟨xa, xd, xi⟩ ⟨ya, yd, yi⟩) = r at *
  generalize S xi = X at *
  generalize S yi = Y at *
  go_enter Try.func36, Try.ntmps36
  go_wp2_with fail
  all_goals go_ret
  all_goals refine ⟨ret_bool ?_, (by repeat (first | exact Below.refl _ _ | assumption | refine Below.alloc ?_ (by first | exact Nat.le_refl _ | assumption | omega | (simp <;> omega)) _ | refine Below.setCell ?_ (by first | exact Nat.le_refl _ | assumption | omega | (simp <;> omega)) _ | refine Below.drew ?_ | refine below_drewN ?_ _))⟩
  all_goals rw [Bool.eq_iff_iff, HR.out]
  all_goals grind
theorem mergeCheck_any (n : Int) (a b : List Ed) (A A2 : Option Addr) (m c m2 c2 B : Nat) (w : World) (hr : Rd w B 3 A m (edCells a)) (hr2 : Rd w B 3 A2 m2 (edCells b)) (hB : B ≤ w.heap.size) (hm : m ≤ 9223372036854775807) (hm2 : m2 ≤ 9223372036854775807) :
    Calls Try.prog 35 #[.int .i64 n, .slice A m c, .slice A2 m2 c2] w fun e w' => e = .returned (.int .i64 (if edErr n a = 0 then edErr n b else edErr n a)) ∧ Below w.heap.size w w' := by
  have HA := Lib.hid (edCheck_any n a A m c B w hr hB hm)
  have HBb : Hid (∀ W, Below w.heap.size w W → Calls Try.prog 37 #[.int .i64 n, .slice A2 m2 c2] W fun e w' => e = .returned (.int .i64 (edErr n b)) ∧ Below W.heap.size W w') := fun W hW => edCheck_any n b A2 m2 c2 B W (hr2.below (hW.mono hB)) (Nat.le_trans hB hW.size) hm2
  clear hr hr2
  by_cases h : edErr n a = 0
  · rw [if_pos h]
    rw [h] at HA
    generalize edErr n b = eb at *
    clear h
    go_enter Try.func35, Try.ntmps35
    go_wp2_with fail
    refine HA.out.mono ?_
    rintro e w1 ⟨rfl, hb1⟩
    go_wp2_with fail
    refine (HBb.out w1 hb1).mono ?_
    rintro e w2 ⟨rfl, hb2⟩
    go_wp2_with fail
    go_ret
    exact ⟨rfl, bthen hb1 hb2⟩
  · rw [if_neg h]
    have g1 : (edErr n a != 0) = true := by rw [bne_iff_ne]; exact h
    generalize edErr n a = ea at *
    clear h
    go_enter Try.func35, Try.ntmps35
    go_wp2_with fail
    refine HA.out.mono ?_
    rintro e w1 ⟨rfl, hb1⟩
    go_wp2_with fail
    go_ret
    exact ⟨rfl, hb1⟩
end Go.Proofs.Ytllcmmpepchieaa
