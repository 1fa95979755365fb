/- quilltop.ops and typed; slices.Concat of two rows of operations. -/
import Derived.Test.YtllcmmpepchieaaMetB
import Derived.Test.YtllcmmpepchieaaShA5
import Derived.Test.YtllcmmpepchieaaLogW
import Derived.Lib.AppendZeros
namespace Go.Proofs.Ytllcmmpepchieaa
open Go.RowKit
abbrev zOp : Value := .agg #[.int .i64 0, .int .i64 0, .int .u8 0]
set_option maxRecDepth 100000 in
set_option maxHeartbeats 2000000 in
theorem growOp_any (N : Nat) (hN : N ≤ 1000) (w : World) :
    Calls Try.prog 44 #[.slice none 0 0, .int .i64 (N : Int)] w fun e w' => ∃ v, e = .returned v ∧ w'.ownsRow w.heap.size 43 3 v 0 [] ∧ Below w.heap.size w w' := by
  obtain ⟨i0, hi0, hz0, hz1, hz2⟩ := info_parts info_op
  rcases Nat.eq_zero_or_pos N with h0 | h0
  · subst h0
    go_enter Try.func44, Try.ntmps44
    go_wp2_with fail
    go_ret
    exact ⟨_, rfl, World.ownsRow_nil _ _ _ _, Below.refl _ _⟩
  · have hrz : ∀ ty, (Builtin.append_ #[35, 3] ty #[.slice none 0 0, .int .i64 (N : Int)]).run Try.prog w = _ := fun ty =>
      Lib.run_append_nil_zeros w 35 3 ty 43 i0 _ .i64 .i64 Try.underlying35 Try.underlying3 hi0 hz0 N h0 (by omega) (by omega) (by rw [hz2]; omega)
    have hge := grownCap_ge w N 0 43
    have hcm := grownCap_le_maxLen w N 0 43 (by unfold maxLen; omega)
    have HOWN : Hid ((w.drew.alloc (.cells (Builtin.zeroCells zOp.cells N ++ Builtin.zeroCells zOp.cells (grownCap w N 0 43 - N)) 43)).ownsRow w.heap.size 43 3 (.slice (some ⟨w.heap.size, 0, none⟩) 0 (grownCap w N 0 43)) 0 []) := by
      refine ⟨rfl, .inr ⟨w.heap.size, grownCap w N 0 43, _, rfl, Nat.le_refl _, heap_alloc_new w.drew _, Nat.zero_le _, hcm, ?_, by simp⟩⟩
      simp only [Array.size_append, size_zeroCells]
      have : zOp.cells.size = 3 := rfl
      rw [this]; omega
    have hB : Below w.heap.size w (w.drew.alloc (.cells (Builtin.zeroCells zOp.cells N ++ Builtin.zeroCells zOp.cells (grownCap w N 0 43 - N)) 43)) := (by repeat (first | exact Below.refl _ _ | assumption | refine Below.alloc ?_ (by first | exact Nat.le_refl _ | assumption | omega | (simp <;> omega)) _ | refine Below.setCell ?_ (by first | exact Nat.le_refl _ | assumption | omega | (simp <;> omega)) _ | refine Below.drew ?_ | refine below_drewN ?_ _))
    generalize grownCap w N 0 43 = G at *
    have hGn : G ≤ 9223372036854775807 := by unfold maxLen at hcm; omega
    generalize (w.drew.alloc (.cells (Builtin.zeroCells zOp.cells N ++ Builtin.zeroCells zOp.cells (G - N)) 43)) = w9 at *
    go_enter Try.func44, Try.ntmps44
    go_wp2_with (at_builtin; refine Lib.wpList_append_run _ rfl _ _ _ _ rfl _ _ rfl rfl _ _ (hrz _) ?_)
    go_ret
    exact ⟨_, rfl, HOWN.out, hB⟩
def segO (p q : List Op) (k : Nat) : List Op := if k = 0 then [] else if k = 1 then p else p ++ q
set_option maxRecDepth 100000 in
set_option maxHeartbeats 4000000 in
theorem concatOp_any (p q : List Op) (A1 : Option Addr) (n1 c1 : Nat) (A2 : Option Addr) (n2 c2 B g : Nat) (w : World) (h1 : Rd w B 3 A1 n1 (opCells p)) (h2 : Rd w B 3 A2 n2 (opCells q)) (hB : B ≤ w.heap.size) (hg : g < w.heap.size)
    (k0 : w.cell? ⟨g, 0, none⟩ = some (.slice A1 n1 c1)) (k1 : w.cell? ⟨g, 1, none⟩ = some (.slice A2 n2 c2)) (hn1 : n1 ≤ 500) (hn2 : n2 ≤ 500) :
    Calls Try.prog 17 #[.slice (some ⟨g, 0, none⟩) 2 2] w fun e w' => ∃ v, e = .returned v ∧ w'.ownsRow w.heap.size 43 3 v (p ++ q).length (opCells (p ++ q)) ∧ Below w.heap.size w w' := by
  obtain ⟨i0, hi0, hz0, hz1, hz2⟩ := info_parts info_op
  have hpn := Rd.rec_len op_len (by omega) h1
  have hqn := Rd.rec_len op_len (by omega) h2
  have H1 := Lib.hid h1
  have H2 := Lib.hid h2
  clear h1 h2
  go_enter Try.func17, Try.ntmps17
  go_wp2_with fail
  go_loopw [3, 11] (fun s i wr => ∃ k : Nat, k ≤ 2 ∧ i = .int .i64 (k : Int) ∧ s = .int .i64 ((segO p q k).length : Nat) ∧ wr = w) (fun _ i _ => 2 - (intOf i).toNat)
  case atStart => exact ⟨0, by omega, rfl, rfl, rfl⟩
  case round =>
    obtain ⟨k, hk, rfl, rfl, rfl⟩ := hrel
    obtain ⟨wo, hwo⟩ : ∃ wo : World, wo = wr := ⟨_, rfl⟩
    subst hwo
    obtain rfl | rfl | rfl : k = 0 ∨ k = 1 ∨ k = 2 := by omega
    · have e0 : (segO p q 0).length = 0 := rfl
      rw [e0]
      go_wp2_with fail
      go_roundw
      case rel => exact ⟨1, by omega, by go_num, by rw [show (segO p q 1).length = n1 from hpn], by first | rfl | trivial⟩
      case measure => simp [intOf]
    · have e0 : (segO p q 1).length = n1 := hpn
      rw [e0]
      go_wp2_with fail
      go_roundw
      case rel =>
        refine ⟨2, by omega, by go_num, ?_, by first | rfl | trivial⟩
        rw [show (segO p q 2).length = n1 + n2 by show (p ++ q).length = _; rw [List.length_append, hpn, hqn]]; go_num
      case measure => simp [intOf]
    · have e0 : (segO p q 2).length = n1 + n2 := by show (p ++ q).length = _; rw [List.length_append, hpn, hqn]
      rw [e0]
      go_wp2_with fail
      refine (growOp_any (n1 + n2) (by omega) _).mono ?_
      rintro e w5 ⟨v5, rfl, hown5, hb5⟩
      go_wp2_with fail
      go_loopw [6, 27] (fun o i wq => ∃ k : Nat, k ≤ 2 ∧ i = .int .i64 (k : Int) ∧ wq.ownsRow wo.heap.size 43 3 o (segO p q k).length (opCells (segO p q k)) ∧ Below wo.heap.size wo wq) (fun _ i _ => 2 - (intOf i).toNat)
      case atStart => exact ⟨0, by omega, rfl, hown5, hb5⟩
      case round =>
        clear hown5 hb5
        obtain ⟨k, hk, rfl, hown, hb⟩ := hrel
        have HOWN := Lib.hid hown
        clear hown
        have c0 := (hb.cell (p := ⟨g, 0, none⟩) hg).trans k0
        have c1' := (hb.cell (p := ⟨g, 1, none⟩) hg).trans k1
        have hbs := hb.size
        obtain rfl | rfl | rfl : k = 0 ∨ k = 1 ∨ k = 2 := by omega
        · have hr := H1.out.below (hb.mono hB)
          go_wp2_with (at_builtin; go_must (refine wpList_appRd rfl _ _ _ rfl wo.heap.size 43 i0 _ 3 24 Try.underlying35 hi0 hz0 hz1 hz2 rfl (by omega) _ (segO p q 0).length (opCells (segO p q 0)) rfl HOWN.out B A1 n1 c1 (opCells p) rfl hr (opCells_one _) (by show (0 + n1) * 24 ≤ _; omega) (by omega) hbs ?_); intro v6 w6 hown6 hb6)
          go_roundw
          case rel =>
            refine ⟨1, by omega, by go_num, ?_, hb.trans hb6⟩
            have e1 : (segO p q 1).length = (segO p q 0).length + n1 := by show p.length = 0 + n1; omega
            rw [e1]
            exact hown6
          case measure => simp [intOf]
        · have hr := H2.out.below (hb.mono hB)
          have e0 : (segO p q 1).length = n1 := hpn
          go_wp2_with (at_builtin; go_must (refine wpList_appRd rfl _ _ _ rfl wo.heap.size 43 i0 _ 3 24 Try.underlying35 hi0 hz0 hz1 hz2 rfl (by omega) _ (segO p q 1).length (opCells (segO p q 1)) rfl HOWN.out B A2 n2 c2 (opCells q) rfl hr (opCells_one _) (by rw [e0]; omega) (by omega) hbs ?_); intro v6 w6 hown6 hb6)
          go_roundw
          case rel =>
            refine ⟨2, by omega, by go_num, ?_, hb.trans hb6⟩
            have e1 : (segO p q 2).length = (segO p q 1).length + n2 := by show (p ++ q).length = p.length + n2; rw [List.length_append, hqn]
            have e2 : opCells (segO p q 2) = opCells (segO p q 1) ++ opCells q := by show opCells (p ++ q) = opCells p ++ opCells q; exact opCells_append p q
            rw [e1, e2]
            exact hown6
          case measure => simp [intOf]
        · go_wp2_with fail
          go_ret
          exact ⟨_, rfl, HOWN.out, hb⟩
end Go.Proofs.Ytllcmmpepchieaa
