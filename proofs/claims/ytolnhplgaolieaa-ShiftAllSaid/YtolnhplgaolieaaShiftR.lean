/- The walks of the reference's PastOf and OpErr. -/
import Derived.Test.YtolnhplgaolieaaShiftW
import Derived.Test.YtolnhplgaolieaaMaps
namespace Go.Proofs.Ytolnhplgaolieaa
open Go.RowKit Go.Maps
set_option maxRecDepth 100000 in
set_option maxHeartbeats 2000000 in
theorem shPastOf_any (x y : Op) (first : Bool) (w : World) (hx0 : 0 ≤ x.pos) (hx1 : x.pos ≤ 200) (hk : y.kind = 1 ∨ y.kind = 2 ∨ y.kind = 3) :
    Calls Try.prog 98 #[x.val, y.val, .bool first] w fun e w' => e = .returned (past x y first).val ∧ Below w.heap.size w w' := by
  have HK := Lib.hid hk; clear hk
  go_enter Try.func98, Try.ntmps98
  unfold Op.val
  go_wp2
  all_goals (apply bodyPost_ret; (simp [results, Try.results98, go_sem]; rfl); rfl)
  all_goals refine ⟨op_out1 ?_, (by repeat (first | exact Below.refl _ _ | assumption | refine Below.alloc ?_ (by first | exact Nat.le_refl _ | assumption | omega | (simp <;> omega)) _ | refine Below.setCell ?_ (by first | exact Nat.le_refl _ | assumption | omega | (simp <;> omega)) _ | refine Below.drew ?_ | refine below_drewN ?_ _))⟩
  all_goals go_light
  all_goals have hk := HK.out
  all_goals clear HK
  all_goals (obtain ⟨xk, xp, xb⟩ := x; obtain ⟨yk, yp, yb⟩ := y)
  all_goals unfold past
  all_goals grind
theorem keyInt : Keyed Try.prog 3 := int_keyed Try.underlying3
theorem zeroInt (w : World) : (zeroValue 3).run Try.prog w = .ok (.int .i64 0) w := by kernel_rfl
set_option maxRecDepth 100000 in
set_option maxHeartbeats 2000000 in
theorem shOpErr_any (n : Int) (x : Op) (w : World) (hb0 : 0 ≤ x.b) (hk : -9223372036854775808 ≤ x.kind ∧ x.kind ≤ 9223372036854775807) :
    Calls Try.prog 95 #[.int .i64 n, x.val] w fun e w' => e = .returned (.int .i64 (opErr n x)) ∧ Below w.heap.size w w' := by
  have hmm := @run_makeMap Try.prog
  by_cases hn : n < 0 ∨ 200 < n
  · have HE : Hid (opErr n x = 1) := by unfold Hid opErr; rw [if_pos hn]
    have HN := Lib.hid hn
    clear hn
    go_enter Try.func95, Try.ntmps95
    unfold Op.val
    go_wp2_with fail
    all_goals first
      | (go_ret; exact ⟨ret_int HE.out.symm, (by repeat (first | exact Below.refl _ _ | assumption | refine Below.alloc ?_ (by first | exact Nat.le_refl _ | assumption | omega | (simp <;> omega)) _ | refine Below.setCell ?_ (by first | exact Nat.le_refl _ | assumption | omega | (simp <;> omega)) _ | refine Below.drew ?_ | refine below_drewN ?_ _))⟩)
      | (exfalso; have := HN.out; omega)
  · have hn1 : 0 ≤ n := by omega
    have hn2 : n ≤ 200 := by omega
    have hg1 : decide (n < 0) = false := decide_eq_false (by omega)
    have hg2 : decide (200 < n) = false := decide_eq_false (by omega)
    have wf1 : (Lit.int .i64 n).wf = true := WalkArith.wf_i64 (by omega)
    have wf2 : (Lit.int .i64 (n - 1)).wf = true := WalkArith.wf_i64 (by omega)
    have hown0 : ∀ o, ((w.alloc o).alloc (.map #[] 0)).ownsMap Try.prog 3 (plainElem (H := Unit) Try.prog 3) (w.heap.size + 1) 0 (.map []) := fun o => by
      have := World.ownsMap_made (H := Unit) (w.alloc o) Try.prog 3 (plainElem Try.prog 3)
      rwa [World.size_alloc] at this
    have wfk : (Lit.int .i64 x.kind).wf = true := WalkArith.wf_i64 (by omega)
    clear hn hk
    have HO := Lib.hid hown0; clear hown0
    go_enter Try.func95, Try.ntmps95
    unfold Op.val
    go_wp2_with (first
      | (refine wpList_insert_own _ rfl (.tmp 14) (.const (.int .i64 1)) (.tmp 15) 172 rfl 3 3 keyInt Try.underlying172 _ (w.heap.size + 1) 0 _ rfl (HO.out _) (by unfold maxLen; omega) _ _ (.int .i64 1) rfl rfl (keyOf_int_mk Try.underlying3 (by decide)) _ [] (plainElem_int Try.underlying3 wf1) ?_; intro w1 hown1 hgr1)
      | (refine wpList_insert_own _ rfl (.tmp 14) (.const (.int .i64 2)) (.tmp 17) 172 rfl 3 3 keyInt Try.underlying172 _ (w.heap.size + 1) 1 _ rfl hown1 (by unfold maxLen; omega) _ _ (.int .i64 2) rfl rfl (keyOf_int_mk Try.underlying3 (by decide)) _ [] (plainElem_int Try.underlying3 wf2) ?_; intro w2 hown2 hgr2)
      | (refine wpList_insert_own _ rfl (.tmp 14) (.const (.int .i64 3)) (.const (.int .i64 0)) 172 rfl 3 3 keyInt Try.underlying172 _ (w.heap.size + 1) 2 _ rfl hown2 (by unfold maxLen; omega) _ _ (.int .i64 3) rfl rfl (keyOf_int_mk Try.underlying3 (by decide)) _ [] (plainElem_int Try.underlying3 (by decide)) ?_; intro w3 hown3 hgr3
         rw [map123_put] at hown3
         have c0 : w3.cell? ⟨w.heap.size, 0, none⟩ = some (.int .i64 x.kind) := hgr3.cell (hgr2.cell (hgr1.cell (by simp) (by simp)) (by simp)) (by simp)
         have c1 : w3.cell? ⟨w.heap.size, 1, none⟩ = some (.int .i64 x.pos) := hgr3.cell (hgr2.cell (hgr1.cell (by simp) (by simp)) (by simp)) (by simp)
         have c2 : w3.cell? ⟨w.heap.size, 2, none⟩ = some (.int .u8 x.b) := hgr3.cell (hgr2.cell (hgr1.cell (by simp) (by simp)) (by simp)) (by simp)
         have hB : Below w.heap.size w w3 := (((((Below.refl w.heap.size w).alloc (Nat.le_refl _) _).alloc (by simp) _).grown hgr1 (by simp <;> omega) (fun k hk => by cases hk; omega)).grown hgr2 (by have := hgr1.size; simp at this; omega) (fun k hk => by cases hk; omega)).grown hgr3 (by have := hgr1.size; have := hgr2.size; simp at *; omega) (fun k hk => by cases hk; omega)
         clear hgr1 hgr2 hgr3 hown1 hown2)
      | (refine wpList_lookup_own_ok_int _ rfl (.tmp 20) (.tmp 22) 172 rfl 3 3 .i64 keyInt Try.underlying172 Try.underlying3 (zeroInt _) (w.heap.size + 1) _ _ rfl hown3 _ (.int .i64 x.kind) rfl (keyOf_int_mk Try.underlying3 wfk) ?_; intro c hat hwc; rw [map123_has]; have Hat := Lib.hid hat; clear hat hown3))
    all_goals go_ret
    all_goals refine ⟨ret_int ?_, hB⟩
    all_goals have hv := map123_val Hat.out
    all_goals go_light
    all_goals (clear Hat HO; obtain ⟨xk, xp, xb⟩ := x; simp only [opErr])
    all_goals grind
end Go.Proofs.Ytolnhplgaolieaa
