/- The methods of an editor. An editor's Do that goes through. Words of bits in order, as plain lists. No program in sight. -/
import Derived.Test.YtplgghjdidmcfaaGreatDoorPk14
import Derived.Test.YtplgghjdidmcfaaGreatDoorPk01
namespace Go.Proofs.YtplgghjdidmcfaaGreatDoor
open Go.RowKit
theorem undoNew_large (t : ByteArray) (h : 200 < t.size) (w : World) :
    Calls Tryz.prog 28 #[.string t] w fun e w' => e = .returned (.tuple #[.pointer none, .int .i64 2]) ∧ w' = w := by
  have g1 : decide ((200 : Int) < (t.size : Int)) = true := decide_eq_true (by omega)
  go_enter Tryz.func28, Tryz.ntmps28
  go_wp2_with fail
  go_ret2
  exact ⟨rfl, rfl⟩
theorem undoNew_any (t : ByteArray) (h : t.size ≤ 200) (w : World) :
    Calls Tryz.prog 28 #[.string t] w fun e w' => e = .returned (.tuple #[.pointer (some ⟨w.heap.size, 0, none⟩), .int .i64 0]) ∧ EdSt w' w.heap.size w.heap.size ⟨L t, [], []⟩ (.slice none 0 0) (.slice none 0 0) ∧ Below w.heap.size w w' := by
  have g1 : decide ((200 : Int) < (t.size : Int)) = false := decide_eq_false (by omega)
  have HB : Hid (EdSt (w.alloc (.cells #[.string t, .slice none 0 0, .slice none 0 0] 123)) w.heap.size w.heap.size ⟨L t, [], []⟩ (.slice none 0 0) (.slice none 0 0)) :=
    ⟨Blk.new_ _ _ _, Nat.le_refl _, OwnO.nil_, OwnO.nil_, Apart.none_left _⟩
  go_enter Tryz.func28, Tryz.ntmps28
  go_wp2_with fail
  go_ret2
  exact ⟨rfl, HB.out, (by repeat (first | exact Below.refl _ _ | assumption | refine Below.alloc ?_ (by first | exact Nat.le_refl _ | assumption | omega | (simp <;> omega)) _ | refine Below.setCell ?_ (by first | exact Nat.le_refl _ | assumption | omega | (simp <;> omega)) _ | refine Below.drew ?_ | refine below_drewN ?_ _))⟩
theorem EdSt.cells {w : World} {base g : Nat} {s : Es} {vB vO : Value} (h : EdSt w base g s vB vO) : w.cell? ⟨g, 0, none⟩ = some (.string (S s.text)) ∧ w.cell? ⟨g, 1, none⟩ = some vB ∧ w.cell? ⟨g, 2, none⟩ = some vO ∧
    w.frozen? ⟨g, 0, none⟩ = false ∧ w.frozen? ⟨g, 1, none⟩ = false ∧ w.frozen? ⟨g, 2, none⟩ = false ∧ g < w.heap.size :=
  ⟨h.blk.cell0, h.blk.cell1, h.blk.cell2, h.blk.frozen 0, h.blk.frozen 1, h.blk.frozen 2, h.blk.lt⟩
theorem edText_any (base g : Nat) (s : Es) (vB vO : Value) (w : World) (h : EdSt w base g s vB vO) :
    Calls Tryz.prog 23 #[.pointer (some ⟨g, 0, none⟩)] w fun e w' => e = .returned (.string (S s.text)) ∧ Below w.heap.size w w' := by
  obtain ⟨c0, c1, c2, f0, f1, f2, hg⟩ := h.cells
  clear h
  go_enter Tryz.func23, Tryz.ntmps23
  go_wp2_with fail
  go_ret
  exact ⟨rfl, Below.refl _ _⟩
theorem strCells_len (l : List (List UInt8)) : (strCells l).length = l.length := by simp [strCells]
theorem strCells_snoc (l : List (List UInt8)) (x : List UInt8) : strCells l ++ [.string (S x)] = strCells (l ++ [x]) := by simp [strCells]
theorem strCells_take (l : List (List UInt8)) (k : Nat) : (strCells l).take k = strCells (l.take k) := by simp [strCells, List.map_take]
theorem strCells_drop (l : List (List UInt8)) (k : Nat) : (strCells l).drop k = strCells (l.drop k) := by simp [strCells, List.map_drop]
theorem info_st : (Tryz.prog.info? 9).map (fun i => (i.zero, i.size, i.bytes)) = some (some (.string ByteArray.empty), 1, 16) := by kernel_rfl
set_option maxRecDepth 100000 in
set_option maxHeartbeats 4000000 in
theorem edUndo4 (base g : Nat) (s : Es) (vB vO : Value) (w : World) (h : EdSt w base g s vB vO) (h0 : s.back.length = 0) :
    Calls Tryz.prog 55 #[.pointer (some ⟨g, 0, none⟩)] w fun e w' => e = .returned (.int .i64 4) ∧ Below w.heap.size w w' := by
  obtain ⟨c0, c1, c2, f0, f1, f2, hg⟩ := h.cells
  obtain ⟨A, c, rfl, _, _, _⟩ := h.b.form
  clear h
  go_enter Tryz.func55, Tryz.ntmps55
  go_wp2_with fail
  go_ret
  exact ⟨rfl, Below.refl _ _⟩
set_option maxRecDepth 100000 in
set_option maxHeartbeats 4000000 in
theorem edUndoS (base g : Nat) (s : Es) (vB vO : Value) (w : World) (h : EdSt w base g s vB vO) (h0 : 0 < s.back.length) (hB : base ≤ w.heap.size) (hno : s.back.length + s.onward.length ≤ 1000) :
    Calls Tryz.prog 55 #[.pointer (some ⟨g, 0, none⟩)] w fun e w' => e = .returned (.int .i64 0) ∧ ∃ vB' vO', EdSt w' base g (undoS s) vB' vO' ∧ Chg w w' (EdK g vB vO) ∧ Fresh w vB' vB vO ∧ Fresh w vO' vB vO := by
  obtain ⟨i0, hi0, hz0, hz1, hz2⟩ := info_parts info_st
  have HE := Lib.hid h
  obtain ⟨c0, c1, c2, f0, f1, f2, hg⟩ := h.cells
  obtain ⟨A, c, rfl, hnc, hcm, hrd⟩ := h.b.form
  have HRD := Lib.hid hrd
  clear h hrd
  obtain ⟨st, sb, so⟩ := s
  simp only at *
  generalize hlen : sb.length = m at *
  obtain ⟨n, rfl⟩ : ∃ n, m = n + 1 := ⟨m - 1, by omega⟩
  have HLEN := Lib.hid hlen
  clear hlen
  have e1 : (((n + 1 : Nat) : Int) == 0) = false := by rw [beq_eq_false_iff_ne]; omega
  obtain ⟨ad, rfl, hab, hcl⟩ := str_cell HRD.out (show n < n + 1 by omega)
  have HCL := Lib.hid hcl
  clear hcl
  go_enter Tryz.func55, Tryz.ntmps55
  go_wp2_with fail
  obtain ⟨F1, hFd⟩ : ∃ F : World → Prop, F = fun w' => w'.cell? ⟨g, 0, none⟩ = some (.string (S st)) ∧ w'.cell? ⟨g, 2, none⟩ = some (vO) := ⟨_, rfl⟩
  have HF1 := Lib.hid hFd
  clear hFd
  have hcell10 : ∀ p' : Wof F1, p'.w.cell? ⟨g, 0, none⟩ = some (.string (S st)) := fun ⟨x, hx⟩ => by rw [HF1.out] at hx; exact hx.1
  have hcell11 : ∀ p' : Wof F1, p'.w.cell? ⟨g, 2, none⟩ = some (vO) := fun ⟨x, hx⟩ => by rw [HF1.out] at hx; exact hx.2
  refine wp_region_schedZ [(0, true), (1, true), (2, true), (3, true), (4, true), (5, true), (6, true), (7, true), (8, true), (9, false), (10, false), (11, true), (12, true)] 13 _ F1 (by kernel_rfl) (by kernel_rfl) rfl (by kernel_rfl) rfl (fun _ _ _ _ _ h => h) (by kernel_rfl) (by rw [HF1.out]; first | ((repeat' apply And.intro) <;> assumption) | trivial | (simp; done) | (simp [*]; done)) (by rw [HF1.out]; exact fun h => h) ?_
  intro hne1
  simp only [opersOf, List.getElem?_toArray, List.getElem?_cons_succ, List.getElem?_cons_zero]
  repeat (first | (refine wpSched_free rfl ?_; intro K hK; go_big_quiet_op; go_big_quiet_on) | (refine wpSched_wantS _ rfl rfl rfl ?_; intro K hK; go_big_quiet_op; go_big_quiet_on) | (refine wpSched_skipS _ rfl rfl rfl rfl ?_; simp only [Act.put, List.setIfInBounds_toArray, List.set_cons_zero, List.set_cons_succ]) | (refine wpSched_skipU _ rfl rfl rfl ?_; simp only [Act.put, List.setIfInBounds_toArray, List.set_cons_zero, List.set_cons_succ]))
  refine wpSched_other ?_
  go_wp2_with fail
  refine sched_back (by rw [HF1.out]; first | ((repeat' apply And.intro) <;> assumption) | trivial | (simp; done) | (go_simp; done) | (simp [*]; done)) ?_
  repeat (first | (refine wpSched_free rfl ?_; intro K hK; go_big_quiet_op; go_big_quiet_on) | (refine wpSched_wantS _ rfl rfl rfl ?_; intro K hK; go_big_quiet_op; go_big_quiet_on) | (refine wpSched_skipS _ rfl rfl rfl rfl ?_; simp only [Act.put, List.setIfInBounds_toArray, List.set_cons_zero, List.set_cons_succ]) | (refine wpSched_skipU _ rfl rfl rfl ?_; simp only [Act.put, List.setIfInBounds_toArray, List.set_cons_zero, List.set_cons_succ]))
  refine wpSched_other ?_
  have hO1 : ∀ o, OwnO (w.alloc o).drew base 9 1 vO so.length (strCells so) := fun o => HE.out.o.below (by repeat (first | exact Below.refl _ _ | assumption | refine Below.alloc ?_ (by first | exact Nat.le_refl _ | assumption | omega | (simp <;> omega)) _ | refine Below.setCell ?_ (by first | exact Nat.le_refl _ | assumption | omega | (simp <;> omega)) _ | refine Below.drew ?_ | refine below_drewN ?_ _))
  have hnw : ∀ j u, [Value.string (S st)][j]? = some u → ((w.alloc (.cells #[.string (S st)] 9)).drew).cell? (Addr.add ⟨w.heap.size, 0, none⟩ j) = some u := fun j u hj => cells_new w #[.string (S st)] 9 j u hj
  have hnb := HE.out.o.ne_blk HE.out.blk (by decide)
  go_wp2_with (at_builtin; go_must (refine wpList_appO rfl _ _ _ rfl base 9 i0 _ 1 16 Tryz.underlying25 hi0 hz0 hz1 hz2 rfl (by omega) _ so.length (strCells so) rfl (hO1 _) ⟨w.heap.size, 0, none⟩ 1 1 [.string (S st)] rfl rfl hnw (by simp [Value.oneCell']) (by omega) (by omega) (by simp; omega) ?_); intro v6 w6 hown6 hg6 hb6 ha6; obtain ⟨A6, c6, rfl, _, _, _⟩ := OwnO.form hown6)
  have hg6' : (w.alloc (.cells #[.string (S st)] 9)).drew.grownBy w6 vO.ownBlock := hg6
  have hgv : some g ≠ vO.ownBlock := fun e => by rcases hnb with h | h <;> rw [← e] at h <;> simp at h
  have k0 := hg6'.cell (a := ⟨g, 0, none⟩) (v := .string (S st)) ((World.cell?_alloc_lt w _ _ hg).trans c0) hgv
  have k2 := hg6'.cell (a := ⟨g, 2, none⟩) (v := vO) ((World.cell?_alloc_lt w _ _ hg).trans c2) hgv
  have HE1 : EdSt (w.alloc (.cells #[.string (S st)] 9)).drew base g ⟨st, sb, so⟩ (.slice (some ad) (n + 1) c) vO := HE.out.below (by repeat (first | exact Below.refl _ _ | assumption | refine Below.alloc ?_ (by first | exact Nat.le_refl _ | assumption | omega | (simp <;> omega)) _ | refine Below.setCell ?_ (by first | exact Nat.le_refl _ | assumption | omega | (simp <;> omega)) _ | refine Below.drew ?_ | refine below_drewN ?_ _))
  have hE7 := Lib.hid (HE1.app hg6' hgv (by first | exact hown6 | simpa using hown6) ha6)
  have HC7 := Lib.hid (((Chg.of_below (w := w) (w' := (w.alloc (.cells #[.string (S st)] 9)).drew) (by repeat (first | exact Below.refl _ _ | assumption | refine Below.alloc ?_ (by first | exact Nat.le_refl _ | assumption | omega | (simp <;> omega)) _ | refine Below.setCell ?_ (by first | exact Nat.le_refl _ | assumption | omega | (simp <;> omega)) _ | refine Below.drew ?_ | refine below_drewN ?_ _)) (EdK g (.slice (some ad) (n + 1) c) vO)).trans (Chg.of_gb (K := EdK g (.slice (some ad) (n + 1) c) vO) hg6' (fun k hk => .inr (.inr hk))) (fun _ h _ => h)).trans (Chg.of_gb (K := EdK g (.slice (some ad) (n + 1) c) vO) (gb_set (gb_refl w6 (some g)) 2 (.slice A6 (so.length + 1) c6)) (fun k hk => .inl (by simpa using hk.symm))) (fun _ h _ => h))
  have HFR : Hid (∀ k, (Value.slice A6 (so.length + 1) c6).ownBlock = some k → (Value.slice (some ad) (n + 1) c).ownBlock = some k ∨ vO.ownBlock = some k ∨ w.heap.size ≤ k) := fun k hk => by
    have h1 : (Value.slice A6 (so.length + 1) c6).ownBlock = vO.ownBlock ∨ (Value.slice A6 (so.length + 1) c6).ownBlock = some (w.alloc (.cells #[.string (S st)] 9)).drew.heap.size := ha6
    rcases h1 with h1 | h1
    · exact .inr (.inl (h1.symm.trans hk))
    · rw [hk] at h1; simp at h1; exact .inr (.inr (by omega))
  refine sched_back (by rw [HF1.out]; exact ⟨k0, k2⟩) ?_
  repeat (first | (refine wpSched_free rfl ?_; intro K hK; go_big_quiet_op; go_big_quiet_on) | (refine wpSched_wantS _ rfl rfl rfl ?_; intro K hK; go_big_quiet_op; go_big_quiet_on) | (refine wpSched_skipS _ rfl rfl rfl rfl ?_; simp only [Act.put, List.setIfInBounds_toArray, List.set_cons_zero, List.set_cons_succ]) | (refine wpSched_skipU _ rfl rfl rfl ?_; simp only [Act.put, List.setIfInBounds_toArray, List.set_cons_zero, List.set_cons_succ]))
  refine wpSched_nil ?_
  refine qz_nil ?_
  have q2f : w6.frozen? ⟨g, 2, none⟩ = false := (HE1.blk.grown hg6' hgv).frozen 2
  clear HF1 hcell10 hcell11 hne1
  go_wp2_with fail
  clear k0 k2 q2f c0 c1 c2 f0 f1 f2 hg HE HE1 HRD HCL hO1 hnw hnb hgv hown6 hg6 hg6' hb6 ha6 hab
  generalize (w6.setCell ⟨g, 2, none⟩ (.slice A6 (so.length + 1) c6)) = w7 at *
  obtain ⟨c0, c1, c2, f0, f1, f2, hg⟩ := hE7.out.cells
  obtain ⟨ad', hadd, hab, hcl⟩ := str_cell (k := n) (by obtain ⟨A', c', hv, _, _, hr⟩ := hE7.out.b.form; injection hv with h1; subst h1; exact hr) (by show n < sb.length; rw [HLEN.out]; omega)
  cases hadd
  have HU : Hid (undoS ⟨st, sb, so⟩ = ⟨sb.getD n [], sb.take n, so ++ [st]⟩) := by
    unfold Hid undoS; simp only [HLEN.out]; rfl
  generalize sb.getD n [] = T at *
  generalize hTT : S T = TT at *
  have HTT := Lib.hid hTT
  clear hTT
  obtain ⟨F2, hFd⟩ : ∃ F : World → Prop, F = fun w' => w'.cell? ⟨g, 1, none⟩ = some (.slice (some ad) (n + 1) c) ∧ w'.cell? (ad.add n) = some (.string TT) := ⟨_, rfl⟩
  have HF2 := Lib.hid hFd
  clear hFd
  have hcell20 : ∀ p' : Wof F2, p'.w.cell? ⟨g, 1, none⟩ = some (.slice (some ad) (n + 1) c) := fun ⟨x, hx⟩ => by rw [HF2.out] at hx; exact hx.1
  have hcell21 : ∀ p' : Wof F2, p'.w.cell? (ad.add n) = some (.string TT) := fun ⟨x, hx⟩ => by rw [HF2.out] at hx; exact hx.2
  refine wp_region_schedZ [(0, true), (1, true), (2, true), (3, true), (4, true), (5, true), (6, true), (7, true), (8, true), (9, true), (10, true), (11, true), (12, true), (13, true), (14, true), (15, true), (16, true), (17, true), (18, true), (19, false), (20, true), (21, true)] 22 _ F2 (by kernel_rfl) (by kernel_rfl) rfl (by kernel_rfl) rfl (fun _ _ _ _ _ h => h) (by kernel_rfl) (by rw [HF2.out]; first | ((repeat' apply And.intro) <;> assumption) | trivial | (simp; done) | (simp [*]; done)) (by rw [HF2.out]; exact fun h => h) ?_
  intro hne2
  simp only [opersOf, List.getElem?_toArray, List.getElem?_cons_succ, List.getElem?_cons_zero]
  repeat (first | (refine wpSched_free rfl ?_; intro K hK; go_big_quiet_op; go_big_quiet_on) | (refine wpSched_wantS _ rfl rfl rfl ?_; intro K hK; go_big_quiet_op; go_big_quiet_on) | (refine wpSched_skipS _ rfl rfl rfl rfl ?_; simp only [Act.put, List.setIfInBounds_toArray, List.set_cons_zero, List.set_cons_succ]) | (refine wpSched_skipU _ rfl rfl rfl ?_; simp only [Act.put, List.setIfInBounds_toArray, List.set_cons_zero, List.set_cons_succ]))
  refine wpSched_other ?_
  have HE8 := Lib.hid ((hE7.out.below (w' := w7.drew) (by repeat (first | exact Below.refl _ _ | assumption | refine Below.alloc ?_ (by first | exact Nat.le_refl _ | assumption | omega | (simp <;> omega)) _ | refine Below.setCell ?_ (by first | exact Nat.le_refl _ | assumption | omega | (simp <;> omega)) _ | refine Below.drew ?_ | refine below_drewN ?_ _))).text_ T)
  rw [HTT.out] at HE8
  have hne : (ad.add n).block ≠ g := by
    have h1 := hE7.out.b.ne_blk hE7.out.blk (by decide)
    simp only [Value.ownBlock, reduceCtorEq, false_or] at h1
    rw [blk_add]
    intro e; exact h1 (by rw [e])
  have k1 : (w7.drew.setCell ⟨g, 0, none⟩ (.string TT)).cell? (ad.add n) = some (.string TT) := (World.cell?_setCell_other _ _ _ _ (fun e => hne (by rw [← e]))).trans hcl
  have k0 := HE8.out.cells.2.1
  go_wp2_with fail
  refine sched_back (by rw [HF2.out]; exact ⟨k0, k1⟩) ?_
  repeat (first | (refine wpSched_free rfl ?_; intro K hK; go_big_quiet_op; go_big_quiet_on) | (refine wpSched_wantS _ rfl rfl rfl ?_; intro K hK; go_big_quiet_op; go_big_quiet_on) | (refine wpSched_skipS _ rfl rfl rfl rfl ?_; simp only [Act.put, List.setIfInBounds_toArray, List.set_cons_zero, List.set_cons_succ]) | (refine wpSched_skipU _ rfl rfl rfl ?_; simp only [Act.put, List.setIfInBounds_toArray, List.set_cons_zero, List.set_cons_succ]))
  refine wpSched_nil ?_
  refine qz_nil ?_
  have HC8 := Lib.hid (HC7.out.trans (Chg.of_gb (K := EdK g (.slice (some ad) (n + 1) c) vO) (gb_set (gb_drew (gb_refl w7 (some g))) 0 (.string TT)) (fun k hk => .inl (by simpa using hk.symm))) (fun _ h _ => h))
  have HE9 := Lib.hid (HE8.out.cutB (k := n) HLEN.out.symm (by omega) (by simp))
  have HC9 := Lib.hid (HC8.out.trans (Chg.of_gb (K := EdK g (.slice (some ad) (n + 1) c) vO) (gb_set (gb_refl _ (some g)) 1 (.slice (some ad) n c)) (fun k hk => .inl (by simpa using hk.symm))) (fun _ h _ => h))
  obtain ⟨_, p1, _, _, pf1, _, pg⟩ := HE8.out.cells
  have p1' : (w7.setCell ⟨g, 0, none⟩ (.string TT)).cell? ⟨g, 1, none⟩ = some (.slice (some ad) (n + 1) c) := p1
  have pf1' : (w7.setCell ⟨g, 0, none⟩ (.string TT)).frozen? ⟨g, 1, none⟩ = false := pf1
  clear HF2 hcell20 hcell21 hne2 c0 c1 c2 f0 f1 f2 k0 k1 hcl
  go_wp2_with fail
  go_ret
  refine ⟨rfl, .slice (some ad) n c, .slice A6 (so.length + 1) c6, ?_, HC9.out, fun k hk => .inl hk, fun k hk => ?_⟩
  · rw [HU.out]; exact HE9.out
  · exact HFR.out k hk
set_option maxRecDepth 100000 in
set_option maxHeartbeats 4000000 in
theorem edRedo4 (base g : Nat) (s : Es) (vB vO : Value) (w : World) (h : EdSt w base g s vB vO) (h0 : s.onward.length = 0) :
    Calls Tryz.prog 56 #[.pointer (some ⟨g, 0, none⟩)] w fun e w' => e = .returned (.int .i64 4) ∧ Below w.heap.size w w' := by
  obtain ⟨c0, c1, c2, f0, f1, f2, hg⟩ := h.cells
  obtain ⟨A, c, rfl, _, _, _⟩ := h.o.form
  clear h
  go_enter Tryz.func56, Tryz.ntmps56
  go_wp2_with fail
  go_ret
  exact ⟨rfl, Below.refl _ _⟩
set_option maxRecDepth 100000 in
set_option maxHeartbeats 4000000 in
theorem edRedoS (base g : Nat) (s : Es) (vB vO : Value) (w : World) (h : EdSt w base g s vB vO) (h0 : 0 < s.onward.length) (hB : base ≤ w.heap.size) (hno : s.back.length + s.onward.length ≤ 1000) :
    Calls Tryz.prog 56 #[.pointer (some ⟨g, 0, none⟩)] w fun e w' => e = .returned (.int .i64 0) ∧ ∃ vB' vO', EdSt w' base g (redoS s) vB' vO' ∧ Chg w w' (EdK g vB vO) ∧ Fresh w vB' vB vO ∧ Fresh w vO' vB vO := by
  obtain ⟨i0, hi0, hz0, hz1, hz2⟩ := info_parts info_st
  have HE := Lib.hid h
  obtain ⟨c0, c1, c2, f0, f1, f2, hg⟩ := h.cells
  obtain ⟨A, c, rfl, hnc, hcm, hrd⟩ := h.o.form
  have HRD := Lib.hid hrd
  clear h hrd
  obtain ⟨st, sb, so⟩ := s
  simp only at *
  generalize hlen : so.length = m at *
  obtain ⟨n, rfl⟩ : ∃ n, m = n + 1 := ⟨m - 1, by omega⟩
  have HLEN := Lib.hid hlen
  clear hlen
  have e1 : (((n + 1 : Nat) : Int) == 0) = false := by rw [beq_eq_false_iff_ne]; omega
  obtain ⟨ad, rfl, hab, hcl⟩ := str_cell HRD.out (show n < n + 1 by omega)
  have HCL := Lib.hid hcl
  clear hcl
  go_enter Tryz.func56, Tryz.ntmps56
  go_wp2_with fail
  obtain ⟨F1, hFd⟩ : ∃ F : World → Prop, F = fun w' => w'.cell? ⟨g, 0, none⟩ = some (.string (S st)) ∧ w'.cell? ⟨g, 1, none⟩ = some (vB) := ⟨_, rfl⟩
  have HF1 := Lib.hid hFd
  clear hFd
  have hcell10 : ∀ p' : Wof F1, p'.w.cell? ⟨g, 0, none⟩ = some (.string (S st)) := fun ⟨x, hx⟩ => by rw [HF1.out] at hx; exact hx.1
  have hcell11 : ∀ p' : Wof F1, p'.w.cell? ⟨g, 1, none⟩ = some (vB) := fun ⟨x, hx⟩ => by rw [HF1.out] at hx; exact hx.2
  refine wp_region_schedZ [(0, true), (1, true), (2, true), (3, true), (4, true), (5, true), (6, true), (7, true), (8, true), (9, false), (10, false), (11, true), (12, true)] 13 _ F1 (by kernel_rfl) (by kernel_rfl) rfl (by kernel_rfl) rfl (fun _ _ _ _ _ h => h) (by kernel_rfl) (by rw [HF1.out]; first | ((repeat' apply And.intro) <;> assumption) | trivial | (simp; done) | (simp [*]; done)) (by rw [HF1.out]; exact fun h => h) ?_
  intro hne1
  simp only [opersOf, List.getElem?_toArray, List.getElem?_cons_succ, List.getElem?_cons_zero]
  repeat (first | (refine wpSched_free rfl ?_; intro K hK; go_big_quiet_op; go_big_quiet_on) | (refine wpSched_wantS _ rfl rfl rfl ?_; intro K hK; go_big_quiet_op; go_big_quiet_on) | (refine wpSched_skipS _ rfl rfl rfl rfl ?_; simp only [Act.put, List.setIfInBounds_toArray, List.set_cons_zero, List.set_cons_succ]) | (refine wpSched_skipU _ rfl rfl rfl ?_; simp only [Act.put, List.setIfInBounds_toArray, List.set_cons_zero, List.set_cons_succ]))
  refine wpSched_other ?_
  go_wp2_with fail
  refine sched_back (by rw [HF1.out]; first | ((repeat' apply And.intro) <;> assumption) | trivial | (simp; done) | (go_simp; done) | (simp [*]; done)) ?_
  repeat (first | (refine wpSched_free rfl ?_; intro K hK; go_big_quiet_op; go_big_quiet_on) | (refine wpSched_wantS _ rfl rfl rfl ?_; intro K hK; go_big_quiet_op; go_big_quiet_on) | (refine wpSched_skipS _ rfl rfl rfl rfl ?_; simp only [Act.put, List.setIfInBounds_toArray, List.set_cons_zero, List.set_cons_succ]) | (refine wpSched_skipU _ rfl rfl rfl ?_; simp only [Act.put, List.setIfInBounds_toArray, List.set_cons_zero, List.set_cons_succ]))
  refine wpSched_other ?_
  have hO1 : ∀ o, OwnO (w.alloc o).drew base 9 1 vB sb.length (strCells sb) := fun o => HE.out.b.below (by repeat (first | exact Below.refl _ _ | assumption | refine Below.alloc ?_ (by first | exact Nat.le_refl _ | assumption | omega | (simp <;> omega)) _ | refine Below.setCell ?_ (by first | exact Nat.le_refl _ | assumption | omega | (simp <;> omega)) _ | refine Below.drew ?_ | refine below_drewN ?_ _))
  have hnw : ∀ j u, [Value.string (S st)][j]? = some u → ((w.alloc (.cells #[.string (S st)] 9)).drew).cell? (Addr.add ⟨w.heap.size, 0, none⟩ j) = some u := fun j u hj => cells_new w #[.string (S st)] 9 j u hj
  have hnb := HE.out.b.ne_blk HE.out.blk (by decide)
  go_wp2_with (at_builtin; go_must (refine wpList_appO rfl _ _ _ rfl base 9 i0 _ 1 16 Tryz.underlying25 hi0 hz0 hz1 hz2 rfl (by omega) _ sb.length (strCells sb) rfl (hO1 _) ⟨w.heap.size, 0, none⟩ 1 1 [.string (S st)] rfl rfl hnw (by simp [Value.oneCell']) (by omega) (by omega) (by simp; omega) ?_); intro v6 w6 hown6 hg6 hb6 ha6; obtain ⟨A6, c6, rfl, _, _, _⟩ := OwnO.form hown6)
  have hg6' : (w.alloc (.cells #[.string (S st)] 9)).drew.grownBy w6 vB.ownBlock := hg6
  have hgv : some g ≠ vB.ownBlock := fun e => by rcases hnb with h | h <;> rw [← e] at h <;> simp at h
  have k0 := hg6'.cell (a := ⟨g, 0, none⟩) (v := .string (S st)) ((World.cell?_alloc_lt w _ _ hg).trans c0) hgv
  have k2 := hg6'.cell (a := ⟨g, 1, none⟩) (v := vB) ((World.cell?_alloc_lt w _ _ hg).trans c1) hgv
  have HE1 : EdSt (w.alloc (.cells #[.string (S st)] 9)).drew base g ⟨st, sb, so⟩ vB (.slice (some ad) (n + 1) c) := HE.out.below (by repeat (first | exact Below.refl _ _ | assumption | refine Below.alloc ?_ (by first | exact Nat.le_refl _ | assumption | omega | (simp <;> omega)) _ | refine Below.setCell ?_ (by first | exact Nat.le_refl _ | assumption | omega | (simp <;> omega)) _ | refine Below.drew ?_ | refine below_drewN ?_ _))
  have hE7 := Lib.hid (HE1.appB hg6' hgv (by first | exact hown6 | simpa using hown6) ha6)
  have HC7 := Lib.hid (((Chg.of_below (w := w) (w' := (w.alloc (.cells #[.string (S st)] 9)).drew) (by repeat (first | exact Below.refl _ _ | assumption | refine Below.alloc ?_ (by first | exact Nat.le_refl _ | assumption | omega | (simp <;> omega)) _ | refine Below.setCell ?_ (by first | exact Nat.le_refl _ | assumption | omega | (simp <;> omega)) _ | refine Below.drew ?_ | refine below_drewN ?_ _)) (EdK g vB (.slice (some ad) (n + 1) c))).trans (Chg.of_gb (K := EdK g vB (.slice (some ad) (n + 1) c)) hg6' (fun k hk => .inr (.inl hk))) (fun _ h _ => h)).trans (Chg.of_gb (K := EdK g vB (.slice (some ad) (n + 1) c)) (gb_set (gb_refl w6 (some g)) 1 (.slice A6 (sb.length + 1) c6)) (fun k hk => .inl (by simpa using hk.symm))) (fun _ h _ => h))
  have HFR : Hid (∀ k, (Value.slice A6 (sb.length + 1) c6).ownBlock = some k → vB.ownBlock = some k ∨ (Value.slice (some ad) (n + 1) c).ownBlock = some k ∨ w.heap.size ≤ k) := fun k hk => by
    have h1 : (Value.slice A6 (sb.length + 1) c6).ownBlock = vB.ownBlock ∨ (Value.slice A6 (sb.length + 1) c6).ownBlock = some (w.alloc (.cells #[.string (S st)] 9)).drew.heap.size := ha6
    rcases h1 with h1 | h1
    · exact .inl (h1.symm.trans hk)
    · rw [hk] at h1; simp at h1; exact .inr (.inr (by omega))
  refine sched_back (by rw [HF1.out]; exact ⟨k0, k2⟩) ?_
  repeat (first | (refine wpSched_free rfl ?_; intro K hK; go_big_quiet_op; go_big_quiet_on) | (refine wpSched_wantS _ rfl rfl rfl ?_; intro K hK; go_big_quiet_op; go_big_quiet_on) | (refine wpSched_skipS _ rfl rfl rfl rfl ?_; simp only [Act.put, List.setIfInBounds_toArray, List.set_cons_zero, List.set_cons_succ]) | (refine wpSched_skipU _ rfl rfl rfl ?_; simp only [Act.put, List.setIfInBounds_toArray, List.set_cons_zero, List.set_cons_succ]))
  refine wpSched_nil ?_
  refine qz_nil ?_
  have q2f : w6.frozen? ⟨g, 1, none⟩ = false := (HE1.blk.grown hg6' hgv).frozen 1
  clear HF1 hcell10 hcell11 hne1
  go_wp2_with fail
  clear k0 k2 q2f c0 c1 c2 f0 f1 f2 hg HE HE1 HRD HCL hO1 hnw hnb hgv hown6 hg6 hg6' hb6 ha6 hab
  generalize (w6.setCell ⟨g, 1, none⟩ (.slice A6 (sb.length + 1) c6)) = w7 at *
  obtain ⟨c0, c1, c2, f0, f1, f2, hg⟩ := hE7.out.cells
  obtain ⟨ad', hadd, hab, hcl⟩ := str_cell (k := n) (by obtain ⟨A', c', hv, _, _, hr⟩ := hE7.out.o.form; injection hv with h1; subst h1; exact hr) (by show n < so.length; rw [HLEN.out]; omega)
  cases hadd
  have HU : Hid (redoS ⟨st, sb, so⟩ = ⟨so.getD n [], sb ++ [st], so.take n⟩) := by
    unfold Hid redoS; simp only [HLEN.out]; rfl
  generalize so.getD n [] = T at *
  generalize hTT : S T = TT at *
  have HTT := Lib.hid hTT
  clear hTT
  obtain ⟨F2, hFd⟩ : ∃ F : World → Prop, F = fun w' => w'.cell? ⟨g, 2, none⟩ = some (.slice (some ad) (n + 1) c) ∧ w'.cell? (ad.add n) = some (.string TT) := ⟨_, rfl⟩
  have HF2 := Lib.hid hFd
  clear hFd
  have hcell20 : ∀ p' : Wof F2, p'.w.cell? ⟨g, 2, none⟩ = some (.slice (some ad) (n + 1) c) := fun ⟨x, hx⟩ => by rw [HF2.out] at hx; exact hx.1
  have hcell21 : ∀ p' : Wof F2, p'.w.cell? (ad.add n) = some (.string TT) := fun ⟨x, hx⟩ => by rw [HF2.out] at hx; exact hx.2
  refine wp_region_schedZ [(0, true), (1, true), (2, true), (3, true), (4, true), (5, true), (6, true), (7, true), (8, true), (9, true), (10, true), (11, true), (12, true), (13, true), (14, true), (15, true), (16, true), (17, true), (18, true), (19, false), (20, true), (21, true)] 22 _ F2 (by kernel_rfl) (by kernel_rfl) rfl (by kernel_rfl) rfl (fun _ _ _ _ _ h => h) (by kernel_rfl) (by rw [HF2.out]; first | ((repeat' apply And.intro) <;> assumption) | trivial | (simp; done) | (simp [*]; done)) (by rw [HF2.out]; exact fun h => h) ?_
  intro hne2
  simp only [opersOf, List.getElem?_toArray, List.getElem?_cons_succ, List.getElem?_cons_zero]
  repeat (first | (refine wpSched_free rfl ?_; intro K hK; go_big_quiet_op; go_big_quiet_on) | (refine wpSched_wantS _ rfl rfl rfl ?_; intro K hK; go_big_quiet_op; go_big_quiet_on) | (refine wpSched_skipS _ rfl rfl rfl rfl ?_; simp only [Act.put, List.setIfInBounds_toArray, List.set_cons_zero, List.set_cons_succ]) | (refine wpSched_skipU _ rfl rfl rfl ?_; simp only [Act.put, List.setIfInBounds_toArray, List.set_cons_zero, List.set_cons_succ]))
  refine wpSched_other ?_
  have HE8 := Lib.hid ((hE7.out.below (w' := w7.drew) (by repeat (first | exact Below.refl _ _ | assumption | refine Below.alloc ?_ (by first | exact Nat.le_refl _ | assumption | omega | (simp <;> omega)) _ | refine Below.setCell ?_ (by first | exact Nat.le_refl _ | assumption | omega | (simp <;> omega)) _ | refine Below.drew ?_ | refine below_drewN ?_ _))).text_ T)
  rw [HTT.out] at HE8
  have hne : (ad.add n).block ≠ g := by
    have h1 := hE7.out.o.ne_blk hE7.out.blk (by decide)
    simp only [Value.ownBlock, reduceCtorEq, false_or] at h1
    rw [blk_add]
    intro e; exact h1 (by rw [e])
  have k1 : (w7.drew.setCell ⟨g, 0, none⟩ (.string TT)).cell? (ad.add n) = some (.string TT) := (World.cell?_setCell_other _ _ _ _ (fun e => hne (by rw [← e]))).trans hcl
  have k0 := HE8.out.cells.2.2.1
  go_wp2_with fail
  refine sched_back (by rw [HF2.out]; exact ⟨k0, k1⟩) ?_
  repeat (first | (refine wpSched_free rfl ?_; intro K hK; go_big_quiet_op; go_big_quiet_on) | (refine wpSched_wantS _ rfl rfl rfl ?_; intro K hK; go_big_quiet_op; go_big_quiet_on) | (refine wpSched_skipS _ rfl rfl rfl rfl ?_; simp only [Act.put, List.setIfInBounds_toArray, List.set_cons_zero, List.set_cons_succ]) | (refine wpSched_skipU _ rfl rfl rfl ?_; simp only [Act.put, List.setIfInBounds_toArray, List.set_cons_zero, List.set_cons_succ]))
  refine wpSched_nil ?_
  refine qz_nil ?_
  have HC8 := Lib.hid (HC7.out.trans (Chg.of_gb (K := EdK g vB (.slice (some ad) (n + 1) c)) (gb_set (gb_drew (gb_refl w7 (some g))) 0 (.string TT)) (fun k hk => .inl (by simpa using hk.symm))) (fun _ h _ => h))
  have HE9 := Lib.hid (HE8.out.cutO (k := n) HLEN.out.symm (by omega) (by simp))
  have HC9 := Lib.hid (HC8.out.trans (Chg.of_gb (K := EdK g vB (.slice (some ad) (n + 1) c)) (gb_set (gb_refl _ (some g)) 2 (.slice (some ad) n c)) (fun k hk => .inl (by simpa using hk.symm))) (fun _ h _ => h))
  obtain ⟨_, _, p1, _, _, pf1, pg⟩ := HE8.out.cells
  have p1' : (w7.setCell ⟨g, 0, none⟩ (.string TT)).cell? ⟨g, 2, none⟩ = some (.slice (some ad) (n + 1) c) := p1
  have pf1' : (w7.setCell ⟨g, 0, none⟩ (.string TT)).frozen? ⟨g, 2, none⟩ = false := pf1
  clear HF2 hcell20 hcell21 hne2 c0 c1 c2 f0 f1 f2 k0 k1 hcl
  go_wp2_with fail
  go_ret
  refine ⟨rfl, .slice A6 (sb.length + 1) c6, .slice (some ad) n c, ?_, HC9.out, fun k hk => ?_, fun k hk => .inr (.inl hk)⟩
  · rw [HU.out]; exact HE9.out
  · exact HFR.out k hk
set_option maxRecDepth 100000 in
set_option maxHeartbeats 4000000 in
theorem edDo_bad (base g : Nat) (s : Es) (vB vO : Value) (w : World) (h : EdSt w base g s vB vO) (l : List Ed) (A : Option Addr) (m c B : Nat) (hr : Rd w B 3 A m (edCells l)) (hB : B ≤ w.heap.size) (hm : m ≤ 9223372036854775807) (hs : s.text.length ≤ 200) (hE : doE s l ≠ 0) :
    Calls Tryz.prog 54 #[.pointer (some ⟨g, 0, none⟩), .slice A m c] w fun e w' => e = .returned (.int .i64 (doE s l)) ∧ Below w.heap.size w w' := by
  obtain ⟨c0, c1, c2, f0, f1, f2, hg⟩ := h.cells
  have hlen := Rd.rec_len ed_len (by omega) hr
  have HR := Lib.hid hr
  have HL := Lib.hid hlen
  have hsz : (S s.text).size = s.text.length := S_size _
  clear h hr hlen
  by_cases he : edErr s.text.length l = 0
  · have h5 : Hid (doE s l = 5 ∧ m = 0) := by
      unfold Hid
      unfold doE at hE ⊢
      rw [if_pos he] at hE ⊢
      by_cases hl : l.length = 0
      · rw [if_pos hl]; exact ⟨rfl, by have := HL.out; omega⟩
      · rw [if_neg hl] at hE; exact absurd rfl hE
    have g1 : ((m : Int) == 0) = true := by rw [h5.out.2]; rfl
    have he' : Hid (edErr (S s.text).size l = 0) := by unfold Hid; rw [hsz]; exact he
    clear hE he hsz
    go_enter Tryz.func54, Tryz.ntmps54
    go_wp2_with fail
    refine (edApply_any (S s.text) l A m c B _ HR.out hB hm (by rw [S_size]; omega)).mono ?_
    rintro e w1 ⟨rfl, hb1⟩
    rw [he'.out]
    go_wp2_with fail
    go_ret
    exact ⟨by rw [h5.out.1]; rfl, hb1⟩
  · have hd : Hid (doE s l = edErr (S s.text).size l) := by
      unfold Hid doE; rw [if_neg he, hsz]
    have g1 : (edErr (S s.text).size l != 0) = true := by rw [bne_iff_ne, hsz]; exact he
    clear hE he hsz
    go_enter Tryz.func54, Tryz.ntmps54
    go_wp2_with fail
    refine (edApply_any (S s.text) l A m c B _ HR.out hB hm (by rw [S_size]; omega)).mono ?_
    rintro e w1 ⟨rfl, hb1⟩
    generalize edErr (S s.text).size l = ee at *
    go_wp2_with fail
    go_ret
    exact ⟨by rw [hd.out]; rfl, hb1⟩
end Go.Proofs.YtplgghjdidmcfaaGreatDoor
namespace Go.Proofs.YtplgghjdidmcfaaGreatDoor
open Go.RowKit
theorem back_own {w : World} {base : Nat} {A : Option Addr} {m c k : Nat} {l : List (List UInt8)} (h : OwnO w base 9 1 (.slice A m c) l.length (strCells l)) (hm : m = l.length) (hk : k ≤ m) (hA : A ≠ none) : OwnO w base 9 1 (.slice (if c = k then A else A.map (·.add k)) (m - k) (c - k)) (l.drop k).length (strCells (l.drop k)) := by
  subst hm
  have := h.behind A c k rfl hk hA
  rw [Nat.mul_one] at this
  rw [List.length_drop, strCells, List.map_drop]
  exact this
theorem EdSt.dropB {w : World} {base g : Nat} {st : List UInt8} {sb so : List (List UInt8)} {ad : Addr} {m c k : Nat} {vO : Value} (h : EdSt w base g ⟨st, sb, so⟩ (.slice (some ad) m c) vO) (hm : m = sb.length) (hk : k ≤ m) (hc : ¬ c = k) :
    EdSt (w.setCell ⟨g, 1, none⟩ (.slice (some (ad.add k)) (m - k) (c - k))) base g ⟨st, sb.drop k, so⟩ (.slice (some (ad.add k)) (m - k) (c - k)) vO := by
  have h1 := back_own h.b hm hk (by simp)
  rw [if_neg hc] at h1
  simp only [Option.map_some] at h1
  refine ⟨h.blk.set_ 1 _, h.lo, h1.far (h1.ne_blk h.blk (by decide)) _ _, h.o.far (h.o.ne_blk h.blk (by decide)) _ _, ?_⟩
  have := h.ap
  simpa [Apart, Value.ownBlock, blk_add] using this
theorem EdSt.nilO {w : World} {base g : Nat} {st : List UInt8} {sb so : List (List UInt8)} {vB vO : Value} (h : EdSt w base g ⟨st, sb, so⟩ vB vO) : EdSt (w.setCell ⟨g, 2, none⟩ (.slice none 0 0)) base g ⟨st, sb, []⟩ vB (.slice none 0 0) :=
  ⟨h.blk.set_ 2 _, h.lo, h.b.far (h.b.ne_blk h.blk (by decide)) _ _, OwnO.nil_, (Apart.none_left _).comm⟩
set_option maxRecDepth 100000 in
set_option maxHeartbeats 8000000 in
theorem edDoS (base g : Nat) (s : Es) (vB vO : Value) (w : World) (h : EdSt w base g s vB vO) (hB0 : base ≤ w.heap.size) (hok : EsOk s) (l : List Ed) (A : Option Addr) (m c B : Nat) (hr : Rd w B 3 A m (edCells l)) (hB : B ≤ w.heap.size) (hm : m ≤ 9223372036854775807) (hE : doE s l = 0) :
    Calls Tryz.prog 54 #[.pointer (some ⟨g, 0, none⟩), .slice A m c] w fun e w' => e = .returned (.int .i64 0) ∧ ∃ vB' vO', EdSt w' base g (doS s l) vB' vO' ∧ Chg w w' (EdK g vB vO) ∧ Fresh w vB' vB vO ∧ Fresh w vO' vB vO := by
  obtain ⟨i0, hi0, hz0, hz1, hz2⟩ := info_parts info_st
  have hlen := Rd.rec_len ed_len (by omega) hr
  have HR := Lib.hid hr
  have hS : Hid (doS s l = ⟨edDone s.text l, (s.back ++ [s.text]).drop (s.back.length + 1 - 30), []⟩) := by unfold Hid doS; rw [if_pos hE]
  have he : edErr s.text.length l = 0 ∧ ¬ l.length = 0 := by
    unfold doE at hE
    by_cases he : edErr s.text.length l = 0
    · rw [if_pos he] at hE
      refine ⟨he, fun hl => ?_⟩
      rw [if_pos hl] at hE; cases hE
    · rw [if_neg he] at hE; exact absurd hE he
  obtain ⟨he1, he2⟩ := he
  have HAP : Hid (apOut (S s.text) l = S (edDone s.text l) ∧ edErr (S s.text).size l = 0) := by
    unfold Hid
    rw [S_size]
    refine ⟨?_, he1⟩
    unfold apOut
    rw [S_size, L_S, if_pos he1, edDone_is he1]
  have g1 : ((m : Int) == 0) = false := by rw [beq_eq_false_iff_ne]; omega
  have hs2 : (S s.text).size ≤ 200 := by rw [S_size]; exact hok.t
  have hnn := hok.n
  clear he1 he2 hE hr hlen hok
  have HE := Lib.hid h
  obtain ⟨c0, c1, c2, f0, f1, f2, hg⟩ := h.cells
  clear h
  obtain ⟨st, sb, so⟩ := s
  simp only at *
  go_enter Tryz.func54, Tryz.ntmps54
  go_wp2_with fail
  refine (edApply_any (S st) l A m c B _ HR.out hB hm (by omega)).mono ?_
  rintro e w1 ⟨rfl, hb1⟩
  rw [HAP.out.1, HAP.out.2]
  have HE1 := Lib.hid (HE.out.below hb1)
  have HB1 := Lib.hid hb1
  have hbs1 := hb1.size
  have hC1 := Lib.hid (Chg.of_below hb1 (EdK g vB vO))
  clear c0 c1 c2 f0 f1 f2 hg hb1 HE
  obtain ⟨c0, c1, c2, f0, f1, f2, hg⟩ := HE1.out.cells
  generalize edDone st l = T at *
  generalize hTT : S T = TT at *
  have HTT := Lib.hid hTT
  clear hTT
  go_wp2_with fail
  obtain ⟨F1, hFd⟩ : ∃ F : World → Prop, F = fun w' => w'.cell? ⟨g, 0, none⟩ = some (.string (S st)) ∧ w'.cell? ⟨g, 1, none⟩ = some (vB) := ⟨_, rfl⟩
  have HF1 := Lib.hid hFd
  clear hFd
  have hcell10 : ∀ p' : Wof F1, p'.w.cell? ⟨g, 0, none⟩ = some (.string (S st)) := fun ⟨x, hx⟩ => by rw [HF1.out] at hx; exact hx.1
  have hcell11 : ∀ p' : Wof F1, p'.w.cell? ⟨g, 1, none⟩ = some (vB) := fun ⟨x, hx⟩ => by rw [HF1.out] at hx; exact hx.2
  refine wp_region_schedZ [(0, true), (1, true), (2, true), (3, true), (4, true), (5, true), (6, true), (7, true), (8, true), (9, false), (10, false), (11, true), (12, true)] 13 _ F1 (by kernel_rfl) (by kernel_rfl) rfl (by kernel_rfl) rfl (fun _ _ _ _ _ h => h) (by kernel_rfl) (by rw [HF1.out]; first | ((repeat' apply And.intro) <;> assumption) | trivial | (simp; done) | (simp [*]; done)) (by rw [HF1.out]; exact fun h => h) ?_
  intro hne1
  simp only [opersOf, List.getElem?_toArray, List.getElem?_cons_succ, List.getElem?_cons_zero]
  repeat (first | (refine wpSched_free rfl ?_; intro K hK; go_big_quiet_op; go_big_quiet_on) | (refine wpSched_wantS _ rfl rfl rfl ?_; intro K hK; go_big_quiet_op; go_big_quiet_on) | (refine wpSched_skipS _ rfl rfl rfl rfl ?_; simp only [Act.put, List.setIfInBounds_toArray, List.set_cons_zero, List.set_cons_succ]) | (refine wpSched_skipU _ rfl rfl rfl ?_; simp only [Act.put, List.setIfInBounds_toArray, List.set_cons_zero, List.set_cons_succ]))
  refine wpSched_other ?_
  go_wp2_with fail
  refine sched_back (by rw [HF1.out]; first | ((repeat' apply And.intro) <;> assumption) | trivial | (simp; done) | (go_simp; done) | (simp [*]; done)) ?_
  repeat (first | (refine wpSched_free rfl ?_; intro K hK; go_big_quiet_op; go_big_quiet_on) | (refine wpSched_wantS _ rfl rfl rfl ?_; intro K hK; go_big_quiet_op; go_big_quiet_on) | (refine wpSched_skipS _ rfl rfl rfl rfl ?_; simp only [Act.put, List.setIfInBounds_toArray, List.set_cons_zero, List.set_cons_succ]) | (refine wpSched_skipU _ rfl rfl rfl ?_; simp only [Act.put, List.setIfInBounds_toArray, List.set_cons_zero, List.set_cons_succ]))
  refine wpSched_other ?_
  have hO1 : ∀ o, OwnO (w1.alloc o).drew base 9 1 vB sb.length (strCells sb) := fun o => HE1.out.b.below (by repeat (first | exact Below.refl _ _ | assumption | refine Below.alloc ?_ (by first | exact Nat.le_refl _ | assumption | omega | (simp <;> omega)) _ | refine Below.setCell ?_ (by first | exact Nat.le_refl _ | assumption | omega | (simp <;> omega)) _ | refine Below.drew ?_ | refine below_drewN ?_ _))
  have hnw : ∀ j u, [Value.string (S st)][j]? = some u → ((w1.alloc (.cells #[.string (S st)] 9)).drew).cell? (Addr.add ⟨w1.heap.size, 0, none⟩ j) = some u := fun j u hj => cells_new w1 #[.string (S st)] 9 j u hj
  have hnb := HE1.out.b.ne_blk HE1.out.blk (by decide)
  go_wp2_with (at_builtin; go_must (refine wpList_appO rfl _ _ _ rfl base 9 i0 _ 1 16 Tryz.underlying25 hi0 hz0 hz1 hz2 rfl (by omega) _ sb.length (strCells sb) rfl (hO1 _) ⟨w1.heap.size, 0, none⟩ 1 1 [.string (S st)] rfl rfl hnw (by simp [Value.oneCell']) (by omega) (by omega) (by simp; omega) ?_); intro v6 w6 hown6 hg6 hb6 ha6; obtain ⟨A6, c6, rfl, hnc6, hcm6, hrd6⟩ := OwnO.form hown6)
  have hg6' : (w1.alloc (.cells #[.string (S st)] 9)).drew.grownBy w6 vB.ownBlock := hg6
  have hgv : some g ≠ vB.ownBlock := fun e => by rcases hnb with h | h <;> rw [← e] at h <;> simp at h
  have k0 := hg6'.cell (a := ⟨g, 0, none⟩) (v := .string (S st)) ((World.cell?_alloc_lt w1 _ _ hg).trans c0) hgv
  have k1 := hg6'.cell (a := ⟨g, 1, none⟩) (v := vB) ((World.cell?_alloc_lt w1 _ _ hg).trans c1) hgv
  have HE2 : EdSt (w1.alloc (.cells #[.string (S st)] 9)).drew base g ⟨st, sb, so⟩ vB vO := HE1.out.below (by repeat (first | exact Below.refl _ _ | assumption | refine Below.alloc ?_ (by first | exact Nat.le_refl _ | assumption | omega | (simp <;> omega)) _ | refine Below.setCell ?_ (by first | exact Nat.le_refl _ | assumption | omega | (simp <;> omega)) _ | refine Below.drew ?_ | refine below_drewN ?_ _))
  obtain ⟨ad, rfl, hab, _⟩ := hrd6.2 (by omega)
  have hE7 := Lib.hid (HE2.appB hg6' hgv (by first | exact hown6 | simpa using hown6) ha6)
  have HC7 := Lib.hid (((hC1.out.trans (Chg.of_below (w := w1) (w' := (w1.alloc (.cells #[.string (S st)] 9)).drew) (by repeat (first | exact Below.refl _ _ | assumption | refine Below.alloc ?_ (by first | exact Nat.le_refl _ | assumption | omega | (simp <;> omega)) _ | refine Below.setCell ?_ (by first | exact Nat.le_refl _ | assumption | omega | (simp <;> omega)) _ | refine Below.drew ?_ | refine below_drewN ?_ _)) (EdK g vB vO)) (fun _ h _ => h)).trans (Chg.of_gb (K := EdK g vB vO) hg6' (fun k hk => .inr (.inl hk))) (fun _ h _ => h)).trans (Chg.of_gb (K := EdK g vB vO) (gb_set (gb_refl w6 (some g)) 1 (.slice (some ad) (sb.length + 1) c6)) (fun k hk => .inl (by simpa using hk.symm))) (fun _ h _ => h))
  have HFR : Hid (∀ k, some ad.block = some k → vB.ownBlock = some k ∨ vO.ownBlock = some k ∨ w.heap.size ≤ k) := fun k hk => by
    have h1 : some ad.block = vB.ownBlock ∨ some ad.block = some (w1.alloc (.cells #[.string (S st)] 9)).drew.heap.size := ha6
    rcases h1 with h1 | h1
    · exact .inl (h1.symm.trans hk)
    · rw [hk] at h1; simp at h1; exact .inr (.inr (by omega))
  refine sched_back (by rw [HF1.out]; exact ⟨k0, k1⟩) ?_
  repeat (first | (refine wpSched_free rfl ?_; intro K hK; go_big_quiet_op; go_big_quiet_on) | (refine wpSched_wantS _ rfl rfl rfl ?_; intro K hK; go_big_quiet_op; go_big_quiet_on) | (refine wpSched_skipS _ rfl rfl rfl rfl ?_; simp only [Act.put, List.setIfInBounds_toArray, List.set_cons_zero, List.set_cons_succ]) | (refine wpSched_skipU _ rfl rfl rfl ?_; simp only [Act.put, List.setIfInBounds_toArray, List.set_cons_zero, List.set_cons_succ]))
  refine wpSched_nil ?_
  refine qz_nil ?_
  have q1f : w6.frozen? ⟨g, 1, none⟩ = false := (HE2.blk.grown hg6' hgv).frozen 1
  clear HF1 hcell10 hcell11 hne1
  obtain ⟨p0, p1, p2, pf0, pf1, pf2, pg⟩ := hE7.out.cells
  by_cases h30 : 30 < sb.length + 1
  · have g2 : decide ((30 : Int) < (sb.length : Int) + 1) = true := decide_eq_true (by omega)
    go_wp2_with fail
    go_ret
    have HE8 := (hE7.out.dropB (k := 1) (by simp) (by omega) (by omega))
    have HE9 := (HE8.text_ T).nilO
    have HC9 := ((HC7.out.trans (Chg.of_gb (K := EdK g vB vO) (gb_set (gb_refl _ (some g)) 1 (.slice (some (ad.add 1)) (sb.length + 1 - 1) (c6 - 1))) (fun k hk => .inl (by simpa using hk.symm))) (fun _ h _ => h)).trans (Chg.of_gb (K := EdK g vB vO) (gb_set (gb_refl _ (some g)) 0 (.string (S T))) (fun k hk => .inl (by simpa using hk.symm))) (fun _ h _ => h)).trans (Chg.of_gb (K := EdK g vB vO) (gb_set (gb_refl _ (some g)) 2 (.slice none 0 0)) (fun k hk => .inl (by simpa using hk.symm))) (fun _ h _ => h)
    rw [HTT.out] at HE9 HC9
    have e30 : sb.length + 1 - 30 = 1 := by omega
    rw [hS.out, e30]
    exact ⟨rfl, _, _, HE9, HC9, fun k hk => HFR.out k (by simpa [Value.ownBlock, blk_add] using hk), fun k hk => by simp [Value.ownBlock] at hk⟩
  · have g2 : decide ((30 : Int) < (sb.length : Int) + 1) = false := decide_eq_false (by omega)
    go_wp2_with fail
    go_ret
    have HE9 := (hE7.out.text_ T).nilO
    have HC9 := (HC7.out.trans (Chg.of_gb (K := EdK g vB vO) (gb_set (gb_refl _ (some g)) 0 (.string (S T))) (fun k hk => .inl (by simpa using hk.symm))) (fun _ h _ => h)).trans (Chg.of_gb (K := EdK g vB vO) (gb_set (gb_refl _ (some g)) 2 (.slice none 0 0)) (fun k hk => .inl (by simpa using hk.symm))) (fun _ h _ => h)
    rw [HTT.out] at HE9 HC9
    have e30 : sb.length + 1 - 30 = 0 := by omega
    rw [hS.out, e30, List.drop_zero]
    exact ⟨rfl, _, _, HE9, HC9, fun k hk => HFR.out k hk, fun k hk => by simp [Value.ownBlock] at hk⟩
end Go.Proofs.YtplgghjdidmcfaaGreatDoor
namespace Go.Proofs.YtplgghjdidmcfaaGreatDoor
/-- The n lowest bits of x, the highest first. -/
def bw (x : Nat) : Nat → List UInt8
  | 0 => []
  | n + 1 => UInt8.ofNat (48 + x / 2 ^ n % 2) :: bw x n
theorem bw_len (x n : Nat) : (bw x n).length = n := by
  induction n with
  | zero => rfl
  | succ n ih => simp [bw, ih]
theorem mod_succ (x n : Nat) : x % 2 ^ (n + 1) = x / 2 ^ n % 2 * 2 ^ n + x % 2 ^ n := by
  rw [Nat.pow_succ, Nat.mod_mul, Nat.mul_comm]; omega
theorem bw_less (n m x y : Nat) (h : m ≤ n) : (!Op.bytesLess (bw y m) (bw x n) || (bw y m).isPrefixOf (bw x n)) = decide (x % 2 ^ n / 2 ^ (n - m) ≤ y % 2 ^ m) := by
  induction m generalizing n with
  | zero =>
    have h0 : x % 2 ^ n / 2 ^ (n - 0) = 0 := Nat.div_eq_of_lt (Nat.mod_lt _ (Nat.two_pow_pos _))
    rw [h0]; simp [bw]
  | succ m ih =>
    obtain ⟨n, rfl⟩ : ∃ k, n = k + 1 := ⟨n - 1, by omega⟩
    have ih := ih n (by omega)
    have e1 : n + 1 - (m + 1) = n - m := by omega
    have e2 : x % 2 ^ (n + 1) / 2 ^ (n - m) = x / 2 ^ n % 2 * 2 ^ m + x % 2 ^ n / 2 ^ (n - m) := by
      rw [mod_succ]
      have : (2 : Nat) ^ n = 2 ^ m * 2 ^ (n - m) := by rw [← Nat.pow_add]; congr 1; omega
      have e3 : x / 2 ^ n % 2 * 2 ^ n = 2 ^ (n - m) * (x / 2 ^ n % 2 * 2 ^ m) := by
        rw [this, Nat.mul_comm (2 ^ (n - m)), Nat.mul_assoc]
      rw [e3, Nat.mul_add_div (Nat.two_pow_pos _)]
    rw [e1, e2, mod_succ y m]
    have hx : x / 2 ^ n % 2 < 2 := Nat.mod_lt _ (by omega)
    have hy : y / 2 ^ m % 2 < 2 := Nat.mod_lt _ (by omega)
    have hb : y % 2 ^ m < 2 ^ m := Nat.mod_lt _ (Nat.two_pow_pos _)
    have hd : x % 2 ^ n / 2 ^ (n - m) < 2 ^ m := by
      rw [Nat.div_lt_iff_lt_mul (Nat.two_pow_pos _), ← Nat.pow_add, show m + (n - m) = n by omega]
      exact Nat.mod_lt _ (Nat.two_pow_pos _)
    simp only [bw]
    generalize x % 2 ^ n / 2 ^ (n - m) = X at *
    generalize y % 2 ^ m = Y at *
    generalize (2 : Nat) ^ m = M at *
    generalize x / 2 ^ n % 2 = bx at *
    generalize y / M % 2 = by_ at *
    have d1 : ¬ (48 : UInt8) < 48 := by decide
    have d2 : ¬ (49 : UInt8) < 49 := by decide
    have d3 : (48 : UInt8) < 49 := by decide
    have d4 : ¬ (49 : UInt8) < 48 := by decide
    rcases (by omega : bx = 0 ∨ bx = 1) with rfl | rfl <;> rcases (by omega : by_ = 0 ∨ by_ = 1) with rfl | rfl <;> simp [Op.bytesLess, List.isPrefixOf]
    · simpa using ih
    · omega
    · omega
    · simpa using ih
/-- The words so far end at e; x is the first that may be. -/
theorem code_ok {n m x y e : Nat} (h : m ≤ n) (hn : n ≤ 12) (hx : x < 2 ^ n) (hy : y < 2 ^ m) (he : (y + 1) * 2 ^ (12 - m) = e) :
    (!Op.bytesLess (bw y m) (bw x n) || (bw y m).isPrefixOf (bw x n)) = decide (x * 2 ^ (12 - n) < e) := by
  rw [bw_less n m x y h, Nat.mod_eq_of_lt hx, Nat.mod_eq_of_lt hy, Bool.eq_iff_iff, decide_eq_true_iff, decide_eq_true_iff, ← he, ← Nat.lt_succ_iff, Nat.div_lt_iff_lt_mul (Nat.two_pow_pos _)]
  have : (2 : Nat) ^ (12 - m) = 2 ^ (n - m) * 2 ^ (12 - n) := by rw [← Nat.pow_add]; congr 1; omega
  rw [this, ← Nat.mul_assoc]
  exact (Nat.mul_lt_mul_right (Nat.two_pow_pos _)).symm
end Go.Proofs.YtplgghjdidmcfaaGreatDoor
