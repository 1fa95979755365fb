/- The closure of code.Sole that adds what has not been seen. -/
import Derived.Test.YtmmamdjbbpeifaaDoorSole0
import Derived.Test.YtmmamdjbbpeifaaDoorCdpA
import Derived.Test.YtmmamdjbbpeifaaDoorApp
import Derived.Test.YtmmamdjbbpeifaaDoorSchedT
namespace Go.Proofs.YtmmamdjbbpeifaaDoor
open Go.RowKit
theorem one_newsS {w : World} {b : Nat} {v : Value} (h : w.cell? ⟨b, 0, none⟩ = some v) : ∀ (j : Nat) u, [v][j]? = some u → w.cell? (Addr.add ⟨b, 0, none⟩ j) = some u
  | 0, u, hj => by
    have : v = u := by simpa using hj
    subst this; exact h
  | j + 1, u, hj => by simp at hj
theorem some_ne {v : Value} {g : Nat} (h : v.ownBlock = none ∨ v.ownBlock ≠ some g) : some g ≠ v.ownBlock := fun e => by
  rcases h with h | h
  · rw [h] at e; cases e
  · exact h e.symm
/-- Two rows of strings, and two boxes that may hold older ones. -/
structure TwoS (w : World) (base gA gB : Nat) (ca cb va vb : Value) (la lb : List (List UInt8)) : Prop where
  a : Blk w gA 36 #[ca]
  b : Blk w gB 36 #[cb]
  ra : OwnO w base 9 1 va la.length (strCells la)
  rb : OwnO w base 9 1 vb lb.length (strCells lb)
  ap : Apart va vb
  ga : base ≤ gA
  gb : base ≤ gB
  ne : gA ≠ gB
section
variable {w w' : World} {base gA gB g : Nat} {ca cb va vb v6 v u : Value} {la lb l : List (List UInt8)} {x : List UInt8}
theorem TwoS.sw (h : TwoS w base gA gB ca cb va vb la lb) : TwoS w base gB gA cb ca vb va lb la := ⟨h.b, h.a, h.rb, h.ra, h.ap.comm, h.gb, h.ga, h.ne.symm⟩
theorem TwoS.below (h : TwoS w base gA gB ca cb va vb la lb) (hb : Below w.heap.size w w') : TwoS w' base gA gB ca cb va vb la lb := ⟨h.a.below' hb, h.b.below' hb, h.ra.below hb, h.rb.below hb, h.ap, h.ga, h.gb, h.ne⟩
theorem apartN (h : OwnO w base 9 1 v l.length (strCells l)) (ha : Apart v u) (hu : v6.ownBlock = u.ownBlock ∨ v6.ownBlock = some w.heap.size) : Apart v v6 := by
  rcases hu with hu | hu
  · rcases ha with ha | ha
    · exact .inl ha
    · exact .inr (by rw [hu]; exact ha)
  · cases hv : v.ownBlock with
    | none => exact .inl hv
    | some g =>
      refine .inr ?_
      rw [hv, hu]
      intro e
      have := (h.lt g hv).2
      simp only [Option.some.injEq] at e
      omega
theorem TwoS.growA (h : TwoS w base gA gB ca cb va vb la lb) (hg : w.grownBy w' va.ownBlock) (hown : OwnO w' base 9 1 v6 (la.length + 1) (strCells la ++ [.string (S x)])) (ha : v6.ownBlock = va.ownBlock ∨ v6.ownBlock = some w.heap.size) :
    TwoS w' base gA gB ca cb v6 vb (la ++ [x]) lb := by
  have hA : Blk w' gA 36 #[ca] := h.a.grown hg (some_ne (h.ra.ne_blk h.a (by decide)))
  have hB : Blk w' gB 36 #[cb] := h.b.grown hg (some_ne (h.ra.ne_blk h.b (by decide)))
  have ho : OwnO w' base 9 1 v6 (la ++ [x]).length (strCells (la ++ [x])) := by
    rw [List.length_append, strCells, List.map_append]; exact hown
  exact ⟨hA, hB, ho, h.rb.kept hg h.ap.comm, (apartN h.rb h.ap.comm ha).comm, h.ga, h.gb, h.ne⟩
theorem OwnO.farS (h : OwnO w base 9 1 v l.length (strCells l)) (hg : v.ownBlock = none ∨ v.ownBlock ≠ some g) (i : Nat) (u : Value) : OwnO (w.setCell ⟨g, i, none⟩ u) base 9 1 v l.length (strCells l) := h.kept (gb_set (gb_refl _ _) i u) hg
theorem TwoS.setA (h : TwoS w base gA gB ca cb va vb la lb) (u : Value) : TwoS (w.setCell ⟨gA, 0, none⟩ u) base gA gB u cb va vb la lb :=
  ⟨h.a.set_ 0 u, h.b.far (p := ⟨gA, 0, none⟩) h.ne.symm u, h.ra.farS (h.ra.ne_blk h.a (by decide)) 0 u, h.rb.farS (h.rb.ne_blk h.a (by decide)) 0 u, h.ap, h.ga, h.gb, h.ne⟩
theorem TwoS.cells (h : TwoS w base gA gB ca cb va vb la lb) : w.cell? ⟨gA, 0, none⟩ = some ca ∧ w.cell? ⟨gB, 0, none⟩ = some cb := ⟨Blk.cell0 h.a, Blk.cell0 h.b⟩
theorem grown_cellS {b : Nat} (hg : w.grownBy w' v.ownBlock) (h : w.cell? ⟨b, 0, none⟩ = some u) (hb : ∀ k, v.ownBlock = some k → k ≠ b) : w'.cell? ⟨b, 0, none⟩ = some u :=
  World.grownBy.cell (w := w) (a := ⟨b, 0, none⟩) (v := u) hg h (fun e => hb b e.symm rfl)
end
def addT (S T : List (List UInt8)) (x : List UInt8) : List (List UInt8) := if x ∈ S then T else T ++ [x]
set_option maxRecDepth 100000 in
set_option maxHeartbeats 16000000 in
theorem soleAdd_any (base g5 g6 : Nat) (S0 T0 : List (List UInt8)) (vS vT : Value) (x : ByteArray) (w : World) (h : TwoS w base g5 g6 vS vT vS vT S0 T0) (hbase : base ≤ w.heap.size) (hS : S0.length ≤ 200) (hT : T0.length ≤ 200) :
    Calls Tryd.prog 35 #[.string x, .pointer (some ⟨g5, 0, none⟩), .pointer (some ⟨g6, 0, none⟩)] w fun e w' => e = .returned (.tuple #[]) ∧ ∃ vS' vT', TwoS w' base g5 g6 vS' vT' vS' vT' (addS S0 (L x)) (addT S0 T0 (L x)) ∧ Below base w w' := by
  obtain ⟨i0, hi0, hz0, hz1, hz2⟩ := info_parts info_str
  obtain ⟨AS, cS, rfl, hnS, hcS, hrS⟩ := h.ra.form
  have HC := contains_str AS S0.length cS w.heap.size S0 x w hrS (by omega)
  have HG := Lib.hid h
  obtain ⟨c0, c1⟩ := h.cells
  clear h hrS
  by_cases hin : L x ∈ S0
  · rw [decide_eq_true hin] at HC
    have HC := Lib.hid HC
    have HAD : Hid (addS S0 (L x) = S0) := by unfold Hid addS; rw [if_pos hin]
    have HTD : Hid (addT S0 T0 (L x) = T0) := by unfold Hid addT; rw [if_pos hin]
    clear hin
    go_enter Tryd.func35, Tryd.ntmps35
    go_wp2_with fail
    refine HC.out.mono ?_
    rintro e w1 ⟨rfl, rfl⟩
    go_wp2_with fail
    go_end0
    exact ⟨rfl, _, _, by rw [HAD.out, HTD.out]; exact HG.out, Below.refl _ _⟩
  · rw [decide_eq_false hin] at HC
    have HC := Lib.hid HC
    have HAD : Hid (addS S0 (L x) = S0 ++ [L x]) := by unfold Hid addS; rw [if_neg hin]
    have HTD : Hid (addT S0 T0 (L x) = T0 ++ [L x]) := by unfold Hid addT; rw [if_neg hin]
    have HSX : Hid (S (L x) = x) := S_L x
    have HVA := Lib.hid (fun j hj => (HG.out.ra.lt j hj).2)
    have HVB := Lib.hid (fun j hj => (HG.out.rb.lt j hj).2)
    clear hin
    have hl0 := Blk.lt HG.out.a
    have hl1 := Blk.lt HG.out.b
    go_enter Tryd.func35, Tryd.ntmps35
    go_wp2_with fail
    refine HC.out.mono ?_
    rintro e w1 ⟨rfl, rfl⟩
    go_wp2_with fail
    generalize Value.slice AS S0.length cS = va at *
    obtain ⟨F1, hFd⟩ : ∃ F : World → Prop, F = fun w' => w'.cell? ⟨g5, 0, none⟩ = some (va) ∧ w'.cell? ⟨g6, 0, none⟩ = some (vT) := ⟨_, rfl⟩
    have HF1 := Lib.hid hFd
    clear hFd
    have hcell10 : ∀ p' : Wof F1, p'.w.cell? ⟨g5, 0, none⟩ = some (va) := fun ⟨x, hx⟩ => by rw [HF1.out] at hx; exact hx.1
    have hcell11 : ∀ p' : Wof F1, p'.w.cell? ⟨g6, 0, none⟩ = some (vT) := fun ⟨x, hx⟩ => by rw [HF1.out] at hx; exact hx.2
    refine wp_region_schedT (.op 0 true (.op 1 true (.op 4 true (.op 5 true (.fork 2 6 (.fork 3 6 (.op 6 false (.op 7 false .nil)) (.op 3 false (.op 7 false .nil))) (.op 2 false (.op 3 false (.op 7 false .nil)))))))) 8 8 [9] F1 (by kernel_rfl) (by kernel_rfl) (by kernel_rfl) rfl (fun _ _ _ _ _ h => h) (by kernel_rfl) (by rw [HF1.out]; first | trivial | (repeat' apply And.intro) <;> assumption | (simp; done) | (simp [*]; done)) (by rw [HF1.out]; exact fun h => h) ?_
    intro hne1
    simp only [opersT, opsAt, List.getElem?_toArray, List.getElem?_cons_succ, List.getElem?_cons_zero]
    repeat (first | (refine wpT_free rfl ?_; intro K hK; go_big_quiet_op; go_big_quiet_on) | (refine wpT_wantS _ rfl rfl rfl ?_; intro K hK; go_big_quiet_op; go_big_quiet_on) | (refine wpT_skipS _ rfl rfl rfl rfl ?_; simp only [Act.put, List.setIfInBounds_toArray, List.set_cons_zero, List.set_cons_succ]) | (refine wpT_skipU _ rfl rfl rfl ?_; simp only [Act.put, List.setIfInBounds_toArray, List.set_cons_zero, List.set_cons_succ]))
    refine wpT_fork ?_ ?_
    · -- the first row's string is made first
      go_wp2_with fail
      have HG1 : Hid (TwoS ((w1.alloc (.cells #[.string x] 9)).drew) base g5 g6 va vT va vT S0 T0) := HG.out.below (by repeat (first | exact Below.refl _ _ | assumption | refine Below.alloc ?_ (by first | exact Nat.le_refl _ | assumption | omega | (simp <;> omega)) _ | refine Below.setCell ?_ (by first | exact Nat.le_refl _ | assumption | omega | (simp <;> omega)) _ | refine Below.drew ?_ | refine below_drewN ?_ _))
      have hB1 : Below base w1 ((w1.alloc (.cells #[.string x] 9)).drew) := (by repeat (first | exact Below.refl _ _ | assumption | refine Below.alloc ?_ (by first | exact Nat.le_refl _ | assumption | omega | (simp <;> omega)) _ | refine Below.setCell ?_ (by first | exact Nat.le_refl _ | assumption | omega | (simp <;> omega)) _ | refine Below.drew ?_ | refine below_drewN ?_ _))
      refine sched_back (by rw [HF1.out]; exact HG1.out.cells) ?_
      repeat (first | (refine wpT_free rfl ?_; intro K hK; go_big_quiet_op; go_big_quiet_on) | (refine wpT_wantS _ rfl rfl rfl ?_; intro K hK; go_big_quiet_op; go_big_quiet_on) | (refine wpT_skipS _ rfl rfl rfl rfl ?_; simp only [Act.put, List.setIfInBounds_toArray, List.set_cons_zero, List.set_cons_succ]) | (refine wpT_skipU _ rfl rfl rfl ?_; simp only [Act.put, List.setIfInBounds_toArray, List.set_cons_zero, List.set_cons_succ]))
      refine wpT_fork ?_ ?_
      · have n1 : ((w1.alloc (.cells #[.string x] 9)).drew).cell? ⟨w1.heap.size, 0, none⟩ = some (.string x) := Blk.cell0 (Blk.drew (Blk.new_ w1 _ _))
        go_wp2_with (at_builtin; go_must (refine wpList_appO rfl _ _ _ rfl base 9 i0 _ 1 16 Tryd.underlying36 hi0 hz0 hz1 hz2 rfl (by omega) _ S0.length (strCells S0) rfl HG1.out.ra ⟨w1.heap.size, 0, none⟩ 1 1 [.string (x)] rfl rfl (one_newsS n1) (by simp [Value.oneCell']) (by omega) (by omega) (by first | omega | (simp; omega)) ?_); intro v6 w6 hown6 hg6 hb6 ha6; obtain ⟨A6, c6, hv6, _, _, _⟩ := OwnO.form hown6; subst hv6)
        have HG2 := Lib.hid (HG1.out.growA (x := L x) hg6 (by rw [HSX.out]; exact hown6) ha6)
        have hB2 := hB1.trans hb6
        have hs2 := hB2.size
        clear hg6 hb6 ha6 hown6 n1
        refine sched_back (by rw [HF1.out]; exact HG2.out.cells) ?_
        repeat (first | (refine wpT_free rfl ?_; intro K hK; go_big_quiet_op; go_big_quiet_on) | (refine wpT_wantS _ rfl rfl rfl ?_; intro K hK; go_big_quiet_op; go_big_quiet_on) | (refine wpT_skipS _ rfl rfl rfl rfl ?_; simp only [Act.put, List.setIfInBounds_toArray, List.set_cons_zero, List.set_cons_succ]) | (refine wpT_skipU _ rfl rfl rfl ?_; simp only [Act.put, List.setIfInBounds_toArray, List.set_cons_zero, List.set_cons_succ]))
        refine wpT_other ?_
        go_wp2_with fail
        have HG3 : Hid (TwoS (w6.alloc (.cells #[.string x] 9)) base g5 g6 va vT (.slice A6 (S0.length + 1) c6) vT (S0 ++ [L x]) T0) := HG2.out.below (by repeat (first | exact Below.refl _ _ | assumption | refine Below.alloc ?_ (by first | exact Nat.le_refl _ | assumption | omega | (simp <;> omega)) _ | refine Below.setCell ?_ (by first | exact Nat.le_refl _ | assumption | omega | (simp <;> omega)) _ | refine Below.drew ?_ | refine below_drewN ?_ _))
        have hw6s : base ≤ w6.heap.size := Nat.le_trans hbase hs2
        have hB3 : Below base w1 (w6.alloc (.cells #[.string x] 9)) := (by repeat (first | exact Below.refl _ _ | assumption | refine Below.alloc ?_ (by first | exact Nat.le_refl _ | assumption | omega | (simp <;> omega)) _ | refine Below.setCell ?_ (by first | exact Nat.le_refl _ | assumption | omega | (simp <;> omega)) _ | refine Below.drew ?_ | refine below_drewN ?_ _))
        refine sched_back (by rw [HF1.out]; exact HG3.out.cells) ?_
        repeat (first | (refine wpT_free rfl ?_; intro K hK; go_big_quiet_op; go_big_quiet_on) | (refine wpT_wantS _ rfl rfl rfl ?_; intro K hK; go_big_quiet_op; go_big_quiet_on) | (refine wpT_skipS _ rfl rfl rfl rfl ?_; simp only [Act.put, List.setIfInBounds_toArray, List.set_cons_zero, List.set_cons_succ]) | (refine wpT_skipU _ rfl rfl rfl ?_; simp only [Act.put, List.setIfInBounds_toArray, List.set_cons_zero, List.set_cons_succ]))
        refine wpT_other ?_
        have n2 : (w6.alloc (.cells #[.string x] 9)).cell? ⟨w6.heap.size, 0, none⟩ = some (.string x) := Blk.cell0 (Blk.new_ w6 _ _)
        generalize A6 = A5 at *
        generalize c6 = c5 at *
        go_wp2_with (at_builtin; go_must (refine wpList_appO rfl _ _ _ rfl base 9 i0 _ 1 16 Tryd.underlying36 hi0 hz0 hz1 hz2 rfl (by omega) _ T0.length (strCells T0) rfl HG3.out.rb ⟨w6.heap.size, 0, none⟩ 1 1 [.string (x)] rfl rfl (one_newsS n2) (by simp [Value.oneCell']) (by omega) (by omega) (by first | omega | (simp; omega)) ?_); intro v9 w9 hown9 hg6 hb6 ha6; obtain ⟨A6, c6, hv6, _, _, _⟩ := OwnO.form hown9; subst hv6)
        have HGF := Lib.hid ((HG3.out.sw.growA (x := L x) hg6 (by rw [HSX.out]; exact hown9) ha6).sw)
        have hB9 := hB3.trans hb6
        clear hg6 hb6 ha6 hown9 n2 HG1 HG2 HG3 hB1 hB2 hB3 c0 c1
        refine sched_back (by rw [HF1.out]; exact HGF.out.cells) ?_
        have hQ := Lib.hid ((HGF.out.setA (.slice A5 (S0.length + 1) c5)).sw.setA (.slice A6 (T0.length + 1) c6))
        have hbF1 : Below base w1 (w9.setCell ⟨g5, 0, none⟩ ((.slice A5 (S0.length + 1) c5))) := Below.setCell hB9 (p := ⟨g5, 0, none⟩) HGF.out.ga _
        have hbF : Below base w1 ((w9.setCell ⟨g5, 0, none⟩ ((.slice A5 (S0.length + 1) c5))).setCell ⟨g6, 0, none⟩ ((.slice A6 (T0.length + 1) c6))) := Below.setCell hbF1 (p := ⟨g6, 0, none⟩) HGF.out.gb _
        obtain ⟨t0, t1⟩ := HGF.out.cells
        have e0 := Blk.frozen HGF.out.a 0
        have e1 := Blk.frozen ((HGF.out.setA (.slice A5 (S0.length + 1) c5)).b) 0
        have t2 := Blk.cell0 ((HGF.out.setA (.slice A5 (S0.length + 1) c5)).b)
        refine wpT_nil ?_
        refine wpTail_cons ?_
        go_wp2_with fail
        refine tail_back ?_
        refine wpTail_cons ?_
        go_wp2_with fail
        refine tail_back ?_
        refine wpTail_nil ?_
        clear t0 t1 e0 e1 t2
        go_wp2_with fail
        go_end0
        exact ⟨rfl, (.slice A5 (S0.length + 1) c5), (.slice A6 (T0.length + 1) c6), by rw [HAD.out, HTD.out]; exact hQ.out.sw, hbF⟩
      · go_wp2_with fail
        have HG2 : Hid (TwoS (((w1.alloc (.cells #[.string x] 9)).alloc (.cells #[.string x] 9)).drew) base g5 g6 va vT va vT S0 T0) := HG.out.below (by repeat (first | exact Below.refl _ _ | assumption | refine Below.alloc ?_ (by first | exact Nat.le_refl _ | assumption | omega | (simp <;> omega)) _ | refine Below.setCell ?_ (by first | exact Nat.le_refl _ | assumption | omega | (simp <;> omega)) _ | refine Below.drew ?_ | refine below_drewN ?_ _))
        have hB2 : Below base w1 (((w1.alloc (.cells #[.string x] 9)).alloc (.cells #[.string x] 9)).drew) := (by repeat (first | exact Below.refl _ _ | assumption | refine Below.alloc ?_ (by first | exact Nat.le_refl _ | assumption | omega | (simp <;> omega)) _ | refine Below.setCell ?_ (by first | exact Nat.le_refl _ | assumption | omega | (simp <;> omega)) _ | refine Below.drew ?_ | refine below_drewN ?_ _))
        refine sched_back (by rw [HF1.out]; exact HG2.out.cells) ?_
        repeat (first | (refine wpT_free rfl ?_; intro K hK; go_big_quiet_op; go_big_quiet_on) | (refine wpT_wantS _ rfl rfl rfl ?_; intro K hK; go_big_quiet_op; go_big_quiet_on) | (refine wpT_skipS _ rfl rfl rfl rfl ?_; simp only [Act.put, List.setIfInBounds_toArray, List.set_cons_zero, List.set_cons_succ]) | (refine wpT_skipU _ rfl rfl rfl ?_; simp only [Act.put, List.setIfInBounds_toArray, List.set_cons_zero, List.set_cons_succ]))
        refine wpT_other ?_
        have n1 : (((w1.alloc (.cells #[.string x] 9)).alloc (.cells #[.string x] 9)).drew).cell? ⟨w1.heap.size, 0, none⟩ = some (.string x) := Blk.cell0 (Blk.drew (Blk.alloc (Blk.new_ w1 _ _) _))
        have n2 : (((w1.alloc (.cells #[.string x] 9)).alloc (.cells #[.string x] 9)).drew).cell? ⟨w1.heap.size + 1, 0, none⟩ = some (.string x) := by
          have h9 := Blk.new_ (w1.alloc (.cells #[.string x] 9)) 9 #[.string x]
          rw [World.size_alloc] at h9
          exact Blk.cell0 (Blk.drew h9)
        go_wp2_with (at_builtin; go_must (refine wpList_appO rfl _ _ _ rfl base 9 i0 _ 1 16 Tryd.underlying36 hi0 hz0 hz1 hz2 rfl (by omega) _ S0.length (strCells S0) rfl HG2.out.ra ⟨w1.heap.size, 0, none⟩ 1 1 [.string (x)] rfl rfl (one_newsS n1) (by simp [Value.oneCell']) (by omega) (by omega) (by first | omega | (simp; omega)) ?_); intro v6 w6 hown6 hg6 hb6 ha6; obtain ⟨A6, c6, hv6, _, _, _⟩ := OwnO.form hown6; subst hv6)
        have n3 := grown_cellS hg6 n2 (fun j hj => by have := HVA.out j hj; omega)
        have HG3 := Lib.hid (HG2.out.growA (x := L x) hg6 (by rw [HSX.out]; exact hown6) ha6)
        have hB3 := hB2.trans hb6
        have hs2 := hB3.size
        have hw6s : base ≤ w6.heap.size := Nat.le_trans hbase hs2
        clear hg6 hb6 ha6 hown6 n1 n2
        refine sched_back (by rw [HF1.out]; exact HG3.out.cells) ?_
        repeat (first | (refine wpT_free rfl ?_; intro K hK; go_big_quiet_op; go_big_quiet_on) | (refine wpT_wantS _ rfl rfl rfl ?_; intro K hK; go_big_quiet_op; go_big_quiet_on) | (refine wpT_skipS _ rfl rfl rfl rfl ?_; simp only [Act.put, List.setIfInBounds_toArray, List.set_cons_zero, List.set_cons_succ]) | (refine wpT_skipU _ rfl rfl rfl ?_; simp only [Act.put, List.setIfInBounds_toArray, List.set_cons_zero, List.set_cons_succ]))
        refine wpT_other ?_
        generalize A6 = A5 at *
        generalize c6 = c5 at *
        go_wp2_with (at_builtin; go_must (refine wpList_appO rfl _ _ _ rfl base 9 i0 _ 1 16 Tryd.underlying36 hi0 hz0 hz1 hz2 rfl (by omega) _ T0.length (strCells T0) rfl HG3.out.rb ⟨w1.heap.size + 1, 0, none⟩ 1 1 [.string (x)] rfl rfl (one_newsS n3) (by simp [Value.oneCell']) (by omega) (by omega) (by first | omega | (simp; omega)) ?_); intro v9 w9 hown9 hg6 hb6 ha6; obtain ⟨A6, c6, hv6, _, _, _⟩ := OwnO.form hown9; subst hv6)
        have HGF := Lib.hid ((HG3.out.sw.growA (x := L x) hg6 (by rw [HSX.out]; exact hown9) ha6).sw)
        have hB9 := hB3.trans hb6
        clear hg6 hb6 ha6 hown9 n3 HG2 HG3 hB2 hB3 c0 c1
        refine sched_back (by rw [HF1.out]; exact HGF.out.cells) ?_
        have hQ := Lib.hid ((HGF.out.setA (.slice A5 (S0.length + 1) c5)).sw.setA (.slice A6 (T0.length + 1) c6))
        have hbF1 : Below base w1 (w9.setCell ⟨g5, 0, none⟩ ((.slice A5 (S0.length + 1) c5))) := Below.setCell hB9 (p := ⟨g5, 0, none⟩) HGF.out.ga _
        have hbF : Below base w1 ((w9.setCell ⟨g5, 0, none⟩ ((.slice A5 (S0.length + 1) c5))).setCell ⟨g6, 0, none⟩ ((.slice A6 (T0.length + 1) c6))) := Below.setCell hbF1 (p := ⟨g6, 0, none⟩) HGF.out.gb _
        obtain ⟨t0, t1⟩ := HGF.out.cells
        have e0 := Blk.frozen HGF.out.a 0
        have e1 := Blk.frozen ((HGF.out.setA (.slice A5 (S0.length + 1) c5)).b) 0
        have t2 := Blk.cell0 ((HGF.out.setA (.slice A5 (S0.length + 1) c5)).b)
        refine wpT_nil ?_
        refine wpTail_cons ?_
        go_wp2_with fail
        refine tail_back ?_
        refine wpTail_cons ?_
        go_wp2_with fail
        refine tail_back ?_
        refine wpTail_nil ?_
        clear t0 t1 e0 e1 t2
        go_wp2_with fail
        go_end0
        exact ⟨rfl, (.slice A5 (S0.length + 1) c5), (.slice A6 (T0.length + 1) c6), by rw [HAD.out, HTD.out]; exact hQ.out.sw, hbF⟩
    · go_wp2_with fail
      have HG1 : Hid (TwoS ((w1.alloc (.cells #[.string x] 9)).drew) base g5 g6 va vT va vT S0 T0) := HG.out.below (by repeat (first | exact Below.refl _ _ | assumption | refine Below.alloc ?_ (by first | exact Nat.le_refl _ | assumption | omega | (simp <;> omega)) _ | refine Below.setCell ?_ (by first | exact Nat.le_refl _ | assumption | omega | (simp <;> omega)) _ | refine Below.drew ?_ | refine below_drewN ?_ _))
      refine sched_back (by rw [HF1.out]; exact HG1.out.cells) ?_
      repeat (first | (refine wpT_free rfl ?_; intro K hK; go_big_quiet_op; go_big_quiet_on) | (refine wpT_wantS _ rfl rfl rfl ?_; intro K hK; go_big_quiet_op; go_big_quiet_on) | (refine wpT_skipS _ rfl rfl rfl rfl ?_; simp only [Act.put, List.setIfInBounds_toArray, List.set_cons_zero, List.set_cons_succ]) | (refine wpT_skipU _ rfl rfl rfl ?_; simp only [Act.put, List.setIfInBounds_toArray, List.set_cons_zero, List.set_cons_succ]))
      refine wpT_other ?_
      go_wp2_with fail
      have HG2 : Hid (TwoS (((w1.alloc (.cells #[.string x] 9)).alloc (.cells #[.string x] 9)).drew) base g5 g6 va vT va vT S0 T0) := HG.out.below (by repeat (first | exact Below.refl _ _ | assumption | refine Below.alloc ?_ (by first | exact Nat.le_refl _ | assumption | omega | (simp <;> omega)) _ | refine Below.setCell ?_ (by first | exact Nat.le_refl _ | assumption | omega | (simp <;> omega)) _ | refine Below.drew ?_ | refine below_drewN ?_ _))
      have hB2 : Below base w1 (((w1.alloc (.cells #[.string x] 9)).alloc (.cells #[.string x] 9)).drew) := (by repeat (first | exact Below.refl _ _ | assumption | refine Below.alloc ?_ (by first | exact Nat.le_refl _ | assumption | omega | (simp <;> omega)) _ | refine Below.setCell ?_ (by first | exact Nat.le_refl _ | assumption | omega | (simp <;> omega)) _ | refine Below.drew ?_ | refine below_drewN ?_ _))
      refine sched_back (by rw [HF1.out]; exact HG2.out.cells) ?_
      repeat (first | (refine wpT_free rfl ?_; intro K hK; go_big_quiet_op; go_big_quiet_on) | (refine wpT_wantS _ rfl rfl rfl ?_; intro K hK; go_big_quiet_op; go_big_quiet_on) | (refine wpT_skipS _ rfl rfl rfl rfl ?_; simp only [Act.put, List.setIfInBounds_toArray, List.set_cons_zero, List.set_cons_succ]) | (refine wpT_skipU _ rfl rfl rfl ?_; simp only [Act.put, List.setIfInBounds_toArray, List.set_cons_zero, List.set_cons_succ]))
      refine wpT_other ?_
      have n2 : (((w1.alloc (.cells #[.string x] 9)).alloc (.cells #[.string x] 9)).drew).cell? ⟨w1.heap.size, 0, none⟩ = some (.string x) := Blk.cell0 (Blk.drew (Blk.alloc (Blk.new_ w1 _ _) _))
      have n1 : (((w1.alloc (.cells #[.string x] 9)).alloc (.cells #[.string x] 9)).drew).cell? ⟨w1.heap.size + 1, 0, none⟩ = some (.string x) := by
        have h9 := Blk.new_ (w1.alloc (.cells #[.string x] 9)) 9 #[.string x]
        rw [World.size_alloc] at h9
        exact Blk.cell0 (Blk.drew h9)
      go_wp2_with (at_builtin; go_must (refine wpList_appO rfl _ _ _ rfl base 9 i0 _ 1 16 Tryd.underlying36 hi0 hz0 hz1 hz2 rfl (by omega) _ S0.length (strCells S0) rfl HG2.out.ra ⟨w1.heap.size + 1, 0, none⟩ 1 1 [.string (x)] rfl rfl (one_newsS n1) (by simp [Value.oneCell']) (by omega) (by omega) (by first | omega | (simp; omega)) ?_); intro v6 w6 hown6 hg6 hb6 ha6; obtain ⟨A6, c6, hv6, _, _, _⟩ := OwnO.form hown6; subst hv6)
      have n3 := grown_cellS hg6 n2 (fun j hj => by have := HVA.out j hj; omega)
      have HG3 := Lib.hid (HG2.out.growA (x := L x) hg6 (by rw [HSX.out]; exact hown6) ha6)
      have hB3 := hB2.trans hb6
      have hs2 := hB3.size
      have hw6s : base ≤ w6.heap.size := Nat.le_trans hbase hs2
      clear hg6 hb6 ha6 hown6 n1 n2
      refine sched_back (by rw [HF1.out]; exact HG3.out.cells) ?_
      repeat (first | (refine wpT_free rfl ?_; intro K hK; go_big_quiet_op; go_big_quiet_on) | (refine wpT_wantS _ rfl rfl rfl ?_; intro K hK; go_big_quiet_op; go_big_quiet_on) | (refine wpT_skipS _ rfl rfl rfl rfl ?_; simp only [Act.put, List.setIfInBounds_toArray, List.set_cons_zero, List.set_cons_succ]) | (refine wpT_skipU _ rfl rfl rfl ?_; simp only [Act.put, List.setIfInBounds_toArray, List.set_cons_zero, List.set_cons_succ]))
      refine wpT_other ?_
      generalize A6 = A5 at *
      generalize c6 = c5 at *
      go_wp2_with (at_builtin; go_must (refine wpList_appO rfl _ _ _ rfl base 9 i0 _ 1 16 Tryd.underlying36 hi0 hz0 hz1 hz2 rfl (by omega) _ T0.length (strCells T0) rfl HG3.out.rb ⟨w1.heap.size, 0, none⟩ 1 1 [.string (x)] rfl rfl (one_newsS n3) (by simp [Value.oneCell']) (by omega) (by omega) (by first | omega | (simp; omega)) ?_); intro v9 w9 hown9 hg6 hb6 ha6; obtain ⟨A6, c6, hv6, _, _, _⟩ := OwnO.form hown9; subst hv6)
      have HGF := Lib.hid ((HG3.out.sw.growA (x := L x) hg6 (by rw [HSX.out]; exact hown9) ha6).sw)
      have hB9 := hB3.trans hb6
      clear hg6 hb6 ha6 hown9 n3 HG1 HG2 HG3 hB2 hB3 c0 c1
      refine sched_back (by rw [HF1.out]; exact HGF.out.cells) ?_
      have hQ := Lib.hid ((HGF.out.setA (.slice A5 (S0.length + 1) c5)).sw.setA (.slice A6 (T0.length + 1) c6))
      have hbF1 : Below base w1 (w9.setCell ⟨g5, 0, none⟩ ((.slice A5 (S0.length + 1) c5))) := Below.setCell hB9 (p := ⟨g5, 0, none⟩) HGF.out.ga _
      have hbF : Below base w1 ((w9.setCell ⟨g5, 0, none⟩ ((.slice A5 (S0.length + 1) c5))).setCell ⟨g6, 0, none⟩ ((.slice A6 (T0.length + 1) c6))) := Below.setCell hbF1 (p := ⟨g6, 0, none⟩) HGF.out.gb _
      obtain ⟨t0, t1⟩ := HGF.out.cells
      have e0 := Blk.frozen HGF.out.a 0
      have e1 := Blk.frozen ((HGF.out.setA (.slice A5 (S0.length + 1) c5)).b) 0
      have t2 := Blk.cell0 ((HGF.out.setA (.slice A5 (S0.length + 1) c5)).b)
      refine wpT_nil ?_
      refine wpTail_cons ?_
      go_wp2_with fail
      refine tail_back ?_
      refine wpTail_cons ?_
      go_wp2_with fail
      refine tail_back ?_
      refine wpTail_nil ?_
      clear t0 t1 e0 e1 t2
      go_wp2_with fail
      go_end0
      exact ⟨rfl, (.slice A5 (S0.length + 1) c5), (.slice A6 (T0.length + 1) c6), by rw [HAD.out, HTD.out]; exact hQ.out.sw, hbF⟩
end Go.Proofs.YtmmamdjbbpeifaaDoor
