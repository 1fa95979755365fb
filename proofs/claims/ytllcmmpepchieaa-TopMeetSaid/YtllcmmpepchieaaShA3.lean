/- shift.All: the walk. -/
import Derived.Test.YtllcmmpepchieaaShA2
import Derived.Test.YtllcmmpepchieaaApp
namespace Go.Proofs.Ytllcmmpepchieaa
open Go.RowKit
theorem shCheck_b (n : Int) (x : Op) (w : World) : Calls Try.prog 40 #[.int .i64 n, x.val] w fun e w' => e = .returned (.int .i64 (opErr n x)) ∧ Below w.heap.size w w' :=
  (shCheck_any n x w).mono fun e w' ⟨he, o, hw⟩ => ⟨he, by rw [hw]; exact (Below.refl _ _).alloc (Nat.le_refl _) _⟩
theorem shPast_ok (n : Int) (x y : Op) (f : Bool) (w : World) (hx : opErr n x = 0) (hy : opErr n y = 0) :
    Calls Try.prog 42 #[.int .i64 n, x.val, y.val, .bool f] w fun e w' => e = .returned (.tuple #[.agg #[.int .i64 (past x y f).kind, .int .i64 (past x y f).pos, .int .u8 (past x y f).b], .int .i64 0]) ∧ Below w.heap.size w w' :=
  (shPast_any n x y f w).mono fun e w' ⟨he, hb⟩ => ⟨by rw [he]; unfold pastAns pastErr; rw [if_pos ⟨hx, hy⟩, if_pos hx, hy]; rfl, hb⟩
theorem opCells_set (l : List Op) (k : Nat) (x : Op) (hk : k < l.length) : (((opCells l).set (k * 3) (.int .i64 x.kind)).set (k * 3 + 1) (.int .i64 x.pos)).set (k * 3 + 2) (.int .u8 x.b) = opCells (l.set k x) := by
  induction l generalizing k with
  | nil => simp at hk
  | cons y l ih =>
    cases k with
    | zero => rfl
    | succ k =>
      have := ih k (by simpa using hk)
      simp only [opCells, List.flatMap_cons, List.set_cons_succ] at this ⊢
      rw [← this]
      rw [show (k + 1) * 3 = k * 3 + 3 by omega, show k * 3 + 3 + 1 = k * 3 + 1 + 3 by omega, show k * 3 + 3 + 2 = k * 3 + 2 + 3 by omega]
      rfl
/-- A row of operations that lies in block g. -/
def OpRow (w : World) (base g n c : Nat) (l : List Op) : Prop := w.ownsRow base 43 3 (.slice (some ⟨g, 0, none⟩) n c) n (opCells l)
section
variable {w w' : World} {base g n c : Nat} {l : List Op}
theorem OpRow.len (h : OpRow w base g n c l) : l.length = n := by have := h.1; rw [opCells_len] at this; omega
theorem OpRow.at_ (h : OpRow w base g n c l) {k : Nat} (hk : k < n) :
    ∃ hl : k < l.length, w.cell? ⟨g, k * 3, none⟩ = some (.int .i64 l[k].kind) ∧ w.cell? ⟨g, k * 3 + 1, none⟩ = some (.int .i64 l[k].pos) ∧ w.cell? ⟨g, k * 3 + 2, none⟩ = some (.int .u8 l[k].b) ∧
      w.frozen? ⟨g, k * 3, none⟩ = false ∧ w.frozen? ⟨g, k * 3 + 1, none⟩ = false ∧ w.frozen? ⟨g, k * 3 + 2, none⟩ = false := by
  have hl := h.len
  have hkl : k < l.length := by omega
  have hg : ∀ j, j < 3 → (opCells l)[k * 3 + j]? = (Op.cells l[k])[j]? := fun j hj => flat_get op_len l k hkl j hj
  refine ⟨hkl, ?_, ?_, ?_, h.frozenAt _, h.frozenAt _, h.frozenAt _⟩
  · rw [World.ownsRow.cellAt h (k * 3) (by omega)]; exact hg 0 (by omega)
  · rw [World.ownsRow.cellAt h (k * 3 + 1) (by omega)]; exact hg 1 (by omega)
  · rw [World.ownsRow.cellAt h (k * 3 + 2) (by omega)]; exact hg 2 (by omega)
theorem OpRow.set_ (h : OpRow w base g n c l) {k : Nat} (hk : k < n) (x : Op) :
    OpRow (((w.setCell ⟨g, k * 3, none⟩ (.int .i64 x.kind)).setCell ⟨g, k * 3 + 1, none⟩ (.int .i64 x.pos)).setCell ⟨g, k * 3 + 2, none⟩ (.int .u8 x.b)) base g n c (l.set k x) := by
  have h1 := (World.ownsRow.stored h (k * 3) (.int .i64 x.kind)).1
  have h2 := (World.ownsRow.stored h1 (k * 3 + 1) (.int .i64 x.pos)).1
  have h3 := (World.ownsRow.stored h2 (k * 3 + 2) (.int .u8 x.b)).1
  rw [opCells_set l k x (by rw [h.len]; exact hk)] at h3
  exact h3
theorem OpRow.lt (h : OpRow w base g n c l) : base ≤ g ∧ g < w.heap.size := World.ownsRow.lt h g rfl
theorem OpRow.below (h : OpRow w base g n c l) (hb : Below w.heap.size w w') : OpRow w' base g n c l := own_below h hb
theorem OpRow.far (h : OpRow w base g n c l) {p : Addr} (hp : g ≠ p.block) (u : Value) : OpRow (w.setCell p u) base g n c l := by
  obtain ⟨b, o, s⟩ := p
  have hg : w.grownBy (w.setCell ⟨b, o, s⟩ u) (some b) := ⟨rfl, rfl, rfl, by simp [World.setCell], fun k _ hk => Below.heap_setCell w ⟨b, o, s⟩ u k (fun e => hk (by rw [e]))⟩
  exact World.ownsRow.kept h hg (.inr (by simpa [Value.ownBlock] using hp))
theorem OpRow.kept {row : Option Nat} (h : OpRow w base g n c l) (hg : w.grownBy w' row) (hne : some g ≠ row) : OpRow w' base g n c l := World.ownsRow.kept h hg (.inr hne)
end
theorem own_far {w : World} {base : Nat} {e : TypeId} {size : Nat} {v : Value} {n : Nat} {xs : List Value} (h : w.ownsRow base e size v n xs) {p : Addr} (hp : v.ownBlock = none ∨ v.ownBlock ≠ some p.block) (u : Value) : (w.setCell p u).ownsRow base e size v n xs := by
  obtain ⟨b, o, s⟩ := p
  have hg : w.grownBy (w.setCell ⟨b, o, s⟩ u) (some b) := ⟨rfl, rfl, rfl, by simp [World.setCell], fun k _ hk => Below.heap_setCell w ⟨b, o, s⟩ u k (fun e => hk (by rw [e]))⟩
  exact h.kept hg hp
theorem info_op : (Try.prog.info? 43).map (fun i => (i.zero, i.size, i.bytes)) = some (some (.agg #[.int .i64 0, .int .i64 0, .int .u8 0]), 3, 24) := by kernel_rfl
theorem rowstep (f : Bool) (x : Op) (l : List Op) (k : Nat) (hk : k < l.length) :
    ∃ h : k < (rowL f x (l.take k) ++ l.drop k).length, (rowL f x (l.take k) ++ l.drop k)[k] = l[k] ∧ (rowL f x (l.take k) ++ l.drop k).set k (past l[k] (rowX f x (l.take k)) (!f)) = rowL f x (l.take (k + 1)) ++ l.drop (k + 1) := by
  have hl : (rowL f x (l.take k)).length = k := by rw [rowL_length, List.length_take]; omega
  have h : k < (rowL f x (l.take k) ++ l.drop k).length := by rw [List.length_append, hl, List.length_drop]; omega
  refine ⟨h, ?_, ?_⟩
  · rw [List.getElem_append_right (by omega)]
    simp [hl]
  · rw [List.take_succ_eq_append_getElem hk, rowL_snoc, List.append_assoc]
    rw [List.set_append_right _ _ (by omega), hl, Nat.sub_self, List.drop_eq_getElem_cons hk]
    rfl
/-- shift.All, behind its checks: i operations have gone past the row. -/
structure AllSt (f : Bool) (a b : List Op) (base : Nat) (vL : Value) (nb : Nat) (wr : World) (vO : Value) (i : Nat) : Prop where
  left : wr.ownsRow base 43 3 vL nb (opCells (runL f (a.take i) b))
  out : wr.ownsRow base 43 3 vO i (opCells (runO f (a.take i) b))
  ap : Apart vO vL
/-- In a round: x has gone past k of the row. -/
structure RowSt (f : Bool) (x : Op) (l : List Op) (base : Nat) (vL : Value) (nb gx : Nat) (wr : World) (vO : Value) (i : Nat) (o : List Op) (k : Nat) : Prop where
  left : wr.ownsRow base 43 3 vL nb (opCells (rowL f x (l.take k) ++ l.drop k))
  out : wr.ownsRow base 43 3 vO i (opCells o)
  ap : Apart vO vL
  xb : Blk wr gx 43 #[.int .i64 (rowX f x (l.take k)).kind, .int .i64 (rowX f x (l.take k)).pos, .int .u8 (rowX f x (l.take k)).b]
  nL : vL.ownBlock ≠ some gx
  nO : vO.ownBlock ≠ some gx
theorem RowSt.below {f : Bool} {x : Op} {l : List Op} {base : Nat} {vL : Value} {nb gx : Nat} {w w' : World} {vO : Value} {i : Nat} {o : List Op} {k : Nat} (h : RowSt f x l base vL nb gx w vO i o k) (hb : Below w.heap.size w w') : RowSt f x l base vL nb gx w' vO i o k :=
  ⟨own_below h.left hb, own_below h.out hb, h.ap, h.xb.below' hb, h.nL, h.nO⟩
theorem Blk.cells3 {w : World} {g : Nat} {t : TypeId} {a b c : Value} (h : Blk w g t #[a, b, c]) : w.cell? ⟨g, 0, none⟩ = some a ∧ w.cell? ⟨g, 1, none⟩ = some b ∧ w.cell? ⟨g, 2, none⟩ = some c ∧ w.frozen? ⟨g, 0, none⟩ = false ∧ w.frozen? ⟨g, 1, none⟩ = false ∧ w.frozen? ⟨g, 2, none⟩ = false :=
  ⟨h.cell0, h.cell1, h.cell2, h.frozen 0, h.frozen 1, h.frozen 2⟩
theorem Blk.set3 {w : World} {g : Nat} {t : TypeId} {a b c : Value} (h : Blk w g t #[a, b, c]) (x y z : Value) : Blk (((w.setCell ⟨g, 0, none⟩ x).setCell ⟨g, 1, none⟩ y).setCell ⟨g, 2, none⟩ z) g t #[x, y, z] := ((h.set_ 0 x).set_ 1 y).set_ 2 z
end Go.Proofs.Ytllcmmpepchieaa
