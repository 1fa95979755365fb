/- The bytes behind '[]byte(s)', beside a row that grows. -/
import Derived.Test.YtllcmmpepchieaaBlk
import Derived.Lib.ConvBytes
namespace Go.Proofs.Ytllcmmpepchieaa
open Go.RowKit
def BtAt (w : World) (g : Nat) (l : List UInt8) : Prop := ∃ cs q, w.heap[g]? = some (.cells cs 5 q) ∧ ∀ j, j < l.length → cs[j]? = some (.int .u8 ((l.getD j 0).toNat : Int))
section
variable {w w' : World} {g : Nat} {l : List UInt8}
theorem BtAt.lt (h : BtAt w g l) : g < w.heap.size := by
  obtain ⟨cs, q, h, _⟩ := h
  exact (Array.getElem?_eq_some_iff.1 h).1
theorem BtAt.cell (h : BtAt w g l) {j : Nat} (hj : j < l.length) : w.cell? ⟨g, j, none⟩ = some (.int .u8 ((l.getD j 0).toNat : Int)) := by
  obtain ⟨cs, q, h, hc⟩ := h
  rw [cell_of_row w g j cs 5 q h]
  exact hc j hj
theorem BtAt.kept {row : Option Nat} (h : BtAt w g l) (hg : w.grownBy w' row) (hne : some g ≠ row) : BtAt w' g l := by
  have hl := h.lt
  obtain ⟨cs, q, h, hc⟩ := h
  exact ⟨cs, q, (hg.block g hl hne).trans h, hc⟩
theorem BtAt.below (h : BtAt w g l) (hb : Below w.heap.size w w') : BtAt w' g l := h.kept (gb_of_below hb none) (by simp)
theorem BtAt.alloc (h : BtAt w g l) (o : Obj) : BtAt (w.alloc o) g l := h.below ((Below.refl _ _).alloc (Nat.le_refl _) _)
theorem BtAt.ne_own (h : BtAt w g l) {base size n : Nat} {e : TypeId} {v : Value} {xs : List Value} (ho : w.ownsRow base e size v n xs) (hne : e ≠ 5) : some g ≠ v.ownBlock := by
  obtain ⟨cs, q, h, _⟩ := h
  rcases ho.2 with ⟨rfl, _⟩ | ⟨g', cap, cur, rfl, _, hh, _⟩
  · simp [Value.ownBlock]
  · intro he
    simp only [Value.ownBlock, Option.some.injEq] at he
    subst he
    rw [hh] at h
    injection h with h
    injection h with _ ht _
    exact hne ht
theorem BtAt.new_ (w : World) (s : ByteArray) : BtAt (Lib.bytesWorld w 5 s) w.heap.size (L s) := by
  refine ⟨_, _, Lib.bytesWorld_at_new w 5 s, fun j hj => ?_⟩
  have h := Lib.bytesWorld_cell w 5 s j (by rw [L_len] at hj; exact hj)
  rw [cell_of_row _ _ j _ 5 _ (Lib.bytesWorld_at_new w 5 s)] at h
  exact h
end
end Go.Proofs.Ytllcmmpepchieaa
