/- A world in which these blocks alone have turned. -/
import Derived.Test.YtmikckhihfcooaaGreatDoorBlk
namespace Go.Proofs.YtmikckhihfcooaaGreatDoor
open Go.RowKit
structure Gbs (w w' : World) (rs : List Nat) : Prop where
  os : w'.os = w.os
  tape : w'.tape = w.tape
  output : w'.output = w.output
  size : w.heap.size ≤ w'.heap.size
  block : ∀ k, k < w.heap.size → k ∉ rs → w'.heap[k]? = w.heap[k]?
section
variable {w w' w2 : World} {rs ss : List Nat} {g : Nat}
theorem Gbs.refl (w : World) (rs : List Nat) : Gbs w w rs := ⟨rfl, rfl, rfl, Nat.le_refl _, fun _ _ _ => rfl⟩
theorem Gbs.trans (h : Gbs w w' rs) (k : Gbs w' w2 rs) : Gbs w w2 rs :=
  ⟨k.os.trans h.os, k.tape.trans h.tape, k.output.trans h.output, Nat.le_trans h.size k.size, fun i hi hr => (k.block i (Nat.lt_of_lt_of_le hi h.size) hr).trans (h.block i hi hr)⟩
theorem Gbs.of_gb (h : w.grownBy w' (some g)) (hg : g ∈ rs) : Gbs w w' rs := ⟨h.os, h.tape, h.output, h.size, fun i hi hr => h.block i hi (fun e => hr (by cases e; exact hg))⟩
theorem Gbs.of_below (h : Below w.heap.size w w') (rs : List Nat) : Gbs w w' rs := ⟨h.os, h.tape, h.output, h.size, fun k hk _ => h.block k hk⟩
theorem Gbs.gb (h : Gbs w w' rs) (k : w'.grownBy w2 (some g)) (hg : g ∈ rs ∨ w.heap.size ≤ g) : Gbs w w2 rs :=
  ⟨k.os.trans h.os, k.tape.trans h.tape, k.output.trans h.output, Nat.le_trans h.size k.size, fun i hi hr => (k.block i (Nat.lt_of_lt_of_le hi h.size) (fun e => by
    cases e
    rcases hg with hg | hg
    · exact hr hg
    · omega)).trans (h.block i hi hr)⟩
theorem Gbs.then_below (h : Gbs w w' rs) (k : Below w'.heap.size w' w2) : Gbs w w2 rs := h.trans (Gbs.of_below k rs)
theorem Gbs.set_ (h : Gbs w w' rs) (hg : g ∈ rs ∨ w.heap.size ≤ g) (i : Nat) (u : Value) : Gbs w (w'.setCell ⟨g, i, none⟩ u) rs := h.gb (gb_set (gb_refl _ _) i u) hg
theorem Gbs.alloc (h : Gbs w w' rs) (o : Obj) : Gbs w (w'.alloc o) rs := h.then_below ((Below.refl _ _).alloc (Nat.le_refl _) _)
theorem Gbs.drewN (h : Gbs w w' rs) (n : Nat) : Gbs w (w'.drewN n) rs := h.then_below (below_drewN (Below.refl _ _) _)
theorem Gbs.drew (h : Gbs w w' rs) : Gbs w w'.drew rs := h.then_below (Below.drew (Below.refl _ _))
theorem Gbs.mono (h : Gbs w w' rs) (hs : ∀ g ∈ rs, g ∈ ss) : Gbs w w' ss := ⟨h.os, h.tape, h.output, h.size, fun k hk hr => h.block k hk (fun e => hr (hs k e))⟩
theorem Below.gbs {base : Nat} {a : World} (h : Below base a w) (k : Gbs w w' rs) (hr : ∀ g ∈ rs, base ≤ g) (hs : base ≤ w.heap.size) : Below base a w' :=
  ⟨k.os.trans h.os, k.tape.trans h.tape, k.output.trans h.output, Nat.le_trans h.size k.size, fun i hi => (k.block i (by omega) (fun e => by have := hr i e; omega)).trans (h.block i hi)⟩
theorem Blk.gbs {t : TypeId} {cs : Array Value} (h : Blk w g t cs) (k : Gbs w w' rs) (hg : g ∉ rs) : Blk w' g t cs := (k.block g h.lt hg).trans h
end
end Go.Proofs.YtmikckhihfcooaaGreatDoor
