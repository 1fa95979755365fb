/- shift.All: the walk. The reference's AllOf. quilltop.ops and typed; slices.Concat of two rows of operations. -/
import Derived.Test.YtmikckhihfcooaaPk16
import Derived.Test.YtmikckhihfcooaaPk08
import Derived.Test.YtmikckhihfcooaaPk09
import Derived.Test.YtmikckhihfcooaaPk06
import Derived.Test.YtmikckhihfcooaaPk07
import Derived.Lib.AppendZeros
namespace Go.Proofs.Ytmikckhihfcooaa
open Go.RowKit
theorem opCells_set (l : List Op) (k : Nat) (x : Op) (hk : k < l.length) : (((opCells l).set (k * 3) (.int .i64 x.kind)).set (k * 3 + 1) (.int .i64 x.pos)).set (k * 3 + 2) (.int .u8 x.b) = opCells (l.set k x) := by
  induction l generalizing k with
  | nil => simp at hk
  | cons y l ih =>
    cases k with
    | zero => rfl
    | succ k =>
      have := ih k (by simpa using hk)
      simp only [opCells, List.flatMap_cons, List.set_cons_succ] at this ⊢
      rw [← this]
      rw [show (k + 1) * 3 = k * 3 + 3 by omega, show k * 3 + 3 + 1 = k * 3 + 1 + 3 by omega, show k * 3 + 3 + 2 = k * 3 + 2 + 3 by omega]
      rfl
section
variable {w w' : World} {base g n c : Nat} {l : List Op}
end
theorem own_far {w : World} {base : Nat} {e : TypeId} {size : Nat} {v : Value} {n : Nat} {xs : List Value} (h : w.ownsRow base e size v n xs) {p : Addr} (hp : v.ownBlock = none ∨ v.ownBlock ≠ some p.block) (u : Value) : (w.setCell p u).ownsRow base e size v n xs := by
  obtain ⟨b, o, s⟩ := p
  have hg : w.grownBy (w.setCell ⟨b, o, s⟩ u) (some b) := ⟨rfl, rfl, rfl, by simp [World.setCell], fun k _ hk => Below.heap_setCell w ⟨b, o, s⟩ u k (fun e => hk (by rw [e]))⟩
  exact h.kept hg hp
theorem rowstep (f : Bool) (x : Op) (l : List Op) (k : Nat) (hk : k < l.length) :
    ∃ h : k < (rowL f x (l.take k) ++ l.drop k).length, (rowL f x (l.take k) ++ l.drop k)[k] = l[k] ∧ (rowL f x (l.take k) ++ l.drop k).set k (past l[k] (rowX f x (l.take k)) (!f)) = rowL f x (l.take (k + 1)) ++ l.drop (k + 1) := by
  have hl : (rowL f x (l.take k)).length = k := by rw [rowL_length, List.length_take]; omega
  have h : k < (rowL f x (l.take k) ++ l.drop k).length := by rw [List.length_append, hl, List.length_drop]; omega
  refine ⟨h, ?_, ?_⟩
  · rw [List.getElem_append_right (by omega)]
    simp [hl]
  · rw [List.take_succ_eq_append_getElem hk, rowL_snoc, List.append_assoc]
    rw [List.set_append_right _ _ (by omega), hl, Nat.sub_self, List.drop_eq_getElem_cons hk]
    rfl
theorem Blk.cells3 {w : World} {g : Nat} {t : TypeId} {a b c : Value} (h : Blk w g t #[a, b, c]) : w.cell? ⟨g, 0, none⟩ = some a ∧ w.cell? ⟨g, 1, none⟩ = some b ∧ w.cell? ⟨g, 2, none⟩ = some c ∧ w.frozen? ⟨g, 0, none⟩ = false ∧ w.frozen? ⟨g, 1, none⟩ = false ∧ w.frozen? ⟨g, 2, none⟩ = false :=
  ⟨h.cell0, h.cell1, h.cell2, h.frozen 0, h.frozen 1, h.frozen 2⟩
theorem Blk.set3 {w : World} {g : Nat} {t : TypeId} {a b c : Value} (h : Blk w g t #[a, b, c]) (x y z : Value) : Blk (((w.setCell ⟨g, 0, none⟩ x).setCell ⟨g, 1, none⟩ y).setCell ⟨g, 2, none⟩ z) g t #[x, y, z] := ((h.set_ 0 x).set_ 1 y).set_ 2 z
end Go.Proofs.Ytmikckhihfcooaa
namespace Go.Proofs.Ytmikckhihfcooaa
open Go.RowKit
theorem opCells_one (l : List Op) : ∀ u ∈ opCells l, u.oneCell' = true := by
  intro u hu
  obtain ⟨x, _, hx⟩ := List.mem_flatMap.1 hu
  simp only [Op.cells, List.mem_cons, List.not_mem_nil, or_false] at hx
  rcases hx with rfl | rfl | rfl <;> rfl
end Go.Proofs.Ytmikckhihfcooaa
namespace Go.Proofs.Ytmikckhihfcooaa
open Go.RowKit
abbrev zOp : Value := .agg #[.int .i64 0, .int .i64 0, .int .u8 0]
def segO (p q : List Op) (k : Nat) : List Op := if k = 0 then [] else if k = 1 then p else p ++ q
end Go.Proofs.Ytmikckhihfcooaa
