/- What slices.Equal returns on two slices of the same cells. -/
import Derived.Test.YtmikckhihfcooaaGreatDoorBase
namespace Go.Proofs.YtmikckhihfcooaaGreatDoor
open Go.RowKit

def ints (l : List Int) : List Value := l.map (.int .i64 ·)

theorem ints_at {l : List Int} {k : Nat} {u : Value} (h : (ints l)[k]? = some u) : ∃ x, l[k]? = some x ∧ u = .int .i64 x := by
  unfold ints at h
  rw [List.getElem?_map] at h
  cases hx : l[k]? with
  | none => rw [hx] at h; simp at h
  | some x => rw [hx] at h; exact ⟨x, rfl, by simpa using h.symm⟩

end Go.Proofs.YtmikckhihfcooaaGreatDoor
