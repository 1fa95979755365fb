/- slices.Index, Contains and Clone at strings, of a slice that reads as a list. -/
import Derived.Test.YtmikckhihfcooaaGreatDoorStrC
import Derived.Test.YtmikckhihfcooaaGreatDoorOwn2
namespace Go.Proofs.YtmikckhihfcooaaGreatDoor
open Go.RowKit
theorem idx_ne (l : List (List UInt8)) (x : List UInt8) : ∀ j, j < l.idxOf x → ∀ hj : j < l.length, l[j] ≠ x := by
  intro j h hj e
  have h2 : j < l.findIdx (· == x) := h
  have := List.not_of_lt_findIdx h2
  rw [e] at this
  simp at this
def idxL2 (l : List (List UInt8)) (x : List UInt8) : Int := if x ∈ l then (l.idxOf x : Int) else -1
theorem idxL2_lt {l : List (List UInt8)} {i : Nat} (hi : i < l.length) : (idxL2 l (l.getD i []) < (i : Int)) ↔ l.getD i [] ∈ l.take i := by
  have hg : l.getD i [] = l[i] := by rw [List.getD_eq_getElem?_getD, List.getElem?_eq_getElem hi]; rfl
  rw [hg]
  unfold idxL2
  rw [if_pos (List.getElem_mem hi)]
  have hlt := List.idxOf_lt_length_of_mem (List.getElem_mem hi)
  constructor
  · intro h
    refine List.mem_take_iff_getElem.2 ⟨l.idxOf l[i], by omega, ?_⟩
    exact List.getElem_idxOf _
  · intro h
    obtain ⟨j, hj, e⟩ := List.mem_take_iff_getElem.1 h
    have h1 : l.idxOf l[i] ≤ j := by
      rcases Nat.lt_or_ge j (l.idxOf l[i]) with h2 | h2
      · exact absurd e (idx_ne _ _ _ h2 _)
      · exact h2
    omega
end Go.Proofs.YtmikckhihfcooaaGreatDoor
