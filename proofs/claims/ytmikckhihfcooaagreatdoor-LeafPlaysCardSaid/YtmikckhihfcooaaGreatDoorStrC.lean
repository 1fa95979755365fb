/- Rows of strings. -/
import Derived.Test.YtmikckhihfcooaaGreatDoorLogW
namespace Go.Proofs.YtmikckhihfcooaaGreatDoor
open Go.RowKit
theorem strCells_set (l : List (List UInt8)) (k : Nat) (x : List UInt8) : strCells (l.set k x) = (strCells l).set k (.string (S x)) := by simp [strCells, List.map_set]
theorem strCells_at (l : List (List UInt8)) (k : Nat) (h : k < l.length) : (strCells l)[k]? = some (.string (S (l.getD k []))) := by
  rw [strCells, List.getElem?_map, List.getD_eq_getElem?_getD, List.getElem?_eq_getElem h]; rfl
theorem str_cell {w : World} {B n k : Nat} {A : Option Addr} {l : List (List UInt8)} (hr : Rd w B 1 A n (strCells l)) (hk : k < n) :
    ∃ ad : Addr, A = some ad ∧ ad.block < B ∧ w.cell? (ad.add k) = some (.string (S (l.getD k []))) := by
  have hlen : l.length = n := by have := hr.1; simpa [strCells] using this
  obtain ⟨ad, u, hA, hb, hu, hc⟩ := hr.at_ hk
  rw [strCells_at l k (by omega)] at hu
  obtain rfl := Option.some.inj hu
  exact ⟨ad, hA, hb, hc⟩
end Go.Proofs.YtmikckhihfcooaaGreatDoor
