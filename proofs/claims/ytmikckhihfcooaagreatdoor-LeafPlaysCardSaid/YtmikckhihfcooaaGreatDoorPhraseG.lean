/- phrase.Get and the reference's TextOf. -/
import Derived.Test.YtmikckhihfcooaaGreatDoorPhrase0
import Derived.Test.YtmikckhihfcooaaGreatDoorWordC
import Derived.Test.YtmikckhihfcooaaGreatDoorLogW
import Derived.Test.YtmikckhihfcooaaGreatDoorSched
namespace Go.Proofs.YtmikckhihfcooaaGreatDoor
open Go.RowKit
def phrCell (p : Int × UInt8) : List Value := [.int .i64 p.1, .int .u8 (p.2.toNat : Int)]
def phrCells (l : List (Int × UInt8)) : List Value := l.flatMap phrCell
theorem phr_len (l : List (Int × UInt8)) : (phrCells l).length = l.length * 2 := by
  induction l with
  | nil => rfl
  | cons a l ih => simp only [phrCells, List.flatMap_cons, List.length_append, List.length_cons] at *; rw [ih]; simp [phrCell]; omega
theorem phr_get (l : List (Int × UInt8)) (k : Nat) (hk : k < l.length) (j : Nat) (hj : j < 2) : (phrCells l)[k * 2 + j]? = (phrCell (l[k]'hk))[j]? := by
  induction l generalizing k with
  | nil => simp at hk
  | cons a l ih =>
    cases k with
    | zero =>
      simp only [phrCells, List.flatMap_cons, List.getElem_cons_zero]
      rw [List.getElem?_append_left (by simp [phrCell]; omega)]
      simp
    | succ k =>
      have := ih k (by simpa using hk)
      simp only [phrCells, List.flatMap_cons, List.getElem_cons_succ] at *
      rw [List.getElem?_append_right (by simp [phrCell]; omega), ← this]
      congr 1
      simp [phrCell]; omega
theorem Rd.at_phr {w : World} {B n : Nat} {A : Option Addr} {l : List (Int × UInt8)} (h : Rd w B 2 A n (phrCells l)) {k : Nat} (hk : k < n) :
    ∃ ad p, A = some ad ∧ ad.block < B ∧ l[k]? = some p ∧ w.cell? (ad.add (k * 2)) = some (.int .i64 p.1) ∧ w.cell? ⟨(ad.add (k * 2)).block, (ad.add (k * 2)).off + 1, none⟩ = some (.int .u8 (p.2.toNat : Int)) := by
  have hl : l.length = n := by have := h.1; rw [phr_len] at this; omega
  obtain ⟨ad, e, hb, hc⟩ := h.2 (by omega)
  have hk' : k < l.length := by omega
  exact ⟨ad, l[k], e, hb, List.getElem?_eq_getElem hk', hc _ _ (by have := phr_get l k hk' 0 (by omega); simpa [phrCell] using this), by
    have h1 := hc (k * 2 + 1) _ (by have := phr_get l k hk' 1 (by omega); simpa [phrCell] using this)
    rwa [← add_add] at h1⟩
/-- What phrase.Get answers. -/
def getOut (l : List (Int × UInt8)) (rest : ByteArray) : ByteArray × Int :=
  if 200 < rest.size then (S [], 2) else if 200 < l.length then (S [], 2)
  else match phrText [[]] [] l with
    | (none, e) => (S [], e)
    | (some out, _) => if 200 < out.length + rest.size then (S [], 2) else (S out ++ rest, 0)
end Go.Proofs.YtmikckhihfcooaaGreatDoor
