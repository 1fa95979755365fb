/- code.Check and the document's CodeErr. -/
import Derived.Test.YtmikckhihfcooaaGreatDoorShelf
import Derived.Test.YtmikckhihfcooaaGreatDoorCdpA
import Derived.Test.YtmikckhihfcooaaGreatDoorCdp0
import Derived.Shelf.Strings.SlTrimAscii
namespace Go.Proofs.YtmikckhihfcooaaGreatDoor
open Go.RowKit
theorem trim_bits (X : ByteArray) (hX : X.size ≤ 9223372036854775807) (W : World) :
    Calls Tryz.prog 60 #[.string X, .string ⟨#[48, 49]⟩] W fun e W' => e = .returned (.string (S (Lib.trimS (L X) [48, 49]))) ∧ Below W.heap.size W W' :=
  Any.strings_Trim_laid Tryz.lays160 (by kernel_rfl) X ⟨#[48, 49]⟩ W (by omega) (by decide) (ascii_of_all (by decide))
theorem emp_facts (p : ByteArray) : (p.size = 0 → (p.toList == []) = true ∧ p.toList.isEmpty = true) ∧ (p.size ≠ 0 → (p.toList == []) = false ∧ p.toList.isEmpty = false) := by
  constructor
  · intro h0
    have hpe : p.data.toList = [] := List.eq_nil_of_length_eq_zero (by rw [blen]; exact h0)
    rw [ByteArray.toList_eq, hpe]
    exact ⟨rfl, rfl⟩
  · intro h0
    have hpe : p.data.toList ≠ [] := fun h => h0 (by rw [← blen, h]; rfl)
    rw [ByteArray.toList_eq]
    exact ⟨by rw [beq_eq_false_iff_ne]; exact hpe, by rw [List.isEmpty_eq_false_iff]; exact hpe⟩
theorem strCells_pre (l : List (List UInt8)) (k : Nat) : (strCells l).take k = strCells (l.take k) := by simp [strCells, List.map_take]
theorem Rd.pre {w : World} {B n k : Nat} {A : Option Addr} {l : List (List UInt8)} (h : Rd w B 1 A n (strCells l)) (hk : k ≤ n) : Rd w B 1 A k (strCells (l.take k)) := by
  refine ⟨?_, fun h0 => ?_⟩
  · have := h.1
    simp only [strCells, List.length_map] at this ⊢
    rw [List.length_take]; omega
  · obtain ⟨ad, h1, h2, h3⟩ := h.2 (by omega)
    refine ⟨ad, h1, h2, fun j u hu => h3 j u ?_⟩
    rw [← strCells_pre] at hu
    rw [List.getElem?_take] at hu
    split at hu
    · exact hu
    · cases hu
end Go.Proofs.YtmikckhihfcooaaGreatDoor
