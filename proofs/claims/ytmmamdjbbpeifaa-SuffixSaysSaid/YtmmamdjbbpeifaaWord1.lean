/- word.Borders and what the document says of it. -/
import Derived.Test.YtmmamdjbbpeifaaWord0
import Derived.Test.YtmmamdjbbpeifaaDistN
namespace Go.Proofs.Ytmmamdjbbpeifaa
open Go.RowKit
def bI (s : List UInt8) (m : Nat) : List Int := (bords s m).map Int.ofNat
theorem bI_len (s : List UInt8) (m : Nat) : (bI s m).length = m := by simp [bI, bords_len]
theorem bI_succ (s : List UInt8) (m : Nat) : bI s (m + 1) = bI s m ++ [(fb s (m + 1) : Int)] := by simp [bI, bords_succ]
theorem bI_at (s : List UInt8) (m j : Nat) (h : j < m) : (bI s m).getD j 0 = (fb s (j + 1) : Nat) := by
  rw [List.getD_eq_getElem?_getD, bI, List.getElem?_map, bords_at s m j h]; rfl
theorem eq_bI {s : List UInt8} {m : Nat} {l : List Int} (hl : l.length = m) (h : ∀ j, j < m → l.getD j 0 = (fb s (j + 1) : Nat)) : l = bI s m := by
  apply List.ext_getElem
  · rw [hl, bI_len]
  · intro j h1 h2
    have h3 := h j (by omega)
    rw [← bI_at s m j (by omega)] at h3
    rw [List.getD_eq_getElem?_getD, List.getElem?_eq_getElem h1, List.getD_eq_getElem?_getD, List.getElem?_eq_getElem h2] at h3
    exact h3
theorem neB {a b : UInt8} : ((a.toNat : Int) != (b.toNat : Int)) = decide (a ≠ b) := by
  rw [Bool.eq_iff_iff, bne_iff_ne, decide_eq_true_iff]
  constructor
  · intro h e; exact h (by rw [e])
  · intro h e; exact h (UInt8.toNat_inj.1 (by omega))
theorem eqB {a b : UInt8} : ((a.toNat : Int) == (b.toNat : Int)) = decide (a = b) := by
  rw [Bool.eq_iff_iff, beq_iff_eq, decide_eq_true_iff]
  constructor
  · intro e; exact UInt8.toNat_inj.1 (by omega)
  · intro e; rw [e]
end Go.Proofs.Ytmmamdjbbpeifaa
