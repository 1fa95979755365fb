/- code.Sum, the reference's LensErr, code.bits. -/
import Derived.Test.YtllcmmpepchieaaCode0
import Derived.Test.YtllcmmpepchieaaEq
import Derived.Test.YtllcmmpepchieaaSched
import Derived.Test.YtllcmmpepchieaaOwn2
namespace Go.Proofs.Ytllcmmpepchieaa
open Go.RowKit
/-- The size of a word's share. -/
def share (n : Int) : Int := 2 ^ (12 - n).toNat
def lensGo : Int → List Int → Int × Int
  | s, [] => (s, 0)
  | s, n :: r => if n < 1 ∨ 12 < n then (0, 1) else lensGo (s + share n) r
def lensErr (l : List Int) : Int × Int := if 12 < l.length then (0, 2) else lensGo 0 l
theorem twelve {p : Int → Prop} {n : Int} (h0 : 1 ≤ n) (h1 : n ≤ 12) (h : ∀ k : Fin 12, p ((k.val : Int) + 1)) : p n := by
  have := h ⟨(n - 1).toNat, by omega⟩
  rwa [show (((n - 1).toNat : Int) + 1) = n by omega] at this
theorem share_bd (n : Int) (h0 : 1 ≤ n) (h1 : n ≤ 12) : 1 ≤ share n ∧ share n ≤ 2048 := twelve (p := fun n => 1 ≤ share n ∧ share n ≤ 2048) h0 h1 (by decide)
theorem share_shr (n : Int) (h0 : 1 ≤ n) (h1 : n ≤ 12) : (4096 : Int) / 2 ^ n.toNat = share n := twelve (p := fun n => (4096 : Int) / 2 ^ n.toNat = share n) h0 h1 (by decide)
theorem int_cell {w : World} {B n : Nat} {A : Option Addr} {l : List Int} (h : Rd w B 1 A n (ints l)) {k : Nat} (hk : k < n) : ∃ ad, ∃ hl : k < l.length, A = some ad ∧ ad.block < B ∧ w.cell? (ad.add k) = some (.int .i64 l[k]) := by
  obtain ⟨ad, u, hA, hb, hu, hc⟩ := h.at_ hk
  obtain ⟨x, hx, rfl⟩ := ints_at hu
  obtain ⟨hl, rfl⟩ := List.getElem?_eq_some_iff.1 hx
  exact ⟨ad, hl, hA, hb, hc⟩
theorem ints_len {w : World} {B n : Nat} {A : Option Addr} {l : List Int} (h : Rd w B 1 A n (ints l)) : l.length = n := by
  have := h.1; simpa [ints] using this
end Go.Proofs.Ytllcmmpepchieaa
