/- What slices.Equal returns on two slices of the same cells. code.Sum, the reference's LensErr, code.bits. code.bits. -/
import Derived.Test.YtncakjchaniheaaPk01
import Derived.Test.YtncakjchaniheaaPk05
import Derived.Test.YtncakjchaniheaaPk02
namespace Go.Proofs.Ytncakjchaniheaa
open Go.RowKit

def ints (l : List Int) : List Value := l.map (.int .i64 ·)

theorem ints_at {l : List Int} {k : Nat} {u : Value} (h : (ints l)[k]? = some u) : ∃ x, l[k]? = some x ∧ u = .int .i64 x := by
  unfold ints at h
  rw [List.getElem?_map] at h
  cases hx : l[k]? with
  | none => rw [hx] at h; simp at h
  | some x => rw [hx] at h; exact ⟨x, rfl, by simpa using h.symm⟩

end Go.Proofs.Ytncakjchaniheaa
namespace Go.Proofs.Ytncakjchaniheaa
open Go.RowKit
/-- The size of a word's share. -/
def share (n : Int) : Int := 2 ^ (12 - n).toNat
def lensGo : Int → List Int → Int × Int
  | s, [] => (s, 0)
  | s, n :: r => if n < 1 ∨ 12 < n then (0, 1) else lensGo (s + share n) r
def lensErr (l : List Int) : Int × Int := if 12 < l.length then (0, 2) else lensGo 0 l
theorem twelve {p : Int → Prop} {n : Int} (h0 : 1 ≤ n) (h1 : n ≤ 12) (h : ∀ k : Fin 12, p ((k.val : Int) + 1)) : p n := by
  have := h ⟨(n - 1).toNat, by omega⟩
  rwa [show (((n - 1).toNat : Int) + 1) = n by omega] at this
theorem share_bd (n : Int) (h0 : 1 ≤ n) (h1 : n ≤ 12) : 1 ≤ share n ∧ share n ≤ 2048 := twelve (p := fun n => 1 ≤ share n ∧ share n ≤ 2048) h0 h1 (by decide)
theorem share_shr (n : Int) (h0 : 1 ≤ n) (h1 : n ≤ 12) : (4096 : Int) / 2 ^ n.toNat = share n := twelve (p := fun n => (4096 : Int) / 2 ^ n.toNat = share n) h0 h1 (by decide)
theorem int_cell {w : World} {B n : Nat} {A : Option Addr} {l : List Int} (h : Rd w B 1 A n (ints l)) {k : Nat} (hk : k < n) : ∃ ad, ∃ hl : k < l.length, A = some ad ∧ ad.block < B ∧ w.cell? (ad.add k) = some (.int .i64 l[k]) := by
  obtain ⟨ad, u, hA, hb, hu, hc⟩ := h.at_ hk
  obtain ⟨x, hx, rfl⟩ := ints_at hu
  obtain ⟨hl, rfl⟩ := List.getElem?_eq_some_iff.1 hx
  exact ⟨ad, hl, hA, hb, hc⟩
theorem ints_len {w : World} {B n : Nat} {A : Option Addr} {l : List Int} (h : Rd w B 1 A n (ints l)) : l.length = n := by
  have := h.1; simpa [ints] using this
end Go.Proofs.Ytncakjchaniheaa
namespace Go.Proofs.Ytncakjchaniheaa
open Go.RowKit
theorem ofInt_64 (a : Nat) (ha : a < 4096) : (BitVec.ofInt 64 (a : Int)).toNat = a := by
  rw [BitVec.ofInt_natCast, BitVec.toNat_ofNat]; exact Nat.mod_eq_of_lt (by omega)
theorem i64_and_nat (a b : Nat) (ha : a < 4096) (hb : b < 4096) : bits .and .i64 (a : Int) (b : Int) = ((a &&& b : Nat) : Int) := by
  have hx : a &&& b < 2 ^ 12 := Nat.and_lt_two_pow _ (by omega)
  show IntKind.i64.wrap ((BitVec.ofInt 64 (a : Int) &&& BitVec.ofInt 64 (b : Int)).toNat : Int) = _
  rw [BitVec.toNat_and, ofInt_64 a ha, ofInt_64 b hb, IntWalk.i64_in _ (by omega)]
theorem bw_step (x j : Nat) : bw x (j + 1) = UInt8.ofNat (48 + x / 2 ^ j % 2) :: bw x j := rfl
theorem rune0 (W : World) : (convert 21 9 (.int .i32 48)).run Try.prog W = .ok (.string (S [48])) W := by kernel_rfl
theorem rune1 (W : World) : (convert 21 9 (.int .i32 49)).run Try.prog W = .ok (.string (S [49])) W := by kernel_rfl
end Go.Proofs.Ytncakjchaniheaa
