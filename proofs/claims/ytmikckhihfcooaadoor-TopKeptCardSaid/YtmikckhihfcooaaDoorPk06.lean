/- Words of bits in order, as plain lists. No program in sight. What slices.Equal returns on two slices of the same cells. code.Sum, the reference's LensErr, code.bits. -/
import Derived.Test.YtmikckhihfcooaaDoorPk01
import Derived.Test.YtmikckhihfcooaaDoorPk02
import Derived.Test.YtmikckhihfcooaaDoorPk03
namespace Go.Proofs.YtmikckhihfcooaaDoor
/-- The n lowest bits of x, the highest first. -/
def bw (x : Nat) : Nat → List UInt8
  | 0 => []
  | n + 1 => UInt8.ofNat (48 + x / 2 ^ n % 2) :: bw x n
theorem bw_len (x n : Nat) : (bw x n).length = n := by
  induction n with
  | zero => rfl
  | succ n ih => simp [bw, ih]
theorem mod_succ (x n : Nat) : x % 2 ^ (n + 1) = x / 2 ^ n % 2 * 2 ^ n + x % 2 ^ n := by
  rw [Nat.pow_succ, Nat.mod_mul, Nat.mul_comm]; omega
theorem bw_less (n m x y : Nat) (h : m ≤ n) : (!Op.bytesLess (bw y m) (bw x n) || (bw y m).isPrefixOf (bw x n)) = decide (x % 2 ^ n / 2 ^ (n - m) ≤ y % 2 ^ m) := by
  induction m generalizing n with
  | zero =>
    have h0 : x % 2 ^ n / 2 ^ (n - 0) = 0 := Nat.div_eq_of_lt (Nat.mod_lt _ (Nat.two_pow_pos _))
    rw [h0]; simp [bw]
  | succ m ih =>
    obtain ⟨n, rfl⟩ : ∃ k, n = k + 1 := ⟨n - 1, by omega⟩
    have ih := ih n (by omega)
    have e1 : n + 1 - (m + 1) = n - m := by omega
    have e2 : x % 2 ^ (n + 1) / 2 ^ (n - m) = x / 2 ^ n % 2 * 2 ^ m + x % 2 ^ n / 2 ^ (n - m) := by
      rw [mod_succ]
      have : (2 : Nat) ^ n = 2 ^ m * 2 ^ (n - m) := by rw [← Nat.pow_add]; congr 1; omega
      have e3 : x / 2 ^ n % 2 * 2 ^ n = 2 ^ (n - m) * (x / 2 ^ n % 2 * 2 ^ m) := by
        rw [this, Nat.mul_comm (2 ^ (n - m)), Nat.mul_assoc]
      rw [e3, Nat.mul_add_div (Nat.two_pow_pos _)]
    rw [e1, e2, mod_succ y m]
    have hx : x / 2 ^ n % 2 < 2 := Nat.mod_lt _ (by omega)
    have hy : y / 2 ^ m % 2 < 2 := Nat.mod_lt _ (by omega)
    have hb : y % 2 ^ m < 2 ^ m := Nat.mod_lt _ (Nat.two_pow_pos _)
    have hd : x % 2 ^ n / 2 ^ (n - m) < 2 ^ m := by
      rw [Nat.div_lt_iff_lt_mul (Nat.two_pow_pos _), ← Nat.pow_add, show m + (n - m) = n by omega]
      exact Nat.mod_lt _ (Nat.two_pow_pos _)
    simp only [bw]
    generalize x % 2 ^ n / 2 ^ (n - m) = X at *
    generalize y % 2 ^ m = Y at *
    generalize (2 : Nat) ^ m = M at *
    generalize x / 2 ^ n % 2 = bx at *
    generalize y / M % 2 = by_ at *
    have d1 : ¬ (48 : UInt8) < 48 := by decide
    have d2 : ¬ (49 : UInt8) < 49 := by decide
    have d3 : (48 : UInt8) < 49 := by decide
    have d4 : ¬ (49 : UInt8) < 48 := by decide
    rcases (by omega : bx = 0 ∨ bx = 1) with rfl | rfl <;> rcases (by omega : by_ = 0 ∨ by_ = 1) with rfl | rfl <;> simp [Op.bytesLess, List.isPrefixOf]
    · simpa using ih
    · omega
    · omega
    · simpa using ih
/-- The words so far end at e; x is the first that may be. -/
theorem code_ok {n m x y e : Nat} (h : m ≤ n) (hn : n ≤ 12) (hx : x < 2 ^ n) (hy : y < 2 ^ m) (he : (y + 1) * 2 ^ (12 - m) = e) :
    (!Op.bytesLess (bw y m) (bw x n) || (bw y m).isPrefixOf (bw x n)) = decide (x * 2 ^ (12 - n) < e) := by
  rw [bw_less n m x y h, Nat.mod_eq_of_lt hx, Nat.mod_eq_of_lt hy, Bool.eq_iff_iff, decide_eq_true_iff, decide_eq_true_iff, ← he, ← Nat.lt_succ_iff, Nat.div_lt_iff_lt_mul (Nat.two_pow_pos _)]
  have : (2 : Nat) ^ (12 - m) = 2 ^ (n - m) * 2 ^ (12 - n) := by rw [← Nat.pow_add]; congr 1; omega
  rw [this, ← Nat.mul_assoc]
  exact (Nat.mul_lt_mul_right (Nat.two_pow_pos _)).symm
end Go.Proofs.YtmikckhihfcooaaDoor
namespace Go.Proofs.YtmikckhihfcooaaDoor
open Go.RowKit

def ints (l : List Int) : List Value := l.map (.int .i64 ·)

theorem ints_at {l : List Int} {k : Nat} {u : Value} (h : (ints l)[k]? = some u) : ∃ x, l[k]? = some x ∧ u = .int .i64 x := by
  unfold ints at h
  rw [List.getElem?_map] at h
  cases hx : l[k]? with
  | none => rw [hx] at h; simp at h
  | some x => rw [hx] at h; exact ⟨x, rfl, by simpa using h.symm⟩

end Go.Proofs.YtmikckhihfcooaaDoor
namespace Go.Proofs.YtmikckhihfcooaaDoor
open Go.RowKit
/-- The size of a word's share. -/
def share (n : Int) : Int := 2 ^ (12 - n).toNat
def lensGo : Int → List Int → Int × Int
  | s, [] => (s, 0)
  | s, n :: r => if n < 1 ∨ 12 < n then (0, 1) else lensGo (s + share n) r
def lensErr (l : List Int) : Int × Int := if 12 < l.length then (0, 2) else lensGo 0 l
theorem twelve {p : Int → Prop} {n : Int} (h0 : 1 ≤ n) (h1 : n ≤ 12) (h : ∀ k : Fin 12, p ((k.val : Int) + 1)) : p n := by
  have := h ⟨(n - 1).toNat, by omega⟩
  rwa [show (((n - 1).toNat : Int) + 1) = n by omega] at this
theorem share_bd (n : Int) (h0 : 1 ≤ n) (h1 : n ≤ 12) : 1 ≤ share n ∧ share n ≤ 2048 := twelve (p := fun n => 1 ≤ share n ∧ share n ≤ 2048) h0 h1 (by decide)
theorem share_shr (n : Int) (h0 : 1 ≤ n) (h1 : n ≤ 12) : (4096 : Int) / 2 ^ n.toNat = share n := twelve (p := fun n => (4096 : Int) / 2 ^ n.toNat = share n) h0 h1 (by decide)
theorem int_cell {w : World} {B n : Nat} {A : Option Addr} {l : List Int} (h : Rd w B 1 A n (ints l)) {k : Nat} (hk : k < n) : ∃ ad, ∃ hl : k < l.length, A = some ad ∧ ad.block < B ∧ w.cell? (ad.add k) = some (.int .i64 l[k]) := by
  obtain ⟨ad, u, hA, hb, hu, hc⟩ := h.at_ hk
  obtain ⟨x, hx, rfl⟩ := ints_at hu
  obtain ⟨hl, rfl⟩ := List.getElem?_eq_some_iff.1 hx
  exact ⟨ad, hl, hA, hb, hc⟩
theorem ints_len {w : World} {B n : Nat} {A : Option Addr} {l : List Int} (h : Rd w B 1 A n (ints l)) : l.length = n := by
  have := h.1; simpa [ints] using this
end Go.Proofs.YtmikckhihfcooaaDoor
