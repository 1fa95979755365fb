/- All the parts that mirror.Unlike gathers. -/
import Derived.Test.YtmmamdjbbpeifaaMirrA
namespace Go.Proofs.Ytmmamdjbbpeifaa
def armP (s : List UInt8) (k : Nat) : Nat → List (List UInt8)
  | 0 => []
  | 1 => [part s ((k - 1) / 2) ((k + 1) / 2)]
  | r + 2 => part s ((k - (r + 2)) / 2) ((k + (r + 2)) / 2) :: armP s k r
theorem armP_pos (s : List UInt8) (k : Nat) {r : Nat} (h : 0 < r) : armP s k r = part s ((k - r) / 2) ((k + r) / 2) :: armP s k (r - 2) := by
  match r, h with
  | 1, _ => rfl
  | r + 2, _ => rfl
theorem armP_mem (s : List UInt8) (k : Nat) (x : List UInt8) : ∀ r, x ∈ armP s k r ↔ ∃ q, 0 < q ∧ q ≤ r ∧ q % 2 = r % 2 ∧ x = part s ((k - q) / 2) ((k + q) / 2) := by
  intro r
  induction r using Nat.strongRecOn with
  | _ r ih =>
    rcases Nat.eq_zero_or_pos r with rfl | h
    · constructor
      · intro h; cases h
      · rintro ⟨q, h1, h2, _⟩; omega
    · rw [armP_pos s k h, List.mem_cons, ih (r - 2) (by omega)]
      constructor
      · rintro (rfl | ⟨q, h1, h2, h3, h4⟩)
        · exact ⟨r, h, Nat.le_refl _, rfl, rfl⟩
        · exact ⟨q, h1, by omega, by omega, h4⟩
      · rintro ⟨q, h1, h2, h3, h4⟩
        by_cases e : q = r
        · subst e; exact .inl h4
        · exact .inr ⟨q, h1, by omega, by omega, h4⟩
noncomputable def allP (s : List UInt8) : Nat → List (List UInt8)
  | 0 => []
  | k + 1 => allP s k ++ armP s k (armOf s k)
theorem allP_mem0 (s : List UInt8) (x : List UInt8) : ∀ K, x ∈ allP s K ↔ ∃ k, k < K ∧ x ∈ armP s k (armOf s k) := by
  intro K
  induction K with
  | zero => simp [allP]
  | succ K ih =>
    rw [allP, List.mem_append, ih]
    constructor
    · rintro (⟨k, hk, h⟩ | h)
      · exact ⟨k, by omega, h⟩
      · exact ⟨K, by omega, h⟩
    · rintro ⟨k, hk, h⟩
      rcases Nat.lt_or_ge k K with h1 | h1
      · exact .inl ⟨k, h1, h⟩
      · obtain rfl : k = K := by omega
        exact .inr h
/-- They are the parts that are the same from behind. -/
theorem allP_mem (s : List UInt8) (x : List UInt8) : x ∈ allP s (2 * s.length + 1) ↔ ∃ i k, i < k ∧ k ≤ s.length ∧ x = part s i k ∧ mirB x = true := by
  rw [allP_mem0]
  constructor
  · rintro ⟨c, hc, h⟩
    have hm := armOf_max (s := s) (k := c) (by omega)
    have e := hm.even
    have l1 := hm.1.lo
    have l2 := hm.1.hi
    obtain ⟨q, h1, h2, h3, rfl⟩ := (armP_mem s c x _).1 h
    refine ⟨(c - q) / 2, (c + q) / 2, by omega, by omega, rfl, ?_⟩
    refine mir_of_rad (by omega) (by omega) ?_
    rw [show (c - q) / 2 + (c + q) / 2 = c by omega, show (c + q) / 2 - (c - q) / 2 = q by omega]
    exact hm.1.less h2
  · rintro ⟨i, k, hik, hk, rfl, h⟩
    have hm := armOf_max (s := s) (k := i + k) (by omega)
    have e := hm.even
    have h1 := hm.ge (rad_of_mir (by omega) hk h)
    refine ⟨i + k, by omega, (armP_mem s (i + k) _ _).2 ⟨k - i, by omega, h1, by omega, ?_⟩⟩
    rw [show (i + k - (k - i)) / 2 = i by omega, show (i + k + (k - i)) / 2 = k by omega]
end Go.Proofs.Ytmmamdjbbpeifaa
