/- The word that comes next, as plain lists. -/
import Derived.Test.YtllcmmpepchieaaLyn0
namespace Go.Proofs.Ytllcmmpepchieaa
def wdb (s : List UInt8) (i : Nat) : UInt8 := s.getD (i % s.length) 0
/-- The word, again and again, n bytes of it. -/
def wd (s : List UInt8) (n : Nat) : List UInt8 := (List.range n).map (wdb s)
theorem wd_len (s : List UInt8) (n : Nat) : (wd s n).length = n := by simp [wd]
theorem wd_succ (s : List UInt8) (n : Nat) : wd s (n + 1) = wd s n ++ [wdb s n] := by simp [wd, List.range_succ]
theorem wd_at (s : List UInt8) {n i : Nat} (h : i < n) : (wd s n).getD i 0 = wdb s i := by
  rw [List.getD_eq_getElem?_getD, wd, List.getElem?_map, List.getElem?_range h]; rfl
theorem wd_take (s : List UInt8) {n m : Nat} (h : m ≤ n) : (wd s n).take m = wd s m := by
  rw [wd, wd, ← List.map_take, List.take_range, Nat.min_eq_left h]
theorem wd_self (s : List UInt8) : wd s s.length = s := by
  apply List.ext_getElem
  · exact wd_len _ _
  · intro i h1 h2
    have := wd_at s (n := s.length) h2
    rw [List.getD_eq_getElem?_getD, List.getElem?_eq_getElem h1, wdb, Nat.mod_eq_of_lt h2, List.getD_eq_getElem?_getD, List.getElem?_eq_getElem h2] at this
    exact this
theorem wdb_back (s : List UInt8) {k : Nat} (h : s.length ≤ k) : wdb s (k - s.length) = wdb s k := by
  unfold wdb; rw [← Nat.mod_eq_sub_mod h]
theorem rep_at (l : List UInt8) : ∀ (m i : Nat), i < m * l.length → (List.replicate m l).flatten.getD i 0 = l.getD (i % l.length) 0
  | 0, i, hi => by omega
  | m + 1, i, hi => by
    rw [List.replicate_succ, List.flatten_cons, List.getD_eq_getElem?_getD]
    by_cases h : i < l.length
    · rw [List.getElem?_append_left (by omega), Nat.mod_eq_of_lt h, List.getD_eq_getElem?_getD]
    · rw [List.getElem?_append_right (by omega), ← List.getD_eq_getElem?_getD, rep_at l m (i - l.length) (by rw [Nat.add_mul] at hi; omega)]
      congr 1
      rw [Nat.mod_eq_sub_mod (a := i) (by omega)]
theorem wd_rep (s : List UInt8) {c n : Nat} (h : n ≤ c * s.length) : ((List.replicate c s).flatten).take n = wd s n := by
  have hl : ((List.replicate c s).flatten).length = c * s.length := by simp
  apply List.ext_getElem
  · rw [List.length_take, hl, wd_len]; omega
  · intro i h1 h2
    rw [wd_len] at h2
    have e1 := rep_at s c i (by omega)
    have e2 := wd_at s h2
    rw [List.getElem_take]
    rw [List.getD_eq_getElem?_getD, List.getElem?_eq_getElem (by omega)] at e1 e2
    show (some _).getD 0 = (some _).getD 0
    rw [e1, e2]; rfl
/-- What is left when the last bytes of that kind are struck. -/
def stp (w : List UInt8) (last : UInt8) : Nat → Nat
  | 0 => 0
  | m + 1 => if w.getD m 0 = last then stp w last m else m + 1
theorem stp_le (w : List UInt8) (last : UInt8) : ∀ n, stp w last n ≤ n
  | 0 => Nat.le_refl _
  | m + 1 => by
    rw [stp]; split
    · exact Nat.le_trans (stp_le w last m) (Nat.le_succ _)
    · exact Nat.le_refl _
def nextW (s : List UInt8) (n : Nat) (last : UInt8) : List UInt8 := wd s (stp (wd s n) last n - 1) ++ [wdb s (stp (wd s n) last n - 1) + 1]
/-- Is a byte above the last? -/
def anyGt (s : List UInt8) (last : UInt8) : Bool := s.any fun c => decide (last < c)
def maxB (s : List UInt8) : UInt8 := s.tail.foldl max (s.headD 0)
theorem foldl_max : ∀ (l : List UInt8) (m last : UInt8), last < l.foldl max m ↔ last < m ∨ ∃ c ∈ l, last < c
  | [], m, last => by simp
  | x :: l, m, last => by
    rw [List.foldl_cons, foldl_max l (max m x) last]
    have h : last < max m x ↔ last < m ∨ last < x := by
      show last < (if m ≤ x then x else m) ↔ _
      by_cases hmx : m ≤ x
      · rw [if_pos hmx]
        constructor
        · exact .inr
        · rintro (h | h)
          · exact UInt8.lt_of_lt_of_le h hmx
          · exact h
      · rw [if_neg hmx]
        have hxm : x < m := UInt8.not_le.1 hmx
        constructor
        · exact .inl
        · rintro (h | h)
          · exact h
          · exact UInt8.lt_trans h hxm
    rw [h]
    simp only [List.mem_cons, exists_eq_or_imp]
    constructor
    · rintro ((h | h) | h)
      · exact .inl h
      · exact .inr (.inl h)
      · exact .inr (.inr h)
    · rintro (h | h | h)
      · exact .inl (.inl h)
      · exact .inl (.inr h)
      · exact .inr h
theorem maxB_gt {s : List UInt8} (h : s ≠ []) (last : UInt8) : decide (last < maxB s) = anyGt s last := by
  cases s with
  | nil => exact absurd rfl h
  | cons x l =>
    rw [Bool.eq_iff_iff, decide_eq_true_iff, maxB, anyGt, List.any_eq_true]
    show last < l.foldl max x ↔ _
    rw [foldl_max]
    simp only [decide_eq_true_eq, List.mem_cons, exists_eq_or_imp]
end Go.Proofs.Ytllcmmpepchieaa
