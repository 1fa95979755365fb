/- What two texts begin with, and what they end with behind that; the edit between. No program in sight. -/
import Derived.Test.YthnedhfjochfnaaEdit0
namespace Go.Proofs.Ythnedhfjochfnaa
def cpl : List UInt8 → List UInt8 → Nat
  | x :: a, y :: b => if x = y then cpl a b + 1 else 0
  | _, _ => 0
theorem cpl_le (a b : List UInt8) : cpl a b ≤ a.length ∧ cpl a b ≤ b.length := by
  induction a generalizing b with
  | nil => simp [cpl]
  | cons x a ih =>
    cases b with
    | nil => simp [cpl]
    | cons y b =>
      have := ih b
      simp only [cpl, List.length_cons]
      split <;> omega
theorem cpl_take (a b : List UInt8) : a.take (cpl a b) = b.take (cpl a b) := by
  induction a generalizing b with
  | nil => simp [cpl]
  | cons x a ih =>
    cases b with
    | nil => simp [cpl]
    | cons y b =>
      simp only [cpl]
      split
      · rename_i h; subst h; simp [ih b]
      · simp
theorem cpl_ne (a b : List UInt8) (h1 : cpl a b < a.length) (h2 : cpl a b < b.length) : a.getD (cpl a b) 0 ≠ b.getD (cpl a b) 0 := by
  induction a generalizing b with
  | nil => simp at h1
  | cons x a ih =>
    cases b with
    | nil => simp at h2
    | cons y b =>
      simp only [cpl] at *
      split
      · rename_i h
        rw [if_pos h] at h1 h2
        have := ih b (by simpa using h1) (by simpa using h2)
        simpa using this
      · rename_i h; simpa using h
theorem cpl_eq {a b : List UInt8} {k : Nat} (h : k < cpl a b) : a.getD k 0 = b.getD k 0 := by
  have h1 := cpl_take a b
  have e1 : (a.take (cpl a b))[k]? = a[k]? := List.getElem?_take_of_lt h
  have e2 : (b.take (cpl a b))[k]? = b[k]? := List.getElem?_take_of_lt h
  rw [List.getD_eq_getElem?_getD, List.getD_eq_getElem?_getD, ← e1, ← e2, h1]
theorem cpl_step {a b : List UInt8} {k : Nat} (h : k ≤ cpl a b) (ha : k < a.length) (hb : k < b.length) (he : a.getD k 0 = b.getD k 0) : k + 1 ≤ cpl a b := by
  refine Nat.lt_of_le_of_ne h fun e => ?_
  subst e
  exact cpl_ne a b ha hb he
theorem cpl_stop {a b : List UInt8} {k : Nat} (h : k ≤ cpl a b) (hk : ¬ (k < a.length ∧ k < b.length)) : k = cpl a b := by
  have := cpl_le a b; omega
theorem cpl_stop' {a b : List UInt8} {k : Nat} (h : k ≤ cpl a b) (he : a.getD k 0 ≠ b.getD k 0) : k = cpl a b := by
  refine Nat.le_antisymm h (Nat.le_of_not_lt fun hlt => he ?_)
  have h1 := cpl_take a b
  have e1 : (a.take (cpl a b))[k]? = a[k]? := List.getElem?_take_of_lt hlt
  have e2 : (b.take (cpl a b))[k]? = b[k]? := List.getElem?_take_of_lt hlt
  rw [List.getD_eq_getElem?_getD, List.getD_eq_getElem?_getD, ← e1, ← e2, h1]
/-- What both end with, behind what both begin with. -/
def csl (a b : List UInt8) : Nat := cpl (a.drop (cpl a b)).reverse (b.drop (cpl a b)).reverse
theorem csl_le (a b : List UInt8) : cpl a b + csl a b ≤ a.length ∧ cpl a b + csl a b ≤ b.length := by
  have h1 := cpl_le a b
  have h2 := cpl_le (a.drop (cpl a b)).reverse (b.drop (cpl a b)).reverse
  simp only [List.length_reverse, List.length_drop] at h2
  unfold csl; omega
theorem drop_rev_getD (a : List UInt8) (n k : Nat) (h : n + k < a.length) : (a.drop n).reverse.getD k 0 = a.getD (a.length - 1 - k) 0 := by
  rw [List.getD_eq_getElem?_getD, List.getD_eq_getElem?_getD, List.getElem?_reverse (by rw [List.length_drop]; omega), List.getElem?_drop, List.length_drop]
  congr 2; omega
theorem csl_eq {a b : List UInt8} {k : Nat} (h : k < csl a b) : a.getD (a.length - 1 - k) 0 = b.getD (b.length - 1 - k) 0 := by
  have hl := csl_le a b
  rw [← drop_rev_getD a (cpl a b) k (by omega), ← drop_rev_getD b (cpl a b) k (by omega)]
  exact cpl_eq h
theorem csl_ne (a b : List UInt8) (h1 : cpl a b + csl a b < a.length) (h2 : cpl a b + csl a b < b.length) : a.getD (a.length - 1 - csl a b) 0 ≠ b.getD (b.length - 1 - csl a b) 0 := by
  rw [← drop_rev_getD a (cpl a b) (csl a b) h1, ← drop_rev_getD b (cpl a b) (csl a b) h2]
  exact cpl_ne _ _ (by rw [List.length_reverse, List.length_drop]; change csl a b < _; omega) (by rw [List.length_reverse, List.length_drop]; change csl a b < _; omega)
theorem same_of (a b : List UInt8) (h1 : a.length = cpl a b + csl a b) (h2 : b.length = cpl a b + csl a b) : a = b := by
  have h3 := cpl_take a b
  have h4 := cpl_take (a.drop (cpl a b)).reverse (b.drop (cpl a b)).reverse
  change (a.drop (cpl a b)).reverse.take (csl a b) = (b.drop (cpl a b)).reverse.take (csl a b) at h4
  rw [List.take_of_length_le (by simp; omega), List.take_of_length_le (by simp; omega)] at h4
  have h5 := List.reverse_inj.1 h4
  have e1 := List.take_append_drop (cpl a b) a
  have e2 := List.take_append_drop (cpl a b) b
  exact e1.symm.trans ((congr (congrArg _ h3) h5).trans e2)
theorem cpl_self (a : List UInt8) : cpl a a = a.length := by
  induction a with
  | nil => rfl
  | cons x a ih => simp [cpl, ih]
theorem csl_self (a : List UInt8) : csl a a = 0 := by
  have := csl_le a a
  rw [cpl_self] at this; omega
/-- The edit between two texts. -/
def btw (s t : List UInt8) : Ed := ⟨cpl s t, ((s.length - cpl s t - csl s t : Nat) : Int), (t.drop (cpl s t)).take (t.length - cpl s t - csl s t)⟩
def between (s t : List UInt8) : List Ed := if s = t then [] else [btw s t]
theorem btw_none (s t : List UInt8) : ((btw s t).del = 0 ∧ (btw s t).ins.length = 0) ↔ s = t := by
  have h := csl_le s t
  constructor
  · rintro ⟨h1, h2⟩
    simp only [btw, List.length_take, List.length_drop] at h1 h2
    exact same_of s t (by omega) (by omega)
  · rintro rfl
    simp [btw, cpl_self, csl_self]
/-- What edit.Of answers. -/
def ofErr (s t : List UInt8) : Int := if 200 < s.length ∨ 200 < t.length then 2 else edErr s.length (between s t)
end Go.Proofs.Ythnedhfjochfnaa
