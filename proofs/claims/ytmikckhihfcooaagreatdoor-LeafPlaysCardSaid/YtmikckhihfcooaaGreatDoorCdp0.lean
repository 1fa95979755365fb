/- What is wrong with a row of words of 0 and 1 (plain). -/
import Derived.Test.YtmikckhihfcooaaGreatDoorBase
import Derived.Lib.SlTrimSet
namespace Go.Proofs.YtmikckhihfcooaaGreatDoor
def isBit (b : UInt8) : Bool := b == 48 || b == 49
def wE (pre : List (List UInt8)) (w : List UInt8) : Int :=
  if w = [] then 5 else if 12 < w.length then 2 else if w.all isBit = false then 3 else if w ∈ pre then 10 else 0
def errTo (l : List (List UInt8)) : Nat → Int
  | 0 => 0
  | i + 1 => if errTo l i = 0 then wE (l.take i) (l.getD i []) else errTo l i
def codeErr (l : List (List UInt8)) : Int := if 12 < l.length then 2 else errTo l l.length
theorem errTo_go {l : List (List UInt8)} {i : Nat} (h : errTo l i = 0) : errTo l (i + 1) = wE (l.take i) (l.getD i []) := by rw [errTo, if_pos h]
theorem errTo_stay {l : List (List UInt8)} {i n : Nat} {e : Int} (h : errTo l i = e) (he : e ≠ 0) (hn : i ≤ n) : errTo l n = e := by
  induction n with
  | zero =>
    obtain rfl : i = 0 := by omega
    exact h
  | succ n ih =>
    rcases Nat.lt_or_ge i (n + 1) with h1 | h1
    · have := ih (by omega)
      rw [errTo, if_neg (by rw [this]; exact he)]
      exact this
    · obtain rfl : i = n + 1 := by omega
      exact h
theorem codeErr_bad {l : List (List UInt8)} {i : Nat} {e : Int} (hl : l.length ≤ 12) (h : errTo l i = 0) (hi : i < l.length) (hw : wE (l.take i) (l.getD i []) = e) (he : e ≠ 0) : codeErr l = e := by
  unfold codeErr
  rw [if_neg (by omega)]
  exact errTo_stay (i := i + 1) (by rw [errTo_go h, hw]) he hi
theorem wE_5 {pre : List (List UInt8)} : wE pre [] = 5 := if_pos rfl
theorem wE_2 {pre : List (List UInt8)} {w : List UInt8} (h : 12 < w.length) : wE pre w = 2 := by
  unfold wE
  rw [if_neg (fun e => by rw [e] at h; simp at h), if_pos h]
theorem wE_3 {pre : List (List UInt8)} {w : List UInt8} (h0 : w ≠ []) (h : w.length ≤ 12) (hb : w.all isBit = false) : wE pre w = 3 := by
  unfold wE
  rw [if_neg h0, if_neg (by omega), if_pos hb]
theorem wE_10 {pre : List (List UInt8)} {w : List UInt8} (h0 : w ≠ []) (h : w.length ≤ 12) (hb : w.all isBit = true) (hp : w ∈ pre) : wE pre w = 10 := by
  unfold wE
  rw [if_neg h0, if_neg (by omega), if_neg (by rw [hb]; decide), if_pos hp]
theorem wE_0 {pre : List (List UInt8)} {w : List UInt8} (h0 : w ≠ []) (h : w.length ≤ 12) (hb : w.all isBit = true) (hp : w ∉ pre) : wE pre w = 0 := by
  unfold wE
  rw [if_neg h0, if_neg (by omega), if_neg (by rw [hb]; decide), if_neg hp]
theorem wE_ok {pre : List (List UInt8)} {w : List UInt8} (h : wE pre w = 0) : w ≠ [] ∧ w.length ≤ 12 ∧ w.all isBit = true ∧ w ∉ pre := by
  unfold wE at h
  by_cases h0 : w = []
  · rw [if_pos h0] at h; cases h
  rw [if_neg h0] at h
  by_cases h1 : 12 < w.length
  · rw [if_pos h1] at h; cases h
  rw [if_neg h1] at h
  by_cases h2 : w.all isBit = false
  · rw [if_pos h2] at h; cases h
  rw [if_neg h2] at h
  by_cases h3 : w ∈ pre
  · rw [if_pos h3] at h; cases h
  exact ⟨h0, by omega, by simpa using h2, h3⟩
theorem errTo_all {l : List (List UInt8)} : ∀ {n}, errTo l n = 0 → ∀ i, i < n → wE (l.take i) (l.getD i []) = 0 := by
  intro n
  induction n with
  | zero => intro _ i hi; omega
  | succ n ih =>
    intro h i hi
    rw [errTo] at h
    by_cases h1 : errTo l n = 0
    · rw [if_pos h1] at h
      rcases Nat.lt_or_ge i n with h2 | h2
      · exact ih h1 i h2
      · obtain rfl : i = n := by omega
        exact h
    · rw [if_neg h1] at h
      exact absurd h h1
/-- A row in order: few words, none empty, none long, of 0 and 1, all unlike. -/
structure Cod (l : List (List UInt8)) : Prop where
  len : l.length ≤ 12
  ne : ∀ i, i < l.length → l.getD i [] ≠ []
  le : ∀ i, i < l.length → (l.getD i []).length ≤ 12
  inj : ∀ i k, i < l.length → k < l.length → l.getD i [] = l.getD k [] → i = k
theorem cod_of {l : List (List UInt8)} (h : codeErr l = 0) : Cod l := by
  unfold codeErr at h
  by_cases h0 : 12 < l.length
  · rw [if_pos h0] at h; cases h
  rw [if_neg h0] at h
  have ha := errTo_all h
  have key : ∀ i k, i < k → k < l.length → l.getD i [] ≠ l.getD k [] := by
    intro i k hik hk e
    have h1 := (wE_ok (ha k hk)).2.2.2
    refine h1 ?_
    rw [← e, List.getD_eq_getElem?_getD, List.getElem?_eq_getElem (by omega)]
    exact List.mem_take_iff_getElem.2 ⟨i, by omega, rfl⟩
  refine ⟨by omega, fun i hi => (wE_ok (ha i hi)).1, fun i hi => (wE_ok (ha i hi)).2.1, fun i k hi hk e => ?_⟩
  rcases Nat.lt_trichotomy i k with h1 | h1 | h1
  · exact absurd e (key i k h1 hk)
  · exact h1
  · exact absurd e.symm (key k i h1 hi)
theorem dropWhile_nil {p : UInt8 → Bool} : ∀ {l : List UInt8}, l.dropWhile p = [] ↔ l.all p = true := by
  intro l
  induction l with
  | nil => simp
  | cons a l ih =>
    rw [List.dropWhile_cons, List.all_cons]
    cases h : p a with
    | true => simpa using ih
    | false => simp
theorem bit_in (b : UInt8) : ([48, 49] : List UInt8).contains b = isBit b := by
  simp only [List.contains, List.elem, isBit]
  cases (b == 48) <;> cases (b == 49) <;> rfl
theorem trim_nil (w : List UInt8) : Lib.trimS w [48, 49] = [] ↔ w.all isBit = true := by
  have e : (fun b => ([48, 49] : List UInt8).contains b) = isBit := funext bit_in
  unfold Lib.trimS Lib.trimLeftS Lib.trimRightS
  rw [e, dropWhile_nil, List.all_reverse]
  constructor
  · intro h
    have h2 : (w.reverse.dropWhile isBit) = [] := by
      cases h3 : w.reverse.dropWhile isBit with
      | nil => rfl
      | cons a r =>
        exfalso
        rw [h3, List.all_cons, Bool.and_eq_true] at h
        have := List.head?_dropWhile_not isBit w.reverse
        rw [h3] at this
        simp [h.1] at this
    have h3 := dropWhile_nil.1 h2
    rwa [List.all_reverse] at h3
  · intro h
    have h2 : w.reverse.all isBit = true := by rw [List.all_reverse]; exact h
    rw [dropWhile_nil.2 h2]; rfl
theorem count_bits (w : List UInt8) : (w.count 48 + w.count 49 = w.length) ↔ w.all isBit = true := by
  have hle : ∀ w : List UInt8, w.count 48 + w.count 49 ≤ w.length := by
    intro w
    induction w with
    | nil => simp
    | cons a w ih =>
      rw [List.count_cons, List.count_cons, List.length_cons]
      by_cases h1 : a = 48
      · subst h1; simp; omega
      · by_cases h2 : a = 49
        · subst h2; simp; omega
        · have e1 : (a == 48) = false := by simpa using h1
          have e2 : (a == 49) = false := by simpa using h2
          rw [e1, e2]; simp; omega
  induction w with
  | nil => simp
  | cons a w ih =>
    rw [List.count_cons, List.count_cons, List.length_cons, List.all_cons, Bool.and_eq_true]
    have := hle w
    have i1 := ih.1
    have i2 := ih.2
    clear ih hle
    unfold isBit
    by_cases h1 : a = 48
    · subst h1
      constructor
      · intro h; simp at h; exact ⟨by decide, i1 (by omega)⟩
      · rintro ⟨_, h⟩; have := i2 h; simp; omega
    · by_cases h2 : a = 49
      · subst h2
        constructor
        · intro h; simp at h; exact ⟨by decide, i1 (by omega)⟩
        · rintro ⟨_, h⟩; have := i2 h; simp; omega
      · have e1 : (a == 48) = false := by simpa using h1
        have e2 : (a == 49) = false := by simpa using h2
        rw [e1, e2]
        constructor
        · intro h; simp at h; omega
        · rintro ⟨h, _⟩; cases h
end Go.Proofs.YtmikckhihfcooaaGreatDoor
