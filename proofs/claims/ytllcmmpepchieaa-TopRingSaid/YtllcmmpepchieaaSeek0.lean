/- Where a word stands in a text; with how many bytes both begin. Plain lists, no program in sight. -/
import Derived.Test.YtllcmmpepchieaaWord0
namespace Go.Proofs.Ytllcmmpepchieaa
/-- The text ends, at i, with the first k bytes of the word. -/
def Sx (s p : List UInt8) (i k : Nat) : Prop := k ≤ p.length ∧ k ≤ i ∧ ∀ j, j < k → s.getD (i - k + j) 0 = p.getD j 0
theorem Sx.zero (s p : List UInt8) (i : Nat) : Sx s p i 0 := ⟨Nat.zero_le _, Nat.zero_le _, fun _ h => by omega⟩
theorem Sx.bd {s p : List UInt8} {i k k' : Nat} (h : Sx s p i k) (h' : Sx s p i k') (hk : k' ≤ k) : Bd p k k' := by
  refine ⟨hk, fun j hj => ?_⟩
  rw [← h.2.2 (k - k' + j) (by omega), ← h'.2.2 j hj]
  congr 1
  have := h.2.1; omega
theorem Sx.down {s p : List UInt8} {i k k' : Nat} (h : Sx s p i k) (h' : Bd p k k') : Sx s p i k' := by
  refine ⟨Nat.le_trans h'.1 h.1, Nat.le_trans h'.1 h.2.1, fun j hj => ?_⟩
  rw [← h'.2 j hj, ← h.2.2 (k - k' + j) (by have := h'.1; omega)]
  congr 1
  have := h.2.1; have := h'.1; omega
theorem Sx.succ {s p : List UInt8} {i k : Nat} : Sx s p (i + 1) (k + 1) ↔ Sx s p i k ∧ k < p.length ∧ s.getD i 0 = p.getD k 0 := by
  constructor
  · rintro ⟨h1, h2, h3⟩
    refine ⟨⟨by omega, by omega, fun j hj => ?_⟩, by omega, ?_⟩
    · rw [← h3 j (by omega)]; congr 1; omega
    · rw [← h3 k (by omega)]; congr 1; omega
  · rintro ⟨⟨h1, h2, h3⟩, h4, h5⟩
    refine ⟨h4, by omega, fun j hj => ?_⟩
    by_cases e : j = k
    · subst e; rw [← h5]; congr 1; omega
    · rw [← h3 j (by omega)]; congr 1; omega
/-- The longest such k. -/
def Sk (s p : List UInt8) (i k : Nat) : Prop := Sx s p i k ∧ ∀ k', Sx s p i k' → k' ≤ k
/-- Where the search for it stands: what could be gone on with is at most k. -/
def Ki (s p : List UInt8) (i k : Nat) : Prop := Sx s p i k ∧ ∀ k', k' < p.length → Sx s p i k' → p.getD k' 0 = s.getD i 0 → k' ≤ k
theorem Sk.start (s p : List UInt8) : Sk s p 0 0 := ⟨Sx.zero s p 0, fun _ h => h.2.1⟩
theorem Sk.ki {s p : List UInt8} {i k : Nat} (h : Sk s p i k) : Ki s p i k := ⟨h.1, fun k' _ h' _ => h.2 k' h'⟩
theorem Ki.next {s p : List UInt8} {i k : Nat} (h : Ki s p i k) (hk : 0 < k) (hne : k = p.length ∨ p.getD k 0 ≠ s.getD i 0) : Ki s p i (fb p k) := by
  refine ⟨h.1.down (fb_bd p k), fun k' h1 h2 h3 => ?_⟩
  have h4 := h.2 k' h1 h2 h3
  have h5 : k' ≠ k := fun e => by
    subst e
    rcases hne with hne | hne
    · omega
    · exact hne h3
  exact fb_max (by omega) (h.1.bd h2 h4)
theorem Ki.hit {s p : List UInt8} {i k : Nat} (h : Ki s p i k) (hk : k < p.length) (he : p.getD k 0 = s.getD i 0) : Sk s p (i + 1) (k + 1) := by
  refine ⟨Sx.succ.2 ⟨h.1, hk, he.symm⟩, fun k' h' => ?_⟩
  cases k' with
  | zero => omega
  | succ k' =>
    obtain ⟨h1, h2, h3⟩ := Sx.succ.1 h'
    have := h.2 k' h2 h1 h3.symm; omega
theorem Ki.miss {s p : List UInt8} {i : Nat} (h : Ki s p i 0) (hne : p.getD 0 0 ≠ s.getD i 0) : Sk s p (i + 1) 0 := by
  refine ⟨Sx.zero _ _ _, fun k' h' => ?_⟩
  cases k' with
  | zero => omega
  | succ k' =>
    exfalso
    obtain ⟨h1, h2, h3⟩ := Sx.succ.1 h'
    have := h.2 k' h2 h1 h3.symm
    obtain rfl : k' = 0 := by omega
    exact hne h3.symm
/-- Does the word stand here? -/
def hitB (s p : List UInt8) (a : Nat) : Bool := decide ((s.drop a).take p.length = p)
theorem hitB_iff {s p : List UInt8} {i : Nat} (h : p.length ≤ i) (hi : i ≤ s.length) : hitB s p (i - p.length) = true ↔ Sx s p i p.length := by
  unfold hitB
  rw [decide_eq_true_iff]
  have hl : ((s.drop (i - p.length)).take p.length).length = p.length := by rw [List.length_take, List.length_drop]; omega
  have hg : ∀ j, j < p.length → ((s.drop (i - p.length)).take p.length).getD j 0 = s.getD (i - p.length + j) 0 := fun j hj => by
    rw [List.getD_eq_getElem?_getD, List.getElem?_take_of_lt hj, List.getElem?_drop, ← List.getD_eq_getElem?_getD]
  constructor
  · intro e
    refine ⟨Nat.le_refl _, h, fun j hj => ?_⟩
    rw [← hg j hj, e]
  · rintro ⟨_, _, h3⟩
    apply List.ext_getElem hl
    intro j h1 h2
    have h4 := hg j h2
    rw [h3 j h2, List.getD_eq_getElem?_getD, List.getElem?_eq_getElem h1, List.getD_eq_getElem?_getD, List.getElem?_eq_getElem h2] at h4
    exact h4
theorem Sk.full {s p : List UInt8} {i k : Nat} (h : Sk s p i k) (hi : i ≤ s.length) : k = p.length ↔ p.length ≤ i ∧ hitB s p (i - p.length) = true := by
  constructor
  · intro e
    have h1 := h.1
    rw [e] at h1
    exact ⟨h1.2.1, (hitB_iff h1.2.1 hi).2 h1⟩
  · rintro ⟨h1, h2⟩
    have h3 := h.2 _ ((hitB_iff h1 hi).1 h2)
    have := h.1.1; omega
/-- All places among the first n. -/
def finds (s p : List UInt8) (n : Nat) : List Nat := (List.range n).filter (hitB s p)
theorem finds_succ (s p : List UInt8) (n : Nat) : finds s p (n + 1) = finds s p n ++ if hitB s p n = true then [n] else [] := by
  unfold finds
  rw [List.range_succ, List.filter_append]
  by_cases h : hitB s p n = true
  · rw [if_pos h]; simp [h]
  · rw [if_neg h]; simp [h]
theorem finds_len (s p : List UInt8) (n : Nat) : (finds s p n).length ≤ n := by
  have := List.length_filter_le (hitB s p) (List.range n)
  rw [List.length_range] at this; exact this
/-- One byte more of the text. -/
theorem finds_step {s p : List UInt8} {i k : Nat} (h : Sk s p (i + 1) k) (hi : i < s.length) :
    finds s p (i + 2 - p.length) = finds s p (i + 1 - p.length) ++ if k = p.length then [i + 1 - p.length] else [] := by
  rcases Nat.lt_or_ge (i + 1) p.length with h1 | h1
  · rw [if_neg (fun e => by have := h.1.2.1; omega), show i + 2 - p.length = 0 by omega, show i + 1 - p.length = 0 by omega]; rfl
  · rw [show i + 2 - p.length = i + 1 - p.length + 1 by omega, finds_succ]
    have h2 := h.full (by omega)
    by_cases e : k = p.length
    · rw [if_pos e, if_pos (h2.1 e).2]
    · rw [if_neg e, if_neg (fun h3 => e (h2.2 ⟨h1, h3⟩))]
/-- With how many bytes both begin. -/
def lcp : List UInt8 → List UInt8 → Nat
  | a :: x, b :: y => if a = b then lcp x y + 1 else 0
  | _, _ => 0
theorem lcp_le : ∀ (x y : List UInt8), lcp x y ≤ x.length ∧ lcp x y ≤ y.length
  | [], y => by simp [lcp]
  | a :: x, [] => by simp [lcp]
  | a :: x, b :: y => by
    rw [lcp]
    have := lcp_le x y
    split <;> simp <;> omega
theorem lcp_eq : ∀ (x y : List UInt8) (k : Nat), k ≤ x.length → k ≤ y.length → (∀ j, j < k → x.getD j 0 = y.getD j 0) → (k = x.length ∨ k = y.length ∨ x.getD k 0 ≠ y.getD k 0) → lcp x y = k
  | [], y, k, h1, _, _, _ => by simp at h1; simp [lcp, h1]
  | a :: x, [], k, _, h2, _, _ => by simp at h2; simp [lcp, h2]
  | a :: x, b :: y, k, h1, h2, h3, h4 => by
    rw [lcp]
    cases k with
    | zero =>
      rcases h4 with h4 | h4 | h4
      · simp at h4
      · simp at h4
      · rw [if_neg]; simpa using h4
    | succ k =>
      have h0 := h3 0 (Nat.succ_pos _)
      rw [if_pos (by simpa using h0), lcp_eq x y k (by simpa using h1) (by simpa using h2) (fun j hj => by have := h3 (j + 1) (by omega); simpa using this) (by
        rcases h4 with h4 | h4 | h4
        · left; simpa using h4
        · right; left; simpa using h4
        · right; right; simpa using h4)]
theorem lcp_get : ∀ (x y : List UInt8) (j : Nat), j < lcp x y → x.getD j 0 = y.getD j 0
  | [], y, j, h => by simp [lcp] at h
  | a :: x, [], j, h => by simp [lcp] at h
  | a :: x, b :: y, j, h => by
    rw [lcp] at h
    split at h
    · rename_i e
      cases j with
      | zero => simpa using e
      | succ j => simpa using lcp_get x y j (by omega)
    · omega
def zAt (s : List UInt8) (i : Nat) : Nat := lcp s (s.drop i)
theorem drop_getD (s : List UInt8) (i j : Nat) : (s.drop i).getD j 0 = s.getD (i + j) 0 := by
  rw [List.getD_eq_getElem?_getD, List.getElem?_drop, ← List.getD_eq_getElem?_getD]
theorem zAt_eq {s : List UInt8} {i k : Nat} (hi : i + k ≤ s.length) (h : ∀ j, j < k → s.getD j 0 = s.getD (i + j) 0) (hs : i + k = s.length ∨ s.getD k 0 ≠ s.getD (i + k) 0) : zAt s i = k := by
  refine lcp_eq _ _ k (by omega) (by rw [List.length_drop]; omega) (fun j hj => by rw [drop_getD]; exact h j hj) ?_
  rcases hs with hs | hs
  · right; left; rw [List.length_drop]; omega
  · right; right; rw [drop_getD]; exact hs
theorem zAt_get {s : List UInt8} {i j : Nat} (h : j < zAt s i) : s.getD j 0 = s.getD (i + j) 0 := by
  rw [← drop_getD]; exact lcp_get _ _ j h
theorem zAt_le (s : List UInt8) {i : Nat} (h : i ≤ s.length) : i + zAt s i ≤ s.length := by
  have := (lcp_le s (s.drop i)).2
  rw [List.length_drop] at this
  unfold zAt; omega
/-- Where the loop over the fronts stands, ahead of i. -/
structure ZfAt (s : List UInt8) (i from_ to_ : Nat) (o : List Int) : Prop where
  len : o.length = s.length
  done : ∀ j, j < i → o.getD j 0 = (zAt s j : Int)
  win : to_ = 0 ∨ (0 < from_ ∧ from_ < i ∧ from_ ≤ to_ ∧ to_ ≤ s.length ∧ ∀ j, j < to_ - from_ → s.getD j 0 = s.getD (from_ + j) 0)
theorem ZfAt.start (s : List UInt8) : ZfAt s 0 0 0 (List.replicate s.length 0) := ⟨by simp, fun _ h => by omega, .inl rfl⟩
theorem ZfAt.first {s : List UInt8} {i f t : Nat} {o : List Int} (h : ZfAt s i f t o) (h0 : 0 < i) (ht : i < t) :
    f < i ∧ o.getD (i - f) 0 = (zAt s (i - f) : Int) ∧ t ≤ s.length ∧ i + min (zAt s (i - f)) (t - i) ≤ s.length ∧ ∀ j, j < min (zAt s (i - f)) (t - i) → s.getD j 0 = s.getD (i + j) 0 := by
  rcases h.win with rfl | ⟨h1, h2, h3, h4, h5⟩
  · omega
  · refine ⟨h2, h.done _ (by omega), h4, by omega, fun j hj => ?_⟩
    rw [zAt_get (i := i - f) (by omega), h5 (i - f + j) (by omega)]
    congr 1; omega
theorem ZfAt.step {s : List UInt8} {i f t k : Nat} {o : List Int} (h : ZfAt s i f t o) (hi : i < s.length) (hk : zAt s i = k) :
    ZfAt s (i + 1) (if 0 < i ∧ t < i + k then i else f) (if 0 < i ∧ t < i + k then i + k else t) (o.set i (k : Int)) := by
  refine ⟨by rw [List.length_set, h.len], fun j hj => ?_, ?_⟩
  · rw [List.getD_eq_getElem?_getD, List.getElem?_set]
    by_cases e : i = j
    · subst e; rw [if_pos rfl, if_pos (by rw [h.len]; exact hi), ← hk]; rfl
    · rw [if_neg e, ← List.getD_eq_getElem?_getD]; exact h.done j (by omega)
  · by_cases e : 0 < i ∧ t < i + k
    · rw [if_pos e, if_pos e]
      refine .inr ⟨e.1, by omega, by omega, by rw [← hk]; exact zAt_le s (by omega), fun j hj => ?_⟩
      rw [Nat.add_sub_cancel_left] at hj
      exact zAt_get (by rw [hk]; exact hj)
    · rw [if_neg e, if_neg e]
      rcases h.win with h1 | ⟨h1, h2, h3, h4, h5⟩
      · exact .inl h1
      · exact .inr ⟨h1, by omega, h3, h4, h5⟩
end Go.Proofs.Ytllcmmpepchieaa
