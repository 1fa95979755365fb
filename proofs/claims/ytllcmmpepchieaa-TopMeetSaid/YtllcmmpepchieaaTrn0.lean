/- The turns of a word in their order, and how a word is counted among them from behind (plain). -/
import Derived.Test.YtllcmmpepchieaaBase
namespace Go.Proofs.Ytllcmmpepchieaa
theorem leB_cons {x y : UInt8} {a b : List UInt8} : x :: a ≤ y :: b ↔ x < y ∨ (x = y ∧ a ≤ b) := List.cons_le_cons_iff
theorem leB_take : ∀ (m : Nat) (a c : List UInt8), a ≤ c → a.take m ≤ c.take m := by
  intro m
  induction m with
  | zero => intro a c _; simp
  | succ m ih =>
    intro a c h
    match a, c, h with
    | [], c, _ => simp
    | x :: a, [], h =>
      have := List.le_antisymm h (List.nil_le _)
      cases this
    | x :: a, y :: c, h =>
      simp only [List.take_succ_cons]
      rcases leB_cons.1 h with h1 | ⟨h0, h1⟩
      · exact leB_cons.2 (.inl h1)
      · exact leB_cons.2 (.inr ⟨h0, ih a c h1⟩)
/-- The turn that begins at i. -/
def rotT (s : List UInt8) (i : Nat) : List UInt8 := s.drop i ++ s.take i
theorem rotT_len {s : List UInt8} {i : Nat} (h : i ≤ s.length) : (rotT s i).length = s.length := by
  unfold rotT; rw [List.length_append, List.length_drop, List.length_take]; omega
theorem rotT_cyc {s : List UInt8} {i j : Nat} (hi : i < s.length) (hj : j < s.length) : (rotT s i).getD j 0 = s.getD ((i + j) % s.length) 0 := by
  unfold rotT
  rw [List.getD_eq_getElem?_getD, List.getD_eq_getElem?_getD]
  congr 1
  rcases Nat.lt_or_ge (i + j) s.length with h | h
  · rw [Nat.mod_eq_of_lt h, List.getElem?_append_left (by rw [List.length_drop]; omega), List.getElem?_drop]
  · have e : (i + j) % s.length = i + j - s.length := by
      rw [Nat.mod_eq_sub_mod h, Nat.mod_eq_of_lt (by omega)]
    rw [e, List.getElem?_append_right (by rw [List.length_drop]; omega), List.length_drop, List.getElem?_take, if_pos (by omega)]
    congr 1; omega
def ltT (s : List UInt8) (x y : Nat) : Prop := rotT s x < rotT s y ∨ (rotT s x = rotT s y ∧ x < y)
instance (s : List UInt8) (x y : Nat) : Decidable (ltT s x y) := inferInstanceAs (Decidable (_ ∨ _))
theorem ltT_irrefl (s : List UInt8) (x : Nat) : ¬ ltT s x x := by
  rintro (h | ⟨_, h⟩)
  · exact List.lt_irrefl _ h
  · omega
theorem ltT_trans {s : List UInt8} {x y z : Nat} (h1 : ltT s x y) (h2 : ltT s y z) : ltT s x z := by
  rcases h1 with h1 | ⟨e1, h1⟩
  · rcases h2 with h2 | ⟨e2, h2⟩
    · exact .inl (List.lt_trans h1 h2)
    · rw [e2] at h1; exact .inl h1
  · rcases h2 with h2 | ⟨e2, h2⟩
    · rw [← e1] at h2; exact .inl h2
    · exact .inr ⟨e1.trans e2, by omega⟩
theorem ltT_tri {s : List UInt8} {x y : Nat} (h1 : ¬ ltT s x y) (h2 : ¬ ltT s y x) : x = y := by
  have e : rotT s x = rotT s y := by
    refine List.le_antisymm (fun h => h2 (.inl h)) (fun h => h1 (.inl h))
  rcases Nat.lt_trichotomy x y with h | h | h
  · exact absurd (.inr ⟨e, h⟩) h1
  · exact h
  · exact absurd (.inr ⟨e.symm, h⟩) h2
/-- Where the turns begin, in their order. -/
def turnO (s : List UInt8) : List Nat := (List.range s.length).mergeSort fun x y => decide (¬ ltT s y x)
theorem turnO_perm (s : List UInt8) : (turnO s).Perm (List.range s.length) := List.mergeSort_perm _ _
theorem turnO_pw (s : List UInt8) : (turnO s).Pairwise fun x y => ¬ ltT s y x := by
  have h := List.pairwise_mergeSort (le := fun (x y : Nat) => decide (¬ ltT s y x)) (fun a b c h1 h2 => by
    rw [decide_eq_true_iff] at *
    intro h3
    by_cases h4 : ltT s b c
    · exact h1 (ltT_trans h4 h3)
    · have := ltT_tri h4 h2
      subst this
      exact h1 h3) (fun a b => by
    rw [Bool.or_eq_true, decide_eq_true_iff, decide_eq_true_iff]
    by_cases h : ltT s b a
    · right; intro h2; exact ltT_irrefl _ _ (ltT_trans h h2)
    · exact .inl h) (List.range s.length)
  exact h.imp fun h => by rwa [decide_eq_true_iff] at h
theorem turnO_len (s : List UInt8) : (turnO s).length = s.length := by rw [(turnO_perm s).length_eq, List.length_range]
theorem turnO_lt {s : List UInt8} {k : Nat} (h : k < s.length) : (turnO s).getD k 0 < s.length := by
  rw [List.getD_eq_getElem?_getD, List.getElem?_eq_getElem (by rw [turnO_len]; exact h)]
  exact List.mem_range.1 ((turnO_perm s).mem_iff.1 (List.getElem_mem _))
def lastT (s : List UInt8) (i : Nat) : UInt8 := s.getD ((i + s.length - 1) % s.length) 0
/-- The turns' last bytes, in the turns' order; and where the word itself is. -/
def turnL (s : List UInt8) : List UInt8 := (turnO s).map (lastT s)
def turnAt (s : List UInt8) : Nat := if s = [] then 0 else (turnO s).idxOf 0
theorem turnL_len (s : List UInt8) : (turnL s).length = s.length := by rw [turnL, List.length_map, turnO_len]
/- Counting from behind. -/
def lessC (t : List UInt8) (c : UInt8) : Nat := t.countP fun b => decide (b < c)
def stepC (t : List UInt8) (c : UInt8) (lh : Nat × Nat) : Nat × Nat :=
  if lh.1 < lh.2 then (lessC t c + (t.take lh.1).count c, lessC t c + (t.take lh.2).count c) else lh
def countC (t p : List UInt8) : Nat := (p.foldr (stepC t) (0, t.length)).2 - (p.foldr (stepC t) (0, t.length)).1
theorem dc_take {α : Type} {Q : α → Bool} : ∀ {o : List α}, o.Pairwise (fun x y => Q y = true → Q x = true) → o.filter Q = o.take (o.countP Q) := by
  intro o
  induction o with
  | nil => intro _; rfl
  | cons x o ih =>
    intro h
    obtain ⟨h1, h2⟩ := List.pairwise_cons.1 h
    cases hq : Q x with
    | true => rw [List.filter_cons_of_pos hq, List.countP_cons_of_pos hq, List.take_succ_cons, ih h2]
    | false =>
      have hn : ∀ y ∈ o, ¬ Q y = true := fun y hy h3 => by rw [h1 y hy h3] at hq; cases hq
      rw [List.filter_cons_of_neg (by rw [hq]; simp), List.countP_cons_of_neg (by rw [hq]; simp), List.filter_eq_nil_iff.2 hn, List.countP_eq_zero.2 hn, List.take_zero]
theorem next_perm {n : Nat} (h : 0 < n) : ((List.range n).map fun x => (x + 1) % n).Perm (List.range n) := by
  obtain ⟨m, rfl⟩ : ∃ m, n = m + 1 := ⟨n - 1, by omega⟩
  have e : ((List.range (m + 1)).map fun x => (x + 1) % (m + 1)) = (List.range m).map Nat.succ ++ [0] := by
    rw [List.range_succ, List.map_append]
    congr 1
    · apply List.map_congr_left
      intro x hx
      rw [List.mem_range] at hx
      exact Nat.mod_eq_of_lt (by omega)
    · simp
  rw [e, List.range_succ_eq_map]
  exact List.perm_append_comm
theorem count_next {n : Nat} (h : 0 < n) (f : Nat → Bool) : (List.range n).countP f = (List.range n).countP fun x => f ((x + 1) % n) := by
  have := (next_perm h).countP_eq f
  rw [List.countP_map] at this
  exact this.symm
theorem last_next {s : List UInt8} {x : Nat} (h : x < s.length) : lastT s ((x + 1) % s.length) = s.getD x 0 := by
  unfold lastT
  congr 1
  rcases Nat.lt_or_ge (x + 1) s.length with h1 | h1
  · rw [Nat.mod_eq_of_lt h1, show x + 1 + s.length - 1 = x + s.length by omega, Nat.add_mod_right, Nat.mod_eq_of_lt h]
  · have e : x + 1 = s.length := by omega
    rw [e, Nat.mod_self, Nat.zero_add, Nat.mod_eq_of_lt (by omega)]; omega
/-- The first m bytes of the turn at x. -/
def preT (s : List UInt8) (m x : Nat) : List UInt8 := (rotT s x).take m
theorem rotT_getElem? {s : List UInt8} {x j : Nat} (hx : x < s.length) : (rotT s x)[j]? = if j < s.length then some (s.getD ((x + j) % s.length) 0) else none := by
  by_cases h : j < s.length
  · rw [if_pos h, ← rotT_cyc hx h, List.getD_eq_getElem?_getD, List.getElem?_eq_getElem (by rw [rotT_len (Nat.le_of_lt hx)]; exact h)]; rfl
  · rw [if_neg h, List.getElem?_eq_none (by rw [rotT_len (Nat.le_of_lt hx)]; omega)]
theorem preT_succ {s : List UInt8} {m x : Nat} (hx : x < s.length) (hm : m < s.length) : preT s (m + 1) x = s.getD x 0 :: preT s m ((x + 1) % s.length) := by
  have hx1 : (x + 1) % s.length < s.length := Nat.mod_lt _ (by omega)
  apply List.ext_getElem?
  intro j
  unfold preT
  cases j with
  | zero =>
    rw [List.getElem?_take, if_pos (by omega), rotT_getElem? hx, if_pos (by omega), Nat.add_zero, Nat.mod_eq_of_lt hx]; rfl
  | succ j =>
    rw [List.getElem?_cons_succ, List.getElem?_take, List.getElem?_take, rotT_getElem? hx, rotT_getElem? hx1]
    by_cases h : j < m
    · rw [if_pos (by omega), if_pos h, if_pos (by omega), if_pos (by omega), Nat.mod_add_mod]
      congr 2; congr 1; omega
    · rw [if_neg (by omega), if_neg h]
/-- How many turns begin below a word, and how many at most with it. -/
def lowT (s w : List UInt8) : Nat := (List.range s.length).countP fun x => decide (preT s w.length x < w)
def highT (s w : List UInt8) : Nat := (List.range s.length).countP fun x => decide (preT s w.length x ≤ w)
def eqT (s w : List UInt8) : Nat := (List.range s.length).countP fun x => decide (preT s w.length x = w)
theorem high_low (s w : List UInt8) : highT s w = lowT s w + eqT s w := by
  unfold highT lowT eqT
  induction List.range s.length with
  | nil => rfl
  | cons x l ih =>
    rw [List.countP_cons, List.countP_cons, List.countP_cons, ih]
    by_cases h1 : preT s w.length x < w
    · have h2 : preT s w.length x ≤ w := List.le_of_lt h1
      have h3 : preT s w.length x ≠ w := fun e => by rw [e] at h1; exact List.lt_irrefl _ h1
      rw [decide_eq_true h1, decide_eq_true h2, decide_eq_false h3]; simp only [Bool.false_eq_true, if_true, if_false]; omega
    · by_cases h3 : preT s w.length x = w
      · have h2 : preT s w.length x ≤ w := by rw [h3]; exact List.le_refl _
        rw [decide_eq_false h1, decide_eq_true h2, decide_eq_true h3]; simp only [Bool.false_eq_true, if_true, if_false]; omega
      · have h2 : ¬ preT s w.length x ≤ w := fun h2 => h3 (List.le_antisymm h2 h1)
        rw [decide_eq_false h1, decide_eq_false h2, decide_eq_false h3]; simp only [Bool.false_eq_true, if_false]; omega
theorem less_turn {s : List UInt8} (h : 0 < s.length) (c : UInt8) : lessC (turnL s) c = (List.range s.length).countP fun x => decide (s.getD x 0 < c) := by
  unfold lessC turnL
  rw [List.countP_map, (turnO_perm s).countP_eq, count_next h]
  apply List.countP_congr
  intro x hx
  rw [List.mem_range] at hx
  show (decide (lastT s ((x + 1) % s.length) < c) = true ↔ _)
  rw [last_next hx]
theorem take_count {s : List UInt8} (h : 0 < s.length) (c : UInt8) (Q : Nat → Bool) (hQ : (turnO s).Pairwise fun x y => Q y = true → Q x = true) :
    ((turnL s).take ((List.range s.length).countP Q)).count c = (List.range s.length).countP fun x => decide (s.getD x 0 = c) && Q ((x + 1) % s.length) := by
  rw [← (turnO_perm s).countP_eq Q]
  unfold turnL
  rw [← List.map_take, ← dc_take hQ, List.count, List.countP_map, List.countP_filter, (turnO_perm s).countP_eq, count_next h]
  apply List.countP_congr
  intro x hx
  rw [List.mem_range] at hx
  simp only [Function.comp, last_next hx, Bool.and_eq_true, beq_iff_eq, decide_eq_true_iff]
theorem pre_mono {s : List UInt8} {m x y : Nat} (h : ¬ ltT s y x) : preT s m x ≤ preT s m y := by
  refine leB_take m _ _ (fun h2 => h (.inl h2))
theorem low_step {s w : List UInt8} (c : UInt8) (hm : w.length < s.length) : lowT s (c :: w) = lessC (turnL s) c + ((turnL s).take (lowT s w)).count c := by
  have h : 0 < s.length := by omega
  rw [less_turn h]
  unfold lowT
  rw [take_count h c (fun x => decide (preT s w.length x < w)) ((turnO_pw s).imp fun hh h2 => by
    rw [decide_eq_true_iff] at *
    exact List.lt_of_le_of_lt (pre_mono hh) h2)]
  have key : ∀ l : List Nat, (∀ x ∈ l, x < s.length) → l.countP (fun x => decide (preT s (c :: w).length x < c :: w)) = l.countP (fun x => decide (s.getD x 0 < c)) + l.countP (fun x => decide (s.getD x 0 = c) && decide (preT s w.length ((x + 1) % s.length) < w)) := by
    intro l
    induction l with
    | nil => intro _; rfl
    | cons x l ih =>
      intro hl
      rw [List.countP_cons, List.countP_cons, List.countP_cons, ih fun y hy => hl y (List.mem_cons_of_mem _ hy)]
      have e := preT_succ (hl x List.mem_cons_self) hm
      rw [List.length_cons, e]
      generalize s.getD x 0 = b
      generalize preT s w.length ((x + 1) % s.length) = q
      have e2 : (b :: q < c :: w) ↔ (b < c ∨ b = c ∧ q < w) := List.cons_lt_cons_iff
      by_cases h1 : b < c
      · have h2 : b ≠ c := fun e => by subst e; exact UInt8.lt_irrefl _ h1
        rw [decide_eq_true h1, decide_eq_false h2, decide_eq_true (e2.2 (.inl h1))]; simp only [Bool.false_eq_true, Bool.false_and, if_true, if_false]; omega
      · by_cases h2 : b = c
        · by_cases h3 : (q < w)
          · rw [decide_eq_false h1, decide_eq_true h2, decide_eq_true h3, decide_eq_true (e2.2 (.inr ⟨h2, h3⟩))]; simp only [Bool.false_eq_true, Bool.true_and, if_true, if_false]; omega
          · have h4 : ¬ (b :: q < c :: w) := fun h => by
              rcases e2.1 h with h | h
              · exact h1 h
              · exact h3 h.2
            rw [decide_eq_false h1, decide_eq_true h2, decide_eq_false h3, decide_eq_false h4]; simp only [Bool.false_eq_true, Bool.true_and, if_false]; omega
        · have h4 : ¬ (b :: q < c :: w) := fun h => by
            rcases e2.1 h with h | h
            · exact h1 h
            · exact h2 h.1
          rw [decide_eq_false h1, decide_eq_false h2, decide_eq_false h4]; simp only [Bool.false_eq_true, Bool.false_and, if_false]; omega
  exact key _ fun x hx => List.mem_range.1 hx
theorem high_step {s w : List UInt8} (c : UInt8) (hm : w.length < s.length) : highT s (c :: w) = lessC (turnL s) c + ((turnL s).take (highT s w)).count c := by
  have h : 0 < s.length := by omega
  rw [less_turn h]
  unfold highT
  rw [take_count h c (fun x => decide (preT s w.length x ≤ w)) ((turnO_pw s).imp fun hh h2 => by
    rw [decide_eq_true_iff] at *
    exact List.le_trans (pre_mono hh) h2)]
  have key : ∀ l : List Nat, (∀ x ∈ l, x < s.length) → l.countP (fun x => decide (preT s (c :: w).length x ≤ c :: w)) = l.countP (fun x => decide (s.getD x 0 < c)) + l.countP (fun x => decide (s.getD x 0 = c) && decide (preT s w.length ((x + 1) % s.length) ≤ w)) := by
    intro l
    induction l with
    | nil => intro _; rfl
    | cons x l ih =>
      intro hl
      rw [List.countP_cons, List.countP_cons, List.countP_cons, ih fun y hy => hl y (List.mem_cons_of_mem _ hy)]
      have e := preT_succ (hl x List.mem_cons_self) hm
      rw [List.length_cons, e]
      generalize s.getD x 0 = b
      generalize preT s w.length ((x + 1) % s.length) = q
      have e2 : (b :: q ≤ c :: w) ↔ (b < c ∨ b = c ∧ q ≤ w) := leB_cons
      by_cases h1 : b < c
      · have h2 : b ≠ c := fun e => by subst e; exact UInt8.lt_irrefl _ h1
        rw [decide_eq_true h1, decide_eq_false h2, decide_eq_true (e2.2 (.inl h1))]; simp only [Bool.false_eq_true, Bool.false_and, if_true, if_false]; omega
      · by_cases h2 : b = c
        · by_cases h3 : (q ≤ w)
          · rw [decide_eq_false h1, decide_eq_true h2, decide_eq_true h3, decide_eq_true (e2.2 (.inr ⟨h2, h3⟩))]; simp only [Bool.false_eq_true, Bool.true_and, if_true, if_false]; omega
          · have h4 : ¬ (b :: q ≤ c :: w) := fun h => by
              rcases e2.1 h with h | h
              · exact h1 h
              · exact h3 h.2
            rw [decide_eq_false h1, decide_eq_true h2, decide_eq_false h3, decide_eq_false h4]; simp only [Bool.false_eq_true, Bool.true_and, if_false]; omega
        · have h4 : ¬ (b :: q ≤ c :: w) := fun h => by
            rcases e2.1 h with h | h
            · exact h1 h
            · exact h2 h.1
          rw [decide_eq_false h1, decide_eq_false h2, decide_eq_false h4]; simp only [Bool.false_eq_true, Bool.false_and, if_false]; omega
  exact key _ fun x hx => List.mem_range.1 hx
theorem eq_shrink {s w : List UInt8} (c : UInt8) (hm : w.length < s.length) (h0 : eqT s w = 0) : eqT s (c :: w) = 0 := by
  unfold eqT at *
  rw [List.countP_eq_zero] at *
  intro x hx h1
  rw [decide_eq_true_iff] at h1
  rw [List.mem_range] at hx
  rw [List.length_cons, preT_succ hx hm] at h1
  refine h0 ((x + 1) % s.length) (List.mem_range.2 (Nat.mod_lt _ (by omega))) ?_
  rw [decide_eq_true_iff]
  exact (List.cons.inj h1).2
/-- FERRAGINA, MANZINI: counted from behind a word is found as often as turns begin with it. -/
theorem count_turn {s : List UInt8} (p : List UInt8) (hp : p.length ≤ s.length) : countC (turnL s) p = eqT s p := by
  have key : ∀ p : List UInt8, p.length ≤ s.length → (p.foldr (stepC (turnL s)) (0, (turnL s).length) = (lowT s p, highT s p)) ∨ (¬ (p.foldr (stepC (turnL s)) (0, (turnL s).length)).1 < (p.foldr (stepC (turnL s)) (0, (turnL s).length)).2 ∧ eqT s p = 0) := by
    intro p
    induction p with
    | nil =>
      intro _
      left
      have e1 : lowT s [] = 0 := by
        unfold lowT
        rw [List.countP_eq_zero]
        intro x _ h
        rw [decide_eq_true_iff] at h
        exact List.not_lt_nil _ h
      have e2 : highT s [] = s.length := by
        unfold highT
        have : ∀ x ∈ List.range s.length, decide (preT s ([] : List UInt8).length x ≤ []) = true := fun x _ => by
          rw [decide_eq_true_iff]
          show (rotT s x).take 0 ≤ []
          rw [List.take_zero]; exact List.le_refl _
        rw [List.countP_eq_length.2 this, List.length_range]
      rw [e1, e2, turnL_len]; rfl
    | cons c w ih =>
      intro hp
      rw [List.length_cons] at hp
      rw [List.foldr_cons]
      rcases ih (by omega) with h | ⟨h1, h2⟩
      · rw [h]
        unfold stepC
        by_cases hl : lowT s w < highT s w
        · left
          rw [if_pos hl, ← low_step c (by omega), ← high_step c (by omega)]
        · right
          rw [if_neg hl]
          refine ⟨hl, eq_shrink c (by omega) ?_⟩
          have := high_low s w
          omega
      · right
        have e : stepC (turnL s) c (w.foldr (stepC (turnL s)) (0, (turnL s).length)) = w.foldr (stepC (turnL s)) (0, (turnL s).length) := by
          exact if_neg h1
        rw [e]
        exact ⟨h1, eq_shrink c (by omega) h2⟩
  unfold countC
  rcases key p hp with h | ⟨h1, h2⟩
  · rw [h]
    have := high_low s p
    simp only
    omega
  · omega
end Go.Proofs.Ytllcmmpepchieaa
