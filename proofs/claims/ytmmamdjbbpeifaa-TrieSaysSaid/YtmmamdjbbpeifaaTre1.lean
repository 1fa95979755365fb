/- VAN LEEUWEN: of two rows, both rising, the two least ones: it comes to the same (plain). -/
import Derived.Test.YtmmamdjbbpeifaaTre0
namespace Go.Proofs.Ytmmamdjbbpeifaa
theorem srtN_min {x : Nat} {m : List Nat} (h : ∀ e ∈ m, x ≤ e) : srtN (x :: m) = x :: srtN m := by
  obtain ⟨h1, h2⟩ := srtN_up_perm m
  refine List.Perm.eq_of_pairwise (le := (· ≤ ·)) (fun _ _ _ _ h1 h2 => Nat.le_antisymm h1 h2) (srtN_up_perm (x :: m)).1 ?_ ((srtN_up_perm (x :: m)).2.trans (List.Perm.cons x h2.symm))
  exact List.pairwise_cons.2 ⟨fun e he => h e (h2.mem_iff.1 he), h1⟩
def takeA (a b : List Nat) : Bool := match b with
  | [] => true
  | y :: _ => match a with
    | [] => false
    | x :: _ => decide (x ≤ y)
/-- The least one, and what is left. -/
def takeV (a b : List Nat) : Nat := if takeA a b = true then a.getD 0 0 else b.getD 0 0
def takeL (a b : List Nat) : List Nat := if takeA a b = true then a.drop 1 else a
def takeR (a b : List Nat) : List Nat := if takeA a b = true then b else b.drop 1
theorem take_ok {a b : List Nat} (ha : Up a) (hb : Up b) (hne : 0 < a.length + b.length) :
    (a ++ b).Perm (takeV a b :: (takeL a b ++ takeR a b)) ∧ Up (takeL a b) ∧ Up (takeR a b) ∧ (∀ e ∈ takeL a b ++ takeR a b, takeV a b ≤ e) ∧ (takeL a b).length + (takeR a b).length + 1 = a.length + b.length ∧ (∀ e ∈ takeR a b, e ∈ b) := by
  unfold takeV takeL takeR
  cases a with
  | nil =>
    cases b with
    | nil => simp at hne
    | cons y b =>
      obtain ⟨h1, h2⟩ := List.pairwise_cons.1 hb
      have e : takeA [] (y :: b) = false := rfl
      rw [e]
      simp only [Bool.false_eq_true, if_false, List.drop_succ_cons, List.drop_zero, List.nil_append]
      exact ⟨List.Perm.refl _, List.Pairwise.nil, h2, fun e he => h1 e he, by simp, fun e he => List.mem_cons_of_mem _ he⟩
  | cons x a =>
    obtain ⟨h1, h2⟩ := List.pairwise_cons.1 ha
    cases b with
    | nil =>
      have e : takeA (x :: a) [] = true := rfl
      rw [e]
      simp only [if_true, List.drop_succ_cons, List.drop_zero, List.append_nil]
      exact ⟨List.Perm.refl _, h2, List.Pairwise.nil, fun e he => h1 e he, by simp, fun e he => he⟩
    | cons y b =>
      obtain ⟨h3, h4⟩ := List.pairwise_cons.1 hb
      have e : takeA (x :: a) (y :: b) = decide (x ≤ y) := rfl
      rw [e]
      by_cases hxy : x ≤ y
      · rw [decide_eq_true hxy]
        simp only [if_true, List.drop_succ_cons, List.drop_zero]
        refine ⟨List.Perm.refl _, h2, hb, fun e he => ?_, by simp; omega, fun e he => he⟩
        rcases List.mem_append.1 he with he | he
        · exact h1 e he
        · rcases List.mem_cons.1 he with rfl | he
          · exact hxy
          · exact Nat.le_trans hxy (h3 e he)
      · rw [decide_eq_false hxy]
        simp only [Bool.false_eq_true, if_false, List.drop_succ_cons, List.drop_zero]
        refine ⟨List.perm_middle, ha, h4, fun e he => ?_, by simp; omega, fun e he => List.mem_cons_of_mem _ he⟩
        show y ≤ e
        rcases List.mem_append.1 he with he | he
        · rcases List.mem_cons.1 he with rfl | he
          · omega
          · have := h1 e he; omega
        · exact h3 e he
/-- Where the loop stands. -/
structure LcAt (ws a b : List Nat) (sum : Nat) : Prop where
  upa : Up a
  upb : Up b
  bd : ∃ t, (∀ e ∈ a ++ b, t ≤ e) ∧ ∀ e ∈ b, e ≤ 2 * t
  tot : ∃ f, a.length + b.length ≤ f + 1 ∧ sum + hsum f (srtN (a ++ b)) = leastC ws
theorem LcAt.start {ws : List Nat} (h1 : ws.length ≠ 1) : LcAt ws (srtN ws) [] 0 := by
  obtain ⟨g1, g2⟩ := srtN_up_perm ws
  refine ⟨g1, List.Pairwise.nil, ⟨0, fun _ _ => Nat.zero_le _, fun e he => by cases he⟩, ws.length, ?_, ?_⟩
  · have := g2.length_eq
    simp; omega
  · rw [List.append_nil, srtN_of_up g1, leastC, if_neg h1, Nat.zero_add]
theorem LcAt.end_ {ws a b : List Nat} {sum : Nat} (h : LcAt ws a b sum) (hl : a.length + b.length ≤ 1) : sum = leastC ws := by
  obtain ⟨f, _, h2⟩ := h.tot
  have hlen : (srtN (a ++ b)).length ≤ 1 := by rw [(srtN_up_perm _).2.length_eq, List.length_append]; exact hl
  have e : hsum f (srtN (a ++ b)) = 0 := by
    cases f with
    | zero => rfl
    | succ f =>
      unfold hsum
      cases hs : srtN (a ++ b) with
      | nil => rfl
      | cons x r =>
        rw [hs] at hlen
        cases r with
        | nil => rfl
        | cons y r => simp at hlen
  omega
theorem LcAt.step {ws a b : List Nat} {sum : Nat} (h : LcAt ws a b sum) (hl : 2 ≤ a.length + b.length) :
    LcAt ws (takeL (takeL a b) (takeR a b)) (takeR (takeL a b) (takeR a b) ++ [takeV a b + takeV (takeL a b) (takeR a b)]) (sum + (takeV a b + takeV (takeL a b) (takeR a b))) := by
  obtain ⟨t, ht1, ht2⟩ := h.bd
  obtain ⟨f, hf, htot⟩ := h.tot
  obtain ⟨p1, u1, u2, m1, l1, s1⟩ := take_ok h.upa h.upb (by omega)
  obtain ⟨p2, u3, u4, m2, l2, s2⟩ := take_ok u1 u2 (by omega)
  generalize takeV a b = x at *
  generalize takeL a b = a1 at *
  generalize takeR a b = b1 at *
  generalize takeV a1 b1 = y at *
  generalize takeL a1 b1 = a2 at *
  generalize takeR a1 b1 = b2 at *
  have hx : t ≤ x := ht1 x (p1.mem_iff.2 List.mem_cons_self)
  have hy1 : y ∈ a1 ++ b1 := p2.mem_iff.2 List.mem_cons_self
  have hxy : x ≤ y := m1 y hy1
  have hty : t ≤ y := by omega
  have hsrt : srtN (a ++ b) = x :: y :: srtN (a2 ++ b2) := by
    rw [srtN_perm p1, srtN_min m1, srtN_perm p2, srtN_min m2]
  refine ⟨u3, ?_, ⟨y, fun e he => ?_, fun e he => ?_⟩, ?_⟩
  · refine List.pairwise_append.2 ⟨u4, List.pairwise_singleton _ _, fun e he z hz => ?_⟩
    rw [List.mem_singleton.1 hz]
    have := ht2 e (s1 e (s2 e he))
    show e ≤ x + y
    omega
  · rw [← List.append_assoc] at he
    rcases List.mem_append.1 he with he | he
    · exact m2 e he
    · rw [List.mem_singleton.1 he]; omega
  · rcases List.mem_append.1 he with he | he
    · have := ht2 e (s1 e (s2 e he)); omega
    · rw [List.mem_singleton.1 he]; omega
  · cases f with
    | zero => omega
    | succ f =>
      refine ⟨f, by rw [List.length_append, List.length_singleton]; omega, ?_⟩
      rw [hsrt] at htot
      unfold hsum at htot
      simp only at htot
      rw [← List.append_assoc, srtN_snoc]
      omega
end Go.Proofs.Ytmmamdjbbpeifaa
