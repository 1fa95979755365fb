/- What two lists have in common: from the front and from behind. No program in sight. -/
import Derived.Test.YtolnhplgaolieaaBase
namespace Go.Proofs.Ytolnhplgaolieaa
/-- How much two lists have in common, from the front. -/
def lcs : List UInt8 → List UInt8 → Nat
  | [], _ => 0
  | _, [] => 0
  | x :: a, y :: b => if x = y then lcs a b + 1 else max (lcs a (y :: b)) (lcs (x :: a) b)
termination_by a b => a.length + b.length
theorem lcs_nil_left (b : List UInt8) : lcs [] b = 0 := by rw [lcs]
theorem lcs_nil_right (a : List UInt8) : lcs a [] = 0 := by cases a <;> simp [lcs]
theorem lcs_cons (x y : UInt8) (a b : List UInt8) : lcs (x :: a) (y :: b) = if x = y then lcs a b + 1 else max (lcs a (y :: b)) (lcs (x :: a) b) := by rw [lcs]
/-- Something that both have. -/
inductive Cm : List UInt8 → List UInt8 → Nat → Prop
  | nil : Cm [] [] 0
  | both {a b n} (x) : Cm a b n → Cm (x :: a) (x :: b) (n + 1)
  | left {a b n} (x) : Cm a b n → Cm (x :: a) b n
  | right {a b n} (y) : Cm a b n → Cm a (y :: b) n
theorem cm_right (b : List UInt8) : Cm [] b 0 := by
  induction b with
  | nil => exact .nil
  | cons y b ih => exact .right y ih
theorem cm_left (a : List UInt8) : Cm a [] 0 := by
  induction a with
  | nil => exact .nil
  | cons y b ih => exact .left y ih
theorem cm_lcs : ∀ (n : Nat) (a b : List UInt8), a.length + b.length ≤ n → Cm a b (lcs a b) := by
  intro n
  induction n with
  | zero =>
    intro a b h
    cases a with
    | nil => rw [lcs_nil_left]; exact cm_right b
    | cons => simp only [List.length_cons] at h; omega
  | succ n ih =>
    intro a b h
    cases a with
    | nil => rw [lcs_nil_left]; exact cm_right b
    | cons x a =>
      cases b with
      | nil => rw [lcs_nil_right]; exact cm_left _
      | cons y b =>
        simp only [List.length_cons] at h
        have h1 := ih a b (by omega)
        have h2 := ih a (y :: b) (by simp only [List.length_cons]; omega)
        have h3 := ih (x :: a) b (by simp only [List.length_cons]; omega)
        rw [lcs_cons]
        split
        · rename_i e; subst e; exact .both _ h1
        · rcases Nat.le_total (lcs a (y :: b)) (lcs (x :: a) b) with e | e
          · rw [Nat.max_eq_right e]; exact .right _ h3
          · rw [Nat.max_eq_left e]; exact .left _ h2
theorem lcs_tail : ∀ (n : Nat) (a b : List UInt8) (x : UInt8), a.length + b.length ≤ n → (lcs a b ≤ lcs (x :: a) b ∧ lcs (x :: a) b ≤ lcs a b + 1) ∧ (lcs b a ≤ lcs b (x :: a) ∧ lcs b (x :: a) ≤ lcs b a + 1) := by
  intro n
  induction n with
  | zero =>
    intro a b x h
    cases b with
    | nil => simp [lcs_nil_left, lcs_nil_right]
    | cons => simp only [List.length_cons] at h; omega
  | succ n ih =>
    intro a b x h
    cases b with
    | nil => simp [lcs_nil_left, lcs_nil_right]
    | cons y b =>
      simp only [List.length_cons] at h
      have h0 := ih a b x (by omega)
      have h4 := ih a b y (by omega)
      have h5 := ih b a y (by omega)
      rw [lcs_cons x y, lcs_cons y x]
      refine ⟨?_, ?_⟩
      · split <;> omega
      · split <;> omega
theorem le_lcs {a b : List UInt8} {n : Nat} (h : Cm a b n) : n ≤ lcs a b := by
  induction h with
  | nil => simp
  | both x h ih => rw [lcs_cons, if_pos rfl]; omega
  | @left a b n x h ih => have := (lcs_tail _ a b x (Nat.le_refl _)).1; omega
  | @right a b n y h ih => have := (lcs_tail _ b a y (Nat.le_refl _)).2; omega
theorem Cm.snoc {a b : List UInt8} {n : Nat} (h : Cm a b n) : (∀ x, Cm (a ++ [x]) (b ++ [x]) (n + 1)) ∧ (∀ x, Cm (a ++ [x]) b n) ∧ (∀ y, Cm a (b ++ [y]) n) := by
  induction h with
  | nil => exact ⟨fun x => .both x .nil, fun x => .left x .nil, fun y => .right y .nil⟩
  | both z h ih => exact ⟨fun x => .both z (ih.1 x), fun x => .both z (ih.2.1 x), fun x => .both z (ih.2.2 x)⟩
  | left z h ih => exact ⟨fun x => .left z (ih.1 x), fun x => .left z (ih.2.1 x), fun x => .left z (ih.2.2 x)⟩
  | right z h ih => exact ⟨fun x => .right z (ih.1 x), fun x => .right z (ih.2.1 x), fun x => .right z (ih.2.2 x)⟩
theorem Cm.rev {a b : List UInt8} {n : Nat} (h : Cm a b n) : Cm a.reverse b.reverse n := by
  induction h with
  | nil => exact .nil
  | both z h ih => simp only [List.reverse_cons]; exact ih.snoc.1 z
  | left z h ih => simp only [List.reverse_cons]; exact ih.snoc.2.1 z
  | right z h ih => simp only [List.reverse_cons]; exact ih.snoc.2.2 z
theorem lcs_rev (a b : List UInt8) : lcs a.reverse b.reverse = lcs a b := by
  have h1 := le_lcs (cm_lcs _ a b (Nat.le_refl _)).rev
  have h2 := le_lcs (cm_lcs _ a.reverse b.reverse (Nat.le_refl _)).rev
  rw [List.reverse_reverse, List.reverse_reverse] at h2
  omega
theorem lcs_snoc (x y : UInt8) (a b : List UInt8) : lcs (a ++ [x]) (b ++ [y]) = if x = y then lcs a b + 1 else max (lcs a (b ++ [y])) (lcs (a ++ [x]) b) := by
  rw [← lcs_rev (a ++ [x]) (b ++ [y]), ← lcs_rev (a ++ [x]) b, ← lcs_rev a (b ++ [y]), ← lcs_rev a b]
  simp only [List.reverse_append, List.reverse_cons, List.reverse_nil, List.nil_append, List.singleton_append]
  exact lcs_cons x y _ _
theorem lcs_le (a b : List UInt8) : lcs a b ≤ a.length ∧ lcs a b ≤ b.length := by
  have key : ∀ {a b : List UInt8} {n}, Cm a b n → n ≤ a.length ∧ n ≤ b.length := by
    intro a b n h
    induction h with
    | nil => simp
    | both x h ih => simp only [List.length_cons]; omega
    | left x h ih => simp only [List.length_cons]; omega
    | right x h ih => simp only [List.length_cons]; omega
  exact key (cm_lcs _ a b (Nat.le_refl _))
end Go.Proofs.Ytolnhplgaolieaa
