/- A row of piles, and a cell of it that turns; what the insertion sort does, exchange by exchange (plain). -/
import Derived.Test.YtmmamdjbbpeifaaTre0
import Derived.Test.YtmmamdjbbpeifaaApp
import Derived.Test.YtmmamdjbbpeifaaEditW
namespace Go.Proofs.Ytmmamdjbbpeifaa
open Go.RowKit
/-- A pile as it lies in memory: its weight, its row, its numbers. -/
structure Pm where
  wt : Nat
  A : Option Addr
  c : Nat
  mem : List Nat
def Pm.cells (x : Pm) : List Value := [.int .i64 (x.wt : Int), .slice x.A x.mem.length x.c]
def pmCells (l : List Pm) : List Value := l.flatMap Pm.cells
def Pm.pile (x : Pm) : Pile := (x.wt, x.mem)
theorem pm_len (x : Pm) : x.cells.length = 2 := rfl
theorem pmCells_len (l : List Pm) : (pmCells l).length = l.length * 2 := flat_len pm_len l
theorem pmCells_append (a b : List Pm) : pmCells (a ++ b) = pmCells a ++ pmCells b := by simp [pmCells]
def insM (x : Pm) : List Pm → List Pm
  | [] => [x]
  | y :: s => if y.wt ≤ x.wt then y :: insM x s else x :: y :: s
def isrtM (l : List Pm) : List Pm := l.foldl (fun s x => insM x s) []
theorem insM_pile (x : Pm) : ∀ s, (insM x s).map Pm.pile = insP x.pile (s.map Pm.pile) := by
  intro s
  induction s with
  | nil => rfl
  | cons y s ih =>
    rw [List.map_cons]
    unfold insM insP
    show List.map Pm.pile (if y.wt ≤ x.wt then _ else _) = if y.wt ≤ x.wt then _ else _
    split
    · rw [List.map_cons, ih]
    · rfl
theorem isrtM_pile (l : List Pm) : (isrtM l).map Pm.pile = isrt (l.map Pm.pile) := by
  have key : ∀ (m s : List Pm), (m.foldl (fun s x => insM x s) s).map Pm.pile = (m.map Pm.pile).foldl (fun s x => insP x s) (s.map Pm.pile) := by
    intro m
    induction m with
    | nil => intro s; rfl
    | cons x m ih => intro s; rw [List.foldl_cons, ih, List.map_cons, List.foldl_cons, insM_pile]
  exact key l []
theorem isrtM_snoc (l : List Pm) (x : Pm) : isrtM (l ++ [x]) = insM x (isrtM l) := by
  unfold isrtM; rw [List.foldl_append]; rfl
theorem insM_perm (x : Pm) : ∀ s, (insM x s).Perm (x :: s) := by
  intro s
  induction s with
  | nil => exact List.Perm.refl _
  | cons y s ih =>
    unfold insM
    split
    · exact ((List.Perm.cons y ih).trans (List.Perm.swap x y s))
    · exact List.Perm.refl _
theorem isrtM_perm (l : List Pm) : (isrtM l).Perm l := by
  have key : ∀ (m s : List Pm), (m.foldl (fun s x => insM x s) s).Perm (s ++ m) := by
    intro m
    induction m with
    | nil => intro s; simp
    | cons x m ih =>
      intro s
      refine (ih (insM x s)).trans ?_
      exact (List.Perm.append_right m (insM_perm x s)).trans List.perm_middle.symm
  have := key l []
  rwa [List.nil_append] at this
theorem isrtM_len (l : List Pm) : (isrtM l).length = l.length := (isrtM_perm l).length_eq
def UpM (s : List Pm) : Prop := s.Pairwise fun x y => x.wt ≤ y.wt
theorem isrtM_up (l : List Pm) : UpM (isrtM l) := by
  have h : List.Pairwise (fun (x y : Pile) => x.1 ≤ y.1) (isrt (l.map Pm.pile)) := isrt_up (l.map Pm.pile)
  rw [← isrtM_pile] at h
  exact (List.pairwise_map (f := Pm.pile)).1 h
/-- Where the inner loop stops: all behind weigh more, the one ahead no more: the new one is in its place. -/
theorem insM_at {x : Pm} : ∀ {s : List Pm} {j : Nat}, UpM s → j ≤ s.length → (∀ y ∈ s.drop j, x.wt < y.wt) → (0 < j → ∀ h2 : j - 1 < s.length, s[j - 1].wt ≤ x.wt) → insM x s = s.take j ++ x :: s.drop j := by
  intro s
  induction s with
  | nil =>
    intro j _ hj _ _
    obtain rfl : j = 0 := by simpa using hj
    rfl
  | cons y s ih =>
    intro j hu hj hb ha
    obtain ⟨h1, h2⟩ := List.pairwise_cons.1 hu
    cases j with
    | zero =>
      have := hb y List.mem_cons_self
      unfold insM
      rw [if_neg (by omega)]; rfl
    | succ j =>
      have hyx : y.wt ≤ x.wt := by
        have hj' : j ≤ s.length := by simpa using hj
        have h3 := ha (Nat.succ_pos j) (by rw [List.length_cons]; omega)
        cases j with
        | zero => exact h3
        | succ j =>
          have h4 : j < s.length := by simp at hj; omega
          have h5 : (y :: s)[j + 1 + 1 - 1]'(by simp; omega) = s[j] := rfl
          rw [h5] at h3
          exact Nat.le_trans (h1 s[j] (List.getElem_mem h4)) h3
      unfold insM
      rw [if_pos hyx, List.take_succ_cons, List.drop_succ_cons, List.cons_append]
      congr 1
      refine ih h2 (by simpa using hj) (fun z hz => hb z (by rw [List.drop_succ_cons]; exact hz)) (fun h0 hl => ?_)
      have h3 := ha (Nat.succ_pos j) (by simp; omega)
      obtain ⟨i, rfl⟩ : ∃ i, j = i + 1 := ⟨j - 1, by omega⟩
      exact h3
/-- The row while x is on its way down: the part ahead in order, x at j. -/
def mid (s : List Pm) (x : Pm) (j : Nat) : List Pm := s.take j ++ x :: s.drop j
theorem mid_len {s : List Pm} {x : Pm} {j : Nat} (h : j ≤ s.length) : (mid s x j).length = s.length + 1 := by
  unfold mid; rw [List.length_append, List.length_cons, List.length_take, List.length_drop]; omega
theorem mid_end (s : List Pm) (x : Pm) : mid s x s.length = s ++ [x] := by
  unfold mid; rw [List.take_length, List.drop_length]
theorem mid_at {s : List Pm} {x : Pm} {j : Nat} (h : j ≤ s.length) : (mid s x j)[j]? = some x := by
  unfold mid
  rw [List.getElem?_append_right (by rw [List.length_take]; omega), List.length_take, Nat.min_eq_left h, Nat.sub_self]; rfl
theorem mid_ahead {s : List Pm} {x : Pm} {j : Nat} (h : j + 1 ≤ s.length) : (mid s x (j + 1))[j]? = s[j]? := by
  unfold mid
  rw [List.getElem?_append_left (by rw [List.length_take]; omega), List.getElem?_take, if_pos (by omega)]
theorem mid_swap {s : List Pm} {x : Pm} {j : Nat} (h : j < s.length) : ((mid s x (j + 1)).set (j + 1) s[j]).set j x = mid s x j := by
  apply List.ext_getElem?
  intro i
  have hl1 := mid_len (s := s) (x := x) (j := j + 1) (by omega)
  rw [List.getElem?_set, List.getElem?_set, List.length_set, hl1]
  by_cases e1 : j = i
  · subst e1
    rw [if_pos rfl, if_pos (by omega), mid_at (by omega)]
  · rw [if_neg e1]
    by_cases e2 : j + 1 = i
    · subst e2
      rw [if_pos rfl, if_pos (by omega)]
      unfold mid
      rw [List.getElem?_append_right (by rw [List.length_take]; omega), List.length_take, Nat.min_eq_left (by omega), show j + 1 - j = 1 by omega, List.getElem?_cons_succ, List.getElem?_drop, Nat.add_zero, List.getElem?_eq_getElem h]
    · rw [if_neg e2]
      unfold mid
      rcases Nat.lt_or_ge i j with h3 | h3
      · rw [List.getElem?_append_left (by rw [List.length_take]; omega), List.getElem?_append_left (by rw [List.length_take]; omega), List.getElem?_take, List.getElem?_take, if_pos (by omega), if_pos h3]
      · rw [List.getElem?_append_right (by rw [List.length_take]; omega), List.getElem?_append_right (by rw [List.length_take]; omega), List.length_take, List.length_take, Nat.min_eq_left (by omega), Nat.min_eq_left (by omega)]
        obtain ⟨q, hq⟩ : ∃ q, i = j + 2 + q := ⟨i - j - 2, by omega⟩
        subst hq
        rw [show j + 2 + q - (j + 1) = q + 1 by omega, show j + 2 + q - j = (q + 1) + 1 by omega, List.getElem?_cons_succ, List.getElem?_cons_succ, List.getElem?_drop, List.getElem?_drop]
        congr 1; omega
theorem own_set {w : World} {base : Nat} {e : TypeId} {size n c : Nat} {ad : Addr} {xs : List Value} (h : OwnO w base e size (.slice (some ad) n c) n xs) {j : Nat} (hj : j < n * size) (u : Value) :
    OwnO (w.setCell (ad.add j) u) base e size (.slice (some ad) n c) n (xs.set j u) ∧ w.frozen? (ad.add j) = false := by
  rcases h.2 with ⟨h1, _⟩ | ⟨g, o, cap, cur, h1, h2, h3, h4, h5, h6, h7⟩
  · cases h1
  · injection h1 with h1 _ h1c
    injection h1 with h1
    subst h1; subst h1c
    have hadd : (⟨g, o, none⟩ : Addr).add j = ⟨g, o + j, none⟩ := by unfold Addr.add; split <;> simp_all
    rw [hadd]
    refine ⟨⟨by rw [List.length_set]; exact h.1, .inr ⟨g, o, c, cur.setIfInBounds (o + j) u, rfl, h2, by simp [World.setCell, Array.getElem?_modify, h3], h4, h5, by simpa using h6, ?_⟩⟩, by simp [World.frozen?, h3]⟩
    rw [Array.toList_setIfInBounds, ← h7]
    apply List.ext_getElem?
    intro i
    rw [List.getElem?_take, List.getElem?_drop, List.getElem?_set, List.getElem?_set, List.getElem?_take, List.getElem?_drop, List.length_take, List.length_drop]
    have hcl : cur.toList.length = cur.size := by simp
    have hnc : n * size ≤ c * size := Nat.mul_le_mul_right _ h4
    by_cases e : j = i
    · subst e
      rw [if_pos rfl, if_pos hj, if_pos rfl, if_pos (by omega), if_pos (by omega)]
    · by_cases hi : i < n * size
      · rw [if_pos hi, if_neg (show ¬ o + j = o + i by omega), if_neg e, if_pos hi]
      · rw [if_neg hi, if_neg e, if_neg hi]
theorem own_addr {w : World} {base : Nat} {e : TypeId} {size n c : Nat} {ad : Addr} {xs : List Value} (h : OwnO w base e size (.slice (some ad) n c) n xs) : ∀ i j, i ≠ j → ad.add i ≠ ad.add j := by
  rcases h.2 with ⟨h1, _⟩ | ⟨g, o, cap, cur, h1, _⟩
  · cases h1
  · injection h1 with h1
    injection h1 with h1
    subst h1
    intro i j hij he
    have hadd : ∀ j, (⟨g, o, none⟩ : Addr).add j = ⟨g, o + j, none⟩ := fun j => by unfold Addr.add; split <;> simp_all
    rw [hadd, hadd] at he
    injection he with _ he
    omega
theorem pmCells_set {l : List Pm} {j : Nat} (h : j < l.length) (x : Pm) : ((pmCells l).set (j * 2) (.int .i64 (x.wt : Int))).set (j * 2 + 1) (.slice x.A x.mem.length x.c) = pmCells (l.set j x) := by
  induction l generalizing j with
  | nil => simp at h
  | cons y l ih =>
    cases j with
    | zero => rfl
    | succ j =>
      rw [show (j + 1) * 2 = j * 2 + 1 + 1 by omega, List.set_cons_succ]
      show (y.cells ++ pmCells l |>.set _ _ |>.set _ _) = y.cells ++ pmCells (l.set j x)
      rw [← ih (by simpa using h)]
      rfl
end Go.Proofs.Ytmmamdjbbpeifaa
