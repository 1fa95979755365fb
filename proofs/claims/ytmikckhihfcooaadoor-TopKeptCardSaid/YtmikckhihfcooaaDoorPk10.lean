/- How far two lists are from each other: from the front and from behind. No program in sight. same.Check, dist.Of and dist.Swaps. dist.Near and dist.Swaps. -/
import Derived.Test.YtmikckhihfcooaaDoorPk01
import Derived.Test.YtmikckhihfcooaaDoorPk09
import Derived.Test.YtmikckhihfcooaaDoorPk05
import Derived.BigRegion
import Derived.Test.YtmikckhihfcooaaDoorPk03
import Derived.Test.YtmikckhihfcooaaDoorPk08
namespace Go.Proofs.YtmikckhihfcooaaDoor
/-- How far two lists are from each other, from the front. -/
def lev : List UInt8 → List UInt8 → Nat
  | [], b => b.length
  | a, [] => a.length
  | x :: a, y :: b => if x = y then lev a b else 1 + min (lev a (y :: b)) (min (lev (x :: a) b) (lev a b))
termination_by a b => a.length + b.length
theorem lev_nil_left (b : List UInt8) : lev [] b = b.length := by rw [lev]
theorem lev_nil_right (a : List UInt8) : lev a [] = a.length := by cases a <;> simp [lev]
theorem lev_cons (x y : UInt8) (a b : List UInt8) : lev (x :: a) (y :: b) = if x = y then lev a b else 1 + min (lev a (y :: b)) (min (lev (x :: a) b) (lev a b)) := by rw [lev]
/-- A way to make the one of the other. -/
inductive Al : List UInt8 → List UInt8 → Nat → Prop
  | nil : Al [] [] 0
  | keep {a b n} (x) : Al a b n → Al (x :: a) (x :: b) n
  | sub {a b n} (x y) : Al a b n → Al (x :: a) (y :: b) (n + 1)
  | del {a b n} (x) : Al a b n → Al (x :: a) b (n + 1)
  | ins {a b n} (y) : Al a b n → Al a (y :: b) (n + 1)
theorem al_ins (b : List UInt8) : Al [] b b.length := by
  induction b with
  | nil => exact .nil
  | cons y b ih => exact .ins y ih
theorem al_del (a : List UInt8) : Al a [] a.length := by
  induction a with
  | nil => exact .nil
  | cons y b ih => exact .del y ih
theorem al_lev : ∀ (n : Nat) (a b : List UInt8), a.length + b.length ≤ n → Al a b (lev a b) := by
  intro n
  induction n with
  | zero =>
    intro a b h
    cases a with
    | nil => cases b with
      | nil => rw [lev_nil_left]; exact .nil
      | cons => simp only [List.length_cons] at h; omega
    | cons => simp only [List.length_cons] at h; omega
  | succ n ih =>
    intro a b h
    cases a with
    | nil => rw [lev_nil_left]; exact al_ins b
    | cons x a =>
      cases b with
      | nil => rw [lev_nil_right]; exact al_del _
      | cons y b =>
        simp only [List.length_cons] at h
        have h1 := ih a b (by omega)
        have h2 := ih a (y :: b) (by simp only [List.length_cons]; omega)
        have h3 := ih (x :: a) b (by simp only [List.length_cons]; omega)
        rw [lev_cons]
        split
        · rename_i e; subst e; exact .keep _ h1
        · rcases Nat.le_total (lev a (y :: b)) (min (lev (x :: a) b) (lev a b)) with e | e
          · rw [Nat.min_eq_left e, Nat.add_comm]; exact .del _ h2
          · rw [Nat.min_eq_right e]
            rcases Nat.le_total (lev (x :: a) b) (lev a b) with e | e
            · rw [Nat.min_eq_left e, Nat.add_comm]; exact .ins _ h3
            · rw [Nat.min_eq_right e, Nat.add_comm]; exact .sub _ _ h1
theorem lev_tail_left : ∀ (n : Nat) (a b : List UInt8) (x : UInt8), a.length + b.length ≤ n → lev a b ≤ lev (x :: a) b + 1 ∧ lev b a ≤ lev b (x :: a) + 1 := by
  intro n
  induction n with
  | zero =>
    intro a b x h
    cases a with
    | nil => cases b with
      | nil => simp [lev_nil_left, lev_nil_right]
      | cons => simp only [List.length_cons] at h; omega
    | cons => simp only [List.length_cons] at h; omega
  | succ n ih =>
    intro a b x h
    cases b with
    | nil => simp [lev_nil_left, lev_nil_right]; omega
    | cons y b =>
      simp only [List.length_cons] at h
      have h0 := ih a b x (by omega)
      cases a with
      | nil =>
        rw [lev_nil_left, lev_nil_right, lev_cons, lev_cons]
        simp only [List.length_cons, lev_nil_left, lev_nil_right]
        have h1 := ih [] b x (by simp; omega)
        simp only [lev_nil_left, lev_nil_right] at h1
        constructor <;> split <;> omega
      | cons z a =>
        simp only [List.length_cons] at h
        have h1 := ih a b z (by omega)
        have h2 := ih (z :: a) b x (by simp only [List.length_cons]; omega)
        rw [lev_cons x y, lev_cons y x]
        rw [lev_cons z y, lev_cons y z]
        have h3 := ih a b y (by omega)
        have h4 := ih b a y (by omega)
        constructor
        · split
          · rename_i e; subst e
            split <;> omega
          · split <;> omega
        · split
          · rename_i e; subst e
            split <;> omega
          · split <;> omega
theorem lev_le {a b : List UInt8} {n : Nat} (h : Al a b n) : lev a b ≤ n := by
  induction h with
  | nil => simp [lev_nil_left]
  | keep x h ih => rw [lev_cons, if_pos rfl]; exact ih
  | @sub a b n x y h ih =>
    rw [lev_cons]; split <;> omega
  | @del a b n x h ih =>
    cases b with
    | nil => rw [lev_nil_right] at *; simp; omega
    | cons y b =>
      rw [lev_cons]
      split
      · have := (lev_tail_left _ b a y (Nat.le_refl _)).2; omega
      · omega
  | @ins a b n y h ih =>
    cases a with
    | nil => rw [lev_nil_left] at *; simp; omega
    | cons x a =>
      rw [lev_cons]
      split
      · have := (lev_tail_left _ a b x (Nat.le_refl _)).1; omega
      · omega
theorem Al.snoc {a b : List UInt8} {n : Nat} (h : Al a b n) : (∀ x, Al (a ++ [x]) (b ++ [x]) n) ∧ (∀ x y, Al (a ++ [x]) (b ++ [y]) (n + 1)) ∧ (∀ x, Al (a ++ [x]) b (n + 1)) ∧ (∀ y, Al a (b ++ [y]) (n + 1)) := by
  induction h with
  | nil => exact ⟨fun x => .keep x .nil, fun x y => .sub x y .nil, fun x => .del x .nil, fun y => .ins y .nil⟩
  | keep z h ih => exact ⟨fun x => .keep z (ih.1 x), fun x y => .keep z (ih.2.1 x y), fun x => .keep z (ih.2.2.1 x), fun y => .keep z (ih.2.2.2 y)⟩
  | sub u z h ih => exact ⟨fun x => .sub u z (ih.1 x), fun x y => .sub u z (ih.2.1 x y), fun x => .sub u z (ih.2.2.1 x), fun y => .sub u z (ih.2.2.2 y)⟩
  | del z h ih => exact ⟨fun x => .del z (ih.1 x), fun x y => .del z (ih.2.1 x y), fun x => .del z (ih.2.2.1 x), fun y => .del z (ih.2.2.2 y)⟩
  | ins z h ih => exact ⟨fun x => .ins z (ih.1 x), fun x y => .ins z (ih.2.1 x y), fun x => .ins z (ih.2.2.1 x), fun y => .ins z (ih.2.2.2 y)⟩
theorem Al.rev {a b : List UInt8} {n : Nat} (h : Al a b n) : Al a.reverse b.reverse n := by
  induction h with
  | nil => exact .nil
  | keep z h ih => simp only [List.reverse_cons]; exact ih.snoc.1 z
  | sub u z h ih => simp only [List.reverse_cons]; exact ih.snoc.2.1 u z
  | del z h ih => simp only [List.reverse_cons]; exact ih.snoc.2.2.1 z
  | ins z h ih => simp only [List.reverse_cons]; exact ih.snoc.2.2.2 z
theorem lev_rev (a b : List UInt8) : lev a.reverse b.reverse = lev a b := by
  have h1 := lev_le (al_lev _ a b (Nat.le_refl _)).rev
  have h2 := lev_le (al_lev _ a.reverse b.reverse (Nat.le_refl _)).rev
  rw [List.reverse_reverse, List.reverse_reverse] at h2
  omega
theorem lev_min (x y : UInt8) (a b : List UInt8) : lev (x :: a) (y :: b) = min (lev a b + if x = y then 0 else 1) (min (lev (x :: a) b + 1) (lev a (y :: b) + 1)) := by
  have h1 := (lev_tail_left _ a b x (Nat.le_refl _)).1
  have h2 := (lev_tail_left _ b a y (Nat.le_refl _)).2
  rw [lev_cons]
  split <;> omega
theorem lev_snoc (x y : UInt8) (a b : List UInt8) : lev (a ++ [x]) (b ++ [y]) = min (lev a b + if x = y then 0 else 1) (min (lev (a ++ [x]) b + 1) (lev a (b ++ [y]) + 1)) := by
  rw [← lev_rev (a ++ [x]) (b ++ [y]), ← lev_rev (a ++ [x]) b, ← lev_rev a (b ++ [y]), ← lev_rev a b]
  simp only [List.reverse_append, List.reverse_cons, List.reverse_nil, List.nil_append, List.singleton_append]
  exact lev_min x y _ _
theorem lev_len (a b : List UInt8) : lev a b ≤ a.length + b.length := by
  refine lev_le (n := a.length + b.length) ?_
  induction a with
  | nil => simpa using al_ins b
  | cons x a ih => rw [List.length_cons, show a.length + 1 + b.length = a.length + b.length + 1 by omega]; exact .del x ih
end Go.Proofs.YtmikckhihfcooaaDoor
namespace Go.Proofs.YtmikckhihfcooaaDoor
open Go.RowKit
theorem long2 (s t : ByteArray) : longAll [s, t] = if 200 < s.size ∨ 200 < t.size then 2 else 0 := by simp [longAll]
theorem getD_set (l : List Int) (k j : Nat) (v : Int) (h : k < l.length) : (l.set k v).getD j 0 = if j = k then v else l.getD j 0 := by
  rw [List.getD_eq_getElem?_getD, List.getD_eq_getElem?_getD, List.getElem?_set]
  by_cases hj : j = k
  · subst hj; simp [h]
  · have : ¬ k = j := fun e => hj e.symm
    simp [hj, this]
/-- How far the beginnings are. -/
def levT (s t : ByteArray) (i k : Nat) : Nat := lev ((L s).take i) ((L t).take k)
theorem take_byte (s : ByteArray) (k : Nat) (h : k < s.size) : (L s).take (k + 1) = (L s).take k ++ [s[k]] := by
  rw [List.take_succ_eq_append_getElem (by rw [L_len]; exact h), getB s k h, List.getD_eq_getElem?_getD, List.getElem?_eq_getElem (by rw [L_len]; exact h)]; rfl
theorem levT_step (s t : ByteArray) (i k : Nat) (hi : i < s.size) (hk : k < t.size) : levT s t (i + 1) (k + 1) = min (levT s t i k + if s[i] = t[k] then 0 else 1) (min (levT s t (i + 1) k + 1) (levT s t i (k + 1) + 1)) := by
  unfold levT; rw [take_byte s i hi, take_byte t k hk, lev_snoc]
theorem levT_zero_left (s t : ByteArray) (k : Nat) (hk : k ≤ t.size) : levT s t 0 k = k := by
  unfold levT; rw [List.take_zero, lev_nil_left, List.length_take, L_len]; omega
theorem levT_zero_right (s t : ByteArray) (i : Nat) (hi : i ≤ s.size) : levT s t i 0 = i := by
  unfold levT; rw [List.take_zero, lev_nil_right, List.length_take, L_len]; omega
theorem levT_all (s t : ByteArray) : levT s t s.size t.size = lev (L s) (L t) := by
  unfold levT; rw [List.take_of_length_le (by rw [L_len]; exact Nat.le_refl _), List.take_of_length_le (by rw [L_len]; exact Nat.le_refl _)]
theorem levT_le (s t : ByteArray) (i k : Nat) : levT s t i k ≤ s.size + t.size := by
  have := lev_len ((L s).take i) ((L t).take k)
  simp only [List.length_take, L_len] at this
  unfold levT; omega
/-- Where the inner loop stands: k places of the row are new. -/
structure OfIn (s t : ByteArray) (wr : World) (base g i k : Nat) (l : List Int) : Prop where
  row : ArrI wr base g (t.size + 1) l
  new : ∀ j, j ≤ k → l.getD j 0 = (levT s t (i + 1) j : Nat)
  old : ∀ j, k < j → j ≤ t.size → l.getD j 0 = (levT s t i j : Nat)
theorem OfIn.step {s t : ByteArray} {wr : World} {base g i k : Nat} {l : List Int} (h : OfIn s t wr base g i k l) (hk : k < t.size) (n : Nat) {v : Int} (hv : v = (levT s t (i + 1) (k + 1) : Nat)) :
    OfIn s t ((wr.drewN n).setCell ⟨g, k + 1, none⟩ (.int .i64 v)) base g i (k + 1) (l.set (k + 1) v) := by
  have hl := h.row.len
  refine ⟨(h.row.drewN n).set_ _ _, fun j hj => ?_, fun j h1 h2 => ?_⟩
  · rw [getD_set _ _ _ _ (by omega)]
    by_cases hq : j = k + 1
    · subst hq; rw [if_pos rfl]; exact hv
    · rw [if_neg hq]; exact h.new j (by omega)
  · rw [getD_set _ _ _ _ (by omega), if_neg (by omega)]; exact h.old j (by omega) h2
end Go.Proofs.YtmikckhihfcooaaDoor
namespace Go.Proofs.YtmikckhihfcooaaDoor
open Go.RowKit
/-- The places of the words that are near, of the first k. -/
def nearAt (a : List UInt8) (most : Int) (l : List (List UInt8)) (k : Nat) : List Int := ((List.range k).filter fun i => decide (((lev a (l.getD i []) : Nat) : Int) ≤ most)).map fun (i : Nat) => (i : Int)
theorem nearAt_zero (a : List UInt8) (most : Int) (l : List (List UInt8)) : nearAt a most l 0 = [] := rfl
theorem nearAt_hit {a : List UInt8} {most : Int} {l : List (List UInt8)} {k : Nat} (h : ((lev a (l.getD k []) : Nat) : Int) ≤ most) : nearAt a most l (k + 1) = nearAt a most l k ++ [(k : Int)] := by
  have e : List.filter (fun i => decide (((lev a (l.getD i []) : Nat) : Int) ≤ most)) [k] = [k] := List.filter_cons_of_pos (decide_eq_true h)
  unfold nearAt; rw [List.range_succ, List.filter_append, List.map_append, e]; rfl
theorem nearAt_miss {a : List UInt8} {most : Int} {l : List (List UInt8)} {k : Nat} (h : ¬ ((lev a (l.getD k []) : Nat) : Int) ≤ most) : nearAt a most l (k + 1) = nearAt a most l k := by
  have e : List.filter (fun i => decide (((lev a (l.getD i []) : Nat) : Int) ≤ most)) [k] = [] := List.filter_cons_of_neg (by show ¬ (decide _ = true); rw [decide_eq_true_iff]; exact h)
  unfold nearAt; rw [List.range_succ, List.filter_append, List.map_append, e]; simp
theorem nearAt_len (a : List UInt8) (most : Int) (l : List (List UInt8)) (k : Nat) : (nearAt a most l k).length ≤ k := by
  unfold nearAt; rw [List.length_map]; exact Nat.le_trans (List.length_filter_le _ _) (by simp)
theorem ints_app (l m : List Int) : ints (l ++ m) = ints l ++ ints m := by simp [ints]
def nearErr (s : ByteArray) (l : List (List UInt8)) : Int := if 200 < s.size ∨ 200 < l.length ∨ ∃ x ∈ l, 200 < x.length then 2 else 0
/-- In how many of the first k places two texts are unlike. -/
def ham (a b : List UInt8) : Nat → Nat
  | 0 => 0
  | k + 1 => ham a b k + if a.getD k 0 = b.getD k 0 then 0 else 1
theorem ham_le (a b : List UInt8) (k : Nat) : ham a b k ≤ k := by
  induction k with
  | zero => exact Nat.le_refl _
  | succ k ih => rw [ham]; split <;> omega
end Go.Proofs.YtmikckhihfcooaaDoor
