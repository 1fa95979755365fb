/- VAN LEEUWEN: of two rows, both rising, the two least ones: it comes to the same (plain). The document's LeastCost: its function that takes the least one. The document's LeastCost. -/
import Derived.Test.YtncakjchaniheaaDoorPk09
import Derived.Test.YtncakjchaniheaaDoorPk08
import Derived.Test.YtncakjchaniheaaDoorPk11
import Derived.Test.YtncakjchaniheaaDoorPk05
import Derived.Test.YtncakjchaniheaaDoorShelf
namespace Go.Proofs.YtncakjchaniheaaDoor
theorem srtN_min {x : Nat} {m : List Nat} (h : ∀ e ∈ m, x ≤ e) : srtN (x :: m) = x :: srtN m := by
  obtain ⟨h1, h2⟩ := srtN_up_perm m
  refine List.Perm.eq_of_pairwise (le := (· ≤ ·)) (fun _ _ _ _ h1 h2 => Nat.le_antisymm h1 h2) (srtN_up_perm (x :: m)).1 ?_ ((srtN_up_perm (x :: m)).2.trans (List.Perm.cons x h2.symm))
  exact List.pairwise_cons.2 ⟨fun e he => h e (h2.mem_iff.1 he), h1⟩
def takeA (a b : List Nat) : Bool := match b with
  | [] => true
  | y :: _ => match a with
    | [] => false
    | x :: _ => decide (x ≤ y)
/-- The least one, and what is left. -/
def takeV (a b : List Nat) : Nat := if takeA a b = true then a.getD 0 0 else b.getD 0 0
def takeL (a b : List Nat) : List Nat := if takeA a b = true then a.drop 1 else a
def takeR (a b : List Nat) : List Nat := if takeA a b = true then b else b.drop 1
theorem take_ok {a b : List Nat} (ha : Up a) (hb : Up b) (hne : 0 < a.length + b.length) :
    (a ++ b).Perm (takeV a b :: (takeL a b ++ takeR a b)) ∧ Up (takeL a b) ∧ Up (takeR a b) ∧ (∀ e ∈ takeL a b ++ takeR a b, takeV a b ≤ e) ∧ (takeL a b).length + (takeR a b).length + 1 = a.length + b.length ∧ (∀ e ∈ takeR a b, e ∈ b) := by
  unfold takeV takeL takeR
  cases a with
  | nil =>
    cases b with
    | nil => simp at hne
    | cons y b =>
      obtain ⟨h1, h2⟩ := List.pairwise_cons.1 hb
      have e : takeA [] (y :: b) = false := rfl
      rw [e]
      simp only [Bool.false_eq_true, if_false, List.drop_succ_cons, List.drop_zero, List.nil_append]
      exact ⟨List.Perm.refl _, List.Pairwise.nil, h2, fun e he => h1 e he, by simp, fun e he => List.mem_cons_of_mem _ he⟩
  | cons x a =>
    obtain ⟨h1, h2⟩ := List.pairwise_cons.1 ha
    cases b with
    | nil =>
      have e : takeA (x :: a) [] = true := rfl
      rw [e]
      simp only [if_true, List.drop_succ_cons, List.drop_zero, List.append_nil]
      exact ⟨List.Perm.refl _, h2, List.Pairwise.nil, fun e he => h1 e he, by simp, fun e he => he⟩
    | cons y b =>
      obtain ⟨h3, h4⟩ := List.pairwise_cons.1 hb
      have e : takeA (x :: a) (y :: b) = decide (x ≤ y) := rfl
      rw [e]
      by_cases hxy : x ≤ y
      · rw [decide_eq_true hxy]
        simp only [if_true, List.drop_succ_cons, List.drop_zero]
        refine ⟨List.Perm.refl _, h2, hb, fun e he => ?_, by simp; omega, fun e he => he⟩
        rcases List.mem_append.1 he with he | he
        · exact h1 e he
        · rcases List.mem_cons.1 he with rfl | he
          · exact hxy
          · exact Nat.le_trans hxy (h3 e he)
      · rw [decide_eq_false hxy]
        simp only [Bool.false_eq_true, if_false, List.drop_succ_cons, List.drop_zero]
        refine ⟨List.perm_middle, ha, h4, fun e he => ?_, by simp; omega, fun e he => List.mem_cons_of_mem _ he⟩
        show y ≤ e
        rcases List.mem_append.1 he with he | he
        · rcases List.mem_cons.1 he with rfl | he
          · omega
          · have := h1 e he; omega
        · exact h3 e he
/-- Where the loop stands. -/
structure LcAt (ws a b : List Nat) (sum : Nat) : Prop where
  upa : Up a
  upb : Up b
  bd : ∃ t, (∀ e ∈ a ++ b, t ≤ e) ∧ ∀ e ∈ b, e ≤ 2 * t
  tot : ∃ f, a.length + b.length ≤ f + 1 ∧ sum + hsum f (srtN (a ++ b)) = leastC ws
theorem LcAt.start {ws : List Nat} (h1 : ws.length ≠ 1) : LcAt ws (srtN ws) [] 0 := by
  obtain ⟨g1, g2⟩ := srtN_up_perm ws
  refine ⟨g1, List.Pairwise.nil, ⟨0, fun _ _ => Nat.zero_le _, fun e he => by cases he⟩, ws.length, ?_, ?_⟩
  · have := g2.length_eq
    simp; omega
  · rw [List.append_nil, srtN_of_up g1, leastC, if_neg h1, Nat.zero_add]
theorem LcAt.end_ {ws a b : List Nat} {sum : Nat} (h : LcAt ws a b sum) (hl : a.length + b.length ≤ 1) : sum = leastC ws := by
  obtain ⟨f, _, h2⟩ := h.tot
  have hlen : (srtN (a ++ b)).length ≤ 1 := by rw [(srtN_up_perm _).2.length_eq, List.length_append]; exact hl
  have e : hsum f (srtN (a ++ b)) = 0 := by
    cases f with
    | zero => rfl
    | succ f =>
      unfold hsum
      cases hs : srtN (a ++ b) with
      | nil => rfl
      | cons x r =>
        rw [hs] at hlen
        cases r with
        | nil => rfl
        | cons y r => simp at hlen
  omega
theorem LcAt.step {ws a b : List Nat} {sum : Nat} (h : LcAt ws a b sum) (hl : 2 ≤ a.length + b.length) :
    LcAt ws (takeL (takeL a b) (takeR a b)) (takeR (takeL a b) (takeR a b) ++ [takeV a b + takeV (takeL a b) (takeR a b)]) (sum + (takeV a b + takeV (takeL a b) (takeR a b))) := by
  obtain ⟨t, ht1, ht2⟩ := h.bd
  obtain ⟨f, hf, htot⟩ := h.tot
  obtain ⟨p1, u1, u2, m1, l1, s1⟩ := take_ok h.upa h.upb (by omega)
  obtain ⟨p2, u3, u4, m2, l2, s2⟩ := take_ok u1 u2 (by omega)
  generalize takeV a b = x at *
  generalize takeL a b = a1 at *
  generalize takeR a b = b1 at *
  generalize takeV a1 b1 = y at *
  generalize takeL a1 b1 = a2 at *
  generalize takeR a1 b1 = b2 at *
  have hx : t ≤ x := ht1 x (p1.mem_iff.2 List.mem_cons_self)
  have hy1 : y ∈ a1 ++ b1 := p2.mem_iff.2 List.mem_cons_self
  have hxy : x ≤ y := m1 y hy1
  have hty : t ≤ y := by omega
  have hsrt : srtN (a ++ b) = x :: y :: srtN (a2 ++ b2) := by
    rw [srtN_perm p1, srtN_min m1, srtN_perm p2, srtN_min m2]
  refine ⟨u3, ?_, ⟨y, fun e he => ?_, fun e he => ?_⟩, ?_⟩
  · refine List.pairwise_append.2 ⟨u4, List.pairwise_singleton _ _, fun e he z hz => ?_⟩
    rw [List.mem_singleton.1 hz]
    have := ht2 e (s1 e (s2 e he))
    show e ≤ x + y
    omega
  · rw [← List.append_assoc] at he
    rcases List.mem_append.1 he with he | he
    · exact m2 e he
    · rw [List.mem_singleton.1 he]; omega
  · rcases List.mem_append.1 he with he | he
    · have := ht2 e (s1 e (s2 e he)); omega
    · rw [List.mem_singleton.1 he]; omega
  · cases f with
    | zero => omega
    | succ f =>
      refine ⟨f, by rw [List.length_append, List.length_singleton]; omega, ?_⟩
      rw [hsrt] at htot
      unfold hsum at htot
      simp only at htot
      rw [← List.append_assoc, srtN_snoc]
      omega
end Go.Proofs.YtncakjchaniheaaDoor
namespace Go.Proofs.YtncakjchaniheaaDoor
open Go.RowKit
def intN (l : List Nat) : List Int := l.map fun (k : Nat) => (k : Int)
theorem intN_len (l : List Nat) : (intN l).length = l.length := by simp [intN]
theorem intN_drop (l : List Nat) : ints (intN (l.drop 1)) = (ints (intN l)).drop (1 * 1) := by simp [intN, ints]
theorem size_runT {P : Program} {e : TypeId} {i : TypeInfo} (hi : P.info? e = some i) (w : World) : (sizeOf e).run P w = .ok i.size w := by simp [sizeOf, typeInfo, hi, go_sem]
theorem run_behindT {P : Program} {t : TypeId} (ht : P.underlying t = some (.slice (P.elem t))) {size : Nat} (hz : (P.info? (P.elem t)).map (·.size) = some size) (A : Option Addr) (n c a : Nat) (hab : a ≤ n) (w : World) :
    (Instr.sliceAt t (.slice A n c) (some (.int .i64 (a : Int))) none none).run P w = .ok (.slice (if c = a then A else A.map (·.add (a * size))) (n - a) (c - a)) w := by
  obtain ⟨i, hi, rfl⟩ := Option.map_eq_some_iff.1 hz
  rw [run_sliceAt_slice w t _ _ _ _ ht, run_slice_l w t A n c ht .i64 a (by omega) (by omega)]
  rw [size_runT hi, Result.andThen]
  simp [sliced]
/-- The two rows, in their boxes. -/
structure Lq (w : World) (B ga gb : Nat) (va vb : Value) (a b : List Nat) : Prop where
  ba : Blk w ga 25 #[va]
  bb : Blk w gb 25 #[vb]
  ra : OwnO w 0 3 1 va a.length (ints (intN a))
  la : ∀ k, va.ownBlock = some k → k < B
  rb : OwnO w B 3 1 vb b.length (ints (intN b))
  lt : ga < B ∧ gb < B
  ne : ga ≠ gb
section
variable {w w' : World} {B ga gb : Nat} {va vb : Value} {a b : List Nat}
theorem own_drop {w : World} {base : Nat} {A : Option Addr} {c : Nat} {l : List Nat} (h : OwnO w base 3 1 (.slice A l.length c) l.length (ints (intN l))) (hl : 1 ≤ l.length) (hA : A ≠ none) :
    OwnO w base 3 1 (.slice (if c = 1 then A else A.map (·.add (1 * 1))) (l.length - 1) (c - 1)) (l.drop 1).length (ints (intN (l.drop 1))) := by
  have h1 := h.behind A c 1 rfl hl hA
  rw [intN_drop, List.length_drop]
  exact h1
theorem own_dropB {A : Option Addr} {n c : Nat} (hA : A ≠ none) : (Value.slice (if c = 1 then A else A.map (·.add (1 * 1))) (n - 1) (c - 1)).ownBlock = (Value.slice A n c).ownBlock := by
  cases A with
  | none => exact absurd rfl hA
  | some ad =>
    split
    · rfl
    · simp [Value.ownBlock, Addr.add]
theorem Lq.tailA {A : Option Addr} {c : Nat} (h : Lq w B ga gb (.slice A a.length c) vb a b) (hl : 1 ≤ a.length) (hA : A ≠ none) :
    Lq (w.setCell ⟨ga, 0, none⟩ (.slice (if c = 1 then A else A.map (·.add (1 * 1))) (a.length - 1) (c - 1))) B ga gb (.slice (if c = 1 then A else A.map (·.add (1 * 1))) (a.length - 1) (c - 1)) vb (a.drop 1) b := by
  have hra := own_drop h.ra hl hA
  refine ⟨?_, h.bb.far (fun e => h.ne e.symm) _, ?_, fun k hk => ?_, ?_, h.lt, h.ne⟩
  · have := h.ba.set_ 0 (.slice (if c = 1 then A else A.map (·.add (1 * 1))) (a.length - 1) (c - 1))
    exact this
  · exact hra.kept (gb_set (gb_refl _ _) 0 _) (hra.ne_blk h.ba (by decide))
  · rw [own_dropB hA] at hk
    exact h.la k hk
  · exact h.rb.kept (gb_set (gb_refl _ _) 0 _) (h.rb.ne_blk h.ba (by decide))
theorem Lq.tailB {A : Option Addr} {c : Nat} (h : Lq w B ga gb va (.slice A b.length c) a b) (hl : 1 ≤ b.length) (hA : A ≠ none) :
    Lq (w.setCell ⟨gb, 0, none⟩ (.slice (if c = 1 then A else A.map (·.add (1 * 1))) (b.length - 1) (c - 1))) B ga gb va (.slice (if c = 1 then A else A.map (·.add (1 * 1))) (b.length - 1) (c - 1)) a (b.drop 1) := by
  have hrb := own_drop h.rb hl hA
  refine ⟨h.ba.far h.ne _, ?_, ?_, h.la, ?_, h.lt, h.ne⟩
  · have := h.bb.set_ 0 (.slice (if c = 1 then A else A.map (·.add (1 * 1))) (b.length - 1) (c - 1))
    exact this
  · exact h.ra.kept (gb_set (gb_refl _ _) 0 _) (h.ra.ne_blk h.bb (by decide))
  · exact hrb.kept (gb_set (gb_refl _ _) 0 _) (hrb.ne_blk h.bb (by decide))
theorem Lq.drewN (h : Lq w B ga gb va vb a b) (q : Nat) : Lq (w.drewN q) B ga gb va vb a b := ⟨h.ba, h.bb, h.ra, h.la, h.rb, h.lt, h.ne⟩
theorem headN {w : World} {base : Nat} {A : Option Addr} {c : Nat} {l : List Nat} (h : OwnO w base 3 1 (.slice A l.length c) l.length (ints (intN l))) (hl : 1 ≤ l.length) : ∃ ad, A = some ad ∧ w.cell? ad = some (.int .i64 (l.getD 0 0 : Nat)) := by
  obtain ⟨A', c', hv, _, _, hr⟩ := h.form
  cases hv
  obtain ⟨ad, hA, _, hc⟩ := hr.2 hl
  refine ⟨ad, hA, ?_⟩
  have := hc 0 (.int .i64 ((intN l).getD 0 0)) (ints_getD _ _ (by rw [intN_len]; exact hl))
  have e : ad.add 0 = ad := by unfold Addr.add; rfl
  rw [e] at this
  rw [this]
  congr 2
  unfold intN
  rw [List.getD_eq_getElem?_getD, List.getElem?_map, List.getD_eq_getElem?_getD, List.getElem?_eq_getElem (by omega)]; rfl
end
end Go.Proofs.YtncakjchaniheaaDoor
namespace Go.Proofs.YtncakjchaniheaaDoor
open Go.RowKit Go.Proofs
theorem ints_one (l : List Int) : ∀ u ∈ ints l, u.oneCell' = true := fun u hu => by
  obtain ⟨x, _, rfl⟩ := List.mem_map.1 hu; rfl
theorem sort_intN (l : List Nat) : ((intN l).mergeSort fun x y => decide (x ≤ y)) = intN (srtN l) := by
  obtain ⟨h1, h2⟩ := srtN_up_perm l
  refine List.Perm.eq_of_pairwise (le := (· ≤ ·)) (fun _ _ _ _ h1 h2 => Int.le_antisymm h1 h2) ?_ ?_ ((List.mergeSort_perm _ _).trans (h2.map _).symm)
  · have h := List.pairwise_mergeSort (le := fun (x y : Int) => decide (x ≤ y)) (fun a b c h1 h2 => by
      rw [decide_eq_true_iff] at *; omega) (fun a b => by
      rw [Bool.or_eq_true, decide_eq_true_iff, decide_eq_true_iff]; omega) (intN l)
    exact h.imp fun h => by rwa [decide_eq_true_iff] at h
  · unfold intN
    rw [List.pairwise_map]
    exact h1.imp fun h => by omega
theorem gb_putRow {α : Type} [Inhabited α] {enc : α → Value} {w : World} {g n : Nat} {os : Array Obj} (d : Array α) : w.grownBy (Go.Sort.grow (Go.Sort.putRow enc (Go.Sort.ahead w n) g 0 d) os) (some g) := by
  refine ⟨rfl, rfl, rfl, by simp, fun k hk hne => ?_⟩
  rw [Go.Sort.heap_grow_old _ _ (by simpa using hk)]
  have : g ≠ k := fun e => hne (by rw [e])
  simp [Go.Sort.putRow, Go.Sort.mapBlock, Go.Sort.ahead, Array.getElem?_modify, this]
theorem below_growC (w : World) (os : Array Obj) : Below w.heap.size w (Go.Sort.grow w os) :=
  ⟨rfl, rfl, rfl, by simp, fun k hk => Go.Sort.heap_grow_old _ _ hk⟩
end Go.Proofs.YtncakjchaniheaaDoor
