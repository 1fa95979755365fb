/- code.Make. A table of rows of numbers that the call makes ([][]int). What two lists have in common: from the front and from behind. No program in sight. -/
import Derived.Test.YtplgghjdidmcfaaGreatDoorPk16
import Derived.Test.YtplgghjdidmcfaaGreatDoorPk05
import Derived.Test.YtplgghjdidmcfaaGreatDoorPk08
import Derived.Test.YtplgghjdidmcfaaGreatDoorPk01
namespace Go.Proofs.YtplgghjdidmcfaaGreatDoor
open Go.RowKit
def nInts (ns : List Nat) : List Int := ns.map fun (n : Nat) => (n : Int)
theorem share_nat (m : Nat) (h : m ≤ 12) : share (m : Int) = ((2 ^ (12 - m) : Nat) : Int) := by
  unfold share
  rw [show (12 - (m : Int)).toNat = 12 - m by omega, Int.natCast_pow]; rfl
theorem lensGo_nat {l : List Int} : ∀ {s x : Int}, lensGo s l = (x, 0) → ∃ ns : List Nat, l = nInts ns ∧ (∀ m ∈ ns, 1 ≤ m ∧ m ≤ 12) ∧ x = s + (total ns : Nat) := by
  induction l with
  | nil =>
    intro s x h
    simp only [lensGo, Prod.mk.injEq] at h
    exact ⟨[], rfl, by simp, by simp [total, h.1]⟩
  | cons n r ih =>
    intro s x h
    rw [lensGo] at h
    by_cases hn : n < 1 ∨ 12 < n
    · rw [if_pos hn] at h; simp at h
    · rw [if_neg hn] at h
      obtain ⟨m, rfl⟩ := Int.eq_ofNat_of_zero_le (show 0 ≤ n by omega)
      obtain ⟨ns, rfl, h1, h2⟩ := ih h
      refine ⟨m :: ns, rfl, ?_, ?_⟩
      · intro y hy
        rcases List.mem_cons.1 hy with rfl | hy
        · omega
        · exact h1 y hy
      · rw [h2, share_nat m (by omega)]
        simp only [total]
        omega
theorem lensErr_nat {l : List Int} {x : Int} (h : lensErr l = (x, 0)) : ∃ ns : List Nat, l = nInts ns ∧ (∀ m ∈ ns, 1 ≤ m ∧ m ≤ 12) ∧ ns.length ≤ 12 ∧ x = (total ns : Nat) := by
  unfold lensErr at h
  by_cases h12 : 12 < l.length
  · rw [if_pos h12] at h; simp at h
  · rw [if_neg h12] at h
    obtain ⟨ns, rfl, h1, h2⟩ := lensGo_nat h
    exact ⟨ns, rfl, h1, by simpa [nInts] using h12, by omega⟩
theorem nInts_len (ns : List Nat) : (nInts ns).length = ns.length := by simp [nInts]
theorem nInts_get (ns : List Nat) (k : Nat) (h : k < (nInts ns).length) : (nInts ns)[k] = ((ns.getD k 0 : Nat) : Int) := by
  have h2 : k < ns.length := by rwa [nInts_len] at h
  simp [nInts, List.getD_eq_getElem?_getD, List.getElem?_eq_getElem h2]
theorem pow_shr (n : Nat) (h : n ≤ 12) : (12 - (n : Int)).toNat = 12 - n := by omega
theorem made_one (z : Value) (hz : z.cells = #[z]) (m : Nat) : (madeCells z.cells (m * 1)).toList = List.replicate m z := by
  rw [hz]
  apply List.ext_getElem
  · simp [size_madeCells]
  · intro j h1 h2
    simp [madeCells, Nat.mod_one]
theorem pw_bd (n : Nat) : 1 ≤ 2 ^ (12 - n) ∧ 2 ^ (12 - n) ≤ 4096 := ⟨Nat.one_le_two_pow, Nat.le_trans (Nat.pow_le_pow_right (by omega) (Nat.sub_le _ _)) (by decide)⟩
theorem pw_add (a n : Nat) (h : a ≤ 4096) : wrap64 ((a : Int) + wrap64 (2 ^ (12 - n))) = ((a + 2 ^ (12 - n) : Nat) : Int) := by
  have hp := pw_bd n
  have e : (2 : Int) ^ (12 - n) = ((2 ^ (12 - n) : Nat) : Int) := by rw [Int.natCast_pow]; rfl
  rw [e, IntWalk.wrap64_in ((2 ^ (12 - n) : Nat) : Int) ⟨by omega, by omega⟩, IntWalk.wrap64_in _ ⟨by omega, by omega⟩]; omega
theorem div_cast (a n : Nat) : (a : Int) / 2 ^ n = ((a / 2 ^ n : Nat) : Int) := by rw [Int.natCast_ediv, Int.natCast_pow]; rfl
end Go.Proofs.YtplgghjdidmcfaaGreatDoor
namespace Go.Proofs.YtplgghjdidmcfaaGreatDoor
open Go.RowKit
/-- An array of numbers of the call's own. -/
def ArrI (w : World) (base g n : Nat) (l : List Int) : Prop := w.ownsRow base 3 1 (.slice (some ⟨g, 0, none⟩) n n) n (ints l)
theorem ints_getD (l : List Int) (k : Nat) (h : k < l.length) : (ints l)[k]? = some (.int .i64 (l.getD k 0)) := by
  rw [ints, List.getElem?_map, List.getD_eq_getElem?_getD, List.getElem?_eq_getElem h]; rfl
theorem ints_set (l : List Int) (k : Nat) (v : Int) : ints (l.set k v) = (ints l).set k (.int .i64 v) := by simp [ints, List.map_set]
section
variable {w w' : World} {base g n : Nat} {l : List Int}
theorem ArrI.len (h : ArrI w base g n l) : l.length = n := by have := h.1; simpa [ints] using this
theorem ArrI.at_ (h : ArrI w base g n l) {k : Nat} (hk : k < n) : w.cell? ⟨g, k, none⟩ = some (.int .i64 (l.getD k 0)) := by
  have := h.len
  rw [World.ownsRow.cellAt h k (by omega), ints_getD l k (by omega)]
theorem ArrI.free (h : ArrI w base g n l) (k : Nat) : w.frozen? ⟨g, k, none⟩ = false := World.ownsRow.frozenAt h k
theorem ArrI.set_ (h : ArrI w base g n l) (k : Nat) (v : Int) : ArrI (w.setCell ⟨g, k, none⟩ (.int .i64 v)) base g n (l.set k v) := by
  have := (World.ownsRow.stored h k (.int .i64 v)).1
  unfold ArrI; rw [ints_set]; exact this
theorem ArrI.lt (h : ArrI w base g n l) : base ≤ g ∧ g < w.heap.size := World.ownsRow.lt h g rfl
theorem ArrI.below (h : ArrI w base g n l) (hb : Below w.heap.size w w') : ArrI w' base g n l := own_below h hb
theorem ArrI.kept {row : Option Nat} (h : ArrI w base g n l) (hg : w.grownBy w' row) (hne : some g ≠ row) : ArrI w' base g n l := World.ownsRow.kept h hg (.inr hne)
theorem ArrI.drewN (h : ArrI w base g n l) (k : Nat) : ArrI (w.drewN k) base g n l := h
end
/-- A table: its rows lie in the blocks G i, i among E. -/
structure Tab (w : World) (base gT n m : Nat) (E : Nat → Prop) (G : Nat → Nat) (R : Nat → List Int) : Prop where
  top : ∃ xs, w.ownsRow base 91 1 (.slice (some ⟨gT, 0, none⟩) n n) n xs ∧ ∀ i, E i → xs[i]? = some (.slice (some ⟨G i, 0, none⟩) m m)
  row : ∀ i, E i → ArrI w base (G i) m (R i)
  lt : ∀ i, E i → i < n
  inj : ∀ i j, E i → E j → G i = G j → i = j
section
variable {w w' : World} {base gT n m : Nat} {E : Nat → Prop} {G : Nat → Nat} {R : Nat → List Int}
theorem Tab.ptr (h : Tab w base gT n m E G R) {i : Nat} (hi : E i) : w.cell? ⟨gT, i, none⟩ = some (.slice (some ⟨G i, 0, none⟩) m m) := by
  obtain ⟨xs, h1, h2⟩ := h.top
  rw [h1.cellAt i (by have := h.lt i hi; omega), h2 i hi]
theorem Tab.gT_lt (h : Tab w base gT n m E G R) : base ≤ gT ∧ gT < w.heap.size := by
  obtain ⟨xs, h1, _⟩ := h.top
  exact h1.lt gT rfl
theorem Tab.ne (h : Tab w base gT n m E G R) {i : Nat} (hi : E i) : gT ≠ G i := by
  obtain ⟨xs, h1, _⟩ := h.top
  have := own_ne h1 (h.row i hi) (by decide)
  simpa [Value.ownBlock] using this
theorem Tab.below (h : Tab w base gT n m E G R) (hb : Below w.heap.size w w') : Tab w' base gT n m E G R := by
  obtain ⟨xs, h1, h2⟩ := h.top
  exact ⟨⟨xs, own_below h1 hb, h2⟩, fun i hi => (h.row i hi).below hb, h.lt, h.inj⟩
theorem Tab.drewN (h : Tab w base gT n m E G R) (k : Nat) : Tab (w.drewN k) base gT n m E G R := h.below (below_drewN (Below.refl _ _) _)
theorem Tab.slot (h : Tab w base gT n m E G R) {i : Nat} (hi : i < n) : ∃ u, w.cell? ⟨gT, i, none⟩ = some u ∧ w.frozen? ⟨gT, i, none⟩ = false := by
  obtain ⟨xs, h1, _⟩ := h.top
  have hl : xs.length = n := by have := h1.1; omega
  exact ⟨xs[i], by rw [h1.cellAt i (by omega), List.getElem?_eq_getElem (by omega)], h1.frozenAt i⟩
theorem Tab.congr {E' : Nat → Prop} (h : Tab w base gT n m E G R) (e : ∀ j, E j ↔ E' j) : Tab w base gT n m E' G R := by
  obtain rfl : E = E' := funext fun j => propext (e j)
  exact h
/-- A store into a row. -/
theorem Tab.set_ (h : Tab w base gT n m E G R) {i : Nat} (hi : E i) (k : Nat) (v : Int) :
    Tab (w.setCell ⟨G i, k, none⟩ (.int .i64 v)) base gT n m E G (fun j => if j = i then (R i).set k v else R j) := by
  obtain ⟨xs, h1, h2⟩ := h.top
  have hg : w.grownBy (w.setCell ⟨G i, k, none⟩ (.int .i64 v)) (some (G i)) := gb_set (gb_refl _ _) _ _
  refine ⟨⟨xs, h1.kept hg (.inr (by simpa [Value.ownBlock] using h.ne hi)), h2⟩, fun j hj => ?_, h.lt, h.inj⟩
  by_cases hji : j = i
  · subst hji; simp only [if_true]; exact (h.row j hj).set_ k v
  · simp only [hji, if_false]
    exact (h.row j hj).kept hg (fun e => hji (h.inj j i hj hi (by simpa using e)))
/-- A new row. -/
theorem Tab.add (h : Tab w base gT n m E G R) {i g : Nat} {l : List Int} (hi : ¬ E i) (hin : i < n) (hrow : ArrI w base g m l) (hg : ∀ j, E j → G j ≠ g) :
    Tab (w.setCell ⟨gT, i, none⟩ (.slice (some ⟨g, 0, none⟩) m m)) base gT n m (fun j => j = i ∨ E j) (fun j => if j = i then g else G j) (fun j => if j = i then l else R j) := by
  obtain ⟨xs, h1, h2⟩ := h.top
  have hgb : w.grownBy (w.setCell ⟨gT, i, none⟩ (.slice (some ⟨g, 0, none⟩) m m)) (some gT) := gb_set (gb_refl _ _) _ _
  have hxl : xs.length = n := by have := h1.1; omega
  have hng : gT ≠ g := by
    have := own_ne h1 hrow (by decide)
    simpa [Value.ownBlock] using this
  refine ⟨⟨xs.set i (.slice (some ⟨g, 0, none⟩) m m), (h1.stored i _).1, fun j hj => ?_⟩, fun j hj => ?_, fun j hj => ?_, fun j k hj hk e => ?_⟩
  · by_cases hji : j = i
    · subst hji; simp only [if_true]
      rw [List.getElem?_set_self (by omega)]
    · simp only [hji, if_false]
      rw [List.getElem?_set_ne (fun e => hji e.symm)]
      exact h2 j (hj.resolve_left hji)
  · by_cases hji : j = i
    · subst hji; simp only [if_true]; exact hrow.kept hgb (fun e => hng (by simpa using e.symm))
    · simp only [hji, if_false]
      exact (h.row j (hj.resolve_left hji)).kept hgb (fun e => h.ne (hj.resolve_left hji) (by simpa using e.symm))
  · rcases hj with rfl | hj
    · exact hin
    · exact h.lt j hj
  · by_cases hji : j = i
    · by_cases hki : k = i
      · omega
      · exfalso
        simp only [hji, if_true, hki, if_false] at e
        exact hg k (hk.resolve_left hki) e.symm
    · by_cases hki : k = i
      · exfalso
        simp only [hji, if_false, hki, if_true] at e
        exact hg j (hj.resolve_left hji) e
      · simp only [hji, if_false, hki] at e
        exact h.inj j k (hj.resolve_left hji) (hk.resolve_left hki) e
end
theorem info_int : (Tryz.prog.info? 3).map (fun i => (i.zero, i.size, i.bytes)) = some (some (.int .i64 0), 1, 8) := by kernel_rfl
theorem info_row : (Tryz.prog.info? 91).map (fun i => (i.zero, i.size, i.bytes)) = some (some (.slice none 0 0), 1, 24) := by kernel_rfl
theorem made_ints (m : Nat) : (madeCells (Value.cells (.int .i64 0)) (m * 1)).toList = ints (List.replicate m 0) := by
  rw [made_one _ rfl]; simp [ints]
theorem Tab.start {w : World} {base gT n : Nat} {xs : List Value} (h : w.ownsRow base 91 1 (.slice (some ⟨gT, 0, none⟩) n n) n xs) (m : Nat) (G : Nat → Nat) (R : Nat → List Int) : Tab w base gT n m (fun _ => False) G R :=
  ⟨⟨xs, h, fun _ h => h.elim⟩, fun _ h => h.elim, fun _ h => h.elim, fun _ _ h => h.elim⟩
end Go.Proofs.YtplgghjdidmcfaaGreatDoor
namespace Go.Proofs.YtplgghjdidmcfaaGreatDoor
/-- How much two lists have in common, from the front. -/
def lcs : List UInt8 → List UInt8 → Nat
  | [], _ => 0
  | _, [] => 0
  | x :: a, y :: b => if x = y then lcs a b + 1 else max (lcs a (y :: b)) (lcs (x :: a) b)
termination_by a b => a.length + b.length
theorem lcs_nil_left (b : List UInt8) : lcs [] b = 0 := by rw [lcs]
theorem lcs_nil_right (a : List UInt8) : lcs a [] = 0 := by cases a <;> simp [lcs]
theorem lcs_cons (x y : UInt8) (a b : List UInt8) : lcs (x :: a) (y :: b) = if x = y then lcs a b + 1 else max (lcs a (y :: b)) (lcs (x :: a) b) := by rw [lcs]
/-- Something that both have. -/
inductive Cm : List UInt8 → List UInt8 → Nat → Prop
  | nil : Cm [] [] 0
  | both {a b n} (x) : Cm a b n → Cm (x :: a) (x :: b) (n + 1)
  | left {a b n} (x) : Cm a b n → Cm (x :: a) b n
  | right {a b n} (y) : Cm a b n → Cm a (y :: b) n
theorem cm_right (b : List UInt8) : Cm [] b 0 := by
  induction b with
  | nil => exact .nil
  | cons y b ih => exact .right y ih
theorem cm_left (a : List UInt8) : Cm a [] 0 := by
  induction a with
  | nil => exact .nil
  | cons y b ih => exact .left y ih
theorem cm_lcs : ∀ (n : Nat) (a b : List UInt8), a.length + b.length ≤ n → Cm a b (lcs a b) := by
  intro n
  induction n with
  | zero =>
    intro a b h
    cases a with
    | nil => rw [lcs_nil_left]; exact cm_right b
    | cons => simp only [List.length_cons] at h; omega
  | succ n ih =>
    intro a b h
    cases a with
    | nil => rw [lcs_nil_left]; exact cm_right b
    | cons x a =>
      cases b with
      | nil => rw [lcs_nil_right]; exact cm_left _
      | cons y b =>
        simp only [List.length_cons] at h
        have h1 := ih a b (by omega)
        have h2 := ih a (y :: b) (by simp only [List.length_cons]; omega)
        have h3 := ih (x :: a) b (by simp only [List.length_cons]; omega)
        rw [lcs_cons]
        split
        · rename_i e; subst e; exact .both _ h1
        · rcases Nat.le_total (lcs a (y :: b)) (lcs (x :: a) b) with e | e
          · rw [Nat.max_eq_right e]; exact .right _ h3
          · rw [Nat.max_eq_left e]; exact .left _ h2
theorem lcs_tail : ∀ (n : Nat) (a b : List UInt8) (x : UInt8), a.length + b.length ≤ n → (lcs a b ≤ lcs (x :: a) b ∧ lcs (x :: a) b ≤ lcs a b + 1) ∧ (lcs b a ≤ lcs b (x :: a) ∧ lcs b (x :: a) ≤ lcs b a + 1) := by
  intro n
  induction n with
  | zero =>
    intro a b x h
    cases b with
    | nil => simp [lcs_nil_left, lcs_nil_right]
    | cons => simp only [List.length_cons] at h; omega
  | succ n ih =>
    intro a b x h
    cases b with
    | nil => simp [lcs_nil_left, lcs_nil_right]
    | cons y b =>
      simp only [List.length_cons] at h
      have h0 := ih a b x (by omega)
      have h4 := ih a b y (by omega)
      have h5 := ih b a y (by omega)
      rw [lcs_cons x y, lcs_cons y x]
      refine ⟨?_, ?_⟩
      · split <;> omega
      · split <;> omega
theorem le_lcs {a b : List UInt8} {n : Nat} (h : Cm a b n) : n ≤ lcs a b := by
  induction h with
  | nil => simp
  | both x h ih => rw [lcs_cons, if_pos rfl]; omega
  | @left a b n x h ih => have := (lcs_tail _ a b x (Nat.le_refl _)).1; omega
  | @right a b n y h ih => have := (lcs_tail _ b a y (Nat.le_refl _)).2; omega
theorem Cm.snoc {a b : List UInt8} {n : Nat} (h : Cm a b n) : (∀ x, Cm (a ++ [x]) (b ++ [x]) (n + 1)) ∧ (∀ x, Cm (a ++ [x]) b n) ∧ (∀ y, Cm a (b ++ [y]) n) := by
  induction h with
  | nil => exact ⟨fun x => .both x .nil, fun x => .left x .nil, fun y => .right y .nil⟩
  | both z h ih => exact ⟨fun x => .both z (ih.1 x), fun x => .both z (ih.2.1 x), fun x => .both z (ih.2.2 x)⟩
  | left z h ih => exact ⟨fun x => .left z (ih.1 x), fun x => .left z (ih.2.1 x), fun x => .left z (ih.2.2 x)⟩
  | right z h ih => exact ⟨fun x => .right z (ih.1 x), fun x => .right z (ih.2.1 x), fun x => .right z (ih.2.2 x)⟩
theorem Cm.rev {a b : List UInt8} {n : Nat} (h : Cm a b n) : Cm a.reverse b.reverse n := by
  induction h with
  | nil => exact .nil
  | both z h ih => simp only [List.reverse_cons]; exact ih.snoc.1 z
  | left z h ih => simp only [List.reverse_cons]; exact ih.snoc.2.1 z
  | right z h ih => simp only [List.reverse_cons]; exact ih.snoc.2.2 z
theorem lcs_rev (a b : List UInt8) : lcs a.reverse b.reverse = lcs a b := by
  have h1 := le_lcs (cm_lcs _ a b (Nat.le_refl _)).rev
  have h2 := le_lcs (cm_lcs _ a.reverse b.reverse (Nat.le_refl _)).rev
  rw [List.reverse_reverse, List.reverse_reverse] at h2
  omega
theorem lcs_snoc (x y : UInt8) (a b : List UInt8) : lcs (a ++ [x]) (b ++ [y]) = if x = y then lcs a b + 1 else max (lcs a (b ++ [y])) (lcs (a ++ [x]) b) := by
  rw [← lcs_rev (a ++ [x]) (b ++ [y]), ← lcs_rev (a ++ [x]) b, ← lcs_rev a (b ++ [y]), ← lcs_rev a b]
  simp only [List.reverse_append, List.reverse_cons, List.reverse_nil, List.nil_append, List.singleton_append]
  exact lcs_cons x y _ _
theorem lcs_le (a b : List UInt8) : lcs a b ≤ a.length ∧ lcs a b ≤ b.length := by
  have key : ∀ {a b : List UInt8} {n}, Cm a b n → n ≤ a.length ∧ n ≤ b.length := by
    intro a b n h
    induction h with
    | nil => simp
    | both x h ih => simp only [List.length_cons]; omega
    | left x h ih => simp only [List.length_cons]; omega
    | right x h ih => simp only [List.length_cons]; omega
  exact key (cm_lcs _ a b (Nat.le_refl _))
end Go.Proofs.YtplgghjdidmcfaaGreatDoor
