/- A block of bytes that a call turns, and the builtin copy within it. word.Check and the reference's Long: is a string too long? How far two lists are from each other: from the front and from behind. No program in sight. -/
import Derived.Test.YtncakjchaniheaaDoorPk15
import Derived.Test.YtncakjchaniheaaDoorPk08
import Derived.Laws.CopyOwn
import Derived.Test.YtncakjchaniheaaDoorPk01
namespace Go.Proofs.YtncakjchaniheaaDoor
open Go.RowKit
/-- Block g is these bytes. -/
def BB (w : World) (g : Nat) (x : List UInt8) : Prop := Blk w g 5 (byteCells x).toArray
theorem byteCells_len (x : List UInt8) : (byteCells x).length = x.length := by simp [byteCells]
theorem byteCells_get (x : List UInt8) {k : Nat} (h : k < x.length) : (byteCells x)[k]? = some (.int .u8 ((x.getD k 0).toNat : Int)) := by
  rw [byteCells, List.getElem?_map, List.getD_eq_getElem?_getD, List.getElem?_eq_getElem h]; rfl
theorem byteCells_one (x : List UInt8) : ∀ v ∈ byteCells x, v.oneCell' = true := fun v h => by
  obtain ⟨b, _, rfl⟩ := List.mem_map.1 h; rfl
section
variable {w w' : World} {g k : Nat} {x : List UInt8}
theorem BB.at_ (h : BB w g x) (hk : k < x.length) : w.cell? ⟨g, k, none⟩ = some (.int .u8 ((x.getD k 0).toNat : Int)) := by
  rw [Blk.cell h k, List.getElem?_toArray, byteCells_get x hk]
theorem BB.set_ (h : BB w g x) (k : Nat) (b : UInt8) : BB (w.setCell ⟨g, k, none⟩ (.int .u8 (b.toNat : Int))) g (x.set k b) := by
  have := Blk.set_ h k (.int .u8 (b.toNat : Int))
  unfold BB
  rw [show (byteCells (x.set k b)).toArray = (byteCells x).toArray.setIfInBounds k (.int .u8 (b.toNat : Int)) from by simp [byteCells, List.map_set]]
  exact this
theorem BB.below (h : BB w g x) (hb : Below w.heap.size w w') : BB w' g x := Blk.below' h hb
theorem BB.kept {row : Option Nat} (h : BB w g x) (hb : w.grownBy w' row) (hg : some g ≠ row) : BB w' g x := Blk.grown h hb hg
theorem BB.free (h : BB w g x) (k : Nat) : w.frozen? ⟨g, k, none⟩ = false := Blk.frozen h k
end
theorem gb_setRow (w : World) (g : Nat) (cs : Array Value) : w.grownBy (w.setRow g cs) (some g) :=
  ⟨rfl, rfl, rfl, by simp [World.setRow], fun k _ hk => setRow_other w g k cs (fun e => hk (by rw [e]))⟩
/-- copy within or into a known block: that block alone turns. -/
theorem wpList_copy_gb {P : Program} {w : World} {ops : Array Oper} {rest : List Oper} {o : Oper} {a : Act} {Q : Exit → Act → World → Prop} (hgd : o.guard = none) (d s : Operand) (dT sT : TypeId)
    (ho : o.op = .call { callee := .builtin .copy, args := #[d, s], argTypes := #[dT, sT] }) (elem : TypeId) (hu : P.underlying dT = some (.slice elem)) (hsz : (P.info? elem).map (·.size) = some 1)
    (dp sp : Option Addr) (dLen dCap sLen sCap : Nat) (hd : a.eval d = .slice dp dLen dCap) (hs : a.eval s = .slice sp sLen sCap)
    (g off : Nat) (cur : List Value) (t : TypeId) (hg : Blk w g t cur.toArray) (cs : List Value) (hn : cs.length = Nat.min sLen dLen)
    (hpos : 0 < cs.length → dp = some ⟨g, off, none⟩ ∧ ∃ ad, sp = some ad ∧ ∀ j v, cs[j]? = some v → w.cell? (ad.add j) = some v)
    (hfit : off + cs.length ≤ cur.length) (h1 : ∀ v ∈ cs, v.oneCell' = true)
    (h : ∀ w', Blk w' g t (splice cur off cs).toArray → w.grownBy w' (some g) → wpList P ops Q rest (a.put o.dst (goInt cs.length)) w') :
    wpList P ops Q (o :: rest) a w := by
  by_cases h0 : cs.length = 0
  · obtain rfl : cs = [] := List.eq_nil_of_length_eq_zero h0
    refine wpList_copy_nothing hgd d s dT sT ho elem hu hsz dp sp dLen dCap sLen sCap hd hs (by simpa using hn.symm) ?_
    exact h w (show w.heap[g]? = _ by simpa [splice, Blk] using hg) (gb_refl _ _)
  · obtain ⟨rfl, ad, rfl, hsrc⟩ := hpos (by omega)
    refine wpList_copy_own hgd d s dT sT ho elem hu hsz g off dLen dCap ad sLen sCap hd hs cur.toArray t hg cs hn hsrc (by simpa using hfit) h1 ?_
    exact h _ (show _ = _ by simpa [splice] using setRow_heap w g _ _ t _ hg) (gb_setRow _ _ _)
/-- What take leaves. -/
theorem front_cells (x : List UInt8) (k : Nat) (h : k < x.length) : (splice (byteCells x) 1 ((byteCells x).take k)).toArray.setIfInBounds 0 (.int .u8 ((x.getD k 0).toNat : Int)) = (byteCells (frontK x k)).toArray := by
  cases x with
  | nil => simp at h
  | cons a r =>
    have hl : ((byteCells (a :: r)).take k).length = k := by rw [List.length_take, byteCells_len]; omega
    unfold splice
    rw [hl, List.setIfInBounds_toArray]
    congr 1
    unfold frontK
    simp only [byteCells, List.map_cons, List.map_append, List.map_take, List.map_drop]
    simp [Nat.add_comm]
end Go.Proofs.YtncakjchaniheaaDoor
namespace Go.Proofs.YtncakjchaniheaaDoor
open Go.RowKit
def longErr (n : Nat) : Int := if 200 < n then 2 else 0
/-- Of several. -/
def longAll (l : List ByteArray) : Int := if ∃ s ∈ l, 200 < s.size then 2 else 0
theorem longAll_one (s : ByteArray) : longAll [s] = longErr s.size := by simp [longAll, longErr]
theorem wordCheck_any (s : ByteArray) (w : World) :
    Calls Tryd.prog 14 #[.string s] w fun e w' => e = .returned (.int .i64 (longErr s.size)) ∧ Below w.heap.size w w' := by
  unfold longErr
  go_enter Tryd.func14, Tryd.ntmps14
  go_wp2
  all_goals go_ret
  all_goals refine ⟨ret_int ?_, Below.refl _ _⟩
  all_goals rfl
end Go.Proofs.YtncakjchaniheaaDoor
namespace Go.Proofs.YtncakjchaniheaaDoor
/-- How far two lists are from each other, from the front. -/
def lev : List UInt8 → List UInt8 → Nat
  | [], b => b.length
  | a, [] => a.length
  | x :: a, y :: b => if x = y then lev a b else 1 + min (lev a (y :: b)) (min (lev (x :: a) b) (lev a b))
termination_by a b => a.length + b.length
theorem lev_nil_left (b : List UInt8) : lev [] b = b.length := by rw [lev]
theorem lev_nil_right (a : List UInt8) : lev a [] = a.length := by cases a <;> simp [lev]
theorem lev_cons (x y : UInt8) (a b : List UInt8) : lev (x :: a) (y :: b) = if x = y then lev a b else 1 + min (lev a (y :: b)) (min (lev (x :: a) b) (lev a b)) := by rw [lev]
/-- A way to make the one of the other. -/
inductive Al : List UInt8 → List UInt8 → Nat → Prop
  | nil : Al [] [] 0
  | keep {a b n} (x) : Al a b n → Al (x :: a) (x :: b) n
  | sub {a b n} (x y) : Al a b n → Al (x :: a) (y :: b) (n + 1)
  | del {a b n} (x) : Al a b n → Al (x :: a) b (n + 1)
  | ins {a b n} (y) : Al a b n → Al a (y :: b) (n + 1)
theorem al_ins (b : List UInt8) : Al [] b b.length := by
  induction b with
  | nil => exact .nil
  | cons y b ih => exact .ins y ih
theorem al_del (a : List UInt8) : Al a [] a.length := by
  induction a with
  | nil => exact .nil
  | cons y b ih => exact .del y ih
theorem al_lev : ∀ (n : Nat) (a b : List UInt8), a.length + b.length ≤ n → Al a b (lev a b) := by
  intro n
  induction n with
  | zero =>
    intro a b h
    cases a with
    | nil => cases b with
      | nil => rw [lev_nil_left]; exact .nil
      | cons => simp only [List.length_cons] at h; omega
    | cons => simp only [List.length_cons] at h; omega
  | succ n ih =>
    intro a b h
    cases a with
    | nil => rw [lev_nil_left]; exact al_ins b
    | cons x a =>
      cases b with
      | nil => rw [lev_nil_right]; exact al_del _
      | cons y b =>
        simp only [List.length_cons] at h
        have h1 := ih a b (by omega)
        have h2 := ih a (y :: b) (by simp only [List.length_cons]; omega)
        have h3 := ih (x :: a) b (by simp only [List.length_cons]; omega)
        rw [lev_cons]
        split
        · rename_i e; subst e; exact .keep _ h1
        · rcases Nat.le_total (lev a (y :: b)) (min (lev (x :: a) b) (lev a b)) with e | e
          · rw [Nat.min_eq_left e, Nat.add_comm]; exact .del _ h2
          · rw [Nat.min_eq_right e]
            rcases Nat.le_total (lev (x :: a) b) (lev a b) with e | e
            · rw [Nat.min_eq_left e, Nat.add_comm]; exact .ins _ h3
            · rw [Nat.min_eq_right e, Nat.add_comm]; exact .sub _ _ h1
theorem lev_tail_left : ∀ (n : Nat) (a b : List UInt8) (x : UInt8), a.length + b.length ≤ n → lev a b ≤ lev (x :: a) b + 1 ∧ lev b a ≤ lev b (x :: a) + 1 := by
  intro n
  induction n with
  | zero =>
    intro a b x h
    cases a with
    | nil => cases b with
      | nil => simp [lev_nil_left, lev_nil_right]
      | cons => simp only [List.length_cons] at h; omega
    | cons => simp only [List.length_cons] at h; omega
  | succ n ih =>
    intro a b x h
    cases b with
    | nil => simp [lev_nil_left, lev_nil_right]; omega
    | cons y b =>
      simp only [List.length_cons] at h
      have h0 := ih a b x (by omega)
      cases a with
      | nil =>
        rw [lev_nil_left, lev_nil_right, lev_cons, lev_cons]
        simp only [List.length_cons, lev_nil_left, lev_nil_right]
        have h1 := ih [] b x (by simp; omega)
        simp only [lev_nil_left, lev_nil_right] at h1
        constructor <;> split <;> omega
      | cons z a =>
        simp only [List.length_cons] at h
        have h1 := ih a b z (by omega)
        have h2 := ih (z :: a) b x (by simp only [List.length_cons]; omega)
        rw [lev_cons x y, lev_cons y x]
        rw [lev_cons z y, lev_cons y z]
        have h3 := ih a b y (by omega)
        have h4 := ih b a y (by omega)
        constructor
        · split
          · rename_i e; subst e
            split <;> omega
          · split <;> omega
        · split
          · rename_i e; subst e
            split <;> omega
          · split <;> omega
theorem lev_le {a b : List UInt8} {n : Nat} (h : Al a b n) : lev a b ≤ n := by
  induction h with
  | nil => simp [lev_nil_left]
  | keep x h ih => rw [lev_cons, if_pos rfl]; exact ih
  | @sub a b n x y h ih =>
    rw [lev_cons]; split <;> omega
  | @del a b n x h ih =>
    cases b with
    | nil => rw [lev_nil_right] at *; simp; omega
    | cons y b =>
      rw [lev_cons]
      split
      · have := (lev_tail_left _ b a y (Nat.le_refl _)).2; omega
      · omega
  | @ins a b n y h ih =>
    cases a with
    | nil => rw [lev_nil_left] at *; simp; omega
    | cons x a =>
      rw [lev_cons]
      split
      · have := (lev_tail_left _ a b x (Nat.le_refl _)).1; omega
      · omega
theorem Al.snoc {a b : List UInt8} {n : Nat} (h : Al a b n) : (∀ x, Al (a ++ [x]) (b ++ [x]) n) ∧ (∀ x y, Al (a ++ [x]) (b ++ [y]) (n + 1)) ∧ (∀ x, Al (a ++ [x]) b (n + 1)) ∧ (∀ y, Al a (b ++ [y]) (n + 1)) := by
  induction h with
  | nil => exact ⟨fun x => .keep x .nil, fun x y => .sub x y .nil, fun x => .del x .nil, fun y => .ins y .nil⟩
  | keep z h ih => exact ⟨fun x => .keep z (ih.1 x), fun x y => .keep z (ih.2.1 x y), fun x => .keep z (ih.2.2.1 x), fun y => .keep z (ih.2.2.2 y)⟩
  | sub u z h ih => exact ⟨fun x => .sub u z (ih.1 x), fun x y => .sub u z (ih.2.1 x y), fun x => .sub u z (ih.2.2.1 x), fun y => .sub u z (ih.2.2.2 y)⟩
  | del z h ih => exact ⟨fun x => .del z (ih.1 x), fun x y => .del z (ih.2.1 x y), fun x => .del z (ih.2.2.1 x), fun y => .del z (ih.2.2.2 y)⟩
  | ins z h ih => exact ⟨fun x => .ins z (ih.1 x), fun x y => .ins z (ih.2.1 x y), fun x => .ins z (ih.2.2.1 x), fun y => .ins z (ih.2.2.2 y)⟩
theorem Al.rev {a b : List UInt8} {n : Nat} (h : Al a b n) : Al a.reverse b.reverse n := by
  induction h with
  | nil => exact .nil
  | keep z h ih => simp only [List.reverse_cons]; exact ih.snoc.1 z
  | sub u z h ih => simp only [List.reverse_cons]; exact ih.snoc.2.1 u z
  | del z h ih => simp only [List.reverse_cons]; exact ih.snoc.2.2.1 z
  | ins z h ih => simp only [List.reverse_cons]; exact ih.snoc.2.2.2 z
theorem lev_rev (a b : List UInt8) : lev a.reverse b.reverse = lev a b := by
  have h1 := lev_le (al_lev _ a b (Nat.le_refl _)).rev
  have h2 := lev_le (al_lev _ a.reverse b.reverse (Nat.le_refl _)).rev
  rw [List.reverse_reverse, List.reverse_reverse] at h2
  omega
theorem lev_min (x y : UInt8) (a b : List UInt8) : lev (x :: a) (y :: b) = min (lev a b + if x = y then 0 else 1) (min (lev (x :: a) b + 1) (lev a (y :: b) + 1)) := by
  have h1 := (lev_tail_left _ a b x (Nat.le_refl _)).1
  have h2 := (lev_tail_left _ b a y (Nat.le_refl _)).2
  rw [lev_cons]
  split <;> omega
theorem lev_snoc (x y : UInt8) (a b : List UInt8) : lev (a ++ [x]) (b ++ [y]) = min (lev a b + if x = y then 0 else 1) (min (lev (a ++ [x]) b + 1) (lev a (b ++ [y]) + 1)) := by
  rw [← lev_rev (a ++ [x]) (b ++ [y]), ← lev_rev (a ++ [x]) b, ← lev_rev a (b ++ [y]), ← lev_rev a b]
  simp only [List.reverse_append, List.reverse_cons, List.reverse_nil, List.nil_append, List.singleton_append]
  exact lev_min x y _ _
theorem lev_len (a b : List UInt8) : lev a b ≤ a.length + b.length := by
  refine lev_le (n := a.length + b.length) ?_
  induction a with
  | nil => simpa using al_ins b
  | cons x a ih => rw [List.length_cons, show a.length + 1 + b.length = a.length + b.length + 1 by omega]; exact .del x ih
end Go.Proofs.YtncakjchaniheaaDoor
