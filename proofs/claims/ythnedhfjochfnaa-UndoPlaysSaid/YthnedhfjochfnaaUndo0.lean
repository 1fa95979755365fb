/- An editor of a text: its steps as plain functions; where it lies. -/
import Derived.Test.YthnedhfjochfnaaApp
import Derived.Test.YthnedhfjochfnaaEditB
import Derived.Test.YthnedhfjochfnaaSchedZ
import Derived.Test.YthnedhfjochfnaaStrC
namespace Go.Proofs.Ythnedhfjochfnaa
open Go.RowKit
structure Es where
  text : List UInt8
  back : List (List UInt8)
  onward : List (List UInt8)
def doE (s : Es) (l : List Ed) : Int := if edErr s.text.length l = 0 then (if l.length = 0 then 5 else 0) else edErr s.text.length l
def doS (s : Es) (l : List Ed) : Es := if doE s l = 0 then ⟨edDone s.text l, (s.back ++ [s.text]).drop (s.back.length + 1 - 30), []⟩ else s
def undoE (s : Es) : Int := if s.back.length = 0 then 4 else 0
def undoS (s : Es) : Es := if s.back.length = 0 then s else ⟨s.back.getD (s.back.length - 1) [], s.back.take (s.back.length - 1), s.onward ++ [s.text]⟩
def redoE (s : Es) : Int := if s.onward.length = 0 then 4 else 0
def redoS (s : Es) : Es := if s.onward.length = 0 then s else ⟨s.onward.getD (s.onward.length - 1) [], s.back ++ [s.text], s.onward.take (s.onward.length - 1)⟩
/-- What always holds of an editor. -/
structure EsOk (s : Es) : Prop where
  t : s.text.length ≤ 200
  b : ∀ x ∈ s.back, x.length ≤ 200
  o : ∀ x ∈ s.onward, x.length ≤ 200
  n : s.back.length + s.onward.length ≤ 30
theorem edDone_len {s : List UInt8} {l : List Ed} (h : edErr s.length l = 0) : (edDone s l).length ≤ 200 := by
  obtain ⟨_, _, _, hc, hg⟩ := edErr_zero.1 h
  rw [edDone_is h]
  have := edTo_length (n := s.length) rfl hc (k := 0) rfl (Nat.zero_le _)
  omega
theorem EsOk.do_ {s : Es} (h : EsOk s) (l : List Ed) : EsOk (doS s l) := by
  unfold doS
  split
  · rename_i h0
    have he : edErr s.text.length l = 0 := by
      unfold doE at h0
      by_cases he : edErr s.text.length l = 0
      · exact he
      · rw [if_neg he] at h0; exact h0
    refine ⟨edDone_len he, fun x hx => ?_, (fun x hx => absurd hx (by simp)), ?_⟩
    · have := List.mem_of_mem_drop hx
      rcases List.mem_append.1 this with h1 | h1
      · exact h.b x h1
      · simp only [List.mem_singleton] at h1; subst h1; exact h.t
    · have := h.n
      simp only [List.length_drop, List.length_append, List.length_singleton, List.length_nil]; omega
  · exact h
theorem getD_mem_last {l : List (List UInt8)} (h : ¬ l.length = 0) : l.getD (l.length - 1) [] ∈ l := by
  rw [List.getD_eq_getElem?_getD, List.getElem?_eq_getElem (by omega)]
  exact List.getElem_mem _
theorem EsOk.undo {s : Es} (h : EsOk s) : EsOk (undoS s) := by
  unfold undoS
  split
  · exact h
  · rename_i h0
    have := h.n
    refine ⟨h.b _ (getD_mem_last h0), fun x hx => h.b x (List.mem_of_mem_take hx), fun x hx => ?_, by simp only [List.length_take, List.length_append, List.length_singleton]; omega⟩
    rcases List.mem_append.1 hx with h1 | h1
    · exact h.o x h1
    · simp only [List.mem_singleton] at h1; subst h1; exact h.t
theorem EsOk.redo {s : Es} (h : EsOk s) : EsOk (redoS s) := by
  unfold redoS
  split
  · exact h
  · rename_i h0
    have := h.n
    refine ⟨h.o _ (getD_mem_last h0), fun x hx => ?_, fun x hx => h.o x (List.mem_of_mem_take hx), by simp only [List.length_take, List.length_append, List.length_singleton]; omega⟩
    rcases List.mem_append.1 hx with h1 | h1
    · exact h.b x h1
    · simp only [List.mem_singleton] at h1; subst h1; exact h.t
/-- An editor lies in block g. -/
structure EdSt (w : World) (base g : Nat) (s : Es) (vB vO : Value) : Prop where
  blk : Blk w g 128 #[.string (S s.text), vB, vO]
  lo : base ≤ g
  b : OwnO w base 9 1 vB s.back.length (strCells s.back)
  o : OwnO w base 9 1 vO s.onward.length (strCells s.onward)
  ap : Apart vB vO
/-- A world that is as it was, but for new blocks and the blocks in K. -/
structure Chg (w w' : World) (K : Nat → Prop) : Prop where
  os : w'.os = w.os
  tape : w'.tape = w.tape
  output : w'.output = w.output
  size : w.heap.size ≤ w'.heap.size
  block : ∀ k, k < w.heap.size → ¬ K k → w'.heap[k]? = w.heap[k]?
section
variable {w w' w2 : World} {K K' : Nat → Prop} {base g : Nat} {s : Es} {vB vO v u : Value} {e : TypeId} {size n : Nat} {xs : List Value}
theorem Chg.of_below (h : Below w.heap.size w w') (K : Nat → Prop) : Chg w w' K := ⟨h.os, h.tape, h.output, h.size, fun k hk _ => h.block k hk⟩
theorem Chg.of_gb {row : Option Nat} (h : w.grownBy w' row) (hK : ∀ k, row = some k → K k) : Chg w w' K := ⟨h.os, h.tape, h.output, h.size, fun k hk hn => h.block k hk (fun e => hn (hK k e.symm))⟩
theorem Chg.trans (h : Chg w w' K) (h2 : Chg w' w2 K') (hK : ∀ k, K' k → k < w.heap.size → K k) : Chg w w2 K :=
  ⟨h2.os.trans h.os, h2.tape.trans h.tape, h2.output.trans h.output, Nat.le_trans h.size h2.size, fun k hk hn => (h2.block k (Nat.lt_of_lt_of_le hk h.size) (fun h' => hn (hK k h' hk))).trans (h.block k hk hn)⟩
theorem Chg.below (h : Chg w w' K) (hK : ∀ k, K k → base ≤ k) (hs : base ≤ w.heap.size) : Below base w w' :=
  ⟨h.os, h.tape, h.output, h.size, fun k hk => h.block k (Nat.lt_of_lt_of_le hk hs) (fun h' => by have := hK k h'; omega)⟩
theorem OwnO.chg (h : OwnO w base e size v n xs) (hc : Chg w w' K) (hK : ∀ k, v.ownBlock = some k → ¬ K k) : OwnO w' base e size v n xs := by
  refine ⟨h.1, ?_⟩
  rcases h.2 with hn | ⟨g, o, cap, cur, rfl, hb, hgg, rest⟩
  · exact .inl hn
  · refine .inr ⟨g, o, cap, cur, rfl, hb, ?_, rest⟩
    rw [hc.block g (Array.getElem?_eq_some_iff.1 hgg).1 (hK g rfl)]
    exact hgg
theorem EdSt.below (h : EdSt w base g s vB vO) (hb : Below w.heap.size w w') : EdSt w' base g s vB vO := ⟨h.blk.below' hb, h.lo, h.b.below hb, h.o.below hb, h.ap⟩
theorem EdSt.far (h : EdSt w base g s vB vO) (hg : w.grownBy w' v.ownBlock) (hgv : some g ≠ v.ownBlock) (hB : Apart vB v) (hO : Apart vO v) : EdSt w' base g s vB vO :=
  ⟨h.blk.grown hg hgv, h.lo, h.b.kept hg hB, h.o.kept hg hO, h.ap⟩
theorem OwnO.lower {base' : Nat} (h : OwnO w base e size v n xs) (hb : base' ≤ base) : OwnO w base' e size v n xs := by
  refine ⟨h.1, ?_⟩
  rcases h.2 with h | ⟨g, o, cap, cur, h1, h2, h3⟩
  · exact .inl h
  · exact .inr ⟨g, o, cap, cur, h1, by omega, h3⟩
end
theorem apartO_new {w w' : World} {base : Nat} {e : TypeId} {size n : Nat} {v u v' : Value} {xs : List Value} (h : OwnO w base e size v n xs) (ha : Apart v u) (hu : v'.ownBlock = u.ownBlock ∨ v'.ownBlock = some w'.heap.size) (hs : w.heap.size ≤ w'.heap.size) : Apart v v' := by
  rcases hu with hu | hu
  · rcases ha with ha | ha
    · exact .inl ha
    · exact .inr (by rw [hu]; exact ha)
  · cases hv : v.ownBlock with
    | none => exact .inl hv
    | some g =>
      refine .inr ?_
      rw [hv, hu]
      intro e
      have := (h.lt g hv).2
      simp only [Option.some.injEq] at e
      omega
theorem OwnO.far {w : World} {base : Nat} {e : TypeId} {size n g : Nat} {v : Value} {xs : List Value} (h : OwnO w base e size v n xs) (hg : v.ownBlock = none ∨ v.ownBlock ≠ some g) (i : Nat) (u : Value) : OwnO (w.setCell ⟨g, i, none⟩ u) base e size v n xs := h.kept (gb_set (gb_refl _ _) i u) hg
/-- What comes on, appended to: the editor's third field. -/
theorem EdSt.app {w w' : World} {base g : Nat} {st x : List UInt8} {sb so : List (List UInt8)} {vB vO v6 : Value} (h : EdSt w base g ⟨st, sb, so⟩ vB vO) (hg : w.grownBy w' vO.ownBlock) (hgv : some g ≠ vO.ownBlock)
    (hown : OwnO w' base 9 1 v6 (so.length + 1) (strCells so ++ [.string (S x)])) (ha : v6.ownBlock = vO.ownBlock ∨ v6.ownBlock = some w.heap.size) :
    EdSt (w'.setCell ⟨g, 2, none⟩ v6) base g ⟨st, sb, so ++ [x]⟩ vB v6 := by
  have hB := h.blk.grown hg hgv
  have ho : OwnO w' base 9 1 v6 (so ++ [x]).length (strCells (so ++ [x])) := by
    rw [List.length_append, strCells, List.map_append]; exact hown
  have hb' := h.b.kept hg h.ap
  exact ⟨hB.set_ 2 v6, h.lo, hb'.far (hb'.ne_blk hB (by decide)) _ _, ho.far (ho.ne_blk hB (by decide)) _ _, apartO_new h.b h.ap ha (Nat.le_refl _)⟩
/-- What was, appended to: the editor's second field. -/
theorem EdSt.appB {w w' : World} {base g : Nat} {st x : List UInt8} {sb so : List (List UInt8)} {vB vO v6 : Value} (h : EdSt w base g ⟨st, sb, so⟩ vB vO) (hg : w.grownBy w' vB.ownBlock) (hgv : some g ≠ vB.ownBlock)
    (hown : OwnO w' base 9 1 v6 (sb.length + 1) (strCells sb ++ [.string (S x)])) (ha : v6.ownBlock = vB.ownBlock ∨ v6.ownBlock = some w.heap.size) :
    EdSt (w'.setCell ⟨g, 1, none⟩ v6) base g ⟨st, sb ++ [x], so⟩ v6 vO := by
  have hB := h.blk.grown hg hgv
  have ho : OwnO w' base 9 1 v6 (sb ++ [x]).length (strCells (sb ++ [x])) := by
    rw [List.length_append, strCells, List.map_append]; exact hown
  have hb' := h.o.kept hg h.ap.comm
  exact ⟨hB.set_ 1 v6, h.lo, ho.far (ho.ne_blk hB (by decide)) _ _, hb'.far (hb'.ne_blk hB (by decide)) _ _, (apartO_new h.o h.ap.comm ha (Nat.le_refl _)).comm⟩
theorem EdSt.text_ {w : World} {base g : Nat} {st : List UInt8} {sb so : List (List UInt8)} {vB vO : Value} (h : EdSt w base g ⟨st, sb, so⟩ vB vO) (x : List UInt8) : EdSt (w.setCell ⟨g, 0, none⟩ (.string (S x))) base g ⟨x, sb, so⟩ vB vO :=
  ⟨h.blk.set_ 0 _, h.lo, h.b.far (h.b.ne_blk h.blk (by decide)) _ _, h.o.far (h.o.ne_blk h.blk (by decide)) _ _, h.ap⟩
theorem cut_own {w : World} {base : Nat} {A : Option Addr} {m c k : Nat} {l : List (List UInt8)} (h : OwnO w base 9 1 (.slice A m c) l.length (strCells l)) (hm : m = l.length) (hk : k ≤ m) (hA : A ≠ none) : OwnO w base 9 1 (.slice A k c) (l.take k).length (strCells (l.take k)) := by
  subst hm
  have := h.front A c k rfl hk hA
  rw [Nat.mul_one] at this
  rw [List.length_take, Nat.min_eq_left hk, strCells, List.map_take]
  exact this
theorem EdSt.cutB {w : World} {base g : Nat} {st : List UInt8} {sb so : List (List UInt8)} {A : Option Addr} {m c k : Nat} {vO : Value} (h : EdSt w base g ⟨st, sb, so⟩ (.slice A m c) vO) (hm : m = sb.length) (hk : k ≤ m) (hA : A ≠ none) :
    EdSt (w.setCell ⟨g, 1, none⟩ (.slice A k c)) base g ⟨st, sb.take k, so⟩ (.slice A k c) vO := by
  have h1 := cut_own h.b hm hk hA
  refine ⟨h.blk.set_ 1 _, h.lo, h1.far (h1.ne_blk h.blk (by decide)) _ _, h.o.far (h.o.ne_blk h.blk (by decide)) _ _, ?_⟩
  have := h.ap
  cases A with
  | none => exact absurd rfl hA
  | some a => exact this
theorem EdSt.cutO {w : World} {base g : Nat} {st : List UInt8} {sb so : List (List UInt8)} {A : Option Addr} {m c k : Nat} {vB : Value} (h : EdSt w base g ⟨st, sb, so⟩ vB (.slice A m c)) (hm : m = so.length) (hk : k ≤ m) (hA : A ≠ none) :
    EdSt (w.setCell ⟨g, 2, none⟩ (.slice A k c)) base g ⟨st, sb, so.take k⟩ vB (.slice A k c) := by
  have h1 := cut_own h.o hm hk hA
  refine ⟨h.blk.set_ 2 _, h.lo, h.b.far (h.b.ne_blk h.blk (by decide)) _ _, h1.far (h1.ne_blk h.blk (by decide)) _ _, ?_⟩
  have := h.ap
  cases A with
  | none => exact absurd rfl hA
  | some a => exact this
/-- A row's block is one of these, or new. -/
def Fresh (w : World) (v' : Value) (vB vO : Value) : Prop := ∀ k, v'.ownBlock = some k → vB.ownBlock = some k ∨ vO.ownBlock = some k ∨ w.heap.size ≤ k
def EdK (g : Nat) (vB vO : Value) : Nat → Prop := fun k => k = g ∨ vB.ownBlock = some k ∨ vO.ownBlock = some k
theorem Fresh.left (w : World) (vB vO : Value) : Fresh w vB vB vO := fun _ h => .inl h
theorem Fresh.right (w : World) (vB vO : Value) : Fresh w vO vB vO := fun _ h => .inr (.inl h)
theorem Fresh.nil_ (w : World) (vB vO : Value) : Fresh w (.slice none 0 0) vB vO := fun _ h => by simp [Value.ownBlock] at h
end Go.Proofs.Ythnedhfjochfnaa
