/- An editor and two rows of the law's own beside it. -/
import Derived.Test.YthnedhfjochfnaaUndoX
namespace Go.Proofs.Ythnedhfjochfnaa
open Go.RowKit
structure LawSt (w : World) (base g : Nat) (s : Es) (vB vO : Value) (lb : List (List UInt8)) (vb : Value) (lo : List (List UInt8)) (vo : Value) : Prop where
  ed : EdSt w base g s vB vO
  b : OwnO w base 9 1 vb lb.length (strCells lb)
  o : OwnO w base 9 1 vo lo.length (strCells lo)
  bo : Apart vb vo
  bB : Apart vb vB
  bO : Apart vb vO
  oB : Apart vo vB
  oO : Apart vo vO
section
variable {w w' : World} {base g : Nat} {s s' : Es} {vB vO vB' vO' vb vo v6 : Value} {lb lo l' : List (List UInt8)} {x : List UInt8}
theorem apart_fresh {v v' : Value} {e : TypeId} {size n : Nat} {xs : List Value} (h : OwnO w base e size v n xs) (hB : Apart v vB) (hO : Apart v vO) (hf : Fresh w v' vB vO) : Apart v v' := by
  cases hv : v.ownBlock with
  | none => exact .inl hv
  | some k =>
    refine .inr fun e => ?_
    rw [hv] at e
    rcases hf k e.symm with h1 | h1 | h1
    · rcases hB with h2 | h2
      · rw [hv] at h2; cases h2
      · exact h2 (by rw [hv, h1])
    · rcases hO with h2 | h2
      · rw [hv] at h2; cases h2
      · exact h2 (by rw [hv, h1])
    · have := (h.lt k hv).2; omega
theorem LawSt.below (h : LawSt w base g s vB vO lb vb lo vo) (hb : Below w.heap.size w w') : LawSt w' base g s vB vO lb vb lo vo :=
  ⟨h.ed.below hb, h.b.below hb, h.o.below hb, h.bo, h.bB, h.bO, h.oB, h.oO⟩
theorem own_chg {v : Value} {e : TypeId} {size n : Nat} {xs : List Value} (h : OwnO w base e size v n xs) (hne : e ≠ 128) (hb : EdSt w base g s vB vO) (hB : Apart v vB) (hO : Apart v vO) (hc : Chg w w' (EdK g vB vO)) : OwnO w' base e size v n xs := by
  refine h.chg hc fun k hk hK => ?_
  rcases hK with rfl | h1 | h1
  · rcases h.ne_blk hb.blk hne with h2 | h2
    · rw [hk] at h2; cases h2
    · exact h2 hk
  · rcases hB with h2 | h2
    · rw [hk] at h2; cases h2
    · exact h2 (by rw [hk, h1])
  · rcases hO with h2 | h2
    · rw [hk] at h2; cases h2
    · exact h2 (by rw [hk, h1])
theorem LawSt.step (h : LawSt w base g s vB vO lb vb lo vo) (he : EdSt w' base g s' vB' vO') (hc : Chg w w' (EdK g vB vO)) (fB : Fresh w vB' vB vO) (fO : Fresh w vO' vB vO) : LawSt w' base g s' vB' vO' lb vb lo vo :=
  ⟨he, own_chg h.b (by decide) h.ed h.bB h.bO hc, own_chg h.o (by decide) h.ed h.oB h.oO hc, h.bo, apart_fresh h.b h.bB h.bO fB, apart_fresh h.b h.bB h.bO fO, apart_fresh h.o h.oB h.oO fB, apart_fresh h.o h.oB h.oO fO⟩
theorem LawSt.sw (h : LawSt w base g s vB vO lb vb lo vo) : LawSt w base g s vB vO lo vo lb vb := ⟨h.ed, h.o, h.b, h.bo.comm, h.oB, h.oO, h.bB, h.bO⟩
theorem ne_some {v : Value} (h : v.ownBlock = none ∨ v.ownBlock ≠ some g) : some g ≠ v.ownBlock := fun e => by
  rcases h with h | h
  · rw [← e] at h; cases h
  · exact h e.symm
theorem LawSt.apb (h : LawSt w base g s vB vO lb vb lo vo) (hg : w.grownBy w' vb.ownBlock) (hown : OwnO w' base 9 1 v6 (lb.length + 1) (strCells lb ++ [.string (S x)])) (ha : v6.ownBlock = vb.ownBlock ∨ v6.ownBlock = some w.heap.size) :
    LawSt w' base g s vB vO (lb ++ [x]) v6 lo vo := by
  have ho : OwnO w' base 9 1 v6 (lb ++ [x]).length (strCells (lb ++ [x])) := by
    rw [List.length_append, strCells, List.map_append]; exact hown
  exact ⟨h.ed.far hg (ne_some (h.b.ne_blk h.ed.blk (by decide))) h.bB.comm h.bO.comm, ho, h.o.kept hg h.bo.comm, (apartO_new h.o h.bo.comm ha (Nat.le_refl _)).comm,
    (apartO_new h.ed.b h.bB.comm ha (Nat.le_refl _)).comm, (apartO_new h.ed.o h.bO.comm ha (Nat.le_refl _)).comm, h.oB, h.oO⟩
theorem LawSt.apo (h : LawSt w base g s vB vO lb vb lo vo) (hg : w.grownBy w' vo.ownBlock) (hown : OwnO w' base 9 1 v6 (lo.length + 1) (strCells lo ++ [.string (S x)])) (ha : v6.ownBlock = vo.ownBlock ∨ v6.ownBlock = some w.heap.size) :
    LawSt w' base g s vB vO lb vb (lo ++ [x]) v6 := (h.sw.apb hg hown ha).sw
theorem LawSt.newb (h : LawSt w base g s vB vO lb vb lo vo) (hown : OwnO w base 9 1 v6 l'.length (strCells l')) (hv : v6.ownBlock = vb.ownBlock) : LawSt w base g s vB vO l' v6 lo vo := by
  refine ⟨h.ed, hown, h.o, ?_, ?_, ?_, h.oB, h.oO⟩
  · have := h.bo; unfold Apart at this ⊢; rw [hv]; exact this
  · have := h.bB; unfold Apart at this ⊢; rw [hv]; exact this
  · have := h.bO; unfold Apart at this ⊢; rw [hv]; exact this
theorem LawSt.newo (h : LawSt w base g s vB vO lb vb lo vo) (hown : OwnO w base 9 1 v6 l'.length (strCells l')) (hv : v6.ownBlock = vo.ownBlock) : LawSt w base g s vB vO lb vb l' v6 := (h.sw.newb hown hv).sw
theorem LawSt.nilo (h : LawSt w base g s vB vO lb vb lo vo) : LawSt w base g s vB vO lb vb [] (.slice none 0 0) :=
  ⟨h.ed, h.b, OwnO.nil_, (Apart.none_left _).comm, h.bB, h.bO, Apart.none_left _, Apart.none_left _⟩
theorem LawSt.bel (h : LawSt w base g s vB vO lb vb lo vo) (hc : Chg w w' (EdK g vB vO)) (hb : base ≤ w.heap.size) : Below base w w' :=
  hc.below (fun k hk => by
    rcases hk with rfl | h1 | h1
    · exact h.ed.lo
    · exact (h.ed.b.lt k h1).1
    · exact (h.ed.o.lt k h1).1) hb
theorem own_cell {A : Option Addr} {m c k : Nat} {l : List (List UInt8)} (h : OwnO w base 9 1 (.slice A m c) l.length (strCells l)) (hk : k < l.length) : ∃ ad : Addr, A = some ad ∧ ad.block < w.heap.size ∧ w.cell? (ad.add k) = some (.string (S (l.getD k []))) := by
  obtain ⟨A', c', hv, _, _, hr⟩ := h.form
  injection hv with h1 h2 h3
  subst h1
  exact str_cell hr hk
end
end Go.Proofs.Ythnedhfjochfnaa
