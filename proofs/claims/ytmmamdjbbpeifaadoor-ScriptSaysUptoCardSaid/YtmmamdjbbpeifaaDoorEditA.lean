/- edit.Apply, edit.Undo, edit.Place. -/
import Derived.Test.YtmmamdjbbpeifaaDoorEditR
import Derived.Test.YtmmamdjbbpeifaaDoorEditP0
import Derived.Test.YtmmamdjbbpeifaaDoorOwn2
namespace Go.Proofs.YtmmamdjbbpeifaaDoor
open Go.RowKit
theorem drop_cons_get {α : Type} {l : List α} {k : Nat} (h : k < l.length) : l.drop k = l[k] :: l.drop (k + 1) := List.drop_eq_getElem_cons h
/-- What Apply answers. -/
def apOut (s : ByteArray) (l : List Ed) : ByteArray := if edErr s.size l = 0 then S (edDone (L s) l) else S []
theorem ret_si {a b : ByteArray} {x y : Int} (h : a = b) (k : x = y) : Ending.returned (.tuple #[.string a, .int .i64 x]) = .returned (.tuple #[.string b, .int .i64 y]) := by rw [h, k]
/-- Where the loop of Apply stands. -/
structure ApAt (s : List UInt8) (l : List Ed) (k p : Nat) (out : List UInt8) : Prop where
  le : k ≤ l.length
  chain : ∃ q, Chain s.length q (l.drop k) ∧ after p q
  pn : p ≤ s.length
  eq : out ++ edTo s p (l.drop k) = edTo s 0 l
theorem ApAt.start {s : List UInt8} {l : List Ed} (h : edErr s.length l = 0) : ApAt s l 0 0 [] := ⟨Nat.zero_le _, ⟨none, (edErr_zero.1 h).2.2.2.1, rfl⟩, Nat.zero_le _, rfl⟩
theorem ApAt.bounds {s : List UInt8} {l : List Ed} {k p : Nat} {out : List UInt8} (h : ApAt s l k p out) (hk : k < l.length) : (p : Int) ≤ l[k].at_ ∧ 0 ≤ l[k].del ∧ l[k].at_ + l[k].del ≤ s.length ∧ l[k].ins.length ≤ 40 := by
  obtain ⟨q, hc, ha⟩ := h.chain
  rw [drop_cons_get hk] at hc
  cases hc with
  | cons _ _ _ h0 hc =>
    obtain ⟨h1, h2, h3, h4, h5, h6, h7⟩ := edOne_zero h0
    refine ⟨?_, h2, h4, h5⟩
    cases q with
    | none => simp only [after] at ha; omega
    | some e => simp only [after] at ha; have := h7 e rfl; omega
theorem ApAt.step {s : List UInt8} {l : List Ed} {k p : Nat} {out : List UInt8} (h : ApAt s l k p out) (hk : k < l.length) :
    ApAt s l (k + 1) (l[k].at_ + l[k].del).toNat (out ++ ((s.drop p).take (l[k].at_.toNat - p) ++ l[k].ins)) := by
  have hb := h.bounds hk
  obtain ⟨q, hc, ha⟩ := h.chain
  have he := h.eq
  rw [drop_cons_get hk] at hc he
  cases hc with
  | cons _ _ _ h0 hc =>
    refine ⟨hk, ⟨_, hc, by simp only [after]; omega⟩, by omega, ?_⟩
    rw [← he]; simp [edTo]
theorem ApAt.fin {s : List UInt8} {l : List Ed} {p : Nat} {out : List UInt8} (h : ApAt s l l.length p out) : out ++ s.drop p = edTo s 0 l := by
  have := h.eq
  rwa [List.drop_length] at this
theorem ApAt.len {s : List UInt8} {l : List Ed} {k p : Nat} {out : List UInt8} (h : ApAt s l k p out) (h0 : edErr s.length l = 0) : out.length ≤ 200 ∧ (edTo s 0 l).length ≤ 200 := by
  obtain ⟨_, _, _, hc, hf⟩ := edErr_zero.1 h0
  have hl := edTo_length rfl hc (k := 0) rfl (Nat.zero_le _)
  have := congrArg List.length h.eq
  rw [List.length_append] at this
  omega
/-- Is there an edit that takes much? -/
def bigDel (l : List Ed) : Bool := l.any fun x => decide (40 < x.del)
/-- What Undo answers: an error, or the edits back. -/
def unErr (s : ByteArray) (l : List Ed) : Int := if edErr s.size l = 0 then (if bigDel l = true then 2 else 0) else edErr s.size l
theorem info_ed : (Tryd.prog.info? 34).map (fun i => (i.zero, i.size, i.bytes)) = some (some (.agg #[.int .i64 0, .int .i64 0, .string ByteArray.empty]), 3, 32) := by kernel_rfl
theorem edCells_append (a b : List Ed) : edCells (a ++ b) = edCells a ++ edCells b := by simp [edCells]
theorem edErr_small {n : Int} {l : List Ed} (h : edErr n l = 0) : Small l := fun x hx => by
  obtain ⟨h0, h1, _, hc, _⟩ := edErr_zero.1 h
  have := hc.mem x hx
  omega
end Go.Proofs.YtmmamdjbbpeifaaDoor
