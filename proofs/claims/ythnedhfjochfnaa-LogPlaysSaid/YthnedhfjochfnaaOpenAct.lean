/- Slices of acts, opened (an act's three fields are of an edit's types). -/
import Derived.Test.YthnedhfjochfnaaOpenRows
namespace Go.Proofs.Ythnedhfjochfnaa
open Go.ChangeShapes Go.WideShapes Go.ChangeAt Go.RowKit Go.Deep
variable {H : Type} {enc : TypeId × Value → H} {W : World}
theorem open_acts {fuel : Nat} {cs : List Value} {y : DataW H × List MemPlace} (h : DataW.trod enc Try.prog W 0 (fun _ => true) true fuel 74 cs = some y) :
    ∃ (A : Option Addr) (n c : Nat) (l : List Ed), cs = [.slice A n c] ∧ n ≤ c ∧ c ≤ maxLen ∧ l.length = n ∧ Rd W W.heap.size 3 A n (edCells l) ∧ (∀ x ∈ l, EdOk x) ∧
      ((y.1 = .nil ∧ c = 0) ∨ ∃ el sp, y.1 = .slice el sp ∧ el.length + sp.length = c) := by
  refine open_rd (e := 80) (size := 3) Try.underlying74 (by kernel_rfl) (by omega) (fun _ => rfl) ?_ h
  intro fuel cs y hl hy
  obtain ⟨n, hf⟩ := open_fields Try.underlying80 (by kernel_rfl) hy (by rw [hl]; rfl)
  obtain ⟨v0, x0, e0, t0⟩ := hf 0 _ rfl
  obtain ⟨v1, x1, e1, t1⟩ := hf 1 _ rfl
  obtain ⟨v2, x2, e2, t2⟩ := hf 2 _ rfl
  obtain ⟨a, ha, wa⟩ := dec_int (k := .i64) Try.underlying3 _ _ _ t0
  obtain ⟨b, hb, wb⟩ := dec_int (k := .i64) Try.underlying3 _ _ _ t1
  obtain ⟨s, hs, ws⟩ := dec_str Try.underlying9 _ _ _ t2
  simp only [List.cons.injEq, and_true] at ha hb hs
  subst ha hb hs
  refine ⟨⟨a, b, L s⟩, ?_, wfi64 wa, wfi64 wb, by show (L s).length ≤ maxLen; rw [L_len]; exact ws⟩
  match cs, hl with
  | [c0, c1, c2], _ =>
    simp only [List.getElem?_cons_zero, List.getElem?_cons_succ, Option.some.injEq] at e0 e1 e2
    rw [e0, e1, e2]; rfl
end Go.Proofs.Ythnedhfjochfnaa
