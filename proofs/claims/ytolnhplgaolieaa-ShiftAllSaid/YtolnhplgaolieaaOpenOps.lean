/- Slices of operations, opened. -/
import Derived.Test.YtolnhplgaolieaaOpenRows
import Derived.Test.YtolnhplgaolieaaShA2
namespace Go.Proofs.Ytolnhplgaolieaa
open Go.ChangeShapes Go.WideShapes Go.ChangeAt Go.RowKit Go.Deep
variable {H : Type} {enc : TypeId × Value → H} {W : World}
def OpIn (x : Op) : Prop := I64 x.kind ∧ 0 ≤ x.b ∧ x.b < 256
theorem open_ops {fuel : Nat} {cs : List Value} {y : DataW H × List MemPlace} (h : DataW.trod enc Try.prog W 0 (fun _ => true) true fuel 56 cs = some y) :
    ∃ (A : Option Addr) (n c : Nat) (l : List Op), cs = [.slice A n c] ∧ n ≤ c ∧ c ≤ maxLen ∧ l.length = n ∧ Rd W W.heap.size 3 A n (opCells l) ∧ (∀ x ∈ l, OpIn x) ∧
      ((y.1 = .nil ∧ c = 0) ∨ ∃ el sp, y.1 = .slice el sp ∧ el.length + sp.length = c) := by
  refine open_rd (e := 64) (size := 3) Try.underlying56 (by kernel_rfl) (by omega) (fun _ => rfl) ?_ h
  intro fuel cs y hl hy
  obtain ⟨n, hf⟩ := open_fields Try.underlying64 (by kernel_rfl) hy (by rw [hl]; rfl)
  obtain ⟨v0, x0, e0, t0⟩ := hf 0 _ rfl
  obtain ⟨v1, x1, e1, t1⟩ := hf 1 _ rfl
  obtain ⟨v2, x2, e2, t2⟩ := hf 2 _ rfl
  obtain ⟨a, ha, wa⟩ := dec_int (k := .i64) Try.underlying3 _ _ _ t0
  obtain ⟨b, hb, _⟩ := dec_int (k := .i64) Try.underlying3 _ _ _ t1
  obtain ⟨c, hc, wc⟩ := dec_int (k := .u8) Try.underlying5 _ _ _ t2
  simp only [List.cons.injEq, and_true] at ha hb hc
  subst ha hb hc
  refine ⟨⟨a, b, c⟩, ?_, wfi64 wa, (wfu8 wc).1, by have := (wfu8 wc).2; show c < 256; omega⟩
  match cs, hl with
  | [c0, c1, c2], _ =>
    simp only [List.getElem?_cons_zero, List.getElem?_cons_succ, Option.some.injEq] at e0 e1 e2
    rw [e0, e1, e2]; rfl
theorem opsOk_of {l : List Op} (h : ∀ x ∈ l, OpIn x) : OpsOk l := ⟨fun x hx => (h x hx).1, fun x hx => (h x hx).2⟩
end Go.Proofs.Ytolnhplgaolieaa
