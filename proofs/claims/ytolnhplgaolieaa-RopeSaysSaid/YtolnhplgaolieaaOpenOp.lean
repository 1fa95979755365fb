/- An operation by value, opened. -/
import Derived.Test.YtolnhplgaolieaaOpen
import Derived.Test.YtolnhplgaolieaaShift0
namespace Go.Proofs.Ytolnhplgaolieaa
open Go.ChangeShapes Go.WideShapes Go.ChangeAt Go.RowKit Go.Deep
variable {H : Type} {enc : TypeId × Value → H} {W : World}
theorem wf_i64 {x : Int} (h : (Lit.int .i64 x).wf = true) : -9223372036854775808 ≤ x ∧ x ≤ 9223372036854775807 := by
  simpa [Lit.wf, IntKind.min, IntKind.max, IntKind.signed, IntKind.bits] using h
theorem wf_u8 {x : Int} (h : (Lit.int .u8 x).wf = true) : 0 ≤ x ∧ x ≤ 255 := by
  simpa [Lit.wf, IntKind.min, IntKind.max, IntKind.signed, IntKind.bits] using h
/-- What an operation's fields hold. -/
structure OpOk (x : Op) : Prop where
  k : -9223372036854775808 ≤ x.kind ∧ x.kind ≤ 9223372036854775807
  p : -9223372036854775808 ≤ x.pos ∧ x.pos ≤ 9223372036854775807
  b0 : 0 ≤ x.b
  b1 : x.b < 256
set_option maxRecDepth 100000 in
theorem open_op {base : Nat} {v : Value} {d : DataW H} {p : List MemPlace} (hv : Value.okWide Try.prog W .any base 64 v) (h : DataW.Trod enc Try.prog W 0 (fun _ => true) true 64 v d p) :
    ∃ x : Op, v = x.val ∧ OpOk x := by
  obtain ⟨v0, v1, v2, y0, y1, y2, n, rfl, _, _, h0, h1, h2⟩ := Go.Joins.open_agg3 Try.underlying64 (by kernel_rfl) (by kernel_rfl) hv h
  obtain ⟨a, ha, wa⟩ := dec_int (k := .i64) Try.underlying3 _ _ _ h0
  obtain ⟨b, hb, wb⟩ := dec_int (k := .i64) Try.underlying3 _ _ _ h1
  obtain ⟨c, hc, wc⟩ := dec_int (k := .u8) Try.underlying5 _ _ _ h2
  simp only [List.cons.injEq, and_true] at ha hb hc
  subst ha hb hc
  exact ⟨⟨a, b, c⟩, rfl, wf_i64 wa, wf_i64 wb, (wf_u8 wc).1, by have := (wf_u8 wc).2; show c < 256; omega⟩
end Go.Proofs.Ytolnhplgaolieaa
