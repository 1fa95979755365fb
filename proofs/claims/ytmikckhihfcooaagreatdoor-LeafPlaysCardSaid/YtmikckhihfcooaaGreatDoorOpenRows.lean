/- Slices of phrases, edits, numbers and strings, opened. -/
import Derived.Test.YtmikckhihfcooaaGreatDoorOpen
import Derived.Test.YtmikckhihfcooaaGreatDoorPhraseG
import Derived.Test.YtmikckhihfcooaaGreatDoorEditW
import Derived.Test.YtmikckhihfcooaaGreatDoorEq
namespace Go.Proofs.YtmikckhihfcooaaGreatDoor
open Go.ChangeShapes Go.WideShapes Go.ChangeAt Go.RowKit Go.Deep
variable {H : Type} {enc : TypeId × Value → H} {W : World}
theorem wfi64 {x : Int} (h : (Lit.int .i64 x).wf = true) : -9223372036854775808 ≤ x ∧ x ≤ 9223372036854775807 := by
  simpa [Lit.wf, IntKind.min, IntKind.max, IntKind.signed, IntKind.bits] using h
theorem wfu8 {x : Int} (h : (Lit.int .u8 x).wf = true) : 0 ≤ x ∧ x ≤ 255 := by
  simpa [Lit.wf, IntKind.min, IntKind.max, IntKind.signed, IntKind.bits] using h
theorem u8_of {x : Int} (h : 0 ≤ x ∧ x ≤ 255) : x = ((UInt8.ofNat x.toNat).toNat : Int) := by rw [UInt8.toNat_ofNat']; omega
def I64 (x : Int) : Prop := -9223372036854775808 ≤ x ∧ x ≤ 9223372036854775807
structure EdOk (x : Ed) : Prop where
  a : I64 x.at_
  d : I64 x.del
  i : x.ins.length ≤ maxLen
theorem open_eds {fuel : Nat} {cs : List Value} {y : DataW H × List MemPlace} (h : DataW.trod enc Tryz.prog W 0 (fun _ => true) true fuel 32 cs = some y) :
    ∃ (A : Option Addr) (n c : Nat) (l : List Ed), cs = [.slice A n c] ∧ n ≤ c ∧ c ≤ maxLen ∧ l.length = n ∧ Rd W W.heap.size 3 A n (edCells l) ∧ (∀ x ∈ l, EdOk x) ∧
      ((y.1 = .nil ∧ c = 0) ∨ ∃ el sp, y.1 = .slice el sp ∧ el.length + sp.length = c) := by
  refine open_rd (e := 67) (size := 3) Tryz.underlying32 (by kernel_rfl) (by omega) (fun _ => rfl) ?_ h
  intro fuel cs y hl hy
  obtain ⟨n, hf⟩ := open_fields Tryz.underlying67 (by kernel_rfl) hy (by rw [hl]; rfl)
  obtain ⟨v0, x0, e0, t0⟩ := hf 0 _ rfl
  obtain ⟨v1, x1, e1, t1⟩ := hf 1 _ rfl
  obtain ⟨v2, x2, e2, t2⟩ := hf 2 _ rfl
  obtain ⟨a, ha, wa⟩ := dec_int (k := .i64) Tryz.underlying3 _ _ _ t0
  obtain ⟨b, hb, wb⟩ := dec_int (k := .i64) Tryz.underlying3 _ _ _ t1
  obtain ⟨s, hs, ws⟩ := dec_str Tryz.underlying9 _ _ _ t2
  simp only [List.cons.injEq, and_true] at ha hb hs
  subst ha hb hs
  refine ⟨⟨a, b, L s⟩, ?_, wfi64 wa, wfi64 wb, by show (L s).length ≤ maxLen; rw [L_len]; exact ws⟩
  match cs, hl with
  | [c0, c1, c2], _ =>
    simp only [List.getElem?_cons_zero, List.getElem?_cons_succ, Option.some.injEq] at e0 e1 e2
    rw [e0, e1, e2]; rfl
theorem open_strs {fuel : Nat} {cs : List Value} {y : DataW H × List MemPlace} (h : DataW.trod enc Tryz.prog W 0 (fun _ => true) true fuel 74 cs = some y) :
    ∃ (A : Option Addr) (n c : Nat) (l : List (List UInt8)), cs = [.slice A n c] ∧ n ≤ c ∧ c ≤ maxLen ∧ l.length = n ∧ Rd W W.heap.size 1 A n (strCells l) ∧ (∀ x ∈ l, x.length ≤ maxLen) ∧
      ((y.1 = .nil ∧ c = 0) ∨ ∃ el sp, y.1 = .slice el sp ∧ el.length + sp.length = c) := by
  have e : ∀ l : List (List UInt8), strCells l = l.flatMap fun x => [.string (S x)] := by
    intro l; induction l with
    | nil => rfl
    | cons a l ih => rw [List.flatMap_cons, ← ih]; rfl
  simp only [e]
  refine open_rd (e := 9) (size := 1) Tryz.underlying74 (by kernel_rfl) (by omega) (fun _ => rfl) ?_ h
  intro fuel cs y hl hy
  obtain ⟨s, hs, ws⟩ := dec_str Tryz.underlying9 _ _ _ hy
  exact ⟨L s, hs, by rw [L_len]; exact ws⟩
end Go.Proofs.YtmikckhihfcooaaGreatDoor
