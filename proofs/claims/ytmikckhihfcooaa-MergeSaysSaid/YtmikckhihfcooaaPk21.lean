/- phrase.Get and the reference's TextOf. Slices of phrases, edits, numbers and strings, opened. -/
import Derived.Test.YtmikckhihfcooaaPk20
import Derived.Test.YtmikckhihfcooaaPk07
import Derived.Test.YtmikckhihfcooaaPk03
import Derived.Test.YtmikckhihfcooaaPk04
namespace Go.Proofs.Ytmikckhihfcooaa
open Go.RowKit
def phrCell (p : Int × UInt8) : List Value := [.int .i64 p.1, .int .u8 (p.2.toNat : Int)]
def phrCells (l : List (Int × UInt8)) : List Value := l.flatMap phrCell
theorem phr_len (l : List (Int × UInt8)) : (phrCells l).length = l.length * 2 := by
  induction l with
  | nil => rfl
  | cons a l ih => simp only [phrCells, List.flatMap_cons, List.length_append, List.length_cons] at *; rw [ih]; simp [phrCell]; omega
theorem phr_get (l : List (Int × UInt8)) (k : Nat) (hk : k < l.length) (j : Nat) (hj : j < 2) : (phrCells l)[k * 2 + j]? = (phrCell (l[k]'hk))[j]? := by
  induction l generalizing k with
  | nil => simp at hk
  | cons a l ih =>
    cases k with
    | zero =>
      simp only [phrCells, List.flatMap_cons, List.getElem_cons_zero]
      rw [List.getElem?_append_left (by simp [phrCell]; omega)]
      simp
    | succ k =>
      have := ih k (by simpa using hk)
      simp only [phrCells, List.flatMap_cons, List.getElem_cons_succ] at *
      rw [List.getElem?_append_right (by simp [phrCell]; omega), ← this]
      congr 1
      simp [phrCell]; omega
theorem Rd.at_phr {w : World} {B n : Nat} {A : Option Addr} {l : List (Int × UInt8)} (h : Rd w B 2 A n (phrCells l)) {k : Nat} (hk : k < n) :
    ∃ ad p, A = some ad ∧ ad.block < B ∧ l[k]? = some p ∧ w.cell? (ad.add (k * 2)) = some (.int .i64 p.1) ∧ w.cell? ⟨(ad.add (k * 2)).block, (ad.add (k * 2)).off + 1, none⟩ = some (.int .u8 (p.2.toNat : Int)) := by
  have hl : l.length = n := by have := h.1; rw [phr_len] at this; omega
  obtain ⟨ad, e, hb, hc⟩ := h.2 (by omega)
  have hk' : k < l.length := by omega
  exact ⟨ad, l[k], e, hb, List.getElem?_eq_getElem hk', hc _ _ (by have := phr_get l k hk' 0 (by omega); simpa [phrCell] using this), by
    have h1 := hc (k * 2 + 1) _ (by have := phr_get l k hk' 1 (by omega); simpa [phrCell] using this)
    rwa [← add_add] at h1⟩
/-- What phrase.Get answers. -/
def getOut (l : List (Int × UInt8)) (rest : ByteArray) : ByteArray × Int :=
  if 200 < rest.size then (S [], 2) else if 200 < l.length then (S [], 2)
  else match phrText [[]] [] l with
    | (none, e) => (S [], e)
    | (some out, _) => if 200 < out.length + rest.size then (S [], 2) else (S out ++ rest, 0)
end Go.Proofs.Ytmikckhihfcooaa
namespace Go.Proofs.Ytmikckhihfcooaa
open Go.ChangeShapes Go.WideShapes Go.ChangeAt Go.RowKit Go.Deep
variable {H : Type} {enc : TypeId × Value → H} {W : World}
theorem wfi64 {x : Int} (h : (Lit.int .i64 x).wf = true) : -9223372036854775808 ≤ x ∧ x ≤ 9223372036854775807 := by
  simpa [Lit.wf, IntKind.min, IntKind.max, IntKind.signed, IntKind.bits] using h
theorem wfu8 {x : Int} (h : (Lit.int .u8 x).wf = true) : 0 ≤ x ∧ x ≤ 255 := by
  simpa [Lit.wf, IntKind.min, IntKind.max, IntKind.signed, IntKind.bits] using h
theorem u8_of {x : Int} (h : 0 ≤ x ∧ x ≤ 255) : x = ((UInt8.ofNat x.toNat).toNat : Int) := by rw [UInt8.toNat_ofNat']; omega
def I64 (x : Int) : Prop := -9223372036854775808 ≤ x ∧ x ≤ 9223372036854775807
structure EdOk (x : Ed) : Prop where
  a : I64 x.at_
  d : I64 x.del
  i : x.ins.length ≤ maxLen
theorem open_eds {fuel : Nat} {cs : List Value} {y : DataW H × List MemPlace} (h : DataW.trod enc Try.prog W 0 (fun _ => true) true fuel 22 cs = some y) :
    ∃ (A : Option Addr) (n c : Nat) (l : List Ed), cs = [.slice A n c] ∧ n ≤ c ∧ c ≤ maxLen ∧ l.length = n ∧ Rd W W.heap.size 3 A n (edCells l) ∧ (∀ x ∈ l, EdOk x) ∧
      ((y.1 = .nil ∧ c = 0) ∨ ∃ el sp, y.1 = .slice el sp ∧ el.length + sp.length = c) := by
  refine open_rd (e := 30) (size := 3) Try.underlying22 (by kernel_rfl) (by omega) (fun _ => rfl) ?_ h
  intro fuel cs y hl hy
  obtain ⟨n, hf⟩ := open_fields Try.underlying30 (by kernel_rfl) hy (by rw [hl]; rfl)
  obtain ⟨v0, x0, e0, t0⟩ := hf 0 _ rfl
  obtain ⟨v1, x1, e1, t1⟩ := hf 1 _ rfl
  obtain ⟨v2, x2, e2, t2⟩ := hf 2 _ rfl
  obtain ⟨a, ha, wa⟩ := dec_int (k := .i64) Try.underlying3 _ _ _ t0
  obtain ⟨b, hb, wb⟩ := dec_int (k := .i64) Try.underlying3 _ _ _ t1
  obtain ⟨s, hs, ws⟩ := dec_str Try.underlying9 _ _ _ t2
  simp only [List.cons.injEq, and_true] at ha hb hs
  subst ha hb hs
  refine ⟨⟨a, b, L s⟩, ?_, wfi64 wa, wfi64 wb, by show (L s).length ≤ maxLen; rw [L_len]; exact ws⟩
  match cs, hl with
  | [c0, c1, c2], _ =>
    simp only [List.getElem?_cons_zero, List.getElem?_cons_succ, Option.some.injEq] at e0 e1 e2
    rw [e0, e1, e2]; rfl
end Go.Proofs.Ytmikckhihfcooaa
