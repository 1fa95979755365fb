/- Slices of a leaf's steps, opened. -/
import Derived.Test.YtmikckhihfcooaaGreatDoorOpenRows
namespace Go.Proofs.YtmikckhihfcooaaGreatDoor
open Go.ChangeShapes Go.WideShapes Go.ChangeAt Go.RowKit Go.Deep
structure Stp where
  kind : Int
  num : Int
  text : List UInt8
  A : Option Addr
  m : Nat
  c : Nat
  l : List Ed
deriving Inhabited
def stpCell (x : Stp) : List Value := [.int .i64 x.kind, .int .i64 x.num, .string (S x.text), .slice x.A x.m x.c]
def stpCells (l : List Stp) : List Value := l.flatMap stpCell
theorem stp_len (x : Stp) : (stpCell x).length = 4 := rfl
structure StpOk (W : World) (x : Stp) : Prop where
  k : I64 x.kind
  i : I64 x.num
  c : x.m ≤ x.c
  n : x.m ≤ 9223372036854775807
  r : Rd W W.heap.size 3 x.A x.m (edCells x.l)
section
variable {H : Type} {enc : TypeId × Value → H} {W : World}
theorem open_steps {fuel : Nat} {cs : List Value} {y : DataW H × List MemPlace} (h : DataW.trod enc Tryz.prog W 0 (fun _ => true) true fuel 22 cs = some y) :
    ∃ (A : Option Addr) (n c : Nat) (l : List Stp), cs = [.slice A n c] ∧ n ≤ c ∧ c ≤ maxLen ∧ l.length = n ∧ Rd W W.heap.size 4 A n (stpCells l) ∧ (∀ x ∈ l, StpOk W x) ∧
      ((y.1 = .nil ∧ c = 0) ∨ ∃ el sp, y.1 = .slice el sp ∧ el.length + sp.length = c) := by
  refine open_rd (e := 34) (size := 4) Tryz.underlying22 (by kernel_rfl) (by omega) (fun _ => rfl) ?_ h
  intro fuel cs y hl hy
  obtain ⟨n, hf⟩ := open_fields Tryz.underlying34 (by kernel_rfl) hy (by rw [hl]; rfl)
  obtain ⟨v0, x0, e0, t0⟩ := hf 0 _ rfl
  obtain ⟨v1, x1, e1, t1⟩ := hf 1 _ rfl
  obtain ⟨v2, x2, e2, t2⟩ := hf 2 _ rfl
  obtain ⟨v3, x3, e3, t3⟩ := hf 3 _ rfl
  obtain ⟨a, ha, wa⟩ := dec_int (k := .i64) Tryz.underlying3 _ _ _ t0
  obtain ⟨b, hb', wb⟩ := dec_int (k := .i64) Tryz.underlying3 _ _ _ t1
  obtain ⟨s, hs', _⟩ := dec_str Tryz.underlying9 _ _ _ t2
  obtain ⟨A1, n1, c1, l1, hb, nc1, cm1, _, rd1, _, _⟩ := open_eds t3
  simp only [List.cons.injEq, and_true] at ha hb' hs' hb
  subst ha hb' hs' hb
  refine ⟨⟨a, b, L s, A1, n1, c1, l1⟩, ?_, wfi64 wa, wfi64 wb, nc1, by unfold maxLen at cm1; show n1 ≤ _; omega, rd1⟩
  match cs, hl with
  | [c0, c1, c2, c3], _ =>
    simp only [List.getElem?_cons_zero, List.getElem?_cons_succ, Option.some.injEq] at e0 e1 e2 e3
    rw [e0, e1, e2, e3]; rfl
end
theorem Rd.at_stp {w : World} {B n : Nat} {A : Option Addr} {l : List Stp} (h : Rd w B 4 A n (stpCells l)) {k : Nat} (hk : k < n) :
    ∃ ad, ∃ hl : k < l.length, A = some ad ∧ ad.block < B ∧ w.cell? (ad.add (k * 4)) = some (.int .i64 l[k].kind) ∧ w.cell? ⟨(ad.add (k * 4)).block, (ad.add (k * 4)).off + 1, none⟩ = some (.int .i64 l[k].num) ∧
      w.cell? ⟨(ad.add (k * 4)).block, (ad.add (k * 4)).off + 2, none⟩ = some (.string (S l[k].text)) ∧ w.cell? ⟨(ad.add (k * 4)).block, (ad.add (k * 4)).off + 3, none⟩ = some (.slice l[k].A l[k].m l[k].c) := by
  obtain ⟨ad, hl, e, hb, hc⟩ := Rd.at_rec stp_len (by omega) h hk
  refine ⟨ad, hl, e, hb, hc 0 _ rfl, ?_, ?_, ?_⟩
  · have h1 := hc 1 _ rfl
    rwa [← add_add] at h1
  · have h1 := hc 2 _ rfl
    rwa [← add_add] at h1
  · have h1 := hc 3 _ rfl
    rwa [← add_add] at h1
end Go.Proofs.YtmikckhihfcooaaGreatDoor
