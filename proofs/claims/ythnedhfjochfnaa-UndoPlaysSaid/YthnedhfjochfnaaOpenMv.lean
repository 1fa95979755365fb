/- Slices of an editor's moves, opened. -/
import Derived.Test.YthnedhfjochfnaaOpenRows
namespace Go.Proofs.Ythnedhfjochfnaa
open Go.ChangeShapes Go.WideShapes Go.ChangeAt Go.RowKit Go.Deep
structure Mv where
  kind : Int
  A : Option Addr
  m : Nat
  c : Nat
  l : List Ed
deriving Inhabited
def mvCell (x : Mv) : List Value := [.int .i64 x.kind, .slice x.A x.m x.c]
def mvCells (l : List Mv) : List Value := l.flatMap mvCell
theorem mv_len (x : Mv) : (mvCell x).length = 2 := rfl
structure MvOk (W : World) (x : Mv) : Prop where
  k : I64 x.kind
  c : x.m ≤ x.c
  n : x.m ≤ 9223372036854775807
  r : Rd W W.heap.size 3 x.A x.m (edCells x.l)
section
variable {H : Type} {enc : TypeId × Value → H} {W : World}
theorem open_mvs {fuel : Nat} {cs : List Value} {y : DataW H × List MemPlace} (h : DataW.trod enc Try.prog W 0 (fun _ => true) true fuel 96 cs = some y) :
    ∃ (A : Option Addr) (n c : Nat) (l : List Mv), cs = [.slice A n c] ∧ n ≤ c ∧ c ≤ maxLen ∧ l.length = n ∧ Rd W W.heap.size 2 A n (mvCells l) ∧ (∀ x ∈ l, MvOk W x) ∧
      ((y.1 = .nil ∧ c = 0) ∨ ∃ el sp, y.1 = .slice el sp ∧ el.length + sp.length = c) := by
  refine open_rd (e := 102) (size := 2) Try.underlying96 (by kernel_rfl) (by omega) (fun _ => rfl) ?_ h
  intro fuel cs y hl hy
  obtain ⟨n, hf⟩ := open_fields Try.underlying102 (by kernel_rfl) hy (by rw [hl]; rfl)
  obtain ⟨v0, x0, e0, t0⟩ := hf 0 _ rfl
  obtain ⟨v1, x1, e1, t1⟩ := hf 1 _ rfl
  obtain ⟨a, ha, wa⟩ := dec_int (k := .i64) Try.underlying3 _ _ _ t0
  obtain ⟨A1, n1, c1, l1, hb, nc1, cm1, _, rd1, _, _⟩ := open_eds t1
  simp only [List.cons.injEq, and_true] at ha hb
  subst ha hb
  refine ⟨⟨a, A1, n1, c1, l1⟩, ?_, wfi64 wa, nc1, by unfold maxLen at cm1; show n1 ≤ _; omega, rd1⟩
  match cs, hl with
  | [c0, c1], _ =>
    simp only [List.getElem?_cons_zero, List.getElem?_cons_succ, Option.some.injEq] at e0 e1
    rw [e0, e1]; rfl
end
theorem Rd.at_mv {w : World} {B n : Nat} {A : Option Addr} {l : List Mv} (h : Rd w B 2 A n (mvCells l)) {k : Nat} (hk : k < n) :
    ∃ ad, ∃ hl : k < l.length, A = some ad ∧ ad.block < B ∧ w.cell? (ad.add (k * 2)) = some (.int .i64 l[k].kind) ∧ w.cell? ⟨(ad.add (k * 2)).block, (ad.add (k * 2)).off + 1, none⟩ = some (.slice l[k].A l[k].m l[k].c) := by
  obtain ⟨ad, hl, e, hb, hc⟩ := Rd.at_rec mv_len (by omega) h hk
  refine ⟨ad, hl, e, hb, hc 0 _ rfl, ?_⟩
  have h1 := hc 1 _ rfl
  rwa [← add_add] at h1
end Go.Proofs.Ythnedhfjochfnaa
