/- Slices of phrases, edits, numbers and strings, opened. Slices of a house's deeds, opened. A row that holds with all others gone holds with others that only leave; a tied card whose call can start goroutines. -/
import Derived.Test.YtplgghjdidmcfaaGreatDoorPk34
import Derived.Test.YtplgghjdidmcfaaGreatDoorPk03
import Derived.Test.YtplgghjdidmcfaaGreatDoorPk04
import Derived.Test.YtplgghjdidmcfaaGreatDoorPk33
import Derived.Test.YtplgghjdidmcfaaGreatDoorRows
import Derived.Test.YtplgghjdidmcfaaGreatDoorCards
import Derived.Leaving
import Derived.ClaimOpenTies
import Derived.SevenTiedAt
namespace Go.Proofs.YtplgghjdidmcfaaGreatDoor
open Go.ChangeShapes Go.WideShapes Go.ChangeAt Go.RowKit Go.Deep
variable {H : Type} {enc : TypeId × Value → H} {W : World}
theorem wfi64 {x : Int} (h : (Lit.int .i64 x).wf = true) : -9223372036854775808 ≤ x ∧ x ≤ 9223372036854775807 := by
  simpa [Lit.wf, IntKind.min, IntKind.max, IntKind.signed, IntKind.bits] using h
theorem wfu8 {x : Int} (h : (Lit.int .u8 x).wf = true) : 0 ≤ x ∧ x ≤ 255 := by
  simpa [Lit.wf, IntKind.min, IntKind.max, IntKind.signed, IntKind.bits] using h
theorem u8_of {x : Int} (h : 0 ≤ x ∧ x ≤ 255) : x = ((UInt8.ofNat x.toNat).toNat : Int) := by rw [UInt8.toNat_ofNat']; omega
def I64 (x : Int) : Prop := -9223372036854775808 ≤ x ∧ x ≤ 9223372036854775807
structure EdOk (x : Ed) : Prop where
  a : I64 x.at_
  d : I64 x.del
  i : x.ins.length ≤ maxLen
theorem open_eds {fuel : Nat} {cs : List Value} {y : DataW H × List MemPlace} (h : DataW.trod enc Tryz.prog W 0 (fun _ => true) true fuel 30 cs = some y) :
    ∃ (A : Option Addr) (n c : Nat) (l : List Ed), cs = [.slice A n c] ∧ n ≤ c ∧ c ≤ maxLen ∧ l.length = n ∧ Rd W W.heap.size 3 A n (edCells l) ∧ (∀ x ∈ l, EdOk x) ∧
      ((y.1 = .nil ∧ c = 0) ∨ ∃ el sp, y.1 = .slice el sp ∧ el.length + sp.length = c) := by
  refine open_rd (e := 95) (size := 3) Tryz.underlying30 (by kernel_rfl) (by omega) (fun _ => rfl) ?_ h
  intro fuel cs y hl hy
  obtain ⟨n, hf⟩ := open_fields Tryz.underlying95 (by kernel_rfl) hy (by rw [hl]; rfl)
  obtain ⟨v0, x0, e0, t0⟩ := hf 0 _ rfl
  obtain ⟨v1, x1, e1, t1⟩ := hf 1 _ rfl
  obtain ⟨v2, x2, e2, t2⟩ := hf 2 _ rfl
  obtain ⟨a, ha, wa⟩ := dec_int (k := .i64) Tryz.underlying3 _ _ _ t0
  obtain ⟨b, hb, wb⟩ := dec_int (k := .i64) Tryz.underlying3 _ _ _ t1
  obtain ⟨s, hs, ws⟩ := dec_str Tryz.underlying9 _ _ _ t2
  simp only [List.cons.injEq, and_true] at ha hb hs
  subst ha hb hs
  refine ⟨⟨a, b, L s⟩, ?_, wfi64 wa, wfi64 wb, by show (L s).length ≤ maxLen; rw [L_len]; exact ws⟩
  match cs, hl with
  | [c0, c1, c2], _ =>
    simp only [List.getElem?_cons_zero, List.getElem?_cons_succ, Option.some.injEq] at e0 e1 e2
    rw [e0, e1, e2]; rfl
theorem open_ints {fuel : Nat} {cs : List Value} {y : DataW H × List MemPlace} (h : DataW.trod enc Tryz.prog W 0 (fun _ => true) true fuel 91 cs = some y) :
    ∃ (A : Option Addr) (n c : Nat) (l : List Int), cs = [.slice A n c] ∧ n ≤ c ∧ c ≤ maxLen ∧ l.length = n ∧ Rd W W.heap.size 1 A n (ints l) ∧ (∀ x ∈ l, I64 x) ∧
      ((y.1 = .nil ∧ c = 0) ∨ ∃ el sp, y.1 = .slice el sp ∧ el.length + sp.length = c) := by
  have e : ∀ l : List Int, ints l = l.flatMap fun x => [.int .i64 x] := by
    intro l; induction l with
    | nil => rfl
    | cons a l ih => rw [List.flatMap_cons, ← ih]; rfl
  simp only [e]
  refine open_rd (e := 3) (size := 1) Tryz.underlying91 (by kernel_rfl) (by omega) (fun _ => rfl) ?_ h
  intro fuel cs y hl hy
  obtain ⟨a, ha, wa⟩ := dec_int (k := .i64) Tryz.underlying3 _ _ _ hy
  exact ⟨a, ha, wfi64 wa⟩
theorem open_strs {fuel : Nat} {cs : List Value} {y : DataW H × List MemPlace} (h : DataW.trod enc Tryz.prog W 0 (fun _ => true) true fuel 25 cs = some y) :
    ∃ (A : Option Addr) (n c : Nat) (l : List (List UInt8)), cs = [.slice A n c] ∧ n ≤ c ∧ c ≤ maxLen ∧ l.length = n ∧ Rd W W.heap.size 1 A n (strCells l) ∧ (∀ x ∈ l, x.length ≤ maxLen) ∧
      ((y.1 = .nil ∧ c = 0) ∨ ∃ el sp, y.1 = .slice el sp ∧ el.length + sp.length = c) := by
  have e : ∀ l : List (List UInt8), strCells l = l.flatMap fun x => [.string (S x)] := by
    intro l; induction l with
    | nil => rfl
    | cons a l ih => rw [List.flatMap_cons, ← ih]; rfl
  simp only [e]
  refine open_rd (e := 9) (size := 1) Tryz.underlying25 (by kernel_rfl) (by omega) (fun _ => rfl) ?_ h
  intro fuel cs y hl hy
  obtain ⟨s, hs, ws⟩ := dec_str Tryz.underlying9 _ _ _ hy
  exact ⟨L s, hs, by rw [L_len]; exact ws⟩
end Go.Proofs.YtplgghjdidmcfaaGreatDoor
namespace Go.Proofs.YtplgghjdidmcfaaGreatDoor
open Go.ChangeShapes Go.WideShapes Go.ChangeAt Go.RowKit Go.Deep
instance : Inhabited Dd := ⟨⟨0, 0, ⟨#[]⟩, ⟨#[]⟩, none, 0, 0, []⟩⟩
section
variable {H : Type} {enc : TypeId × Value → H} {W : World}
theorem open_deeds {fuel : Nat} {cs : List Value} {y : DataW H × List MemPlace} (h : DataW.trod enc Tryz.prog W 0 (fun _ => true) true fuel 22 cs = some y) :
    ∃ (A : Option Addr) (n c : Nat) (l : List Dd), cs = [.slice A n c] ∧ n ≤ c ∧ c ≤ maxLen ∧ l.length = n ∧ Rd W W.heap.size 5 A n (ddCells l) ∧ (∀ x ∈ l, DdW W x) ∧
      ((y.1 = .nil ∧ c = 0) ∨ ∃ el sp, y.1 = .slice el sp ∧ el.length + sp.length = c) := by
  refine open_rd (e := 32) (size := 5) Tryz.underlying22 (by kernel_rfl) (by omega) (fun _ => rfl) ?_ h
  intro fuel cs y hl hy
  obtain ⟨n, hf⟩ := open_fields Tryz.underlying32 (by kernel_rfl) hy (by rw [hl]; rfl)
  obtain ⟨v0, x0, e0, t0⟩ := hf 0 _ rfl
  obtain ⟨v1, x1, e1, t1⟩ := hf 1 _ rfl
  obtain ⟨v2, x2, e2, t2⟩ := hf 2 _ rfl
  obtain ⟨v3, x3, e3, t3⟩ := hf 3 _ rfl
  obtain ⟨v4, x4, e4, t4⟩ := hf 4 _ rfl
  obtain ⟨a, ha, _⟩ := dec_int (k := .i64) Tryz.underlying3 _ _ _ t0
  obtain ⟨b, hb', _⟩ := dec_int (k := .i64) Tryz.underlying3 _ _ _ t1
  obtain ⟨s, hs', ws⟩ := dec_str Tryz.underlying9 _ _ _ t2
  obtain ⟨s2, hs2', ws2⟩ := dec_str Tryz.underlying9 _ _ _ t3
  obtain ⟨A1, n1, c1, l1, hb, nc1, cm1, _, rd1, _, _⟩ := open_eds t4
  simp only [List.cons.injEq, and_true] at ha hb' hs' hs2' hb
  subst ha hb' hs' hs2' hb
  refine ⟨⟨a, b, s, s2, A1, n1, c1, l1⟩, ?_, ws, ws2, by unfold maxLen at cm1; show n1 ≤ _; omega, rd1⟩
  match cs, hl with
  | [c0, c1, c2, c3, c4], _ =>
    simp only [List.getElem?_cons_zero, List.getElem?_cons_succ, Option.some.injEq] at e0 e1 e2 e3 e4
    rw [e0, e1, e2, e3, e4]; rfl
end
end Go.Proofs.YtplgghjdidmcfaaGreatDoor
namespace Go.Proofs.YtplgghjdidmcfaaGreatDoor
theorem form_leave {c : OpenClaim} {C : Checked} {os : Os} {f : FuncId} {L : List FuncId} {Pre : World → Array Value → Prop} {Post : Stop.Interp → World → Array Value → Value → World → Prop} (hl : c.leaving = false) (hst : c.start = .entering) (hs : c.stops = [])
    (h : c.form C os f L Pre Post) : ({ c with leaving := true } : OpenClaim).form C os f L Pre Post := by
  have h1 : ∀ F : Stop.Interp, ReturnsInOpen c.assume none C os f .any c.okInput Pre (Post F) (c.atReturn C.prog) (c.always C.prog L) := by
    unfold OpenClaim.form at h
    rw [hst, hs] at h
    exact h
  have h2 : ∀ F : Stop.Interp, ReturnsInOpen c.assume none C os f .any c.okInput Pre (Post F) (leavingAtReturn C.prog) (c.always C.prog L) := fun F => by
    refine ReturnsInOpen.mono (fun m w t hm => ?_) (fun _ x => x) (h1 F)
    unfold OpenClaim.atReturn at hm
    rw [hl] at hm
    exact ⟨hm.2.1, onlyLeaving_of_quiet hm.1, hm.2.2⟩
  cases c
  simp only at hst hs
  subst hst hs
  exact h2
theorem leave {p : Pinned} {s : OpenSpec} {c : OpenClaim} (hl : c.leaving = false) (hst : c.start = .entering) (hs : c.stops = []) (hw : OpenClaim.wf s { c with leaving := true } = true) (h : c.holds p s) : OpenClaim.holds p s { c with leaving := true } := by
  unfold OpenClaim.holds at h
  obtain ⟨_, a2, a3, a4, a5, a6, a7, a8, f, fn, g1, g2, r, b1, b2, b3, b4, b5, k, c1, c2, c3, c4, c5, c6, m, l, q, n1, v1, e1, L, hL, all⟩ := h
  exact ⟨hw, a2, a3, a4, a5, a6, a7, a8, f, fn, g1, g2, r, b1, b2, b3, b4, b5, k, c1, c2, c3, c4, c5, c6, m, l, q, n1, v1, e1, L, hL, fun os x y H enc inj => form_leave hl hst hs (all os x y H enc inj)⟩
theorem tied_goes {p : Pinned} {s : OpenSpec} {c : OpenClaim} (kinds : List LaidKind) (tests : Bool) (har : Bool × String) (lk : Bool)
    (hc : c.holds p s) (hw : c.wfByText s = true) (htie : c.laidByTextAt .later p kinds tests) (hst : c.start = .entering) (hnb : c.noBlocks = false ∧ c.again = false) (hm : p.checked.prog.mainIs = some (har.1, har.2.toList)) (hn : (!har.1 && har.2.isEmpty && !lk) = false)
    (hl : ∀ f fn, p.checked.prog.funcNamed c.func = some f → p.checked.prog.funcs[f]? = some fn → lk = p.checked.prog.looks [] ∧ ∀ (j : Nat) t, fn.params[j]? = some t → p.checked.prog.wantsStandIn t = false) (hg : true = c.goesBy p.checked.prog) :
    Claim7.holds p (.plain s) { stood := { row := c, standIns := [], harness := har, looks := lk }, kinds := [], alts := [], goes := true, laidByText := true, laidKinds := kinds, laidTests := tests, laidLooks := .later } := by
  have h6 : Claim7.isSixth { stood := { row := c, standIns := [], harness := har, looks := lk }, kinds := [] } = false := by simpa [Claim7.isSixth] using hn
  exact ⟨Claim7.tied_new_at .later kinds tests (Claim7.new_of_sixth hc har lk hst hnb hm h6 hl) hw, (fun D hD => by cases hD), htie, (fun h => by cases h), hg⟩
end Go.Proofs.YtplgghjdidmcfaaGreatDoor
