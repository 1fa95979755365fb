/- A rope and an edit by value, opened. -/
import Derived.Test.YtolnhplgaolieaaOpenRows
import Derived.Test.YtolnhplgaolieaaOpenOp
import Derived.Test.YtolnhplgaolieaaRope0
namespace Go.Proofs.Ytolnhplgaolieaa
open Go.ChangeShapes Go.WideShapes Go.ChangeAt Go.RowKit Go.Deep
variable {H : Type} {enc : TypeId × Value → H} {W : World}
theorem weightsAll_mem' {P : Program} {e : TypeId} : ∀ {l : List (DataW H)} {d : DataW H}, d ∈ l → ∀ n ∈ d.weights P e, n ∈ DataW.weightsAll P e l
  | d0 :: l, d, hd, n, hn => by
    simp only [DataW.weightsAll, List.mem_append]
    rcases List.mem_cons.1 hd with rfl | hd
    · exact .inl hn
    · exact .inr (weightsAll_mem' hd n hn)
theorem strs_sized {fuel : Nat} {A : Option Addr} {n c : Nat} {y : DataW H × List MemPlace} {p : List (List UInt8)} (h : DataW.trod enc Try.prog W 0 (fun _ => true) true fuel 44 [.slice A n c] = some y)
    (hr : Rd W W.heap.size 1 A n (strCells p)) (hw : ∀ k ∈ y.1.weights Try.prog 44, k ≤ reachBytes) : ∀ x ∈ p, x.length ≤ 140737488351232 := by
  intro x hx
  obtain ⟨i, hi, rfl⟩ := List.getElem_of_mem hx
  have hpn : p.length = n := by have := hr.1; simpa [strCells] using this
  have ht : Try.prog.underlying 44 = some (.slice 9) := Try.underlying44
  rcases open_slice ht h with ⟨h1, _⟩ | ⟨a, len, cap, m, nf, D, Pl, h1, hb, hl, hm, hmm, hy, hi2⟩
  · simp only [List.cons.injEq, Value.slice.injEq, and_true] at h1
    omega
  · simp only [List.cons.injEq, Value.slice.injEq, and_true] at h1
    obtain ⟨rfl, rfl, rfl⟩ := h1
    have hm' : m = c := by simpa using hmm
    subst hm'
    obtain ⟨cs', hc, ht'⟩ := hi2 i (by omega)
    have hC : Try.prog.cellsOf 9 = 1 := by kernel_rfl
    rw [hC] at hc
    obtain ⟨_, hcl, hat⟩ := World.cells?_some hc
    obtain ⟨X, hX, hD, _⟩ := DataW.trod_string Try.underlying9 ht'
    subst hX
    have h0 := hat 0 (by omega)
    rw [add_add, Nat.mul_one, Nat.add_zero] at h0
    obtain ⟨ad, u, hA, _, hu, hcell⟩ := hr.at_ (k := i) (by omega)
    cases hA
    rw [h0] at hcell
    have hu2 : (strCells p)[i]? = some (.string (S p[i])) := by rw [strCells, List.getElem?_map, List.getElem?_eq_getElem hi]; rfl
    rw [hu2] at hu
    have hXS : X = S p[i] := by
      have e1 : some (Value.string X) = some u := by simpa using hcell
      rw [← Option.some.inj hu] at e1
      exact Value.string.inj (Option.some.inj e1)
    have hmem : (D i) ∈ (List.range n).map D := List.mem_map.2 ⟨i, List.mem_range.2 (by omega), rfl⟩
    have hDi : D i = .lit (.string X.data.toList) := by
      have := congrArg Prod.fst hD
      simpa using this
    have := hw X.data.toList.length (by
      rw [hy]
      simp only [DataW.weights, ht]
      refine List.mem_cons_of_mem _ (List.mem_append.2 (.inl (weightsAll_mem' hmem _ ?_)))
      rw [hDi]; simp [DataW.weights])
    rw [hXS] at this
    have e2 : (S p[i]).data.toList.length = p[i].length := rfl
    rw [e2] at this
    exact Nat.le_trans this reach_le
set_option maxRecDepth 100000 in
theorem open_rope {base : Nat} {v : Value} {d : DataW H} {q : List MemPlace} (hv : Value.okWide Try.prog W .any base 89 v) (h : DataW.Trod enc Try.prog W 0 (fun _ => true) true 89 v d q) (hw : ∀ k ∈ d.weights Try.prog 89, k ≤ reachBytes) :
    ∃ (A : Option Addr) (n c : Nat) (p : Parts), v = .agg #[.slice A n c] ∧ n ≤ c ∧ c ≤ maxLen ∧ Rd W W.heap.size 1 A n (strCells p) ∧ ∀ x ∈ p, x.length ≤ 140737488351232 := by
  have hs := Try.underlying89
  obtain ⟨cs, rfl, hsz⟩ := okWide_struct hs hv
  have hC : Try.prog.cellsOf 89 = 1 := by kernel_rfl
  rw [hC] at hsz
  obtain ⟨c0, rfl⟩ : ∃ c0, cs = #[c0] := by
    match cs, hsz with
    | ⟨[c0]⟩, _ => exact ⟨c0, rfl⟩
  obtain ⟨fuel, hf⟩ := h
  obtain ⟨xs, n, _, hx, hl, hlen, hfl⟩ := DataW.trod_struct hs hf
  match xs, hlen with
  | [y0], _ =>
    have h0 := hfl 0 _ rfl
    have hC2 : Try.prog.cellsOf 44 = 1 := by kernel_rfl
    have h1 : DataW.trod enc Try.prog W 0 (fun _ => true) true n 44 [c0] = some y0 := by simpa [Value.cells, hC2] using h0
    obtain ⟨A, m, c, p, e1, hmc, hcm, _, hr, _, _⟩ := open_strs h1
    simp only [List.cons.injEq, and_true] at e1
    subst e1
    refine ⟨A, m, c, p, rfl, hmc, hcm, hr, strs_sized h1 hr fun k hk => hw k ?_⟩
    have hd : d = .agg [y0.1] := by have := congrArg Prod.fst hx; simpa using this
    rw [hd]
    simp only [DataW.weights, hs]
    exact DataW.weights_mem_each (j := 0) rfl rfl k hk
set_option maxRecDepth 100000 in
theorem open_edv {base : Nat} {v : Value} {d : DataW H} {q : List MemPlace} (hv : Value.okWide Try.prog W .any base 73 v) (h : DataW.Trod enc Try.prog W 0 (fun _ => true) true 73 v d q) :
    ∃ x : Ed, v = .agg #[.int .i64 x.at_, .int .i64 x.del, .string (S x.ins)] ∧ EdOk x := by
  obtain ⟨v0, v1, v2, y0, y1, y2, n, rfl, _, _, h0, h1, h2⟩ := Go.Joins.open_agg3 Try.underlying73 (by kernel_rfl) (by kernel_rfl) hv h
  obtain ⟨a, ha, wa⟩ := dec_int (k := .i64) Try.underlying3 _ _ _ h0
  obtain ⟨b, hb, wb⟩ := dec_int (k := .i64) Try.underlying3 _ _ _ h1
  obtain ⟨s, hs, ws⟩ := dec_str Try.underlying9 _ _ _ h2
  simp only [List.cons.injEq, and_true] at ha hb hs
  subst ha hb hs
  exact ⟨⟨a, b, L s⟩, rfl, wfi64 wa, wfi64 wb, by show (L s).length ≤ maxLen; rw [L_len]; exact ws⟩
end Go.Proofs.Ytolnhplgaolieaa
