/- The lengths that tree.Lens hands back are right lengths, and cost the least (plain). -/
import Derived.Test.YtmmamdjbbpeifaaTreI0
import Derived.Test.YtmmamdjbbpeifaaTreH
import Derived.Test.YtmmamdjbbpeifaaCodeM
namespace Go.Proofs.Ytmmamdjbbpeifaa
theorem intN_nInts (l : List Nat) : intN l = nInts l := rfl
theorem lensGo_ok : ∀ {ns : List Nat} {s : Int}, (∀ m ∈ ns, 1 ≤ m ∧ m ≤ 12) → lensGo s (nInts ns) = (s + (total ns : Nat), 0) := by
  intro ns
  induction ns with
  | nil => intro s _; simp [nInts, lensGo, total]
  | cons m ns ih =>
    intro s h
    obtain ⟨h1, h2⟩ := h m List.mem_cons_self
    show (if (m : Int) < 1 ∨ 12 < (m : Int) then (0, 1) else lensGo (s + share (m : Int)) (nInts ns)) = _
    rw [if_neg (by omega), ih fun k hk => h k (List.mem_cons_of_mem _ hk), share_nat m h2]
    have e : total (m :: ns) = 2 ^ (12 - m) + total ns := rfl
    rw [e]
    congr 1
    omega
theorem total_sum (ns : List Nat) : total ns = ((List.range ns.length).map fun k => 2 ^ (12 - ns.getD k 0)).sum := by
  have e : ((List.range ns.length).map fun k => 2 ^ (12 - ns.getD k 0)) = ns.map fun m => 2 ^ (12 - m) := by
    apply List.ext_getElem
    · simp
    · intro j h1 h2
      have hj : j < ns.length := by simpa using h2
      simp only [List.getElem_map, List.getElem_range]
      rw [List.getD_eq_getElem?_getD, List.getElem?_eq_getElem hj]; rfl
  rw [e]
  induction ns with
  | nil => rfl
  | cons m ns ih =>
    have e2 : ((List.range ns.length).map fun k => 2 ^ (12 - ns.getD k 0)) = ns.map fun m => 2 ^ (12 - m) := by
      apply List.ext_getElem
      · simp
      · intro j h1 h2
        have hj : j < ns.length := by simpa using h2
        simp only [List.getElem_map, List.getElem_range]
        rw [List.getD_eq_getElem?_getD, List.getElem?_eq_getElem hj]; rfl
    rw [List.map_cons, List.sum_cons, ← ih e2]
    rfl
/-- The lengths are right ones, and there are words so long. -/
theorem lensOf_err {ws : List Nat} (h12 : ws.length ≤ 12) : lensErr (nInts (lensOf ws)) = (((total (lensOf ws) : Nat) : Int), 0) ∧ (∀ m ∈ lensOf ws, 1 ≤ m ∧ m ≤ 12) ∧ (lensOf ws).length = ws.length ∧ total (lensOf ws) ≤ 4096 := by
  have hf := lensOf_fit h12
  have hr : ∀ m ∈ lensOf ws, 1 ≤ m ∧ m ≤ 12 := fun m hm => by
    obtain ⟨k, hk, rfl⟩ := List.getElem_of_mem hm
    have := hf.rng k hk
    rw [List.getD_eq_getElem?_getD, List.getElem?_eq_getElem hk] at this
    exact this
  refine ⟨?_, hr, hf.len, ?_⟩
  · unfold lensErr
    rw [nInts_len, if_neg (by rw [hf.len]; omega), lensGo_ok hr]
    simp
  · rw [total_sum]; exact hf.kr
theorem costTo_nat {ws out : List Nat} (hl : out.length = ws.length) : costTo (intN ws) (intN out) ws.length = ((costN ws out : Nat) : Int) := by
  have key : ∀ k, k ≤ ws.length → costTo (intN ws) (intN out) k = ((((List.range k).map fun j => ws.getD j 0 * out.getD j 0).sum : Nat) : Int) := by
    intro k
    induction k with
    | zero => intro _; rfl
    | succ k ih =>
      intro hk
      have e1 : (intN ws).getD k 0 = (ws.getD k 0 : Nat) := by
        unfold intN
        rw [List.getD_eq_getElem?_getD, List.getElem?_map, List.getD_eq_getElem?_getD, List.getElem?_eq_getElem (show k < ws.length by omega)]; rfl
      have e2 : (intN out).getD k 0 = (out.getD k 0 : Nat) := by
        unfold intN
        rw [List.getD_eq_getElem?_getD, List.getElem?_map, List.getD_eq_getElem?_getD, List.getElem?_eq_getElem (show k < out.length by omega)]; rfl
      rw [costTo, ih (by omega), e1, e2, List.range_succ, List.map_append, List.sum_append]
      simp
  exact key _ (Nat.le_refl _)
/-- .. and cost the least. -/
theorem lensOf_cost {ws : List Nat} (h12 : ws.length ≤ 12) (h0 : 0 < ws.length) : costTo (intN ws) (intN (lensOf ws)) ws.length = ((leastC ws : Nat) : Int) := by
  have hf := lensOf_fit h12
  rw [costTo_nat hf.len, hf.cost h0]
end Go.Proofs.Ytmmamdjbbpeifaa
