/- What the law TreeSays weighs (plain). -/
import Derived.Test.YtmmamdjbbpeifaaTreK
namespace Go.Proofs.Ytmmamdjbbpeifaa
open Go.RowKit
theorem sum_le {f : Nat → Nat} {b : Nat} : ∀ n, (∀ k, k < n → f k ≤ b) → ((List.range n).map f).sum ≤ n * b := by
  intro n
  induction n with
  | zero => intro _; simp
  | succ n ih =>
    intro h
    rw [List.range_succ, List.map_append, List.sum_append, Nat.succ_mul]
    have h1 := ih fun k hk => h k (by omega)
    have h2 := h n (Nat.lt_succ_self _)
    simp only [List.map_cons, List.map_nil, List.sum_cons, List.sum_nil]
    omega
theorem leastC_bound {ws : List Nat} (h0 : wErr (intN ws) = 0) (hl : 0 < ws.length) : leastC ws ≤ 10000000 := by
  obtain ⟨h1, h2⟩ := wErr_bd h0
  rw [intN_len] at h1 h2
  have hf := lensOf_fit h1
  rw [← hf.cost hl]
  unfold costN
  refine Nat.le_trans (sum_le (b := 10000 * 12) ws.length fun k hk => ?_) (by omega)
  have h3 := (h2 k hk).2
  rw [intN_get0] at h3
  exact Nat.mul_le_mul (by omega) (hf.rng k (by rw [hf.len]; exact hk)).2
theorem wErr_nat {l : List Int} (h : wErr l = 0) : ∃ ns : List Nat, l = intN ns ∧ ns.length ≤ 12 := by
  obtain ⟨h1, h2⟩ := wErr_bd h
  refine ⟨l.map Int.toNat, ?_, by simpa using h1⟩
  unfold intN
  rw [List.map_map]
  apply List.ext_getElem
  · simp
  · intro k h3 h4
    have h5 := h2 k h3
    rw [List.getD_eq_getElem?_getD, List.getElem?_eq_getElem h3] at h5
    simp only [List.getElem_map, Function.comp]
    have : 1 ≤ l[k] := h5.1
    omega
theorem costAns_w {ws ls : List Int} (h : wErr ws ≠ 0) : costAns ws ls = (0, wErr ws) := by unfold costAns; rw [if_pos h]
theorem costAns_l {ws ls : List Int} (h : wErr ws = 0) (h2 : (lensErr ls).2 ≠ 0) : costAns ws ls = (0, (lensErr ls).2) := by unfold costAns; rw [if_neg (by omega), if_pos h2]
theorem costAns_n {ws ls : List Int} (h : wErr ws = 0) (h2 : (lensErr ls).2 = 0) (h3 : ls.length ≠ ws.length) : costAns ws ls = (0, 3) := by unfold costAns; rw [if_neg (by omega), if_neg (by omega), if_pos h3]
theorem costAns_ok {ws ls : List Int} (h : wErr ws = 0) (h2 : (lensErr ls).2 = 0) (h3 : ls.length = ws.length) : costAns ws ls = (costTo ws ls ws.length, 0) := by unfold costAns; rw [if_neg (by omega), if_neg (by omega), if_neg (by omega)]
theorem lawCost_below (ws ls : List Int) (A A2 : Option Addr) (m c ml c2 B b : Nat) (w : World) (hrw : Rd w B 1 A m (ints ws)) (hrl : Rd w B 1 A2 ml (ints ls)) (hml : m = ml) (hm : m ≤ 12)
    (hbw : ∀ k, k < m → 0 ≤ ws.getD k 0 ∧ ws.getD k 0 ≤ 10000) (hbl : ∀ k, k < m → 0 ≤ ls.getD k 0 ∧ ls.getD k 0 ≤ 12) (hc : w.cell? ⟨b, 0, none⟩ = some (.slice A m c)) :
    Calls Try.prog 35 #[.slice A2 ml c2, .pointer (some ⟨b, 0, none⟩)] w fun e w' => e = .returned (.int .i64 (costTo ws ls m)) ∧ Below w.heap.size w w' :=
  (lawCost_any ws ls A A2 m c ml c2 B b w hrw hrl hml hm hbw hbl hc).mono fun _ _ ⟨h1, h2⟩ => ⟨h1, h2 ▸ Below.refl _ _⟩
end Go.Proofs.Ytmmamdjbbpeifaa
