/- The words so far, as bars to a new one. No program in sight. -/
import Derived.Test.YtmmamdjbbpeifaaCodeC
namespace Go.Proofs.Ytmmamdjbbpeifaa
structure AllAt (all : List (List UInt8)) (n e : Nat) : Prop where
  fits : ∀ v ∈ all, ∃ q y, v = bw y q ∧ q ≤ n ∧ y < 2 ^ q ∧ (y + 1) * 2 ^ (12 - q) ≤ e
  top : e = 0 ∨ ∃ y q, bw y q ∈ all ∧ q ≤ n ∧ y < 2 ^ q ∧ (y + 1) * 2 ^ (12 - q) = e
theorem AllAt.start : AllAt [] 1 0 := ⟨by simp, .inl rfl⟩
theorem AllAt.up {all : List (List UInt8)} {n e : Nat} (h : AllAt all n e) : AllAt all (n + 1) e :=
  ⟨fun v hv => by obtain ⟨q, y, a, b, c, d⟩ := h.fits v hv; exact ⟨q, y, a, by omega, c, d⟩, h.top.imp_right fun ⟨y, q, a, b, c, d⟩ => ⟨y, q, a, by omega, c, d⟩⟩
theorem AllAt.add {all : List (List UInt8)} {n e x : Nat} (h : AllAt all n e) (hx : x < 2 ^ n) (he : x * 2 ^ (12 - n) = e) : AllAt (all ++ [bw x n]) n (e + 2 ^ (12 - n)) := by
  have hp : (x + 1) * 2 ^ (12 - n) = e + 2 ^ (12 - n) := by rw [Nat.add_mul, he, Nat.one_mul]
  refine ⟨fun v hv => ?_, .inr ⟨x, n, by simp, Nat.le_refl _, hx, hp⟩⟩
  rcases List.mem_append.1 hv with hv | hv
  · obtain ⟨q, y, a, b, c, d⟩ := h.fits v hv
    exact ⟨q, y, a, b, c, Nat.le_trans d (Nat.le_add_right _ _)⟩
  · simp only [List.mem_singleton] at hv
    exact ⟨n, x, hv, Nat.le_refl _, hx, Nat.le_of_eq hp⟩
theorem AllAt.bars {all : List (List UInt8)} {n e x : Nat} (h : AllAt all n e) (hn : n ≤ 12) (hx : x < 2 ^ n) : all.any (barB (bw x n)) = decide (x * 2 ^ (12 - n) < e) := by
  rw [Bool.eq_iff_iff, List.any_eq_true, decide_eq_true_iff]
  constructor
  · rintro ⟨v, hv, hb⟩
    obtain ⟨q, y, rfl, hq, hy, hd⟩ := h.fits v hv
    unfold barB at hb
    rw [code_ok hq hn hx hy rfl, decide_eq_true_iff] at hb
    omega
  · intro hlt
    rcases h.top with he | ⟨y, q, hm, hq, hy, hd⟩
    · omega
    · refine ⟨_, hm, ?_⟩
      unfold barB
      rw [code_ok hq hn hx hy hd, decide_eq_true_iff]; exact hlt
/-- The first that is no more barred. -/
theorem first_is {n e x : Nat} (hdvd : 2 ^ (12 - n) ∣ e) (h1 : ∀ y, y < x → y * 2 ^ (12 - n) < e) (h2 : ¬ x * 2 ^ (12 - n) < e) : x * 2 ^ (12 - n) = e ∧ x = e / 2 ^ (12 - n) := by
  obtain ⟨q, hq⟩ := hdvd
  have hp : 0 < 2 ^ (12 - n) := Nat.two_pow_pos _
  have hle : q ≤ x := by
    refine Nat.le_of_not_lt fun h => h2 ?_
    rw [hq, Nat.mul_comm]
    exact (Nat.mul_lt_mul_left hp).2 h
  have hge : x ≤ q := by
    refine Nat.le_of_not_lt fun h => ?_
    have := h1 q h
    rw [hq, Nat.mul_comm] at this
    exact Nat.lt_irrefl _ this
  obtain rfl : x = q := Nat.le_antisymm hge hle
  refine ⟨by rw [hq, Nat.mul_comm], ?_⟩
  rw [hq, Nat.mul_div_cancel_left _ hp]
theorem none_left {n e : Nat} (hn : n ≤ 12) (hdvd : 2 ^ (12 - n) ∣ e) (h1 : ∀ y, y < 2 ^ n → y * 2 ^ (12 - n) < e) : 4096 ≤ e := by
  obtain ⟨q, hq⟩ := hdvd
  have hp : 0 < 2 ^ (12 - n) := Nat.two_pow_pos _
  have hle : 2 ^ n ≤ q := by
    refine Nat.le_of_not_lt fun h => ?_
    have := h1 q h
    rw [hq, Nat.mul_comm] at this
    exact Nat.lt_irrefl _ this
  have e1 : (4096 : Nat) = 2 ^ (12 - n) * 2 ^ n := by rw [← Nat.pow_add, show 12 - n + n = 12 by omega]
  rw [hq, e1]
  exact Nat.mul_le_mul_left _ hle
theorem bw_nonempty (x n : Nat) (h : 1 ≤ n) : (bw x n).length ≠ 0 := by rw [bw_len]; omega
theorem outAt_at (ns : List Nat) (n i : Nat) (h : i < ns.length) (hn : ns.getD i 0 = n) : (outAt ns n i).getD i [] = [] := by
  rw [List.getD_eq_getElem?_getD, List.getElem?_eq_getElem (by rw [outAt_len]; exact h)]
  simp only [outAt, List.getElem_map, List.getElem_range, Option.getD_some]
  rw [if_neg (by omega)]
end Go.Proofs.Ytmmamdjbbpeifaa
