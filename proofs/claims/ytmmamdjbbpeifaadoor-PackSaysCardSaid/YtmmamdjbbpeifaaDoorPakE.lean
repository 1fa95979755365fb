/- pack.Ways (plain): counting forward gives the same counts. -/
import Derived.Test.YtmmamdjbbpeifaaDoorPakD
namespace Go.Proofs.YtmmamdjbbpeifaaDoor
open Go.RowKit
/-- What the word j at the place k adds to the place i. -/
def addW (l : List (List UInt8)) (s : List UInt8) (k j i : Nat) : Nat := if pfx (l.getD j []) (s.drop k) = true ∧ k + (l.getD j []).length = i then cntC l s k else 0
def wayS (l : List (List UInt8)) (s : List UInt8) (k j i : Nat) : Nat := (if i = 0 then 1 else 0) + sumF (fun k' => sumF (fun j' => addW l s k' j' i) l.length) k + sumF (fun j' => addW l s k j' i) j
theorem wayS_start (l : List (List UInt8)) (s : List UInt8) (i : Nat) : wayS l s 0 0 i = if i = 0 then 1 else 0 := by
  unfold wayS; simp [sumF]
theorem wayS_next (l : List (List UInt8)) (s : List UInt8) (k i : Nat) : wayS l s k l.length i = wayS l s (k + 1) 0 i := by
  unfold wayS; simp only [sumF]; omega
theorem wayS_skip {l : List (List UInt8)} {s : List UInt8} {k j : Nat} (h : pfx (l.getD j []) (s.drop k) = false) (i : Nat) : wayS l s k (j + 1) i = wayS l s k j i := by
  unfold wayS
  have : addW l s k j i = 0 := by unfold addW; rw [if_neg]; rw [h]; rintro ⟨h, _⟩; cases h
  simp only [sumF, this]; omega
theorem wayS_other {l : List (List UInt8)} {s : List UInt8} {k j i : Nat} (h : k + (l.getD j []).length ≠ i) : wayS l s k (j + 1) i = wayS l s k j i := by
  unfold wayS
  have : addW l s k j i = 0 := by unfold addW; rw [if_neg]; exact fun e => h e.2
  simp only [sumF, this]; omega
theorem wayS_hit {l : List (List UInt8)} {s : List UInt8} {k j i : Nat} (hp : pfx (l.getD j []) (s.drop k) = true) (h : k + (l.getD j []).length = i) : wayS l s k (j + 1) i = wayS l s k j i + cntC l s k := by
  unfold wayS
  have : addW l s k j i = cntC l s k := by unfold addW; rw [if_pos ⟨hp, h⟩]
  simp only [sumF, this]; omega
theorem sfx_pfx {p s : List UInt8} {k : Nat} (hk : k + p.length ≤ s.length) : sfx p (s.take (k + p.length)) = pfx p (s.drop k) := by
  rw [Bool.eq_iff_iff, sfx_iff, pfx_iff]
  have e0 : (s.take (k + p.length)).length = k + p.length := by rw [List.length_take]; omega
  rw [e0, Nat.add_sub_cancel]
  have e1 : (s.take (k + p.length)).drop k = (s.drop k).take p.length := by rw [List.drop_take, Nat.add_sub_cancel_left]
  rw [e1]
  exact ⟨fun h => h.2, fun h => ⟨by omega, h⟩⟩
theorem wayS_read {l : List (List UInt8)} {s : List UInt8} (hc : Cod l) {k j : Nat} (hk : k ≤ s.length) (hj : j ≤ l.length) : wayS l s k j k = cntC l s k := by
  have hpos : ∀ j, j < l.length → 0 < (l.getD j []).length := fun j hj => by
    rcases Nat.eq_zero_or_pos (l.getD j []).length with h | h
    · exact absurd (List.eq_nil_of_length_eq_zero h) (hc.ne j hj)
    · exact h
  have h0 : sumF (fun j' => addW l s k j' k) j = 0 := sumF_zero j fun j' hj' => by
    unfold addW
    rw [if_neg]
    rintro ⟨_, e⟩
    have := hpos j' (by omega)
    omega
  unfold wayS
  rw [h0, Nat.add_zero]
  cases k with
  | zero => rfl
  | succ k =>
    rw [if_neg (by omega), Nat.zero_add, sumF_swap, cnt_succ hc]
    refine sumF_congr _ fun j hj => ?_
    have hp := hpos j hj
    unfold trm
    rcases Nat.lt_or_ge (k + 1) (l.getD j []).length with h | h
    · rw [sumF_zero _ fun k' _ => by unfold addW; rw [if_neg]; rintro ⟨_, e⟩; omega]
      rw [if_neg]
      intro e
      have := (sfx_iff.1 e).1
      rw [List.length_take] at this
      omega
    · obtain ⟨a, ha⟩ : ∃ a, a + (l.getD j []).length = k + 1 := ⟨k + 1 - (l.getD j []).length, by omega⟩
      rw [sumF_single (g := fun k' => addW l s k' j (k + 1)) (a := a) (k + 1) (by omega) fun k' _ hne => by unfold addW; rw [if_neg]; rintro ⟨_, e⟩; omega]
      have e1 : sfx (l.getD j []) (s.take (k + 1)) = pfx (l.getD j []) (s.drop a) := by rw [← ha]; exact sfx_pfx (by omega)
      have e2 : k + 1 - (l.getD j []).length = a := by omega
      rw [e1, e2]
      unfold addW
      by_cases hh : pfx (l.getD j []) (s.drop a) = true
      · rw [if_pos ⟨hh, ha⟩, if_pos hh]
      · rw [if_neg (fun e => hh e.1), if_neg hh]
/-- The numbers say the counts C at the places up to n. -/
def SaysR (R : List Int) (n : Nat) (C : Nat → Nat) : Prop := ∀ i, i ≤ n → R.getD i 0 = wrap64 (C i : Int)
theorem saysR_start (l : List (List UInt8)) (s : List UInt8) (n : Nat) : SaysR ((List.replicate (n + 1) (0 : Int)).set 0 1) n (wayS l s 0 0) := by
  intro i hi
  rw [wayS_start, List.getD_eq_getElem?_getD, List.getElem?_set]
  by_cases h : i = 0
  · subst h; simp [wrap64]
  · rw [if_neg (fun e => h e.symm), if_neg h, List.getElem?_replicate, if_pos (by omega)]; simp [wrap64]
theorem saysR_hit {l : List (List UInt8)} {s : List UInt8} {k j a n : Nat} {R : List Int} {v1 v2 : Int} (hR : SaysR R n (wayS l s k j)) (hn : R.length = n + 1) (hp : pfx (l.getD j []) (s.drop k) = true) (ha : k + (l.getD j []).length = a) (han : a ≤ n)
    (h1 : v1 = R.getD a 0) (h2 : v2 = wrap64 (cntC l s k : Int)) : SaysR (R.set a (wrap64 (v1 + v2))) n (wayS l s k (j + 1)) := by
  intro i hi
  rw [List.getD_eq_getElem?_getD, List.getElem?_set]
  by_cases e : a = i
  · subst e
    rw [if_pos rfl, if_pos (by omega), wayS_hit hp ha, h1, h2, hR a han, Option.getD_some, wrap64_add2, Int.natCast_add]
  · rw [if_neg e, wayS_other (by omega), ← hR i hi, List.getD_eq_getElem?_getD]
end Go.Proofs.YtmmamdjbbpeifaaDoor
