/- Sorted and compacted lists: no member twice, and the same members. -/
import Derived.Test.YtmmamdjbbpeifaaBase
import Derived.Lib.SlicesCompact
namespace Go.Proofs.Ytmmamdjbbpeifaa
open Go.Lib
theorem keeps_iff {α : Type} [Inhabited α] [DecidableEq α] (d : Array α) (m : Nat) : keeps d m = true ↔ m = 0 ∨ d[m]! ≠ d[m - 1]! := by simp [keeps]
theorem compU_mem {α : Type} [Inhabited α] [DecidableEq α] (d : Array α) (x : α) : ∀ m, x ∈ compactUpTo d m ↔ ∃ j, j < m ∧ d[j]! = x := by
  intro m
  induction m with
  | zero => simp [compactUpTo]
  | succ m ih =>
    rw [compactUpTo_succ, List.mem_append, ih]
    constructor
    · rintro (⟨j, hj, e⟩ | h)
      · exact ⟨j, by omega, e⟩
      · by_cases hk : keeps d m = true
        · rw [if_pos hk] at h; exact ⟨m, by omega, (List.mem_singleton.1 h).symm⟩
        · rw [if_neg hk] at h; cases h
    · rintro ⟨j, hj, e⟩
      rcases Nat.lt_or_ge j m with h1 | h1
      · exact .inl ⟨j, h1, e⟩
      · obtain rfl : j = m := by omega
        by_cases hk : keeps d j = true
        · rw [if_pos hk]; exact .inr (List.mem_singleton.2 e.symm)
        · rw [keeps_iff] at hk
          refine .inl ⟨j - 1, ?_, ?_⟩
          · have : j ≠ 0 := fun h => hk (.inl h)
            omega
          · rw [← e]
            exact (Classical.not_not.1 fun h => hk (.inr h)).symm
theorem compU_nodup {α : Type} [Inhabited α] [DecidableEq α] (d : Array α) (le : α → α → Prop) (anti : ∀ a b, le a b → le b a → a = b)
    (hs : ∀ i j, i ≤ j → j < d.size → le d[i]! d[j]!) : ∀ m, m ≤ d.size → (compactUpTo d m).Nodup := by
  intro m
  induction m with
  | zero => intro _; simp [compactUpTo]
  | succ m ih =>
    intro hm
    rw [compactUpTo_succ]
    by_cases hk : keeps d m = true
    · rw [if_pos hk, List.nodup_append]
      refine ⟨ih (by omega), by simp, ?_⟩
      intro x hx y hy
      obtain rfl := List.mem_singleton.1 hy
      obtain ⟨j, hj, rfl⟩ := (compU_mem d x m).1 hx
      intro e
      rw [keeps_iff] at hk
      rcases hk with rfl | hk
      · omega
      · refine hk (anti _ _ ?_ (hs _ _ (by omega) (by omega)))
        rw [← e]
        exact hs _ _ (by omega) (by omega)
    · rw [if_neg hk, List.append_nil]; exact ih (by omega)
theorem comp_mem {α : Type} [Inhabited α] [DecidableEq α] {l : List α} {x : α} : x ∈ compact l ↔ x ∈ l := by
  unfold compact
  rw [compU_mem, List.mem_iff_getElem]
  constructor
  · rintro ⟨j, hj, e⟩
    refine ⟨j, hj, ?_⟩
    rw [← e]; simp [hj]
  · rintro ⟨j, hj, e⟩
    refine ⟨j, hj, ?_⟩
    rw [← e]; simp [hj]
theorem comp_sorted_nodup (l : List (List UInt8)) : (compact (l.mergeSort fun x y => decide (x ≤ y))).Nodup := by
  refine compU_nodup _ (fun a b => a ≤ b) (fun a b h1 h2 => List.le_antisymm h1 h2) (fun i j hij hj => ?_) _ (by simp)
  have hp := List.pairwise_mergeSort (le := fun (x y : List UInt8) => decide (x ≤ y)) (fun a b c h1 h2 => by
    rw [decide_eq_true_iff] at *; exact List.le_trans h1 h2) (fun a b => by
    rw [Bool.or_eq_true, decide_eq_true_iff, decide_eq_true_iff]; exact List.le_total a b) l
  have hj' : j < (l.mergeSort fun x y => decide (x ≤ y)).length := by simpa using hj
  rcases Nat.lt_or_ge i j with h | h
  · have h2 := List.pairwise_iff_getElem.1 hp i j (by omega) hj' h
    rw [decide_eq_true_iff] at h2
    have e1 : (l.mergeSort fun x y => decide (x ≤ y)).toArray[i]! = (l.mergeSort fun x y => decide (x ≤ y))[i] := by
      rw [getElem!_pos _ i (by simpa using (by omega : i < (l.mergeSort fun x y => decide (x ≤ y)).length))]; rfl
    have e2 : (l.mergeSort fun x y => decide (x ≤ y)).toArray[j]! = (l.mergeSort fun x y => decide (x ≤ y))[j] := by
      rw [getElem!_pos _ j (by simpa using hj')]; rfl
    show _ ≤ _
    rw [e1, e2]; exact h2
  · obtain rfl : i = j := by omega
    exact List.le_refl _
theorem comp_sorted_mem {l : List (List UInt8)} {x : List UInt8} : x ∈ compact (l.mergeSort fun x y => decide (x ≤ y)) ↔ x ∈ l := by
  rw [comp_mem, List.mem_mergeSort]
/-- Two lists without doubles and with the same members are of one length. -/
theorem nodup_len {α : Type} [DecidableEq α] {a b : List α} (ha : a.Nodup) (hb : b.Nodup) (h : ∀ x, x ∈ a ↔ x ∈ b) : a.length = b.length :=
  ((List.perm_ext_iff_of_nodup ha hb).2 h).length_eq
end Go.Proofs.Ytmmamdjbbpeifaa
