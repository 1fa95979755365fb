/- The arms by trial of all parts. -/
import Derived.Test.YtmmamdjbbpeifaaMirrA
namespace Go.Proofs.Ytmmamdjbbpeifaa
/-- What the trial knows ahead of the part (i, k). -/
structure AoAt (s : List UInt8) (i k : Nat) (o : List Int) : Prop where
  len : o.length = 2 * s.length + 1
  some_ : ∀ c, c ≤ 2 * s.length → o.getD c 0 = 0 ∨ ∃ i k, i < k ∧ k ≤ s.length ∧ i + k = c ∧ mirB (part s i k) = true ∧ o.getD c 0 = ((k - i : Nat) : Int)
  all : ∀ i' k', i' < k' → k' ≤ s.length → (i' < i ∨ (i' = i ∧ k' < k)) → mirB (part s i' k') = true → ((k' - i' : Nat) : Int) ≤ o.getD (i' + k') 0
theorem AoAt.start (s : List UInt8) : AoAt s 0 1 (List.replicate (2 * s.length + 1) 0) :=
  ⟨by simp, fun c hc => .inl (by rw [List.getD_eq_getElem?_getD, List.getElem?_replicate]; split <;> rfl), fun i' k' h1 h2 h3 => by omega⟩
theorem getD_set_int (o : List Int) (a c : Nat) (v : Int) (h : a < o.length) : (o.set a v).getD c 0 = if a = c then v else o.getD c 0 := by
  rw [List.getD_eq_getElem?_getD, List.getElem?_set, List.getD_eq_getElem?_getD]
  by_cases e : a = c
  · subst e; rw [if_pos rfl, if_pos h, if_pos rfl]; rfl
  · rw [if_neg e, if_neg e]
theorem AoAt.no {s : List UInt8} {i k : Nat} {o : List Int} (h : AoAt s i k o) (hm : mirB (part s i k) = false) : AoAt s i (k + 1) o :=
  ⟨h.len, h.some_, fun i' k' h1 h2 h3 h4 => by
    by_cases e : i' = i ∧ k' = k
    · obtain ⟨rfl, rfl⟩ := e; rw [hm] at h4; cases h4
    · exact h.all i' k' h1 h2 (by omega) h4⟩
theorem AoAt.yes {s : List UInt8} {i k : Nat} {o : List Int} {v : Int} (h : AoAt s i k o) (hik : i < k) (hk : k ≤ s.length) (hm : mirB (part s i k) = true)
    (hv : (v = o.getD (i + k) 0 ∧ ((k - i : Nat) : Int) ≤ v) ∨ (v = ((k - i : Nat) : Int) ∧ o.getD (i + k) 0 ≤ v)) : AoAt s i (k + 1) (o.set (i + k) v) := by
  have hl : i + k < o.length := by rw [h.len]; omega
  refine ⟨by rw [List.length_set, h.len], fun c hc => ?_, fun i' k' h1 h2 h3 h4 => ?_⟩
  · rw [getD_set_int _ _ _ _ hl]
    by_cases e : i + k = c
    · rw [if_pos e]
      rcases hv with ⟨rfl, _⟩ | ⟨rfl, _⟩
      · rw [e]; exact h.some_ c hc
      · exact .inr ⟨i, k, hik, hk, e, hm, rfl⟩
    · rw [if_neg e]; exact h.some_ c hc
  · rw [getD_set_int _ _ _ _ hl]
    by_cases e : i + k = i' + k'
    · rw [if_pos e]
      by_cases e2 : i' = i ∧ k' = k
      · obtain ⟨rfl, rfl⟩ := e2
        rcases hv with ⟨_, hv⟩ | ⟨rfl, _⟩
        · exact hv
        · exact Int.le_refl _
      · have := h.all i' k' h1 h2 (by omega) h4
        rw [← e] at this
        rcases hv with ⟨hv, _⟩ | ⟨_, hv⟩
        · rw [hv]; exact this
        · exact Int.le_trans this hv
    · rw [if_neg e]; exact h.all i' k' h1 h2 (by omega) h4
theorem AoAt.next {s : List UInt8} {i : Nat} {o : List Int} (h : AoAt s i (s.length + 1) o) : AoAt s (i + 1) (i + 2) o :=
  ⟨h.len, h.some_, fun i' k' h1 h2 h3 h4 => h.all i' k' h1 h2 (by omega) h4⟩
theorem AoAt.fin {s : List UInt8} {k : Nat} {o : List Int} (h : AoAt s s.length k o) : o = armI s := by
  apply List.ext_getElem
  · rw [h.len, armI_len]
  · intro j h1 h2
    rw [h.len] at h1
    have h3 := armI_at s j (by omega)
    have h4 := arm_is (armOf_max (s := s) (k := j) (by omega)) (h.some_ j (by omega)) (fun i k hik hk e hm => by rw [← e]; exact h.all i k hik hk (by omega) hm)
    rw [List.getD_eq_getElem?_getD, List.getElem?_eq_getElem h2] at h3
    rw [List.getD_eq_getElem?_getD, List.getElem?_eq_getElem (by rw [h.len]; omega)] at h4
    exact h4.trans h3.symm
end Go.Proofs.Ytmmamdjbbpeifaa
