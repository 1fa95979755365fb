/- The unlike mirrored parts of a word and the longest of them, as the document finds them. -/
import Derived.Test.YtmmamdjbbpeifaaMirr1
import Derived.Test.YtmmamdjbbpeifaaMirrB
import Derived.Test.YtmmamdjbbpeifaaComp
import Derived.Lib.Index
namespace Go.Proofs.Ytmmamdjbbpeifaa
def facR (s : List UInt8) (i m : Nat) : List (List UInt8) := (List.range m).map fun j => part s i (i + 1 + j)
theorem facR_zero (s : List UInt8) (i : Nat) : facR s i 0 = [] := rfl
theorem facR_succ (s : List UInt8) (i m : Nat) : facR s i (m + 1) = facR s i m ++ [part s i (i + 1 + m)] := by simp [facR, List.range_succ]
theorem facR_len (s : List UInt8) (i m : Nat) : (facR s i m).length = m := by simp [facR]
def facs (s : List UInt8) : Nat → List (List UInt8)
  | 0 => []
  | i + 1 => facs s i ++ facR s i (s.length - i)
theorem facs_len (s : List UInt8) : ∀ K, (facs s K).length ≤ K * s.length := by
  intro K
  induction K with
  | zero => simp [facs]
  | succ K ih => rw [facs, List.length_append, facR_len, Nat.succ_mul]; omega
theorem facs_mem0 (s : List UInt8) (x : List UInt8) : ∀ K, x ∈ facs s K ↔ ∃ i k, i < K ∧ i < k ∧ k ≤ s.length ∧ x = part s i k := by
  intro K
  induction K with
  | zero => simp [facs]
  | succ K ih =>
    rw [facs, List.mem_append, ih]
    constructor
    · rintro (⟨i, k, h1, h2, h3, h4⟩ | h)
      · exact ⟨i, k, by omega, h2, h3, h4⟩
      · obtain ⟨j, hj, rfl⟩ := List.mem_map.1 h
        rw [List.mem_range] at hj
        exact ⟨K, K + 1 + j, by omega, by omega, by omega, rfl⟩
    · rintro ⟨i, k, h1, h2, h3, rfl⟩
      rcases Nat.lt_or_ge i K with h | h
      · exact .inl ⟨i, k, h, h2, h3, rfl⟩
      · obtain rfl : i = K := by omega
        refine .inr (List.mem_map.2 ⟨k - (i + 1), List.mem_range.2 (by omega), ?_⟩)
        rw [show i + 1 + (k - (i + 1)) = k by omega]
/-- All unlike parts, rising. -/
def fact (s : List UInt8) : List (List UInt8) := Lib.compact ((facs s s.length).mergeSort fun x y => decide (x ≤ y))
theorem fact_mem (s : List UInt8) (x : List UInt8) : x ∈ fact s ↔ ∃ i k, i < k ∧ k ≤ s.length ∧ x = part s i k := by
  rw [fact, comp_sorted_mem, facs_mem0]
  constructor
  · rintro ⟨i, k, _, h2, h3, h4⟩; exact ⟨i, k, h2, h3, h4⟩
  · rintro ⟨i, k, h2, h3, h4⟩; exact ⟨i, k, by omega, h2, h3, h4⟩
theorem fact_nodup (s : List UInt8) : (fact s).Nodup := comp_sorted_nodup _
theorem armP_len (s : List UInt8) (k : Nat) : ∀ r, (armP s k r).length ≤ r := by
  intro r
  induction r using Nat.strongRecOn with
  | _ r ih =>
    rcases Nat.eq_zero_or_pos r with rfl | h
    · simp [armP]
    · rw [armP_pos s k h, List.length_cons]
      have := ih (r - 2) (by omega)
      omega
theorem allP_len (s : List UInt8) : ∀ K, K ≤ 2 * s.length + 1 → (allP s K).length ≤ K * s.length := by
  intro K
  induction K with
  | zero => intro _; simp [allP]
  | succ K ih =>
    intro hK
    have h1 := ih (by omega)
    have h2 := armP_len s K (armOf s K)
    have hm := armOf_max (s := s) (k := K) (by omega)
    have l1 := hm.1.lo
    have l2 := hm.1.hi
    rw [allP, List.length_append, Nat.succ_mul]; omega
theorem mirr_count (s : List UInt8) : (Lib.compact ((allP s (2 * s.length + 1)).mergeSort fun x y => decide (x ≤ y))).length = ((fact s).filter mirB).length := by
  refine nodup_len (comp_sorted_nodup _) ((fact_nodup s).filter _) fun x => ?_
  rw [comp_sorted_mem, allP_mem, List.mem_filter, fact_mem]
  constructor
  · rintro ⟨i, k, h1, h2, h3, h4⟩; exact ⟨⟨i, k, h1, h2, h3⟩, h4⟩
  · rintro ⟨⟨i, k, h1, h2, h3⟩, h4⟩; exact ⟨i, k, h1, h2, h3, h4⟩
/-- One step of the document's search for the longest. -/
def bestStep (s b t : List UInt8) : List UInt8 :=
  if mirB t = true ∧ (b.length < t.length ∨ (t.length = b.length ∧ Lib.index s t < Lib.index s b)) then t else b
def beats (s b t : List UInt8) : Prop := t.length < b.length ∨ (t.length = b.length ∧ Lib.index s b ≤ Lib.index s t)
theorem beats.refl (s b : List UInt8) : beats s b b := .inr ⟨rfl, Int.le_refl _⟩
theorem beats.trans {s a b c : List UInt8} (h1 : beats s a b) (h2 : beats s b c) : beats s a c := by
  unfold beats at *
  omega
theorem bestStep_spec (s b t : List UInt8) : (bestStep s b t = b ∨ (bestStep s b t = t ∧ mirB t = true)) ∧ beats s (bestStep s b t) b ∧ (mirB t = true → beats s (bestStep s b t) t) := by
  unfold bestStep
  by_cases h : mirB t = true ∧ (b.length < t.length ∨ (t.length = b.length ∧ Lib.index s t < Lib.index s b))
  · rw [if_pos h]
    refine ⟨.inr ⟨rfl, h.1⟩, ?_, fun _ => beats.refl _ _⟩
    obtain ⟨_, h⟩ := h
    unfold beats; omega
  · rw [if_neg h]
    refine ⟨.inl rfl, beats.refl _ _, fun hm => ?_⟩
    have h2 : ¬ (b.length < t.length ∨ (t.length = b.length ∧ Lib.index s t < Lib.index s b)) := fun h3 => h ⟨hm, h3⟩
    unfold beats; omega
theorem best_fold (s : List UInt8) : ∀ (l : List (List UInt8)) (b : List UInt8), (l.foldl (bestStep s) b = b ∨ (l.foldl (bestStep s) b ∈ l ∧ mirB (l.foldl (bestStep s) b) = true)) ∧ beats s (l.foldl (bestStep s) b) b ∧
    ∀ t ∈ l, mirB t = true → beats s (l.foldl (bestStep s) b) t := by
  intro l
  induction l with
  | nil => intro b; exact ⟨.inl rfl, beats.refl _ _, fun t h => by cases h⟩
  | cons t l ih =>
    intro b
    rw [List.foldl_cons]
    obtain ⟨h1, h2, h3⟩ := ih (bestStep s b t)
    obtain ⟨g1, g2, g3⟩ := bestStep_spec s b t
    refine ⟨?_, h2.trans g2, fun u hu hm => ?_⟩
    · rcases h1 with h1 | ⟨h1, h4⟩
      · rcases g1 with g1 | ⟨g1, g4⟩
        · left; rw [h1, g1]
        · right; rw [h1, g1]; exact ⟨List.mem_cons_self, g4⟩
      · exact .inr ⟨List.mem_cons_of_mem _ h1, h4⟩
    · rcases List.mem_cons.1 hu with rfl | hu
      · exact h2.trans (g3 hm)
      · exact h3 u hu hm
def bestOf (s : List UInt8) (p : Nat) : List UInt8 := ((fact s).take p).foldl (bestStep s) []
theorem bestOf_succ (s : List UInt8) (p : Nat) (h : p < (fact s).length) : bestOf s (p + 1) = bestStep s (bestOf s p) ((fact s).getD p []) := by
  unfold bestOf
  rw [List.take_add_one, List.foldl_append, List.getElem?_eq_getElem h, List.getD_eq_getElem?_getD, List.getElem?_eq_getElem h]
  rfl
def cntOf (s : List UInt8) (p : Nat) : Nat := (((fact s).take p).filter mirB).length
theorem cntOf_succ (s : List UInt8) (p : Nat) (h : p < (fact s).length) : cntOf s (p + 1) = cntOf s p + if mirB ((fact s).getD p []) = true then 1 else 0 := by
  unfold cntOf
  rw [List.take_add_one, List.filter_append, List.length_append, List.getElem?_eq_getElem h, List.getD_eq_getElem?_getD, List.getElem?_eq_getElem h]
  show _ + (List.filter mirB [_]).length = _
  rw [List.filter_cons, Option.getD_some]
  split <;> rename_i h1
  · first | rfl | (rw [if_pos h1]; rfl)
  · first | rfl | (rw [if_neg h1]; rfl)
theorem cntOf_le (s : List UInt8) (p : Nat) : cntOf s p ≤ p := by
  unfold cntOf
  exact Nat.le_trans (List.length_filter_le _ _) (by rw [List.length_take]; omega)
/-- Where a part stands first. -/
theorem index_part {s : List UInt8} {i k : Nat} (hk : k ≤ s.length) (hik : i < k) : ∃ b, b ≤ i ∧ Lib.index s (part s i k) = (b : Int) ∧ part s b (b + (k - i)) = part s i k := by
  have hl := part_len (s := s) (i := i) (k := k) hk
  have occ : ∀ j, j + (k - i) ≤ s.length → (Lib.occAt s (part s i k) j = true ↔ part s j (j + (k - i)) = part s i k) := fun j hj => by
    rw [Lib.occAt_iff_take _ _ _ (by rw [hl]; omega), hl]
    unfold part
    rw [show j + (k - i) - j = k - i by omega, beq_iff_eq]
  have hi : Lib.occAt s (part s i k) i = true := (occ i (by omega)).2 (by rw [show i + (k - i) = k by omega])
  have hex : ∃ b, b ≤ i ∧ Lib.occAt s (part s i k) b = true ∧ ∀ j, j < b → Lib.occAt s (part s i k) j = false := by
    have key : ∀ n, n ≤ i + 1 → (∀ j, j < n → Lib.occAt s (part s i k) j = false) ∨ ∃ b, b < n ∧ Lib.occAt s (part s i k) b = true ∧ ∀ j, j < b → Lib.occAt s (part s i k) j = false := by
      intro n
      induction n with
      | zero => intro _; left; intro j hj; omega
      | succ n ih =>
        intro hn
        rcases ih (by omega) with h | ⟨b, h1, h2, h3⟩
        · cases h0 : Lib.occAt s (part s i k) n with
          | true => exact .inr ⟨n, by omega, h0, h⟩
          | false =>
            left
            intro j hj
            rcases Nat.lt_or_ge j n with h1 | h1
            · exact h j h1
            · obtain rfl : j = n := by omega
              exact h0
        · exact .inr ⟨b, by omega, h2, h3⟩
    rcases key (i + 1) (Nat.le_refl _) with h | ⟨b, h1, h2, h3⟩
    · have := h i (by omega); rw [hi] at this; cases this
    · exact ⟨b, by omega, h2, h3⟩
  obtain ⟨b, h1, h2, h3⟩ := hex
  exact ⟨b, h1, Lib.index_first (by omega) h2 h3, (occ b (by omega)).1 h2⟩
/-- The document's longest is the first longest arm's. -/
theorem best_is {s : List UInt8} {a n : Nat} (h : BestAt s (2 * s.length + 1) a n) : part s a (a + n) = bestOf s (fact s).length := by
  unfold bestOf
  rw [List.take_length]
  obtain ⟨h1, _, h3⟩ := best_fold s (fact s) []
  generalize (fact s).foldl (bestStep s) [] = b at *
  have hle : ∀ i k, i < k → k ≤ s.length → mirB (part s i k) = true → k - i ≤ armOf s (i + k) := fun i k hik hk hm => (armOf_max (s := s) (k := i + k) (by omega)).ge (rad_of_mir (by omega) hk hm)
  rcases h.at_ with ⟨rfl, rfl⟩ | ⟨hn, j, hj, hj2, rfl, hj3⟩
  · rcases h1 with rfl | ⟨h1, hm⟩
    · rfl
    · obtain ⟨i, k, hik, hk, rfl⟩ := (fact_mem s b).1 h1
      have g1 := hle i k hik hk hm
      have g2 := h.le (i + k) (by omega)
      omega
  · have hM := armOf_max (s := s) (k := j) (by omega)
    have e := hM.even
    have l1 := hM.1.lo
    have l2 := hM.1.hi
    have hp := hM.part_
    rw [hj2] at e l1 l2 hp
    rw [show (j + n) / 2 = (j - n) / 2 + n by omega] at hp
    obtain ⟨a, ha⟩ : ∃ a, a = (j - n) / 2 := ⟨_, rfl⟩
    rw [← ha] at hp ⊢
    have hjn : j = 2 * a + n := by omega
    subst hjn
    have hmem := (fact_mem s (part s a (a + n))).2 ⟨a, a + n, by omega, by omega, rfl⟩
    have hb := h3 _ hmem hp
    have hlp := part_len (s := s) (i := a) (k := a + n) (by omega)
    rcases h1 with rfl | ⟨h1, hm⟩
    · exfalso
      unfold beats at hb
      rw [hlp] at hb
      simp at hb; omega
    · obtain ⟨i, k, hik, hk, rfl⟩ := (fact_mem s b).1 h1
      have hlb := part_len (s := s) (i := i) (k := k) hk
      have g1 := hle i k hik hk hm
      have g2 := h.le (i + k) (by omega)
      obtain ⟨q, q1, q2, q3⟩ := index_part hk hik
      obtain ⟨r, r1, r2, r3⟩ := index_part (s := s) (i := a) (k := a + n) (by omega) (by omega)
      unfold beats at hb
      rw [hlp, hlb, q2, r2] at hb
      have hkn : k - i = n := by omega
      have hqr : q ≤ r := by omega
      rw [hkn] at q3
      have hq := hle q (q + n) (by omega) (by omega) (by rw [q3]; exact hm)
      have hqa : a ≤ q := by
        rcases Nat.lt_or_ge q a with h0 | h0
        · have := hj3 (q + (q + n)) (by omega)
          omega
        · exact h0
      obtain rfl : q = a := by omega
      exact q3
theorem count_is (s : List UInt8) : (Lib.compact ((allP s (2 * s.length + 1)).mergeSort fun x y => decide (x ≤ y))).length = cntOf s (fact s).length := by
  rw [mirr_count, cntOf, List.take_length]
end Go.Proofs.Ytmmamdjbbpeifaa
