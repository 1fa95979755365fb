/- What the automaton finds, sorted, is what is found by trying (plain). -/
import Derived.Test.YtmmamdjbbpeifaaTri1
namespace Go.Proofs.Ytmmamdjbbpeifaa
def ltH (x y : Nat × Nat) : Bool := decide (x.1 < y.1 ∨ (x.1 = y.1 ∧ x.2 < y.2))
/-- The words that begin at place i: of the first m. -/
def hitsAt (ps : List (List UInt8)) (s : List UInt8) (i m : Nat) : List (Nat × Nat) := ((List.range m).filter fun k => (ps.getD k []).isPrefixOf (s.drop i)).map fun k => (i, k)
def hitsTo (ps : List (List UInt8)) (s : List UInt8) (n : Nat) : List (Nat × Nat) := (List.range n).flatMap fun i => hitsAt ps s i ps.length
section
variable {ps : List (List UInt8)} {s : List UInt8}
theorem hitsAt_snoc (i m : Nat) : hitsAt ps s i (m + 1) = hitsAt ps s i m ++ (if (ps.getD m []).isPrefixOf (s.drop i) then [(i, m)] else []) := by
  unfold hitsAt
  rw [List.range_succ, List.filter_append, List.map_append]
  congr 1
  rw [List.filter_cons, List.filter_nil]
  by_cases h : (ps.getD m []).isPrefixOf (s.drop i) = true
  · rw [if_pos h, if_pos h]; rfl
  · rw [if_neg h, if_neg h]; rfl
theorem hitsTo_snoc (n : Nat) : hitsTo ps s (n + 1) = hitsTo ps s n ++ hitsAt ps s n ps.length := by
  unfold hitsTo; rw [List.range_succ, List.flatMap_append]; simp
theorem hitsAt_len (i m : Nat) : (hitsAt ps s i m).length ≤ m := by
  unfold hitsAt
  rw [List.length_map]
  exact Nat.le_trans (List.length_filter_le _ _) (by rw [List.length_range]; exact Nat.le_refl _)
theorem hitsTo_len : ∀ n, (hitsTo ps s n).length ≤ n * ps.length
  | 0 => by simp [hitsTo]
  | n + 1 => by
    rw [hitsTo_snoc, List.length_append, Nat.succ_mul]
    have h1 := hitsTo_len n
    have h2 := hitsAt_len (ps := ps) (s := s) n ps.length
    omega
theorem hitsAt_mem (i m : Nat) (y : Nat × Nat) : y ∈ hitsAt ps s i m ↔ y.1 = i ∧ y.2 < m ∧ (ps.getD y.2 []) <+: (s.drop i) := by
  unfold hitsAt
  rw [List.mem_map]
  constructor
  · rintro ⟨k, hk, rfl⟩
    rw [List.mem_filter, List.mem_range, List.isPrefixOf_iff_prefix] at hk
    exact ⟨rfl, hk⟩
  · rintro ⟨rfl, h1, h2⟩
    exact ⟨y.2, by rw [List.mem_filter, List.mem_range, List.isPrefixOf_iff_prefix]; exact ⟨h1, h2⟩, rfl⟩
theorem hitsTo_mem (n : Nat) (y : Nat × Nat) : y ∈ hitsTo ps s n ↔ y.1 < n ∧ y.2 < ps.length ∧ (ps.getD y.2 []) <+: (s.drop y.1) := by
  unfold hitsTo
  rw [List.mem_flatMap]
  constructor
  · rintro ⟨i, hi, h⟩
    rw [List.mem_range] at hi
    obtain ⟨rfl, h1, h2⟩ := (hitsAt_mem i _ y).1 h
    exact ⟨hi, h1, h2⟩
  · rintro ⟨h1, h2, h3⟩
    exact ⟨y.1, List.mem_range.2 h1, (hitsAt_mem _ _ y).2 ⟨rfl, h2, h3⟩⟩
theorem range_lt (n : Nat) : (List.range n).Pairwise (· < ·) := List.pairwise_lt_range
theorem hits_lt (n : Nat) : (hitsTo ps s n).Pairwise fun x y => ltH x y = true := by
  unfold hitsTo
  rw [List.pairwise_flatMap]
  refine ⟨fun i _ => ?_, ?_⟩
  · unfold hitsAt
    rw [List.pairwise_map]
    refine List.Pairwise.imp (fun {a b} h => ?_) ((range_lt _).filter _)
    unfold ltH
    exact decide_eq_true (.inr ⟨rfl, h⟩)
  · refine (range_lt n).imp fun {i j} hij x hx y hy => ?_
    have h1 := ((hitsAt_mem _ _ x).1 hx).1
    have h2 := ((hitsAt_mem _ _ y).1 hy).1
    unfold ltH
    exact decide_eq_true (.inl (by omega))
theorem ltH_irr (x : Nat × Nat) : ltH x x = false := by unfold ltH; exact decide_eq_false (by omega)
theorem ltH_asym {x y : Nat × Nat} (h : ltH x y = true) : ltH y x = false := by
  unfold ltH at *
  rw [decide_eq_true_iff] at h
  exact decide_eq_false (by omega)
theorem ltH_tri {x y : Nat × Nat} (h1 : ltH x y = false) (h2 : ltH y x = false) : x = y := by
  unfold ltH at *
  rw [decide_eq_false_iff_not] at *
  exact Prod.ext (by omega) (by omega)
theorem ltH_trans {x y z : Nat × Nat} (h1 : ltH x y = true) (h2 : ltH y z = true) : ltH x z = true := by
  unfold ltH at *
  rw [decide_eq_true_iff] at *
  omega
theorem ltH_ntrans {x y z : Nat × Nat} (h1 : ltH x y = false) (h2 : ltH y z = false) : ltH x z = false := by
  unfold ltH at *
  rw [decide_eq_false_iff_not] at *
  omega
theorem hits_nodup (n : Nat) : (hitsTo ps s n).Nodup := (hits_lt n).imp fun {a b} h e => by
  subst e
  rw [ltH_irr] at h
  cases h
theorem idxOf_get (hnd : ps.Nodup) {k : Nat} {p : List UInt8} (h : ps[k]? = some p) : ps.idxOf p = k := by
  obtain ⟨h1, e1⟩ := List.getElem?_eq_some_iff.1 h
  have hm : p ∈ ps := List.mem_of_getElem? h
  have h2 := List.idxOf_lt_length_iff.2 hm
  have e2 : ps[ps.idxOf p] = p := List.getElem_idxOf h2
  exact (List.getElem_inj hnd).1 (e2.trans e1.symm)
theorem idxOf_at {p : List UInt8} (hm : p ∈ ps) : ps[ps.idxOf p]? = some p := by
  have h2 := List.idxOf_lt_length_iff.2 hm
  rw [List.getElem?_eq_getElem h2, List.getElem_idxOf h2]
theorem found_mem (n : Nat) (y : Nat × Nat) : y ∈ foundE ps s n ↔ ∃ e z, e < n ∧ z ≠ [] ∧ z <:+ s.take (e + 1) ∧ z ∈ ps ∧ y = (e + 1 - z.length, ps.idxOf z) := by
  unfold foundE
  rw [List.mem_flatMap]
  constructor
  · rintro ⟨e, he, h⟩
    obtain ⟨z, h1, h2, h3, h4⟩ := (shE_mem _ _ _).1 h
    exact ⟨e, z, List.mem_range.1 he, h1, h2, h3, h4⟩
  · rintro ⟨e, z, he, h1, h2, h3, h4⟩
    exact ⟨e, List.mem_range.2 he, (shE_mem _ _ _).2 ⟨z, h1, h2, h3, h4⟩⟩
theorem suf_take {z : List UInt8} {e : Nat} (he : e ≤ s.length) (h : z <:+ s.take e) : z.length ≤ e ∧ z <+: s.drop (e - z.length) := by
  have hl := h.length_le
  rw [List.length_take, Nat.min_eq_left he] at hl
  refine ⟨hl, ?_⟩
  have h2 := List.suffix_iff_eq_drop.1 h
  rw [List.length_take, Nat.min_eq_left he] at h2
  rw [h2]
  have hzl : ((s.take e).drop (e - z.length)).length = z.length := by rw [← h2]
  rw [hzl, List.drop_take]
  exact List.take_prefix _ _
theorem pre_drop {z : List UInt8} {i : Nat} (hi : i ≤ s.length) (h : z <+: s.drop i) : i + z.length ≤ s.length ∧ z <:+ s.take (i + z.length) := by
  have hl := h.length_le
  rw [List.length_drop] at hl
  refine ⟨by omega, ?_⟩
  obtain ⟨t, ht⟩ := h
  have e1 : s = s.take i ++ (z ++ t) := by rw [ht, List.take_append_drop]
  refine ⟨s.take i, ?_⟩
  have e2 : (s.take i ++ (z ++ t)).take (i + z.length) = s.take i ++ z := by
    rw [← List.append_assoc]
    exact List.take_left' (by rw [List.length_append, List.length_take, Nat.min_eq_left hi])
  rw [← e1] at e2
  exact e2.symm
theorem found_hits (hne : ∀ p ∈ ps, p ≠ []) (hnd : ps.Nodup) (y : Nat × Nat) : y ∈ foundE ps s s.length ↔ y ∈ hitsTo ps s s.length := by
  rw [found_mem, hitsTo_mem]
  constructor
  · rintro ⟨e, z, he, h1, h2, h3, rfl⟩
    obtain ⟨g1, g2⟩ := suf_take (by omega) h2
    have hz : 0 < z.length := List.length_pos_iff.2 h1
    have hi := idxOf_at h3
    refine ⟨by show e + 1 - z.length < _; omega, List.idxOf_lt_length_iff.2 h3, ?_⟩
    show ps.getD (ps.idxOf z) [] <+: s.drop (e + 1 - z.length)
    rw [getD_some hi]; exact g2
  · obtain ⟨a, k⟩ := y
    rintro ⟨h1, h2, h3⟩
    have h1 : a < s.length := h1
    have h2 : k < ps.length := h2
    have h3 : ps.getD k [] <+: s.drop a := h3
    obtain ⟨p, hp⟩ : ∃ p, ps[k]? = some p := ⟨_, List.getElem?_eq_getElem h2⟩
    rw [getD_some hp] at h3
    have hpm := List.mem_of_getElem? hp
    have hpl : 0 < p.length := List.length_pos_iff.2 (hne p hpm)
    obtain ⟨g1, g2⟩ := pre_drop (by omega) h3
    refine ⟨a + p.length - 1, p, by omega, hne p hpm, ?_, hpm, ?_⟩
    · rw [Nat.sub_add_cancel (by omega)]; exact g2
    · rw [Nat.sub_add_cancel (by omega), idxOf_get hnd hp, Nat.add_sub_cancel]
theorem sh_nodup (e : Nat) : ∀ x : List UInt8, x.length ≤ e → (shE ps e x).Nodup
  | [], _ => by simp [shE]
  | a :: x, h => by
    rw [List.length_cons] at h
    rw [shE, List.nodup_append]
    refine ⟨?_, sh_nodup e x (by omega), ?_⟩
    · unfold entE; split <;> simp
    · intro y hy z hz hyz
      subst hyz
      unfold entE at hy
      split at hy
      · rw [List.mem_singleton] at hy
        obtain ⟨w, _, h2, _, h4⟩ := (shE_mem _ _ _).1 hz
        rw [hy] at h4
        injection h4 with h4 _
        have := h2.length_le
        rw [List.length_cons] at h4
        omega
      · cases hy
theorem found_nodup (hnd : ps.Nodup) : ∀ n, n ≤ s.length → (foundE ps s n).Nodup
  | 0, _ => by simp [foundE]
  | n + 1, h => by
    rw [foundE_snoc, List.nodup_append]
    refine ⟨found_nodup hnd n (by omega), sh_nodup _ _ (by rw [List.length_take]; omega), ?_⟩
    intro y hy z hz hyz
    subst hyz
    obtain ⟨e, u, he, h1, h2, h3, rfl⟩ := (found_mem n y).1 hy
    obtain ⟨v, g1, g2, g3, g4⟩ := (shE_mem _ _ _).1 hz
    injection g4 with g4 g5
    have e1 := idxOf_at h3
    rw [g5, idxOf_at g3] at e1
    have e2 := Option.some.inj e1
    subst e2
    have l1 := h2.length_le
    have l2 := g2.length_le
    rw [List.length_take] at l1 l2
    omega
theorem found_sort (hne : ∀ p ∈ ps, p ≠ []) (hnd : ps.Nodup) : ((foundE ps s s.length).mergeSort fun x y => !ltH y x) = hitsTo ps s s.length := by
  have hperm : (foundE ps s s.length).Perm (hitsTo ps s s.length) := (List.perm_ext_iff_of_nodup (found_nodup hnd _ (Nat.le_refl _)) (hits_nodup _)).2 (found_hits hne hnd)
  refine List.Perm.eq_of_pairwise (le := fun x y => ltH y x = false) (fun a b _ _ h1 h2 => ltH_tri h2 h1) ?_ ((hits_lt _).imp fun {a b} h => ltH_asym h) ((List.mergeSort_perm _ _).trans hperm)
  have h := List.pairwise_mergeSort (le := fun x y => !ltH y x) (fun a b c h1 h2 => by
    simp only [Bool.not_eq_true'] at *
    exact ltH_ntrans h2 h1) (fun a b => by
    rcases h : ltH b a with _ | _
    · simp
    · simp [ltH_asym h]) (foundE ps s s.length)
  exact h.imp fun {a b} h => by simpa using h
end
end Go.Proofs.Ytmmamdjbbpeifaa
