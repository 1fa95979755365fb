/- In how many ways a text is a row of words (plain). -/
import Derived.Test.YtmmamdjbbpeifaaDoorCdpC
import Derived.Test.YtmmamdjbbpeifaaDoorPakB
namespace Go.Proofs.YtmmamdjbbpeifaaDoor
def sumF (g : Nat → Nat) : Nat → Nat
  | 0 => 0
  | c + 1 => sumF g c + g c
theorem sumF_congr {g h : Nat → Nat} : ∀ c, (∀ j, j < c → g j = h j) → sumF g c = sumF h c := by
  intro c
  induction c with
  | zero => intro _; rfl
  | succ c ih => intro hh; rw [sumF, sumF, ih fun j hj => hh j (by omega), hh c (by omega)]
theorem sumF_zero {g : Nat → Nat} : ∀ c, (∀ j, j < c → g j = 0) → sumF g c = 0 := by
  intro c
  induction c with
  | zero => intro _; rfl
  | succ c ih => intro hh; rw [sumF, ih fun j hj => hh j (by omega), hh c (by omega)]
theorem sumF_add (g h : Nat → Nat) : ∀ c, sumF (fun j => g j + h j) c = sumF g c + sumF h c := by
  intro c
  induction c with
  | zero => rfl
  | succ c ih => rw [sumF, sumF, sumF, ih]; omega
theorem sumF_swap (g : Nat → Nat → Nat) (n : Nat) : ∀ m, sumF (fun k => sumF (g k) n) m = sumF (fun j => sumF (fun k => g k j) m) n := by
  intro m
  induction m with
  | zero => rw [sumF]; exact (sumF_zero n fun j _ => rfl).symm
  | succ m ih =>
    rw [sumF, ih, ← sumF_add]
    rfl
theorem sumF_single {g : Nat → Nat} {a : Nat} : ∀ c, a < c → (∀ j, j < c → j ≠ a → g j = 0) → sumF g c = g a := by
  intro c
  induction c with
  | zero => intro h; omega
  | succ c ih =>
    intro ha hh
    rw [sumF]
    rcases Nat.lt_or_ge a c with h1 | h1
    · rw [ih h1 fun j hj hne => hh j (by omega) hne, hh c (by omega) (by omega)]; rfl
    · obtain rfl : a = c := by omega
      rw [sumF_zero a fun j hj => hh j (by omega) (by omega)]; omega
def sfx (p s : List UInt8) : Bool := Lib.hasSuffix s p
theorem sfx_iff {p s : List UInt8} : sfx p s = true ↔ p.length ≤ s.length ∧ s.drop (s.length - p.length) = p := by
  unfold sfx Lib.hasSuffix
  rw [List.isSuffixOf_iff_suffix, List.suffix_iff_eq_drop]
  constructor
  · intro h
    have := congrArg List.length h
    rw [List.length_drop] at this
    exact ⟨by omega, h.symm⟩
  · rintro ⟨_, h⟩; exact h.symm
/-- The term that the word w gives at the place n, of the counts C. -/
def trm (l : List (List UInt8)) (s : List UInt8) (C : Nat → Nat) (n j : Nat) : Nat := if sfx (l.getD j []) (s.take n) = true then C (n - (l.getD j []).length) else 0
def rowC (l : List (List UInt8)) (s : List UInt8) : Nat → List Nat
  | 0 => [1]
  | n + 1 => rowC l s n ++ [sumF (trm l s (fun i => (rowC l s n).getD i 0) (n + 1)) l.length]
theorem rowC_len (l : List (List UInt8)) (s : List UInt8) : ∀ n, (rowC l s n).length = n + 1 := by
  intro n
  induction n with
  | zero => rfl
  | succ n ih => rw [rowC, List.length_append, ih]; rfl
def cntC (l : List (List UInt8)) (s : List UInt8) (n : Nat) : Nat := (rowC l s n).getD n 0
theorem rowC_at (l : List (List UInt8)) (s : List UInt8) : ∀ n i, i ≤ n → (rowC l s n).getD i 0 = cntC l s i := by
  intro n
  induction n with
  | zero => intro i hi; obtain rfl : i = 0 := by omega
            rfl
  | succ n ih =>
    intro i hi
    rcases Nat.lt_or_ge n i with h | h
    · obtain rfl : i = n + 1 := by omega
      rfl
    · rw [← ih i h, rowC, List.getD_eq_getElem?_getD, List.getD_eq_getElem?_getD, List.getElem?_append_left (by rw [rowC_len]; omega)]
theorem cnt_zero (l : List (List UInt8)) (s : List UInt8) : cntC l s 0 = 1 := rfl
theorem cnt_succ {l : List (List UInt8)} {s : List UInt8} (hc : Cod l) (n : Nat) : cntC l s (n + 1) = sumF (trm l s (cntC l s) (n + 1)) l.length := by
  have h1 : cntC l s (n + 1) = sumF (trm l s (fun i => (rowC l s n).getD i 0) (n + 1)) l.length := by
    unfold cntC
    rw [rowC, List.getD_eq_getElem?_getD, List.getElem?_append_right (by rw [rowC_len]; exact Nat.le_refl _), rowC_len, Nat.sub_self]
    rfl
  rw [h1]
  refine sumF_congr _ fun j hj => ?_
  unfold trm
  split
  · have := hc.ne j hj
    have : 0 < (l.getD j []).length := by
      rcases Nat.eq_zero_or_pos (l.getD j []).length with h | h
      · exact absurd (List.eq_nil_of_length_eq_zero h) this
      · exact h
    exact rowC_at l s n _ (by omega)
  · rfl
/-- The text is a row of words. -/
def IsRow (l : List (List UInt8)) (s : List UInt8) : Prop := ∃ ks : List Nat, (∀ k ∈ ks, k < l.length) ∧ s = ks.flatMap fun k => l.getD k []
theorem isRow_snoc {l : List (List UInt8)} {s : List UInt8} {j n : Nat} (hj : j < l.length) (hn : n ≤ s.length) (h : sfx (l.getD j []) (s.take n) = true) (hr : IsRow l (s.take (n - (l.getD j []).length))) : IsRow l (s.take n) := by
  obtain ⟨ks, h1, h2⟩ := hr
  obtain ⟨h3, h4⟩ := sfx_iff.1 h
  rw [List.length_take] at h3 h4
  refine ⟨ks ++ [j], ?_, ?_⟩
  · intro k hk
    rcases List.mem_append.1 hk with h5 | h5
    · exact h1 k h5
    · rw [List.mem_singleton.1 h5]; exact hj
  · rw [List.flatMap_append, ← h2]
    have e0 : min n s.length = n := Nat.min_eq_left hn
    rw [e0] at h3 h4
    have h6 : (s.take n).take (n - (l.getD j []).length) ++ (s.take n).drop (n - (l.getD j []).length) = s.take n := List.take_append_drop _ _
    have e1 : (s.take n).take (n - (l.getD j []).length) = s.take (n - (l.getD j []).length) := by rw [List.take_take, Nat.min_eq_left (Nat.sub_le _ _)]
    rw [e1, h4] at h6
    rw [← h6]
    simp only [List.flatMap_cons, List.flatMap_nil, List.append_nil]
theorem cnt_none {l : List (List UInt8)} {s : List UInt8} (hc : Cod l) : ∀ n, n ≤ s.length → ¬ IsRow l (s.take n) → cntC l s n = 0 := by
  intro n
  induction n using Nat.strongRecOn with
  | _ n ih =>
    intro hn hno
    match n, ih, hn, hno with
    | 0, _, _, hno => exact absurd ⟨[], by simp, by simp⟩ hno
    | n + 1, ih, hn, hno =>
      rw [cnt_succ hc]
      refine sumF_zero _ fun j hj => ?_
      unfold trm
      split
      · rename_i h
        have : 0 < (l.getD j []).length := by
          rcases Nat.eq_zero_or_pos (l.getD j []).length with h | h
          · exact absurd (List.eq_nil_of_length_eq_zero h) (hc.ne j hj)
          · exact h
        exact ih _ (by omega) (by omega) fun hr => hno (isRow_snoc hj hn h hr)
      · rfl
theorem pfx_app (p r : List UInt8) : pfx p (p ++ r) = true := pfx_iff.2 (by simp)
/-- Where reading a row of a front code sticks, there is no row. -/
theorem stuck_none {l : List (List UInt8)} (hf : IsFront l) : ∀ {ks : List Nat} {r : List UInt8}, (∀ k ∈ ks, k < l.length) → Stuck l r → ¬ IsRow l ((ks.flatMap fun k => l.getD k []) ++ r) := by
  intro ks
  induction ks with
  | nil =>
    rintro r _ ⟨hr, hst⟩ ⟨js, h1, h2⟩
    rw [List.flatMap_nil, List.nil_append] at h2
    match js, h1, h2 with
    | [], _, h2 => exact hr h2
    | j :: js, h1, h2 =>
      have := hst j (h1 j List.mem_cons_self)
      rw [h2, List.flatMap_cons, pfx_app] at this
      cases this
  | cons k ks ih =>
    rintro r hks hst ⟨js, h1, h2⟩
    have hk := hks k List.mem_cons_self
    simp only [List.flatMap_cons] at h2
    match js, h1, h2 with
    | [], _, h2 =>
      rw [List.flatMap_nil] at h2
      exact hst.1 (List.append_eq_nil_iff.1 h2).2
    | j :: js, h1, h2 =>
      have hj := h1 j List.mem_cons_self
      simp only [List.flatMap_cons, List.append_assoc] at h2
      have hjk : j = k := by
        by_cases e : j = k
        · exact e
        · exfalso
          rcases Nat.le_total (l.getD j []).length (l.getD k []).length with h3 | h3
          · have h4 : pfx (l.getD j []) (l.getD k []) = true := pfx_iff.2 (by
              have := congrArg (List.take (l.getD j []).length) h2
              rw [List.take_append_of_le_length h3, List.take_append_of_le_length (Nat.le_refl _), List.take_length] at this
              exact this)
            rw [hf j k hj hk e] at h4; cases h4
          · have h4 : pfx (l.getD k []) (l.getD j []) = true := pfx_iff.2 (by
              have := congrArg (List.take (l.getD k []).length) h2
              rw [List.take_append_of_le_length (Nat.le_refl _), List.take_append_of_le_length h3, List.take_length] at this
              exact this.symm)
            rw [hf k j hk hj (fun h => e h.symm)] at h4; cases h4
      subst hjk
      exact ih (fun k hk => hks k (List.mem_cons_of_mem _ hk)) hst ⟨js, fun k hk => h1 k (List.mem_cons_of_mem _ hk), List.append_cancel_left h2⟩
end Go.Proofs.YtmmamdjbbpeifaaDoor
