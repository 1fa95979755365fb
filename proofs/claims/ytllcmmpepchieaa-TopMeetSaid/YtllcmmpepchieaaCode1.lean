/- The words that are made for lengths, in order. No program in sight. -/
import Derived.Test.YtllcmmpepchieaaCode0
namespace Go.Proofs.Ytllcmmpepchieaa
/-- What the words before (n, i) take. -/
def nxF (n i : Nat) : Nat → List Nat → Nat
  | _, [] => 0
  | j, m :: r => (if m < n ∨ (m = n ∧ j < i) then 2 ^ (12 - m) else 0) + nxF n i (j + 1) r
def nx (ns : List Nat) (n i : Nat) : Nat := nxF n i 0 ns
def total : List Nat → Nat
  | [] => 0
  | m :: r => 2 ^ (12 - m) + total r
theorem nxF_succ (n i : Nat) (ns : List Nat) : ∀ j, nxF n (i + 1) j ns = nxF n i j ns + if j ≤ i ∧ ns[i - j]? = some n then 2 ^ (12 - n) else 0 := by
  induction ns with
  | nil => intro j; simp [nxF]
  | cons m r ih =>
    intro j
    simp only [nxF, ih (j + 1)]
    by_cases hj : j = i
    · subst hj
      have h1 : ¬ (j + 1 ≤ j ∧ r[j - (j + 1)]? = some n) := fun h => by omega
      have h3 : (m :: r)[j - j]? = some m := by rw [Nat.sub_self]; rfl
      rw [if_neg h1, h3]
      by_cases hm : m = n
      · subst hm
        rw [if_pos (.inr ⟨rfl, by omega⟩), if_neg (by omega), if_pos ⟨Nat.le_refl _, rfl⟩]
        omega
      · rw [if_neg (fun h : j ≤ j ∧ some m = some n => hm (by injection h.2))]
        by_cases hmn : m < n
        · rw [if_pos (.inl hmn), if_pos (.inl hmn)]; omega
        · rw [if_neg (by omega), if_neg (by omega)]; omega
    · by_cases hji : j < i
      · have e : i - j = (i - (j + 1)) + 1 := by omega
        rw [e, List.getElem?_cons_succ]
        have h2 : (m < n ∨ (m = n ∧ j < i + 1)) ↔ (m < n ∨ (m = n ∧ j < i)) := by omega
        have h4 : (j + 1 ≤ i ∧ r[i - (j + 1)]? = some n) ↔ (j ≤ i ∧ r[i - (j + 1)]? = some n) := by
          constructor <;> rintro ⟨a, b⟩ <;> exact ⟨by omega, b⟩
        simp only [h2, h4]
        omega
      · rw [if_neg (fun h => by omega : ¬ (j + 1 ≤ i ∧ _)), if_neg (fun h => by omega : ¬ (j ≤ i ∧ _))]
        have h2 : (m < n ∨ (m = n ∧ j < i + 1)) ↔ (m < n ∨ (m = n ∧ j < i)) := by omega
        simp only [h2]
        omega
theorem nx_hit {ns : List Nat} {n i : Nat} (h : ns[i]? = some n) : nx ns n (i + 1) = nx ns n i + 2 ^ (12 - n) := by
  unfold nx; rw [nxF_succ, if_pos ⟨Nat.zero_le _, by simpa using h⟩]
theorem nx_miss {ns : List Nat} {n i : Nat} (h : ns[i]? ≠ some n) : nx ns n (i + 1) = nx ns n i := by
  unfold nx; rw [nxF_succ, if_neg (fun hh => h (by simpa using hh.2))]; omega
theorem nx_next (ns : List Nat) (n : Nat) : nx ns (n + 1) 0 = nx ns n ns.length := by
  have key : ∀ (ns : List Nat) j k, j + ns.length ≤ k → nxF (n + 1) 0 j ns = nxF n k j ns := by
    intro ns
    induction ns with
    | nil => intros; rfl
    | cons m r ih =>
      intro j k hk
      simp only [List.length_cons] at hk
      simp only [nxF]
      rw [ih (j + 1) k (by omega)]
      congr 1
      have h2 : (m < n + 1 ∨ (m = n + 1 ∧ j < 0)) ↔ (m < n ∨ (m = n ∧ j < k)) := by omega
      simp only [h2]
  exact key ns 0 _ (by omega)
theorem nx_one {ns : List Nat} (h : ∀ m ∈ ns, 1 ≤ m) : nx ns 1 0 = 0 := by
  have key : ∀ (ns : List Nat), (∀ m ∈ ns, 1 ≤ m) → ∀ j, nxF 1 0 j ns = 0 := by
    intro ns
    induction ns with
    | nil => intros; rfl
    | cons m r ih =>
      intro h j
      have := h m (by simp)
      simp only [nxF]
      rw [if_neg (by omega), ih (fun x hx => h x (by simp [hx]))]
  exact key ns h 0
theorem nx_le (ns : List Nat) (n i : Nat) : nx ns n i ≤ total ns := by
  have key : ∀ (ns : List Nat) j, nxF n i j ns ≤ total ns := by
    intro ns
    induction ns with
    | nil => intros; exact Nat.le_refl _
    | cons m r ih =>
      intro j
      have := ih (j + 1)
      have hp : 0 < 2 ^ (12 - m) := Nat.two_pow_pos _
      simp only [nxF, total]
      split <;> omega
  exact key ns 0
theorem nx_dvd {ns : List Nat} {n i : Nat} (hn : n ≤ 12) : 2 ^ (12 - n) ∣ nx ns n i := by
  have key : ∀ (ns : List Nat) j, 2 ^ (12 - n) ∣ nxF n i j ns := by
    intro ns
    induction ns with
    | nil => intro j; exact Nat.dvd_zero _
    | cons m r ih =>
      intro j
      simp only [nxF]
      refine Nat.dvd_add ?_ (ih _)
      split
      · exact Nat.pow_dvd_pow 2 (by omega)
      · exact Nat.dvd_zero _
  exact key ns 0
/-- The word at a place. -/
def wdAt (ns : List Nat) (j : Nat) : List UInt8 := bw (nx ns (ns.getD j 0) j / 2 ^ (12 - ns.getD j 0)) (ns.getD j 0)
def codesL (ns : List Nat) : List (List UInt8) := (List.range ns.length).map (wdAt ns)
/-- What has been laid down before (n, i). -/
def outAt (ns : List Nat) (n i : Nat) : List (List UInt8) := (List.range ns.length).map fun j => if ns.getD j 0 < n ∨ (ns.getD j 0 = n ∧ j < i) then wdAt ns j else []
theorem outAt_len (ns : List Nat) (n i : Nat) : (outAt ns n i).length = ns.length := by simp [outAt]
theorem outAt_hit {ns : List Nat} {n i : Nat} (hn : ns.getD i 0 = n) : outAt ns n (i + 1) = (outAt ns n i).set i (wdAt ns i) := by
  apply List.ext_getElem
  · simp [outAt]
  · intro j h1 h2
    simp only [outAt, List.getElem_map, List.getElem_range, List.getElem_set]
    by_cases hij : i = j
    · subst hij; rw [if_pos rfl, if_pos (.inr ⟨hn, by omega⟩)]
    · rw [if_neg hij]
      have : (ns.getD j 0 < n ∨ (ns.getD j 0 = n ∧ j < i + 1)) ↔ (ns.getD j 0 < n ∨ (ns.getD j 0 = n ∧ j < i)) := by omega
      simp only [this]
theorem outAt_miss {ns : List Nat} {n i : Nat} (hn : ns.getD i 0 ≠ n) : outAt ns n (i + 1) = outAt ns n i := by
  apply List.ext_getElem
  · simp [outAt]
  · intro j h1 h2
    simp only [outAt, List.getElem_map, List.getElem_range]
    have : (ns.getD j 0 < n ∨ (ns.getD j 0 = n ∧ j < i + 1)) ↔ (ns.getD j 0 < n ∨ (ns.getD j 0 = n ∧ j < i)) := by
      by_cases hij : j = i
      · subst hij; omega
      · omega
    simp only [this]
theorem outAt_next (ns : List Nat) (n : Nat) : outAt ns (n + 1) 0 = outAt ns n ns.length := by
  apply List.ext_getElem
  · simp [outAt]
  · intro j h1 h2
    have hj : j < ns.length := by simpa [outAt] using h1
    simp only [outAt, List.getElem_map, List.getElem_range]
    have : (ns.getD j 0 < n + 1 ∨ (ns.getD j 0 = n + 1 ∧ j < 0)) ↔ (ns.getD j 0 < n ∨ (ns.getD j 0 = n ∧ j < ns.length)) := by omega
    simp only [this]
theorem outAt_one {ns : List Nat} (h : ∀ m ∈ ns, 1 ≤ m) : outAt ns 1 0 = List.replicate ns.length [] := by
  apply List.ext_getElem
  · simp [outAt]
  · intro j h1 h2
    have hj : j < ns.length := by simpa [outAt] using h1
    simp only [outAt, List.getElem_map, List.getElem_range, List.getElem_replicate]
    have hm : 1 ≤ ns.getD j 0 := by
      rw [List.getD_eq_getElem?_getD, List.getElem?_eq_getElem hj]
      exact h _ (List.getElem_mem hj)
    rw [if_neg (by omega)]
theorem outAt_end {ns : List Nat} (h : ∀ m ∈ ns, m ≤ 12) : outAt ns 13 0 = codesL ns := by
  apply List.ext_getElem
  · simp [outAt, codesL]
  · intro j h1 h2
    have hj : j < ns.length := by simpa [outAt] using h1
    simp only [outAt, codesL, List.getElem_map, List.getElem_range]
    have hm : ns.getD j 0 ≤ 12 := by
      rw [List.getD_eq_getElem?_getD, List.getElem?_eq_getElem hj]
      exact h _ (List.getElem_mem hj)
    rw [if_pos (.inl (by omega))]
end Go.Proofs.Ytllcmmpepchieaa
