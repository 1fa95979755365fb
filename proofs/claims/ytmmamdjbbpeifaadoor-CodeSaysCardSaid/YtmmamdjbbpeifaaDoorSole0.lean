/- Whether rows of words can be read in one way only: what is left over of one row behind another (plain). -/
import Derived.Test.YtmmamdjbbpeifaaDoorCdpC
namespace Go.Proofs.YtmmamdjbbpeifaaDoor
/-- What is left over of one word behind another. -/
def IsBeg (l : List (List UInt8)) (x : List UInt8) : Prop := ∃ i k, i < l.length ∧ k < l.length ∧ (l.getD i []).length < (l.getD k []).length ∧ pfx (l.getD i []) (l.getD k []) = true ∧ x = (l.getD k []).drop (l.getD i []).length
def IsSuc (l : List (List UInt8)) (s x : List UInt8) : Prop := ∃ i, i < l.length ∧ ((pfx s (l.getD i []) = true ∧ x = (l.getD i []).drop s.length) ∨ (pfx (l.getD i []) s = true ∧ x = s.drop (l.getD i []).length))
inductive Left (l : List (List UInt8)) : List UInt8 → Prop
  | beg {x : List UInt8} : IsBeg l x → Left l x
  | suc {s x : List UInt8} : Left l s → IsSuc l s x → Left l x
noncomputable def soleB (l : List (List UInt8)) : Bool := @decide (¬ Left l []) (Classical.propDecidable _)
theorem soleB_t {l : List (List UInt8)} (h : ¬ Left l []) : soleB l = true := @decide_eq_true _ (Classical.propDecidable _) h
theorem soleB_f {l : List (List UInt8)} (h : Left l []) : soleB l = false := @decide_eq_false _ (Classical.propDecidable _) fun h2 => h2 h
/-- All that can be left over. -/
def uni (l : List (List UInt8)) : List (List UInt8) := (List.range 13).flatMap fun d => l.map (List.drop d)
theorem uni_mem {l : List (List UInt8)} {x : List UInt8} : x ∈ uni l ↔ ∃ i d, i < l.length ∧ d ≤ 12 ∧ x = (l.getD i []).drop d := by
  unfold uni
  simp only [List.mem_flatMap, List.mem_range, List.mem_map]
  constructor
  · rintro ⟨d, hd, y, hy, rfl⟩
    obtain ⟨i, hi, rfl⟩ := List.mem_iff_getElem.1 hy
    exact ⟨i, d, hi, by omega, by rw [List.getD_eq_getElem?_getD, List.getElem?_eq_getElem hi]; rfl⟩
  · rintro ⟨i, d, hi, hd, rfl⟩
    refine ⟨d, by omega, l[i], List.getElem_mem hi, ?_⟩
    rw [List.getD_eq_getElem?_getD, List.getElem?_eq_getElem hi]; rfl
theorem uni_len {l : List (List UInt8)} (h : l.length ≤ 12) : (uni l).length ≤ 156 := by
  have e : ∀ m, ((List.range m).flatMap fun d => l.map (List.drop d)).length = m * l.length := by
    intro m
    induction m with
    | zero => simp
    | succ m ih => rw [List.range_succ, List.flatMap_append, List.length_append, ih]; simp [Nat.succ_mul]
  unfold uni
  rw [e]
  omega
theorem uni_beg {l : List (List UInt8)} (hc : Cod l) {x : List UInt8} (h : IsBeg l x) : x ∈ uni l := by
  obtain ⟨i, k, hi, hk, _, _, rfl⟩ := h
  exact uni_mem.2 ⟨k, _, hk, hc.le i hi, rfl⟩
theorem uni_suc {l : List (List UInt8)} (hc : Cod l) {s x : List UInt8} (hs : s ∈ uni l) (h : IsSuc l s x) : x ∈ uni l := by
  obtain ⟨i, hi, ⟨h1, rfl⟩ | ⟨h1, rfl⟩⟩ := h
  · have := pfx_len h1
    have := hc.le i hi
    exact uni_mem.2 ⟨i, s.length, hi, by omega, rfl⟩
  · obtain ⟨j, d, hj, hd, rfl⟩ := uni_mem.1 hs
    have h2 := pfx_len h1
    rw [List.length_drop] at h2
    have h3 := hc.le j hj
    have h4 : 0 < (l.getD i []).length := by
      rcases Nat.eq_zero_or_pos (l.getD i []).length with h | h
      · exact absurd (List.eq_nil_of_length_eq_zero h) (hc.ne i hi)
      · exact h
    exact uni_mem.2 ⟨j, d + (l.getD i []).length, hj, by omega, by rw [List.drop_drop]⟩
theorem left_uni {l : List (List UInt8)} (hc : Cod l) {x : List UInt8} (h : Left l x) : x ∈ uni l := by
  induction h with
  | beg h => exact uni_beg hc h
  | suc _ h ih => exact uni_suc hc ih h
/-- How many are not yet seen. -/
def unv (l : List (List UInt8)) (V : List UInt8 → Bool) : Nat := (uni l).countP fun x => !V x
theorem countP_less {α : Type} {p q : α → Bool} {y : α} : ∀ {U : List α}, (∀ x, q x = true → p x = true) → y ∈ U → p y = true → q y = false → U.countP q + 1 ≤ U.countP p := by
  intro U
  induction U with
  | nil => intro _ h; simp at h
  | cons a U ih =>
    intro h1 h2 h3 h4
    have hm : U.countP q ≤ U.countP p := List.countP_mono_left fun x _ h => h1 x h
    rw [List.countP_cons, List.countP_cons]
    rcases List.mem_cons.1 h2 with rfl | h2
    · rw [h3, h4]; simp; omega
    · have := ih h1 h2 h3 h4
      have h5 := h1 a
      cases hq : q a with
      | false => simp; split <;> omega
      | true => rw [h5 hq]; simp; omega
theorem unv_le {l : List (List UInt8)} (h : l.length ≤ 12) (V : List UInt8 → Bool) : unv l V ≤ 156 := Nat.le_trans (List.countP_le_length) (uni_len h)
theorem unv_add {l : List (List UInt8)} {V V' : List UInt8 → Bool} {y : List UInt8} (hm : ∀ x, V x = true → V' x = true) (hy : y ∈ uni l) (h0 : V y = false) (h1 : V' y = true) : unv l V' + 1 ≤ unv l V := by
  refine countP_less (y := y) (fun x hx => ?_) hy (by rw [h0]; rfl) (by rw [h1]; rfl)
  cases hv : V x with
  | false => rfl
  | true => rw [hm x hv] at hx; cases hx
theorem unv_mono {l : List (List UInt8)} {V V' : List UInt8 → Bool} (hm : ∀ x, V x = true → V' x = true) : unv l V' ≤ unv l V := by
  refine List.countP_mono_left fun x _ hx => ?_
  cases hv : V x with
  | false => rfl
  | true => rw [hm x hv] at hx; cases hx
/- The program's way: a row of what has been seen. -/
def addS (S : List (List UInt8)) (x : List UInt8) : List (List UInt8) := if x ∈ S then S else S ++ [x]
theorem addS_mem (S : List (List UInt8)) (x : List UInt8) : x ∈ addS S x := by
  unfold addS; split
  · assumption
  · simp
theorem addS_mono {S : List (List UInt8)} {y : List UInt8} (x : List UInt8) (h : y ∈ S) : y ∈ addS S x := by
  unfold addS; split
  · exact h
  · simp [h]
theorem addS_sub {S : List (List UInt8)} {x y : List UInt8} (h : y ∈ addS S x) : y ∈ S ∨ y = x := by
  unfold addS at h; split at h
  · exact .inl h
  · simpa using h
theorem addS_getD {S : List (List UInt8)} (x : List UInt8) {m : Nat} (h : m < S.length) : (addS S x).getD m [] = S.getD m [] := by
  unfold addS; split
  · rfl
  · rw [List.getD_eq_getElem?_getD, List.getElem?_append_left h, List.getD_eq_getElem?_getD]
theorem addS_len (S : List (List UInt8)) (x : List UInt8) : S.length ≤ (addS S x).length := by
  unfold addS; split
  · exact Nat.le_refl _
  · simp
structure Bfs (l S : List (List UInt8)) : Prop where
  left : ∀ x ∈ S, Left l x
  nil : [] ∉ S
  cnt : S.length + unv l (fun x => decide (x ∈ S)) ≤ 156
theorem Bfs.start {l : List (List UInt8)} (hc : Cod l) : Bfs l [] := ⟨by simp, by simp, by have := unv_le hc.len (fun x => decide (x ∈ ([] : List (List UInt8)))); simp at *; omega⟩
theorem Bfs.len {l S : List (List UInt8)} (h : Bfs l S) : S.length ≤ 156 := by have := h.cnt; omega
theorem Bfs.add {l S : List (List UInt8)} (hc : Cod l) (h : Bfs l S) {x : List UInt8} (hx : Left l x) (hn : x ≠ []) : Bfs l (addS S x) := by
  refine ⟨fun y hy => ?_, fun h0 => ?_, ?_⟩
  · rcases addS_sub hy with h1 | rfl
    · exact h.left y h1
    · exact hx
  · rcases addS_sub h0 with h1 | h1
    · exact h.nil h1
    · exact hn h1.symm
  · unfold addS; split
    · exact h.cnt
    · rename_i hx0
      have := unv_add (l := l) (V := fun x => decide (x ∈ S)) (V' := fun y => decide (y ∈ S ++ [x])) (y := x) (fun y hy => by simp at hy ⊢; exact .inl hy) (left_uni hc hx) (by simp [hx0]) (by simp)
      have := h.cnt
      rw [List.length_append, List.length_singleton]; omega
/-- The words up to j have been tried at s. -/
def Tried (l S : List (List UInt8)) (s : List UInt8) (j : Nat) : Prop := ∀ i, i < j → l.getD i [] ≠ s ∧ (pfx s (l.getD i []) = true → (l.getD i []).drop s.length ∈ S) ∧ (pfx (l.getD i []) s = true → s.drop (l.getD i []).length ∈ S)
theorem Tried.more {l S S' : List (List UInt8)} {s : List UInt8} {j : Nat} (h : Tried l S s j) (hm : ∀ y, y ∈ S → y ∈ S') : Tried l S' s j := fun i hi => ⟨(h i hi).1, fun hp => hm _ ((h i hi).2.1 hp), fun hp => hm _ ((h i hi).2.2 hp)⟩
theorem Tried.next {l S : List (List UInt8)} {s : List UInt8} {j : Nat} (h : Tried l S s j) (h1 : l.getD j [] ≠ s) (h2 : pfx s (l.getD j []) = true → (l.getD j []).drop s.length ∈ S) (h3 : pfx (l.getD j []) s = true → s.drop (l.getD j []).length ∈ S) : Tried l S s (j + 1) := fun i hi => by
  rcases Nat.lt_or_ge i j with h4 | h4
  · exact h i h4
  · obtain rfl : i = j := by omega
    exact ⟨h1, h2, h3⟩
/-- The first p of what has been seen are done. -/
def DoneTo (l S : List (List UInt8)) (p : Nat) : Prop := ∀ m, m < p → Tried l S (S.getD m []) l.length
theorem DoneTo.add {l S : List (List UInt8)} {p : Nat} (h : DoneTo l S p) (hp : p ≤ S.length) (x : List UInt8) : DoneTo l (addS S x) p := fun m hm => by
  rw [addS_getD x (by omega)]
  exact (h m hm).more fun y hy => addS_mono x hy
theorem DoneTo.next {l S : List (List UInt8)} {p : Nat} (h : DoneTo l S p) (h1 : Tried l S (S.getD p []) l.length) : DoneTo l S (p + 1) := fun m hm => by
  rcases Nat.lt_or_ge m p with h4 | h4
  · exact h m h4
  · obtain rfl : m = p := by omega
    exact h1
/-- All pairs of words ahead of (i, k) have been tried. -/
def Begun (l S : List (List UInt8)) (i k : Nat) : Prop := ∀ i' k', k' < l.length → (i' < i ∨ (i' = i ∧ k' < k)) → i' ≠ k' → pfx (l.getD i' []) (l.getD k' []) = true → (l.getD k' []).drop (l.getD i' []).length ∈ S
theorem Begun.more {l S S' : List (List UInt8)} {i k : Nat} (h : Begun l S i k) (hm : ∀ y, y ∈ S → y ∈ S') : Begun l S' i k := fun i' k' hk hb hne hp => hm _ (h i' k' hk hb hne hp)
theorem Begun.next {l S : List (List UInt8)} {i k : Nat} (h : Begun l S i k) (h1 : i ≠ k → pfx (l.getD i []) (l.getD k []) = true → (l.getD k []).drop (l.getD i []).length ∈ S) : Begun l S i (k + 1) := fun i' k' hk hb hne hp => by
  by_cases e : i' = i ∧ k' = k
  · obtain ⟨rfl, rfl⟩ := e
    exact h1 hne hp
  · exact h i' k' hk (by omega) hne hp
theorem Begun.row {l S : List (List UInt8)} {i : Nat} (h : Begun l S i l.length) : Begun l S (i + 1) 0 := fun i' k' hk hb hne hp => h i' k' hk (by omega) hne hp
theorem left_of {l : List (List UInt8)} {P : List UInt8 → Prop} (hb : ∀ x, IsBeg l x → P x) (hs : ∀ s x, P s → IsSuc l s x → P x) {x : List UInt8} (h : Left l x) : P x := by
  induction h with
  | beg h => exact hb _ h
  | suc _ h ih => exact hs _ _ ih h
theorem bfs_true {l S : List (List UInt8)} (h : Bfs l S) (hd : DoneTo l S S.length) (hb : Begun l S l.length 0) : soleB l = true := by
  refine soleB_t fun h0 => h.nil ?_
  refine left_of (P := fun x => x ∈ S) ?_ ?_ h0
  · rintro x ⟨i, k, hi, hk, hlt, hp, rfl⟩
    exact hb i k hk (.inl hi) (fun e => by subst e; omega) hp
  · rintro s x hs ⟨i, hi, h1⟩
    obtain ⟨m, hm, e⟩ := List.mem_iff_getElem.1 hs
    have h2 := hd m hm i hi
    have e2 : S.getD m [] = s := by rw [List.getD_eq_getElem?_getD, List.getElem?_eq_getElem hm]; exact e
    rw [e2] at h2
    rcases h1 with ⟨hp, rfl⟩ | ⟨hp, rfl⟩
    · exact h2.2.1 hp
    · exact h2.2.2 hp
theorem bfs_false {l : List (List UInt8)} {s : List UInt8} {i : Nat} (hs : Left l s) (hi : i < l.length) (e : l.getD i [] = s) : soleB l = false := by
  refine soleB_f (.suc hs ⟨i, hi, .inl ⟨?_, ?_⟩⟩)
  · rw [e]; exact pfx_iff.2 List.take_length
  · rw [e, List.drop_length]
theorem left_beg {l : List (List UInt8)} (hc : Cod l) {i k : Nat} (hi : i < l.length) (hk : k < l.length) (hne : i ≠ k) (hp : pfx (l.getD i []) (l.getD k []) = true) : Left l ((l.getD k []).drop (l.getD i []).length) ∧ (l.getD k []).drop (l.getD i []).length ≠ [] := by
  have h1 := pfx_len hp
  have h2 : (l.getD i []).length ≠ (l.getD k []).length := fun e => by
    have h3 := pfx_iff.1 hp
    rw [e, List.take_length] at h3
    exact hne (hc.inj i k hi hk h3.symm)
  refine ⟨.beg ⟨i, k, hi, hk, by omega, hp, rfl⟩, fun h0 => ?_⟩
  have := congrArg List.length h0
  rw [List.length_drop, List.length_nil] at this
  omega
theorem pfx_less {p s : List UInt8} (h : pfx p s = true) (hne : s ≠ p) : p.length < s.length := by
  have h1 := pfx_len h
  rcases Nat.lt_or_ge p.length s.length with h2 | h2
  · exact h2
  · exfalso
    have h3 := pfx_iff.1 h
    rw [show p.length = s.length by omega, List.take_length] at h3
    exact hne h3
theorem drop_ne {s : List UInt8} {k : Nat} (h : k < s.length) : s.drop k ≠ [] := fun h0 => by
  have := congrArg List.length h0
  rw [List.length_drop, List.length_nil] at this
  omega
end Go.Proofs.YtmmamdjbbpeifaaDoor
