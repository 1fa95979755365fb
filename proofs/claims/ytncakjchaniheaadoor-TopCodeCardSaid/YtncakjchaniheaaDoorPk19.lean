/- A word out of its turns' last bytes: by the order of the bytes, and by rows that are sorted again and again (plain). turn.order, turn.Get: the order of places, as its function tells it, and the walks. A word's turns, ages, signs and short words, and back (plain). -/
import Derived.Test.YtncakjchaniheaaDoorPk18
import Derived.Test.YtncakjchaniheaaDoorPk09
import Derived.Test.YtncakjchaniheaaDoorPk15
namespace Go.Proofs.YtncakjchaniheaaDoor
/-- The place before, round the ring. -/
def prevT (n x : Nat) : Nat := (x + n - 1) % n
theorem prevT_lt {n x : Nat} (h : 0 < n) : prevT n x < n := Nat.mod_lt _ h
theorem prevT_next {n x : Nat} (hx : x < n) : (prevT n x + 1) % n = x := by
  unfold prevT
  rcases Nat.eq_zero_or_pos x with h | h
  · subst h
    rw [Nat.zero_add, Nat.mod_eq_of_lt (show n - 1 < n by omega), show n - 1 + 1 = n by omega, Nat.mod_self]
  · rw [show x + n - 1 = x - 1 + n by omega, Nat.add_mod_right, Nat.mod_eq_of_lt (show x - 1 < n by omega), show x - 1 + 1 = x by omega, Nat.mod_eq_of_lt hx]
theorem next_prevT {n x : Nat} (hx : x < n) : prevT n ((x + 1) % n) = x := by
  unfold prevT
  rcases Nat.lt_or_ge (x + 1) n with h | h
  · rw [Nat.mod_eq_of_lt h, show x + 1 + n - 1 = x + n by omega, Nat.add_mod_right, Nat.mod_eq_of_lt hx]
  · rw [show x + 1 = n by omega, Nat.mod_self, Nat.zero_add, Nat.mod_eq_of_lt (by omega)]; omega
theorem prevT_perm {n : Nat} (h : 0 < n) : ((List.range n).map (prevT n)).Perm (List.range n) := by
  have h1 := (next_perm h).map (prevT n)
  rw [List.map_map] at h1
  have e : (List.range n).map (prevT n ∘ fun x => (x + 1) % n) = List.range n := by
    conv => rhs; rw [← List.map_id (List.range n)]
    refine List.map_congr_left fun x hx => ?_
    rw [List.mem_range] at hx
    exact next_prevT hx
  rw [e] at h1
  exact h1.symm
theorem lastT_prev {s : List UInt8} {x : Nat} : lastT s x = s.getD (prevT s.length x) 0 := rfl
/-- A turn is known by its bytes. -/
theorem rotT_eq_iff {s : List UInt8} {x y : Nat} (hx : x < s.length) (hy : y < s.length) : rotT s x = rotT s y ↔ ∀ m, s.getD ((x + m) % s.length) 0 = s.getD ((y + m) % s.length) 0 := by
  have h0 : 0 < s.length := by omega
  constructor
  · intro h m
    have hm : m % s.length < s.length := Nat.mod_lt _ h0
    have h1 := rotT_cyc hx hm
    have h2 := rotT_cyc hy hm
    rw [h, h2] at h1
    rw [Nat.add_mod_mod, Nat.add_mod_mod] at h1
    exact h1.symm
  · intro h
    apply List.ext_getElem?
    intro j
    rw [rotT_getElem? hx, rotT_getElem? hy, h j]
theorem rotT_next {s : List UInt8} {x y : Nat} (hx : x < s.length) (hy : y < s.length) (h : rotT s x = rotT s y) : rotT s ((x + 1) % s.length) = rotT s ((y + 1) % s.length) := by
  have h0 : 0 < s.length := by omega
  refine (rotT_eq_iff (Nat.mod_lt _ h0) (Nat.mod_lt _ h0)).2 fun m => ?_
  have := (rotT_eq_iff hx hy).1 h (1 + m)
  rw [Nat.mod_add_mod, Nat.mod_add_mod, Nat.add_assoc, Nat.add_assoc]
  exact this
theorem rotT_first {s : List UInt8} {x y : Nat} (hx : x < s.length) (hy : y < s.length) (h : rotT s x = rotT s y) : s.getD x 0 = s.getD y 0 := by
  have := (rotT_eq_iff hx hy).1 h 0
  rwa [Nat.add_zero, Nat.add_zero, Nat.mod_eq_of_lt hx, Nat.mod_eq_of_lt hy] at this
/-- Places by their bytes, and of the same by place. -/
def ltB (t : List UInt8) (x y : Nat) : Prop := t.getD x 0 < t.getD y 0 ∨ (t.getD x 0 = t.getD y 0 ∧ x < y)
instance (t : List UInt8) (x y : Nat) : Decidable (ltB t x y) := inferInstanceAs (Decidable (_ ∨ _))
theorem ltB_irrefl (t : List UInt8) (x : Nat) : ¬ ltB t x x := by
  rintro (h | ⟨_, h⟩)
  · exact UInt8.lt_irrefl _ h
  · omega
theorem ltB_trans {t : List UInt8} {x y z : Nat} (h1 : ltB t x y) (h2 : ltB t y z) : ltB t x z := by
  rcases h1 with h1 | ⟨e1, h1⟩
  · rcases h2 with h2 | ⟨e2, h2⟩
    · exact .inl (UInt8.lt_trans h1 h2)
    · rw [e2] at h1; exact .inl h1
  · rcases h2 with h2 | ⟨e2, h2⟩
    · rw [← e1] at h2; exact .inl h2
    · exact .inr ⟨e1.trans e2, by omega⟩
theorem ltB_tri {t : List UInt8} {x y : Nat} (h1 : ¬ ltB t x y) (h2 : ¬ ltB t y x) : x = y := by
  have e : t.getD x 0 = t.getD y 0 := UInt8.le_antisymm (UInt8.not_lt.1 fun h => h2 (.inl h)) (UInt8.not_lt.1 fun h => h1 (.inl h))
  rcases Nat.lt_trichotomy x y with h | h | h
  · exact absurd (.inr ⟨e, h⟩) h1
  · exact h
  · exact absurd (.inr ⟨e.symm, h⟩) h2
def ordO (t : List UInt8) : List Nat := (List.range t.length).mergeSort fun x y => decide (¬ ltB t y x)
theorem ordO_perm (t : List UInt8) : (ordO t).Perm (List.range t.length) := List.mergeSort_perm _ _
theorem ordO_len (t : List UInt8) : (ordO t).length = t.length := by rw [(ordO_perm t).length_eq, List.length_range]
theorem ordO_lt {t : List UInt8} {k : Nat} (h : k < t.length) : (ordO t).getD k 0 < t.length := by
  rw [List.getD_eq_getElem?_getD, List.getElem?_eq_getElem (by rw [ordO_len]; exact h)]
  exact List.mem_range.1 ((ordO_perm t).mem_iff.1 (List.getElem_mem _))
theorem ordO_pw (t : List UInt8) : (ordO t).Pairwise fun x y => ¬ ltB t y x := by
  have h := List.pairwise_mergeSort (le := fun (x y : Nat) => decide (¬ ltB t y x)) (fun a b c h1 h2 => by
    rw [decide_eq_true_iff] at *
    intro h3
    by_cases h4 : ltB t b c
    · exact h1 (ltB_trans h4 h3)
    · have := ltB_tri h4 h2
      subst this
      exact h1 h3) (fun a b => by
    rw [Bool.or_eq_true, decide_eq_true_iff, decide_eq_true_iff]
    by_cases h : ltB t b a
    · right; intro h2; exact ltB_irrefl _ _ (ltB_trans h h2)
    · exact .inl h) (List.range t.length)
  exact h.imp fun h => by rwa [decide_eq_true_iff] at h
def getGo (t : List UInt8) (l : List Nat) : Nat → Nat → List UInt8
  | _, 0 => []
  | k, m + 1 => t.getD (l.getD k 0) 0 :: getGo t l (l.getD k 0) m
def getT (t : List UInt8) (at_ : Nat) : List UInt8 := getGo t (ordO t) at_ t.length
theorem getGo_len (t : List UInt8) (l : List Nat) : ∀ m k, (getGo t l k m).length = m
  | 0, _ => rfl
  | m + 1, k => by rw [getGo, List.length_cons, getGo_len t l m]
theorem getT_len (t : List UInt8) (k : Nat) : (getT t k).length = t.length := getGo_len _ _ _ _
/-- Rows that are sorted stand in one way. -/
theorem sorted_one {a b : List (List UInt8)} (h : a.Perm b) (ha : a.Pairwise (· ≤ ·)) (hb : b.Pairwise (· ≤ ·)) : a = b :=
  List.Perm.eq_of_pairwise (le := (· ≤ ·)) (fun _ _ _ _ h1 h2 => List.le_antisymm h1 h2) ha hb h
theorem rows_up (s : List UInt8) : ((turnO s).map (rotT s)).Pairwise (· ≤ ·) := by
  rw [List.pairwise_map]
  refine (turnO_pw s).imp fun h => ?_
  exact fun h2 => h (.inl h2)
/-- The turn before, of a turn that stands at j. -/
def befT (s : List UInt8) (j : Nat) : List UInt8 := rotT s (prevT s.length ((turnO s).getD j 0))
theorem bef_cons {s : List UInt8} {j : Nat} (hj : j < s.length) : befT s j = (turnL s).getD j 0 :: ((rotT s ((turnO s).getD j 0)).take (s.length - 1)) := by
  have ho := turnO_lt hj
  have h0 : 0 < s.length := by omega
  have hp : prevT s.length ((turnO s).getD j 0) < s.length := prevT_lt h0
  have e1 : (turnL s).getD j 0 = s.getD (prevT s.length ((turnO s).getD j 0)) 0 := by
    rw [← lastT_prev]
    unfold turnL
    rw [List.getD_eq_getElem?_getD, List.getElem?_map, List.getD_eq_getElem?_getD, List.getElem?_eq_getElem (by rw [turnO_len]; exact hj)]; rfl
  have h1 := preT_succ (s := s) (m := s.length - 1) hp (by omega)
  rw [prevT_next ho, show s.length - 1 + 1 = s.length by omega] at h1
  unfold befT
  rw [e1]
  unfold preT at h1
  rw [List.take_of_length_le (Nat.le_of_eq (rotT_len (Nat.le_of_lt hp)))] at h1
  exact h1
theorem map_getD {α β : Type} (l : List α) (d : α) (f : α → β) : (List.range l.length).map (fun j => f (l.getD j d)) = l.map f := by
  apply List.ext_getElem?
  intro i
  rw [List.getElem?_map, List.getElem?_map]
  by_cases h : i < l.length
  · rw [List.getElem?_range h, List.getElem?_eq_getElem h, Option.map_some, Option.map_some, List.getD_eq_getElem?_getD, List.getElem?_eq_getElem h]; rfl
  · rw [List.getElem?_eq_none (by rw [List.length_range]; omega), List.getElem?_eq_none (by omega)]; rfl
theorem bef_rows (s : List UInt8) : ((List.range s.length).map (befT s)).Perm ((turnO s).map (rotT s)) := by
  rcases Nat.eq_zero_or_pos s.length with h0 | h0
  · have h1 : turnO s = [] := List.eq_nil_of_length_eq_zero (by rw [turnO_len, h0])
    rw [h0, h1]; exact List.Perm.refl _
  · have e : (List.range s.length).map (befT s) = (turnO s).map (fun x => rotT s (prevT s.length x)) := by
      have := map_getD (turnO s) 0 (fun x => rotT s (prevT s.length x))
      rw [turnO_len] at this
      exact this
    rw [e]
    have h1 := (turnO_perm s).map (fun x => rotT s (prevT s.length x))
    have h2 := ((prevT_perm h0).map (rotT s))
    rw [List.map_map] at h2
    exact h1.trans (h2.trans ((turnO_perm s).map (rotT s)).symm)
/-- By the order of the last bytes the turns before stand in the turns' order. -/
theorem bef_sorted (s : List UInt8) : (ordO (turnL s)).map (befT s) = (turnO s).map (rotT s) := by
  refine sorted_one ?_ ?_ (rows_up s)
  · have h1 := (ordO_perm (turnL s)).map (befT s)
    rw [turnL_len] at h1
    exact h1.trans (bef_rows s)
  · rw [List.pairwise_map]
    have hm : ∀ x ∈ ordO (turnL s), x < s.length := fun x hx => by
      have := List.mem_range.1 ((ordO_perm (turnL s)).mem_iff.1 hx)
      rwa [turnL_len] at this
    refine List.Pairwise.imp_of_mem (fun {x y} hx hy h => ?_) (ordO_pw (turnL s))
    rw [bef_cons (hm x hx), bef_cons (hm y hy)]
    rw [leB_cons]
    by_cases h1 : (turnL s).getD x 0 < (turnL s).getD y 0
    · exact .inl h1
    · right
      have h2 : ¬ (turnL s).getD y 0 < (turnL s).getD x 0 := fun h3 => h (.inl h3)
      have e : (turnL s).getD x 0 = (turnL s).getD y 0 := UInt8.le_antisymm (UInt8.not_lt.1 h2) (UInt8.not_lt.1 h1)
      refine ⟨e, leB_take _ _ _ ?_⟩
      have hxy : x ≤ y := Nat.le_of_not_lt fun h3 => h (.inr ⟨e.symm, h3⟩)
      rcases Nat.eq_or_lt_of_le hxy with h4 | h4
      · rw [h4]; exact List.le_refl _
      · have h5 := List.pairwise_iff_getElem.1 (turnO_pw s) x y (by rw [turnO_len]; exact hm x hx) (by rw [turnO_len]; exact hm y hy) h4
        rw [List.getD_eq_getElem?_getD, List.getD_eq_getElem?_getD, List.getElem?_eq_getElem (by rw [turnO_len]; exact hm x hx), List.getElem?_eq_getElem (by rw [turnO_len]; exact hm y hy)]
        exact fun h6 => h5 (.inl h6)
/-- One step: from a turn to the next. -/
theorem get_step {s : List UInt8} {k i : Nat} (hk : k < s.length) (hi : i < s.length) (h : rotT s ((turnO s).getD k 0) = rotT s i) :
    (ordO (turnL s)).getD k 0 < s.length ∧ (turnL s).getD ((ordO (turnL s)).getD k 0) 0 = s.getD i 0 ∧ rotT s ((turnO s).getD ((ordO (turnL s)).getD k 0) 0) = rotT s ((i + 1) % s.length) := by
  have h0 : 0 < s.length := by omega
  have hl : (ordO (turnL s)).getD k 0 < s.length := by
    have := ordO_lt (t := turnL s) (k := k) (by rw [turnL_len]; exact hk)
    rwa [turnL_len] at this
  have e1 := congrArg (fun l => l[k]?) (bef_sorted s)
  simp only [List.getElem?_map] at e1
  rw [List.getElem?_eq_getElem (by rw [ordO_len, turnL_len]; exact hk), List.getElem?_eq_getElem (by rw [turnO_len]; exact hk)] at e1
  simp only [Option.map_some, Option.some.injEq] at e1
  have e2 : (ordO (turnL s))[k]'(by rw [ordO_len, turnL_len]; exact hk) = (ordO (turnL s)).getD k 0 := by
    rw [List.getD_eq_getElem?_getD, List.getElem?_eq_getElem (by rw [ordO_len, turnL_len]; exact hk)]; rfl
  have e3 : (turnO s)[k]'(by rw [turnO_len]; exact hk) = (turnO s).getD k 0 := by
    rw [List.getD_eq_getElem?_getD, List.getElem?_eq_getElem (by rw [turnO_len]; exact hk)]; rfl
  rw [e2, e3] at e1
  generalize (ordO (turnL s)).getD k 0 = j at *
  unfold befT at e1
  have ho := turnO_lt hl
  have hp : prevT s.length ((turnO s).getD j 0) < s.length := prevT_lt h0
  rw [h] at e1
  refine ⟨hl, ?_, ?_⟩
  · have e4 : (turnL s).getD j 0 = s.getD (prevT s.length ((turnO s).getD j 0)) 0 := by
      rw [← lastT_prev]
      unfold turnL
      rw [List.getD_eq_getElem?_getD, List.getElem?_map, List.getD_eq_getElem?_getD, List.getElem?_eq_getElem (by rw [turnO_len]; exact hl)]; rfl
    rw [e4]
    exact rotT_first hp hi e1
  · have := rotT_next hp hi e1
    rwa [prevT_next ho] at this
theorem get_go {s : List UInt8} : ∀ (m k i : Nat), k < s.length → i + m ≤ s.length → rotT s ((turnO s).getD k 0) = rotT s (i % s.length) → getGo (turnL s) (ordO (turnL s)) k m = (s.drop i).take m
  | 0, k, i, _, _, _ => by simp [getGo]
  | m + 1, k, i, hk, hi, h => by
    have hi' : i < s.length := by omega
    rw [Nat.mod_eq_of_lt hi'] at h
    obtain ⟨h1, h2, h3⟩ := get_step hk hi' h
    rw [getGo, h2, get_go m _ (i + 1) h1 (by omega) h3, List.drop_eq_getElem_cons hi', List.take_succ_cons, List.getD_eq_getElem?_getD, List.getElem?_eq_getElem hi']
    rfl
theorem turnAt_lt {s : List UInt8} (h : s ≠ []) : turnAt s < s.length ∧ (turnO s).getD (turnAt s) 0 = 0 := by
  unfold turnAt
  rw [if_neg h]
  have hm : 0 ∈ turnO s := (turnO_perm s).mem_iff.2 (List.mem_range.2 (List.length_pos_iff.2 h))
  have hl := List.idxOf_lt_length_of_mem hm
  refine ⟨by rw [turnO_len] at hl; exact hl, ?_⟩
  rw [List.getD_eq_getElem?_getD, List.getElem?_eq_getElem hl, List.getElem_idxOf]; rfl
theorem turnL_nil : turnL [] = [] := List.eq_nil_of_length_eq_zero (turnL_len [])
/-- The word is read again. -/
theorem get_turn (s : List UInt8) : getT (turnL s) (turnAt s) = s := by
  by_cases h : s = []
  · subst h; exact List.eq_nil_of_length_eq_zero (by rw [getT_len, turnL_nil]; rfl)
  · obtain ⟨h1, h2⟩ := turnAt_lt h
    have := get_go (s := s) s.length (turnAt s) 0 h1 (by omega) (by rw [h2, Nat.zero_mod])
    unfold getT
    rw [turnL_len, this, List.drop_zero, List.take_length]
/-- Rows, byte by byte from behind, sorted each time. -/
def sortR (l : List (List UInt8)) : List (List UInt8) := l.mergeSort fun a b => decide (¬ b < a)
theorem sortR_pw (l : List (List UInt8)) : (sortR l).Pairwise (· ≤ ·) := by
  have h := List.pairwise_mergeSort (le := fun (a b : List UInt8) => decide (¬ b < a)) (fun a b c h1 h2 => by
    rw [decide_eq_true_iff] at *
    exact List.le_trans (l₁ := a) (l₂ := b) (l₃ := c) h1 h2) (fun a b => by
    rw [Bool.or_eq_true, decide_eq_true_iff, decide_eq_true_iff]
    by_cases h : b < a
    · right; exact List.lt_asymm h
    · exact .inl h) l
  exact h.imp fun h => by rw [decide_eq_true_iff] at h; exact h
def rowsB (t : List UInt8) : Nat → List (List UInt8)
  | 0 => List.replicate t.length []
  | j + 1 => sortR (List.zipWith (fun c r => c :: r) t (rowsB t j))
theorem rows_turn (s : List UInt8) : ∀ j, j ≤ s.length → rowsB (turnL s) j = (turnO s).map (preT s j)
  | 0, _ => by
    rw [rowsB, turnL_len]
    apply List.ext_getElem
    · simp [turnO_len]
    · intro i h1 h2; simp [preT]
  | j + 1, hj => by
    have h0 : 0 < s.length := by omega
    rw [rowsB, rows_turn s j (by omega)]
    have e : List.zipWith (fun c r => c :: r) (turnL s) ((turnO s).map (preT s j)) = (turnO s).map (fun x => preT s (j + 1) (prevT s.length x)) := by
      apply List.ext_getElem
      · simp [turnL_len, turnO_len]
      · intro i h1 h2
        have hi : i < (turnO s).length := by simpa using h2
        have hx : (turnO s)[i] < s.length := List.mem_range.1 ((turnO_perm s).mem_iff.1 (List.getElem_mem hi))
        simp only [List.getElem_zipWith, List.getElem_map]
        rw [preT_succ (prevT_lt h0) (by omega), prevT_next hx]
        congr 1
        simp only [turnL, List.getElem_map]
        exact lastT_prev
    rw [e]
    refine sorted_one ((List.mergeSort_perm _ _).trans ?_) (sortR_pw _) ?_
    · have h1 := (turnO_perm s).map (fun x => preT s (j + 1) (prevT s.length x))
      have h2 := ((prevT_perm h0).map (preT s (j + 1)))
      rw [List.map_map] at h2
      exact h1.trans (h2.trans ((turnO_perm s).map (preT s (j + 1))).symm)
    · rw [List.pairwise_map]
      refine (turnO_pw s).imp fun h => ?_
      exact leB_take _ _ _ (fun h2 => h (.inl h2))
theorem rowsB_len (t : List UInt8) : ∀ j, (rowsB t j).length = t.length
  | 0 => by simp [rowsB]
  | j + 1 => by rw [rowsB, sortR, List.length_mergeSort, List.length_zipWith, rowsB_len t j]; omega
/-- The row that is the word. -/
def backB (t : List UInt8) (at_ : Nat) : List UInt8 := (rowsB t t.length).getD at_ []
theorem back_turn (s : List UInt8) (h : s ≠ []) : backB (turnL s) (turnAt s) = s := by
  obtain ⟨h1, h2⟩ := turnAt_lt h
  unfold backB
  rw [turnL_len, rows_turn s _ (Nat.le_refl _)]
  rw [List.getD_eq_getElem?_getD, List.getElem?_map, List.getElem?_eq_getElem (by rw [turnO_len]; exact h1)]
  rw [List.getD_eq_getElem?_getD, List.getElem?_eq_getElem (by rw [turnO_len]; exact h1)] at h2
  have h3 : (turnO s)[turnAt s]'(by rw [turnO_len]; exact h1) = 0 := h2
  rw [Option.map_some, h3]
  unfold preT rotT
  simp
/-- Both ways say the same. -/
theorem get_back {t : List UInt8} {at_ : Nat} (h : t ≠ []) :
    ((turnL (getT t at_) = t ∧ turnAt (getT t at_) = at_) ↔ (turnL (backB t at_) = t ∧ turnAt (backB t at_) = at_)) ∧
    ((turnL (getT t at_) = t ∧ turnAt (getT t at_) = at_) → getT t at_ = backB t at_) := by
  have hne : ∀ u : List UInt8, turnL u = t → u ≠ [] := fun u hu e => h (by rw [← hu, e, turnL_nil])
  have h1 : (turnL (getT t at_) = t ∧ turnAt (getT t at_) = at_) → getT t at_ = backB t at_ := fun ⟨a, b⟩ => by
    have := back_turn (getT t at_) (hne _ a)
    rw [a, b] at this
    exact this.symm
  have h2 : (turnL (backB t at_) = t ∧ turnAt (backB t at_) = at_) → getT t at_ = backB t at_ := fun ⟨a, b⟩ => by
    have := get_turn (backB t at_)
    rw [a, b] at this
    exact this
  refine ⟨⟨fun h3 => ?_, fun h3 => ?_⟩, h1⟩
  · rw [← h1 h3]; exact h3
  · rw [h2 h3]; exact h3
end Go.Proofs.YtncakjchaniheaaDoor
namespace Go.Proofs.YtncakjchaniheaaDoor
open Go.RowKit Go.Sort Go.Proofs
def cmpO (t : List UInt8) (x y : Nat) : Int := if t.getD x 0 ≠ t.getD y 0 then ((t.getD x 0).toNat : Int) - ((t.getD y 0).toNat : Int) else (x : Int) - (y : Int)
set_option maxHeartbeats 2000000 in
theorem ordCmp_any (s : ByteArray) (B i k : Nat) (hs : s.size ≤ 200) (hi : i < s.size) (hk : k < s.size) (W : World) (hc : W.cell? ⟨B, 0, none⟩ = some (.string s)) :
    Calls Tryd.prog 46 #[.int .i64 (i : Int), .int .i64 (k : Int), .pointer (some ⟨B, 0, none⟩)] W fun e w' => e = .returned (.int .i64 (cmpO (L s) i k)) ∧ ∃ q, w' = W.drewN q := by
  have HV : Hid (cmpO (L s) i k = if (L s).getD i 0 ≠ (L s).getD k 0 then (((L s).getD i 0).toNat : Int) - (((L s).getD k 0).toNat : Int) else (i : Int) - (k : Int)) := rfl
  have hi1 := fun w => run_index_S (P := Tryd.prog) Tryd.underlying9 s i hi w
  have hk1 := fun w => run_index_S (P := Tryd.prog) Tryd.underlying9 s k hk w
  have hx := ((L s).getD i 0).toNat_lt
  have hy := ((L s).getD k 0).toNat_lt
  generalize (L s).getD i 0 = x at *
  generalize (L s).getD k 0 = y at *
  by_cases h0 : x = y
  · have hv : cmpO (L s) i k = (i : Int) - (k : Int) := by rw [HV.out, if_neg (by simp [h0])]
    have HV2 := Lib.hid hv
    subst h0
    have g1 : ((x.toNat : Int) != (x.toNat : Int)) = false := bne_self_eq_false' _
    clear HV hv
    go_enter Tryd.func46, Tryd.ntmps46
    go_wp2_with fail
    go_quiet (fail)
    go_wp2_with fail
    go_ret
    rw [HV2.out]
    exact ⟨rfl, _, rfl⟩
  · have hv : cmpO (L s) i k = (x.toNat : Int) - (y.toNat : Int) := by rw [HV.out, if_pos h0]
    have HV2 := Lib.hid hv
    have hne : x.toNat ≠ y.toNat := fun e => h0 (UInt8.toNat_inj.1 e)
    have g1 : ((x.toNat : Int) != (y.toNat : Int)) = true := by rw [bne_iff_ne]; omega
    clear HV hv h0 hne
    go_enter Tryd.func46, Tryd.ntmps46
    go_wp2_with fail
    go_quiet (fail)
    go_wp2_with fail
    go_quiet (fail)
    go_wp2_with fail
    go_ret
    rw [HV2.out]
    exact ⟨rfl, _, World.drewN_drewN _ _ _⟩
def ordI (s : List UInt8) : List Int := (ordO s).map fun (k : Nat) => (k : Int)
theorem ordI_at (s : List UInt8) {k : Nat} (h : k < s.length) : (ordI s).getD k 0 = ((ordO s).getD k 0 : Nat) := by
  unfold ordI
  rw [List.getD_eq_getElem?_getD, List.getElem?_map, List.getD_eq_getElem?_getD, List.getElem?_eq_getElem (by rw [ordO_len]; exact h)]; rfl
theorem ordI_len (s : List UInt8) : (ordI s).length = s.length := by rw [ordI, List.length_map, ordO_len]
section
variable (s : List UInt8) (m : Nat)
def finU : List (Fin (m + 1)) := (List.range (m + 1)).map (Fin.ofNat (m + 1))
def encU (x : Fin (m + 1)) : Value := .int .i64 (x.val : Int)
def cfU (x y : Fin (m + 1)) : Int := cmpO s x.val y.val
theorem ltB_cmp (x y : Fin (m + 1)) : ltOf (cfU s m) x y = decide (ltB s x.val y.val) := by
  show decide (cmpO s x.val y.val < 0) = _
  rw [Bool.eq_iff_iff, decide_eq_true_iff, decide_eq_true_iff]
  unfold cmpO ltB
  by_cases h0 : s.getD x.val 0 = s.getD y.val 0
  · rw [if_neg (fun h => h h0)]
    constructor
    · intro h; exact .inr ⟨h0, by omega⟩
    · rintro (h | ⟨_, h⟩)
      · rw [h0] at h; exact absurd h (UInt8.lt_irrefl _)
      · omega
  · rw [if_pos h0]
    constructor
    · intro h; exact .inl (UInt8.lt_iff_toNat_lt.2 (by omega))
    · rintro (h | ⟨e, _⟩)
      · have := UInt8.lt_iff_toNat_lt.1 h; omega
      · exact absurd e h0
theorem swoU : SWO (ltOf (cfU s m)) where
  irrefl x := by rw [ltB_cmp]; exact decide_eq_false (ltB_irrefl _ _)
  trans x y z h1 h2 := by
    rw [ltB_cmp, decide_eq_true_iff] at *
    exact ltB_trans h1 h2
  ntrans x y z h1 h2 := by
    rw [ltB_cmp, decide_eq_false_iff_not] at *
    intro h3
    by_cases h4 : ltB s y.val z.val
    · exact h2 h4
    · by_cases h5 : ltB s z.val y.val
      · exact h1 (ltB_trans h3 h5)
      · have := ltB_tri h4 h5
        rw [this] at h1
        exact h1 h3
theorem totU (x y : Fin (m + 1)) (h1 : ltOf (cfU s m) x y = false) (h2 : ltOf (cfU s m) y x = false) : x = y := by
  rw [ltB_cmp, decide_eq_false_iff_not] at *
  exact Fin.ext (ltB_tri h1 h2)
theorem finU_len : (finU m).length = m + 1 := by simp [finU]
theorem finU_val : (finU m).map (fun x => x.val) = List.range (m + 1) := by
  unfold finU
  rw [List.map_map]
  conv => rhs; rw [← List.map_id (List.range (m + 1))]
  apply List.map_congr_left
  intro i hi
  rw [List.mem_range] at hi
  show i % (m + 1) = i
  exact Nat.mod_eq_of_lt hi
theorem finU_enc : (finU m).map (encU m) = ints (idxT (m + 1) (m + 1)) := by
  have h := congrArg (List.map fun (k : Nat) => Value.int .i64 (k : Int)) (finU_val m)
  rw [List.map_map] at h
  have e : ints (idxT (m + 1) (m + 1)) = (List.range (m + 1)).map fun (k : Nat) => Value.int .i64 (k : Int) := by
    unfold ints idxT
    rw [List.map_map]
    apply List.map_congr_left
    intro i hi
    rw [List.mem_range] at hi
    show Value.int .i64 (if i < m + 1 then (i : Int) else 0) = _
    rw [if_pos hi]
  rw [e, ← h]; rfl
theorem sortU_enc (hn : m + 1 = s.length) : ((finU m).mergeSort fun x y => !(ltOf (cfU s m)) y x).map (encU m) = ints (ordI s) := by
  have h1 : ((finU m).mergeSort fun x y => !(ltOf (cfU s m)) y x).map (fun x => x.val) = ordO s := by
    rw [List.map_mergeSort (s := fun x y => decide (¬ ltB s y x)), finU_val, hn]
    · rfl
    · intro a _ b _
      rw [ltB_cmp, Bool.eq_iff_iff]
      simp
  have h := congrArg (List.map fun (k : Nat) => Value.int .i64 (k : Int)) h1
  rw [List.map_map] at h
  have e : ints (ordI s) = (ordO s).map fun (k : Nat) => Value.int .i64 (k : Int) := by
    unfold ints ordI; rw [List.map_map]; rfl
  rw [e, ← h]; rfl
end
theorem ordSort_any (s : ByteArray) (hs : s.size ≤ 200) (w0 w : World) (B g : Nat) (hB : B < w0.heap.size) (hc : w.cell? ⟨B, 0, none⟩ = some (.string s)) (hrow : ArrI w w0.heap.size g s.size (idxT s.size s.size)) (hb : Below w0.heap.size w0 w) :
    Calls Tryd.prog 15 #[.slice (some ⟨g, 0, none⟩) s.size s.size, .func (.func 46) #[] #[.pointer (some ⟨B, 0, none⟩)]] w fun e w' => e = .returned (.tuple #[]) ∧ ArrI w' w0.heap.size g s.size (ordI (L s)) ∧ Below w0.heap.size w0 w' := by
  rcases Nat.eq_zero_or_pos s.size with h0 | h0
  · have h9 : ordI (L s) = idxT s.size s.size := by
      have h1 : (ordI (L s)).length = 0 := by rw [ordI_len, L_len, h0]
      rw [List.eq_nil_of_length_eq_zero h1, h0]; rfl
    rw [h9]
    have h := AnyF.slices_SortFunc_none (P := Tryd.prog) { Tryd.laysSF45 with } (some ⟨g, 0, none⟩) s.size (.func (.func 46) #[] #[.pointer (some ⟨B, 0, none⟩)]) w
    rw [h0] at h hrow ⊢
    refine h.mono ?_
    rintro e w' ⟨rfl, rfl⟩
    exact ⟨rfl, hrow, hb⟩
  obtain ⟨m, hm⟩ : ∃ m, s.size = m + 1 := ⟨s.size - 1, by omega⟩
  have hg := hrow.lt
  have hrow' : w.ownsRow w0.heap.size 3 1 (.slice (some ⟨g, 0, none⟩) s.size s.size) s.size ((finU m).map (encU m)) := by rw [finU_enc, ← hm]; exact hrow
  obtain ⟨g', cap', hv, _, _, _, _, _, hH⟩ := Lib.holds_of_ownsRow hrow' (by intro h; cases h)
  obtain rfl : g = g' := by cases hv; rfl
  have hcmp : CmpLays1 Tryd.prog 46 #[.pointer (some ⟨B, 0, none⟩)] (encU m) (cfU (L s) m) g 0 (finU m).toArray.size w := by
    intro q os dk hdk x y
    refine (ordCmp_any s B x.val y.val hs (by have := x.isLt; omega) (by have := y.isLt; omega) _ ?_).mono ?_
    · unfold sortWorld
      rw [cell?_grow _ _ _ (by simp; have := hb.size; omega), cell?_putRow_other _ _ _ _ _ _ (.inl (show B ≠ g by omega))]
      exact hc
    · rintro e w' ⟨rfl, q, rfl⟩
      exact ⟨rfl, q, #[], (grow_empty _).symm⟩
  have h := Any.slices_SortFunc_total Tryd.laysSF45 (encU m) (fun _ => rfl) (cfU (L s) m) (swoU _ _) 46 #[.pointer (some ⟨B, 0, none⟩)] g 0 s.size (finU m).toArray w (enters_of Tryd.func46 (by kernel_rfl) rfl) hcmp hH hg.2 (by simp [finU_len]; omega) (totU _ _)
  have ez : (finU m).toArray.size = s.size := by rw [List.size_toArray, finU_len, hm]
  rw [ez] at h
  refine h.mono ?_
  rintro e w' ⟨rfl, q, os, rfl⟩
  have hl : ((finU m).mergeSort fun x y => !(ltOf (cfU (L s) m)) y x).length = s.size := by rw [List.length_mergeSort, finU_len, hm]
  have h1 := Lib.ownsRow_putRow (q := q) hrow' hl (Nat.le_refl _)
  rw [List.take_of_length_le (by rw [hl]; exact Nat.le_refl _), sortU_enc _ _ (by rw [L_len, hm])] at h1
  have hb1 := Lib.below_putRow (enc := encU m) (q := q) (d := ((finU m).mergeSort fun x y => !(ltOf (cfU (L s) m)) y x).toArray) hb hg.1
  refine ⟨rfl, own_below h1 (below_growT _ _), ?_⟩
  exact hb1.trans ((below_growT _ _).mono hb1.size)
set_option maxRecDepth 100000 in
set_option maxHeartbeats 4000000 in
theorem turnOrder_any (s : ByteArray) (hs : s.size ≤ 200) (w : World) :
    Calls Tryd.prog 30 #[.string s] w fun e w' => ∃ g, e = .returned (.slice (some ⟨g, 0, none⟩) s.size s.size) ∧ ArrI w' w.heap.size g s.size (ordI (L s)) ∧ Below w.heap.size w w' := by
  obtain ⟨i0, hi0, hz0, hz1, hz2⟩ := info_parts info_int
  obtain ⟨w1, hw1⟩ : ∃ w1, w1 = w.alloc (.cells #[.string s] 9) := ⟨_, rfl⟩
  have hbox : w1.cell? ⟨w.heap.size, 0, none⟩ = some (.string s) := by rw [hw1]; exact (Blk.new_ w 9 #[.string s]).cell0
  have hb1 : Below w.heap.size w w1 := by rw [hw1]; exact (Below.refl _ _).alloc (Nat.le_refl _) _
  have hz0' : w.heap.size < w1.heap.size := by rw [hw1]; simp
  have HBOX := Lib.hid hbox
  go_enter Tryd.func30, Tryd.ntmps30
  go_wp2_with (at_make; go_must (refine wpList_make_full _ rfl _ _ _ rfl w1.heap.size 3 i0 _ 1 Tryd.underlying25 hi0 hz0 hz1 .i64 .i64 (s.size : Int) (s.size : Int) s.size rfl rfl (by omega) (by omega) (by rw [hz2]; omega) (by unfold maxLen; omega) (by rw [hw1]; exact Nat.le_refl _) ?_); intro w2 hown2 hg2)
  rw [← hw1] at hg2
  have hb2 : Below w1.heap.size w1 w2 := (Below.refl _ _).grown hg2 (Nat.le_refl _) (fun _ h => by cases h)
  have hown2 : ArrI w2 w1.heap.size w1.heap.size s.size (List.replicate s.size 0) := by
    rw [made_ints] at hown2
    rw [← hw1] at hown2
    exact hown2
  clear hg2 hbox
  have hsz1 : w1.heap.size = w.heap.size + 1 := by rw [hw1]; simp
  obtain ⟨g, hg⟩ : ∃ g, w.heap.size + 1 = g := ⟨_, rfl⟩
  have hown2 : ArrI w2 w1.heap.size g s.size (idxT s.size 0) := by rw [← hg, ← hsz1, idxT_zero]; exact hown2
  rw [hg]
  clear hsz1
  have HG := Lib.hid hg
  clear hg hw1
  go_loopw [10] (fun iv wr => ∃ i : Nat, i ≤ s.size ∧ iv = .int .i64 (i : Int) ∧ ArrI wr w1.heap.size g s.size (idxT s.size i) ∧ Below w1.heap.size w1 wr) (fun iv _ => s.size - (intOf iv).toNat)
  case atStart => exact ⟨0, Nat.zero_le _, rfl, hown2, hb2⟩
  case round =>
    clear hown2 hb2
    obtain ⟨i, hi, rfl, hrow, hb⟩ := hrel
    have hgl := hrow.lt
    by_cases hlt : i < s.size
    · have g1 : decide ((i : Int) < (s.size : Int)) = true := decide_eq_true (by omega)
      have g1' : decide (i < s.size) = true := decide_eq_true hlt
      have c0 := hrow.at_ (k := i) hlt
      have f0 := hrow.free i
      have hln := hrow.len
      have HN : Hid ((idxT s.size i).set i (i : Int) = idxT s.size (i + 1)) := idxT_set _ _
      have HROW := Lib.hid hrow
      clear hrow
      generalize (idxT s.size i).getD i 0 = u at *
      go_wp2_with fail
      refine ⟨⟨i + 1, by omega, by go_num, ?_, hb.setCell (p := ⟨g, i, none⟩) hgl.1 _⟩, by simp [intOf]; omega⟩
      rw [← HN.out]
      exact HROW.out.set_ i _
    · obtain rfl : i = s.size := by omega
      have g1 : decide ((s.size : Int) < (s.size : Int)) = false := decide_eq_false (by omega)
      have g1' : decide (s.size < s.size) = false := decide_eq_false hlt
      have hbx := (hb.cell (p := ⟨w.heap.size, 0, none⟩) hz0').trans HBOX.out
      have HS := Lib.hid (ordSort_any s hs w1 wr w.heap.size g hz0' hbx hrow hb)
      clear hrow hbx
      go_wp2_with fail
      refine HS.out.mono ?_
      rintro e w3 ⟨rfl, hrow3, hb3⟩
      have HR3 := Lib.hid hrow3
      clear hrow3 HS
      go_wp2_with fail
      go_ret
      exact ⟨g, rfl, own_lower HR3.out hb1.size, hb1.trans (hb3.mono hb1.size)⟩
/-- What turn.Get answers. -/
def getOk (t : List UInt8) (k : Nat) : Prop := turnL (getT t k) = t ∧ turnAt (getT t k) = k
instance (t : List UInt8) (k : Nat) : Decidable (getOk t k) := inferInstanceAs (Decidable (_ ∧ _))
def tgE (t : List UInt8) (at_ : Int) : Int := if 200 < t.length then 2 else if at_ < 0 ∨ max 1 (t.length : Int) ≤ at_ then 1 else if getOk t at_.toNat then 0 else 3
def tgV (t : List UInt8) (at_ : Int) : List UInt8 := if tgE t at_ = 0 then getT t at_.toNat else []
def getPos (l : List Nat) : Nat → Nat → Nat
  | k, 0 => k
  | k, m + 1 => getPos l (l.getD k 0) m
theorem getPos_succ (l : List Nat) : ∀ m k, getPos l k (m + 1) = l.getD (getPos l k m) 0
  | 0, _ => rfl
  | m + 1, k => by rw [getPos, getPos_succ l m]; rfl
theorem getGo_snoc (t : List UInt8) (l : List Nat) : ∀ m k, getGo t l k (m + 1) = getGo t l k m ++ [t.getD (getPos l k (m + 1)) 0]
  | 0, _ => rfl
  | m + 1, k => by rw [getGo, getGo_snoc t l m, getGo]; rfl
set_option maxRecDepth 100000 in
set_option maxHeartbeats 8000000 in
theorem turnGet_any (t : ByteArray) (at_ : Int) (ha : -9223372036854775808 ≤ at_ ∧ at_ ≤ 9223372036854775807) (w : World) :
    Calls Tryd.prog 13 #[.string t, .int .i64 at_] w fun e w' => e = .returned (.tuple #[.string (S (tgV (L t) at_)), .int .i64 (tgE (L t) at_)]) ∧ Below w.heap.size w w' := by
  obtain ⟨j0, hj0, hy0, hy1, hy2⟩ := info_parts infoU8T
  have HLL := Lib.hid (L_len t)
  by_cases hs : 200 < t.size
  · have HE : Hid (longErr t.size = 2) := by unfold Hid longErr; rw [if_pos hs]
    have HT : Hid (tgE (L t) at_ = 2) := by unfold Hid tgE; rw [HLL.out, if_pos hs]
    have HV : Hid (tgV (L t) at_ = []) := by unfold Hid tgV; rw [HT.out]; rfl
    rw [HT.out, HV.out]
    go_enter Tryd.func13, Tryd.ntmps13
    go_wp2_with fail
    refine (wordCheck_any t _).mono ?_
    rintro e w1 ⟨rfl, hb1⟩
    rw [HE.out]
    go_wp2_with fail
    go_ret2
    exact ⟨rfl, hb1⟩
  have HE : Hid (longErr t.size = 0) := by unfold Hid longErr; rw [if_neg hs]
  by_cases hbad : at_ < 0 ∨ max 1 (t.size : Int) ≤ at_
  · have HT : Hid (tgE (L t) at_ = 1) := by unfold Hid tgE; rw [HLL.out, if_neg hs, if_pos hbad]
    have HV : Hid (tgV (L t) at_ = []) := by unfold Hid tgV; rw [HT.out]; rfl
    rw [HT.out, HV.out]
    by_cases h0 : at_ < 0
    · have g1 : decide (at_ < 0) = true := decide_eq_true h0
      go_enter Tryd.func13, Tryd.ntmps13
      go_wp2_with fail
      refine (wordCheck_any t _).mono ?_
      rintro e w1 ⟨rfl, hb1⟩
      rw [HE.out]
      go_wp2_with fail
      go_ret2
      exact ⟨rfl, hb1⟩
    · have g1 : decide (at_ < 0) = false := decide_eq_false h0
      have g2 : decide (max 1 (t.size : Int) ≤ at_) = true := decide_eq_true (hbad.resolve_left h0)
      go_enter Tryd.func13, Tryd.ntmps13
      go_wp2_with fail
      refine (wordCheck_any t _).mono ?_
      rintro e w1 ⟨rfl, hb1⟩
      rw [HE.out]
      go_wp2_with fail
      go_ret2
      exact ⟨rfl, hb1⟩
  have g1 : decide (at_ < 0) = false := decide_eq_false (by omega)
  have g2 : decide (max 1 (t.size : Int) ≤ at_) = false := decide_eq_false (by omega)
  obtain ⟨k0, hk0⟩ : ∃ k0 : Nat, at_ = (k0 : Int) := ⟨at_.toNat, by omega⟩
  subst hk0
  have hk1 : k0 < t.size ∨ (k0 = 0 ∧ t.size = 0) := by omega
  have HT : Hid (tgE (L t) (k0 : Int) = if getOk (L t) k0 then 0 else 3) := by unfold Hid tgE; rw [HLL.out, if_neg hs, if_neg hbad, Int.toNat_natCast]
  have hk2 : k0 ≤ 200 := by omega
  clear hbad
  go_enter Tryd.func13, Tryd.ntmps13
  go_wp2_with fail
  refine (wordCheck_any t _).mono ?_
  rintro e w1 ⟨rfl, hb1⟩
  rw [HE.out]
  go_wp2_with fail
  refine (turnOrder_any t (by omega) _).mono ?_
  rintro e w2 ⟨g, rfl, hrow, hb2⟩
  have HROW := Lib.hid hrow
  have hb12 := bthen hb1 hb2
  have hwz := hb12.size
  clear hrow hb1
  go_wp2_with fail
  go_loopw [8, 9, 32] (fun bv kv iv wr => ∃ i k : Nat, iv = .int .i64 (i : Int) ∧ i ≤ t.size ∧ kv = .int .i64 (k : Int) ∧ (k < t.size ∨ t.size = 0) ∧ Hid (k = getPos (ordO (L t)) k0 i) ∧ wr.ownsRow w2.heap.size 5 1 bv i (byteCells (getGo (L t) (ordO (L t)) k0 i)) ∧ Below w2.heap.size w2 wr) (fun _ _ iv _ => t.size - (intOf iv).toNat)
  case atStart => exact ⟨0, k0, rfl, Nat.zero_le _, rfl, by omega, rfl, World.ownsRow_nil _ _ _ _, Below.refl _ _⟩
  case round =>
    obtain ⟨i, k, rfl, hi, rfl, hk, HK, hown, hb⟩ := hrel
    have hbs := hb.size
    by_cases hlt : i < t.size
    · have g3 : decide ((i : Int) < (t.size : Int)) = true := decide_eq_true (by omega)
      have g3' : decide (i < t.size) = true := decide_eq_true hlt
      have hkl : k < t.size := by omega
      have c0 := (HROW.out.below hb).at_ (k := k) hkl
      rw [ordI_at _ (by rw [HLL.out]; exact hkl)] at c0
      have hq := ordO_lt (t := L t) (k := k) (by rw [HLL.out]; exact hkl)
      rw [HLL.out] at hq
      have HK2 : Hid ((ordO (L t)).getD k 0 = getPos (ordO (L t)) k0 (i + 1)) := by rw [Hid, getPos_succ, ← HK.out]
      have HSN := Lib.hid (getGo_snoc (L t) (ordO (L t)) i k0)
      rw [Hid, ← HK2.out] at HSN
      have HSN := Lib.hid HSN
      have HO := Lib.hid hown
      clear hown HK
      generalize (ordO (L t)).getD k 0 = q at *
      have hix := fun w => run_index_S (P := Tryd.prog) Tryd.underlying9 t q hq w
      generalize (L t).getD q 0 = y at *
      have happ : byteCells (getGo (L t) (ordO (L t)) k0 i) ++ [.int .u8 (y.toNat : Int)] = byteCells (getGo (L t) (ordO (L t)) k0 (i + 1)) := by
        rw [HSN.out]; simp [byteCells]
      have HAPP := Lib.hid happ
      clear happ HSN
      go_wp2_with (at_builtin; go_must (refine wpList_appG rfl _ _ _ rfl w2.heap.size 5 j0 _ 1 1 Tryd.underlying44 hj0 hy0 hy1 hy2 rfl (by omega) _ i (byteCells (getGo (L t) (ordO (L t)) k0 i)) rfl (World.ownsRow.alloc HO.out _) ⟨_, 0, none⟩ 1 1 [.int .u8 (y.toNat : Int)] rfl rfl (cell_one_new _ _ _) (by simp [Value.oneCell']) (by omega) (by omega) (by simp; omega) ?_); intro v6 w6 hown6 hg6 hb6)
      have hB6 : Below w2.heap.size w2 w6 := (hb.alloc hbs _).trans hb6
      go_roundw
      case rel => exact ⟨i + 1, q, by go_num, by omega, rfl, .inl hq, HK2, by rw [← HAPP.out]; exact hown6, hB6⟩
      case measure => simp [intOf]; omega
    · obtain rfl : i = t.size := by omega
      have g3 : decide ((t.size : Int) < (t.size : Int)) = false := decide_eq_false (by omega)
      have g3' : decide (t.size < t.size) = false := decide_eq_false hlt
      have HG : Hid (getGo (L t) (ordO (L t)) k0 t.size = getT (L t) k0) := by unfold Hid getT; rw [HLL.out]
      have HGZ : Hid ((getT (L t) k0).length = t.size) := by rw [Hid, getT_len, HLL.out]
      rw [HG.out] at hown
      have HP := Lib.hid (fun W => turnPut_any (S (getT (L t) k0)) (by rw [S_size, HGZ.out]; omega) W)
      rw [Hid, L_S] at HP
      have HP := Lib.hid HP
      have HTV : Hid (tgV (L t) (k0 : Int) = if getOk (L t) k0 then getT (L t) k0 else []) := by
        unfold Hid tgV
        rw [HT.out]
        by_cases h : getOk (L t) k0
        · rw [if_pos h, if_pos h, Int.toNat_natCast]; rfl
        · rw [if_neg h, if_neg h]; rfl
      have HOKD : Hid (getOk (L t) k0 ↔ (turnL (getT (L t) k0) = L t ∧ turnAt (getT (L t) k0) = k0)) := Iff.rfl
      obtain ⟨A, c, rfl, hnc, hcm, hrx⟩ := own_form hown
      have HRX := Lib.hid hrx
      clear hown hrx HG HROW HK
      generalize getT (L t) k0 = u at *
      have hcv := run_bytes_string (P := Tryd.prog) wr (src := 44) (dst := 9) Tryd.underlying44 Tryd.underlying5 Tryd.underlying9 (c := c) HRX.out
      go_wp2_with fail
      refine (HP.out _).mono ?_
      rintro e w5 ⟨rfl, hb5⟩
      have hcv2 := run_bytes_string (P := Tryd.prog) w5 (src := 44) (dst := 9) Tryd.underlying44 Tryd.underlying5 Tryd.underlying9 (c := c) (HRX.out.below hb5)
      have hB5 : Below w.heap.size w w5 := bthen hb12 (hb.trans (hb5.mono hbs))
      have hau : turnAt u ≤ 200 ∨ True := .inr trivial
      clear HRX hcv HP
      by_cases h1 : turnL u = L t
      · have y1 : ((S (turnL u)).toList == t.toList) = true := by rw [h1, S_L]; exact beq_self_eq_true _
        by_cases h2 : turnAt u = k0
        · have y2 : (((turnAt u : Nat) : Int) != (k0 : Int)) = false := by rw [h2]; exact bne_self_eq_false' _
          have y2' : (turnAt u != k0) = false := by rw [h2]; exact bne_self_eq_false' _
          have hok : getOk (L t) k0 := HOKD.out.2 ⟨h1, h2⟩
          have HOK := Lib.hid hok
          clear h1 h2 hok HOKD
          go_wp2_with fail
          go_ret2
          rw [HTV.out, HT.out, if_pos HOK.out, if_pos HOK.out]
          exact ⟨rfl, hB5⟩
        · have y2 : (((turnAt u : Nat) : Int) != (k0 : Int)) = true := by rw [bne_iff_ne]; omega
          have y2' : (turnAt u != k0) = true := by rw [bne_iff_ne]; exact h2
          have hok : ¬ getOk (L t) k0 := fun h => h2 (HOKD.out.1 h).2
          have HOK := Lib.hid hok
          clear h1 h2 hok HOKD
          go_wp2_with fail
          go_ret2
          rw [HTV.out, HT.out, if_neg HOK.out, if_neg HOK.out]
          exact ⟨rfl, hB5⟩
      · have y1 : ((S (turnL u)).toList == t.toList) = false := by
          rw [beq_eq_false_iff_ne]
          intro h
          rw [ByteArray.toList_eq, ByteArray.toList_eq] at h
          apply h1
          have h3 : L (S (turnL u)) = L t := h
          rwa [L_S] at h3
        have hok : ¬ getOk (L t) k0 := fun h => h1 (HOKD.out.1 h).1
        have HOK := Lib.hid hok
        clear h1 hok HOKD
        go_wp2_with fail
        go_ret2
        rw [HTV.out, HT.out, if_neg HOK.out, if_neg HOK.out]
        exact ⟨rfl, hB5⟩
end Go.Proofs.YtncakjchaniheaaDoor
namespace Go.Proofs.YtncakjchaniheaaDoor
/-- Ages, read again. -/
theorem gets_ages_r : ∀ r : List UInt8, gets (ages r.reverse r.reverse.length) = r.reverse
  | [] => rfl
  | c :: r => by
    rw [List.reverse_cons]
    have h1 := gets_ages_r r
    generalize r.reverse = u at *
    rw [List.length_append, List.length_singleton, ages_snoc, gets_snoc, ages_app, h1]
    congr 1
    rw [List.take_append_of_le_length (Nat.le_refl _), List.take_length, List.getD_eq_getElem?_getD (l := u ++ [c]), List.getElem?_append_right (Nat.le_refl _), Nat.sub_self]
    show [(shelfA u).getD (ago u c) 0] = [c]
    unfold ago
    have hm : c ∈ shelfA u := mem_shelfR u.reverse c
    rw [List.getD_eq_getElem?_getD, List.getElem?_eq_getElem (List.idxOf_lt_length_of_mem hm), List.getElem_idxOf]; rfl
theorem gets_ages (u : List UInt8) : gets (ages u u.length) = u := by
  have := gets_ages_r u.reverse
  rwa [List.reverse_reverse] at this
theorem ages_lt (u : List UInt8) (n : Nat) : ∀ k ∈ ages u n, k < 256 := by
  intro k hk
  unfold ages at hk
  obtain ⟨i, _, rfl⟩ := List.mem_map.1 hk
  exact ago_lt _ _
theorem get_put {s : ByteArray} (hs : s.size ≤ 200) : getE (putV s) = 0 ∧ getV (putV s) = L s ∧ (putV s).length = s.size := by
  have e : putV s = agesI (L s) s.size := by unfold putV; rw [if_neg (by omega)]
  have hE : getE (putV s) = 0 := by
    unfold getE
    rw [e, agesI_len, if_neg (by omega), if_pos]
    unfold inB
    rw [List.all_eq_true]
    intro x hx
    unfold agesI at hx
    obtain ⟨k, hk, rfl⟩ := List.mem_map.1 hx
    have := ages_lt _ _ k hk
    rw [decide_eq_true_iff]; omega
  refine ⟨hE, ?_, by rw [e, agesI_len]⟩
  unfold getV
  rw [if_pos hE, e]
  have en : natsOf (agesI (L s) s.size) = ages (L s) (L s).length := by
    unfold natsOf agesI
    rw [List.map_map, L_len]
    conv => rhs; rw [← List.map_id (ages (L s) s.size)]
    exact List.map_congr_left fun k _ => rfl
  rw [en, gets_ages]
/-- The words that are made for lengths: none begins another. -/
theorem nx_mono {ns : List Nat} {n i n' i' : Nat} (h : n < n' ∨ (n = n' ∧ i ≤ i')) : nx ns n i ≤ nx ns n' i' := by
  have key : ∀ (ns : List Nat) j, nxF n i j ns ≤ nxF n' i' j ns := by
    intro ns
    induction ns with
    | nil => intro j; exact Nat.le_refl _
    | cons m r ih =>
      intro j
      have := ih (j + 1)
      simp only [nxF]
      by_cases h1 : m < n ∨ (m = n ∧ j < i)
      · rw [if_pos h1, if_pos (by omega)]; omega
      · rw [if_neg h1]; omega
  exact key ns 0
theorem bw_take : ∀ (n m x : Nat), m ≤ n → (bw x n).take m = bw (x / 2 ^ (n - m)) m
  | n, 0, x, _ => by simp [bw]
  | 0, m + 1, _, h => absurd h (by omega)
  | n + 1, m + 1, x, h => by
    have ih := bw_take n m x (by omega)
    rw [show n + 1 - (m + 1) = n - m by omega]
    simp only [bw, List.take_succ_cons]
    rw [ih, Nat.div_div_eq_div_mul, ← Nat.pow_add, show n - m + m = n by omega]
theorem bw_inj : ∀ (n x y : Nat), bw x n = bw y n → x % 2 ^ n = y % 2 ^ n
  | 0, x, y, _ => by rw [Nat.pow_zero, Nat.mod_one, Nat.mod_one]
  | n + 1, x, y, h => by
    simp only [bw, List.cons.injEq] at h
    obtain ⟨h1, h2⟩ := h
    have ih := bw_inj n x y h2
    rw [mod_succ, mod_succ y, ih]
    have e : x / 2 ^ n % 2 = y / 2 ^ n % 2 := by
      have a : x / 2 ^ n % 2 < 2 := Nat.mod_lt _ (by omega)
      have b : y / 2 ^ n % 2 < 2 := Nat.mod_lt _ (by omega)
      generalize x / 2 ^ n % 2 = p at *
      generalize y / 2 ^ n % 2 = q at *
      rcases (by omega : p = 0 ∨ p = 1) with rfl | rfl <;> rcases (by omega : q = 0 ∨ q = 1) with rfl | rfl <;> first | rfl | (exact absurd h1 (by decide))
    rw [e]
theorem bw_bits : ∀ (n x : Nat), (bw x n).all isBit = true
  | 0, _ => rfl
  | n + 1, x => by
    simp only [bw, List.all_cons, Bool.and_eq_true]
    refine ⟨?_, bw_bits n x⟩
    have a : x / 2 ^ n % 2 < 2 := Nat.mod_lt _ (by omega)
    generalize x / 2 ^ n % 2 = p at *
    rcases (by omega : p = 0 ∨ p = 1) with rfl | rfl <;> rfl
theorem wd_front {ns : List Nat} (hr : ∀ m ∈ ns, 1 ≤ m ∧ m ≤ 12) (ht : total ns ≤ 4096) {i k : Nat} (hi : i < ns.length) (hk : k < ns.length) (hne : i ≠ k) : pfx (wdAt ns i) (wdAt ns k) = false := by
  cases h : pfx (wdAt ns i) (wdAt ns k) with
  | false => rfl
  | true =>
    exfalso
    have hl := pfx_len h
    have h1 := pfx_iff.1 h
    have gi : ns.getD i 0 = ns[i] := by rw [List.getD_eq_getElem?_getD, List.getElem?_eq_getElem hi]; rfl
    have gk : ns.getD k 0 = ns[k] := by rw [List.getD_eq_getElem?_getD, List.getElem?_eq_getElem hk]; rfl
    have hni := hr _ (List.getElem_mem hi)
    have hnk := hr _ (List.getElem_mem hk)
    have si : ns[i]? = some (ns.getD i 0) := by rw [gi]; exact List.getElem?_eq_getElem hi
    have sk : ns[k]? = some (ns.getD k 0) := by rw [gk]; exact List.getElem?_eq_getElem hk
    rw [← gi] at hni
    rw [← gk] at hnk
    unfold wdAt at hl h1
    rw [bw_len, bw_len] at hl
    rw [bw_len] at h1
    have ei := nx_hit si
    have ek := nx_hit sk
    have di := nx_dvd (ns := ns) (n := ns.getD i 0) (i := i) hni.2
    have dk := nx_dvd (ns := ns) (n := ns.getD k 0) (i := k) hnk.2
    have li := nx_le ns (ns.getD i 0) (i + 1)
    have lk := nx_le ns (ns.getD k 0) (k + 1)
    have hord : (ns.getD i 0 < ns.getD k 0 ∨ (ns.getD i 0 = ns.getD k 0 ∧ i + 1 ≤ k)) ∨ (ns.getD k 0 = ns.getD i 0 ∧ k + 1 ≤ i) := by omega
    have hmono : nx ns (ns.getD i 0) (i + 1) ≤ nx ns (ns.getD k 0) k ∨ (ns.getD k 0 = ns.getD i 0 ∧ nx ns (ns.getD k 0) (k + 1) ≤ nx ns (ns.getD i 0) i) := by
      rcases hord with h2 | h2
      · exact .inl (nx_mono h2)
      · exact .inr ⟨h2.1, nx_mono (.inr h2)⟩
    clear hord si sk gi gk h
    generalize ns.getD i 0 = a at *
    generalize ns.getD k 0 = b at *
    generalize nx ns a (i + 1) = X1 at *
    generalize nx ns b (k + 1) = Y1 at *
    generalize nx ns a i = X at *
    generalize nx ns b k = Y at *
    rw [bw_take b a _ hl] at h1
    have h3 := bw_inj _ _ _ h1
    have p1 : (2 : Nat) ^ a * 2 ^ (12 - a) = 4096 := by rw [← Nat.pow_add, show a + (12 - a) = 12 by omega]
    have p2 : (2 : Nat) ^ (12 - b) * 2 ^ (b - a) = 2 ^ (12 - a) := by rw [← Nat.pow_add]; congr 1; omega
    have hA : 0 < (2 : Nat) ^ (12 - a) := Nat.two_pow_pos _
    have hB : 0 < (2 : Nat) ^ (12 - b) := Nat.two_pow_pos _
    rw [Nat.div_div_eq_div_mul, p2] at h3
    have q1 : X / 2 ^ (12 - a) < 2 ^ a := by rw [Nat.div_lt_iff_lt_mul hA, p1]; omega
    have q2 : Y / 2 ^ (12 - a) < 2 ^ a := by rw [Nat.div_lt_iff_lt_mul hA, p1]; omega
    rw [Nat.mod_eq_of_lt q1, Nat.mod_eq_of_lt q2] at h3
    have d1 := Nat.div_add_mod Y (2 ^ (12 - a))
    have d2 := Nat.mod_lt Y hA
    have d3 := Nat.div_mul_cancel di
    rw [h3, Nat.mul_comm] at d1
    rcases hmono with h4 | ⟨h4, h5⟩
    · omega
    · subst h4
      omega
theorem codesL_at {ns : List Nat} {i : Nat} (h : i < ns.length) : (codesL ns).getD i [] = wdAt ns i := by
  unfold codesL
  rw [List.getD_eq_getElem?_getD, List.getElem?_map, List.getElem?_range h]; rfl
theorem codesL_len' (ns : List Nat) : (codesL ns).length = ns.length := by simp [codesL]
theorem codes_front {ns : List Nat} (hr : ∀ m ∈ ns, 1 ≤ m ∧ m ≤ 12) (ht : total ns ≤ 4096) : IsFront (codesL ns) := fun i k hi hk hne => by
  rw [codesL_len'] at hi hk
  rw [codesL_at hi, codesL_at hk]
  exact wd_front hr ht hi hk hne
theorem pfx_self (p : List UInt8) : pfx p p = true := pfx_iff.2 (List.take_length)
theorem codes_len {ns : List Nat} (hr : ∀ m ∈ ns, 1 ≤ m ∧ m ≤ 12) {i : Nat} (hi : i < ns.length) : 1 ≤ ((codesL ns).getD i []).length ∧ ((codesL ns).getD i []).length ≤ 12 := by
  rw [codesL_at hi]
  unfold wdAt
  rw [bw_len, List.getD_eq_getElem?_getD, List.getElem?_eq_getElem hi]
  exact hr _ (List.getElem_mem hi)
theorem codes_right {ns : List Nat} (hr : ∀ m ∈ ns, 1 ≤ m ∧ m ≤ 12) (ht : total ns ≤ 4096) (h12 : ns.length ≤ 12) : codeErr (codesL ns) = 0 := by
  unfold codeErr
  rw [codesL_len', if_neg (by omega)]
  have hf := codes_front hr ht
  have key : ∀ n, n ≤ ns.length → errTo (codesL ns) n = 0 := by
    intro n
    induction n with
    | zero => intro _; rfl
    | succ n ih =>
      intro hn
      rw [errTo, if_pos (ih (by omega))]
      have hc := codes_len hr (i := n) (by omega)
      refine wE_0 (fun e => by rw [e] at hc; simp at hc) hc.2 (by rw [codesL_at (by omega)]; exact bw_bits _ _) (fun hm => ?_)
      obtain ⟨j, hj, e⟩ := List.getElem_of_mem hm
      rw [List.length_take, codesL_len'] at hj
      rw [List.getElem_take] at e
      have h1 := hf j n (by rw [codesL_len']; omega) (by rw [codesL_len']; omega) (by omega)
      have e2 : (codesL ns).getD j [] = (codesL ns)[j]'(by rw [codesL_len']; omega) := by
        rw [List.getD_eq_getElem?_getD, List.getElem?_eq_getElem (by rw [codesL_len']; omega)]; rfl
      rw [e2, e, pfx_self] at h1
      cases h1
  exact key _ (Nat.le_refl _)
/-- Words of which none begins another are read again. -/
theorem join_cons (l : List (List UInt8)) (k : Int) (t : List Int) : joinI l (k :: t) = l.getD k.toNat [] ++ joinI l t := by simp [joinI]
theorem pfx_both {a b x y : List UInt8} (h : a ++ x = b ++ y) : pfx a b = true ∨ pfx b a = true := by
  rcases Nat.le_total a.length b.length with h1 | h1
  · left
    refine pfx_iff.2 ?_
    have := congrArg (List.take a.length) h
    rw [List.take_left, List.take_append_of_le_length h1] at this
    exact this.symm
  · right
    refine pfx_iff.2 ?_
    have := congrArg (List.take b.length) h
    rw [List.take_append_of_le_length h1, List.take_left] at this
    exact this
theorem bad_lt {n : Nat} {k : Int} (h : bad n k = false) : 0 ≤ k ∧ k < (n : Int) := by
  have := of_decide_eq_false h
  omega
theorem join_one {l : List (List UInt8)} (hf : IsFront l) (hl : ∀ i, i < l.length → 1 ≤ (l.getD i []).length) : ∀ (ks ts : List Int) (r : List UInt8), ks.any (bad l.length) = false → ts.any (bad l.length) = false → (r = [] ∨ Stuck l r) → joinI l ts = joinI l ks ++ r → ks = ts ∧ r = []
  | [], [], r, _, _, hr, h => by
    have h2 : r = [] := by simpa [joinI] using h.symm
    exact ⟨rfl, h2⟩
  | [], t :: ts, r, _, ht, hr, h => by
    exfalso
    simp only [List.any_cons, Bool.or_eq_false_iff] at ht
    obtain ⟨a, b⟩ := bad_lt ht.1
    have hw := hl t.toNat (by omega)
    rw [join_cons] at h
    have h' : l.getD t.toNat [] ++ joinI l ts = r := by simpa [joinI] using h
    rcases hr with hr | ⟨_, hr⟩
    · rw [hr] at h'
      have := congrArg List.length h'
      rw [List.length_append, List.length_nil] at this
      omega
    · have h1 := hr t.toNat (by omega)
      rw [← h'] at h1
      have h2 : pfx (l.getD t.toNat []) (l.getD t.toNat [] ++ joinI l ts) = true := pfx_iff.2 (by rw [List.take_left])
      rw [h2] at h1; cases h1
  | k :: ks, [], r, hk, _, _, h => by
    exfalso
    simp only [List.any_cons, Bool.or_eq_false_iff] at hk
    obtain ⟨a, b⟩ := bad_lt hk.1
    have hw := hl k.toNat (by omega)
    rw [join_cons] at h
    have := congrArg List.length h
    simp only [joinI, List.flatMap_nil, List.length_nil, List.length_append] at this
    omega
  | k :: ks, t :: ts, r, hk, ht, hr, h => by
    simp only [List.any_cons, Bool.or_eq_false_iff] at hk ht
    obtain ⟨a, b⟩ := bad_lt hk.1
    obtain ⟨c, d⟩ := bad_lt ht.1
    rw [join_cons, join_cons, List.append_assoc] at h
    have e : t.toNat = k.toNat := by
      refine Decidable.byContradiction fun hne => ?_
      rcases pfx_both h with h1 | h1
      · rw [hf _ _ (by omega) (by omega) hne] at h1; cases h1
      · rw [hf _ _ (by omega) (by omega) (Ne.symm hne)] at h1; cases h1
    rw [e] at h
    obtain ⟨h1, h2⟩ := join_one hf hl ks ts r hk.2 ht.2 hr (List.append_cancel_left h)
    have : k = t := by omega
    exact ⟨by rw [this, h1], h2⟩
/-- Signs, how often each comes, and the text in signs. -/
structure CoAt (l : List Int) (t : Nat) (sg : List Int) (wt : List Nat) (tx : List Nat) : Prop where
  len : wt.length = sg.length
  le : sg.length ≤ t
  txe : tx.map (fun k => sg.getD k 0) = l.take t
  lt : ∀ k ∈ tx, k < sg.length
  w : ∀ x ∈ wt, 1 ≤ x ∧ x ≤ t
theorem CoAt.start (l : List Int) : CoAt l 0 [] [] [] := ⟨rfl, Nat.le_refl _, by simp, fun k h => absurd h (by simp), fun x h => absurd h (by simp)⟩
theorem CoAt.fresh {l : List Int} {t : Nat} {sg : List Int} {wt tx : List Nat} (h : CoAt l t sg wt tx) (ht : t < l.length) : CoAt l (t + 1) (sg ++ [l.getD t 0]) (wt ++ [1]) (tx ++ [sg.length]) := by
  refine ⟨by simp [h.len], by rw [List.length_append, List.length_singleton]; have := h.le; omega, ?_, fun k hk => ?_, fun x hx => ?_⟩
  · rw [List.map_append, List.take_succ_eq_append_getElem ht, ← h.txe]
    congr 1
    · refine List.map_congr_left fun k hk => ?_
      rw [List.getD_eq_getElem?_getD, List.getElem?_append_left (h.lt k hk), ← List.getD_eq_getElem?_getD]
    · simp only [List.map_cons, List.map_nil]
      rw [List.getD_eq_getElem?_getD, List.getElem?_append_right (Nat.le_refl _), Nat.sub_self, List.getD_eq_getElem?_getD, List.getElem?_eq_getElem ht]; rfl
  · rw [List.length_append, List.length_singleton]
    rcases List.mem_append.1 hk with h1 | h1
    · have := h.lt k h1; omega
    · rw [List.mem_singleton] at h1; omega
  · rcases List.mem_append.1 hx with h1 | h1
    · have := h.w x h1; omega
    · rw [List.mem_singleton] at h1; omega
theorem CoAt.again {l : List Int} {t : Nat} {sg : List Int} {wt tx : List Nat} (h : CoAt l t sg wt tx) (ht : t < l.length) {k : Nat} (hk : k < sg.length) (e : sg.getD k 0 = l.getD t 0) : CoAt l (t + 1) sg (wt.set k (wt.getD k 0 + 1)) (tx ++ [k]) := by
  refine ⟨by rw [List.length_set]; exact h.len, by have := h.le; omega, ?_, fun j hj => ?_, fun x hx => ?_⟩
  · rw [List.map_append, List.take_succ_eq_append_getElem ht, ← h.txe]
    congr 1
    simp only [List.map_cons, List.map_nil, e]
    rw [List.getD_eq_getElem?_getD, List.getElem?_eq_getElem ht]; rfl
  · rcases List.mem_append.1 hj with h1 | h1
    · exact h.lt j h1
    · rw [List.mem_singleton] at h1; omega
  · rcases List.mem_or_eq_of_mem_set hx with h1 | h1
    · have := h.w x h1; omega
    · have hkw : k < wt.length := by rw [h.len]; exact hk
      have := h.w _ (List.getElem_mem hkw)
      rw [h1, List.getD_eq_getElem?_getD, List.getElem?_eq_getElem hkw]
      simp only [Option.getD_some]
      omega
theorem CoAt.fine {l : List Int} {sg : List Int} {wt tx : List Nat} {t : Nat} (h : CoAt l t sg wt tx) (ht : t ≤ 200) (h12 : sg.length ≤ 12) : wErr (intN wt) = 0 := by
  unfold wErr
  rw [if_neg (by unfold intN; rw [List.length_map, h.len]; omega), if_neg]
  rw [Bool.not_eq_true, List.any_eq_false]
  intro x hx
  unfold intN at hx
  obtain ⟨y, hy, rfl⟩ := List.mem_map.1 hx
  have := h.w y hy
  unfold badW
  rw [decide_eq_true_iff]
  omega
theorem CoAt.bad {l : List Int} {sg : List Int} {wt tx : List Nat} {t : Nat} (h : CoAt l t sg wt tx) (h12 : 12 < sg.length) : wErr (intN wt) = 2 := wErr_large (by unfold intN; rw [List.length_map, h.len]; exact h12)
theorem CoAt.at_ {l : List Int} {sg : List Int} {wt tx : List Nat} (h : CoAt l l.length sg wt tx) {i : Nat} (hi : i < l.length) (ht : tx.length = l.length) : sg.getD (tx.getD i 0) 0 = l.getD i 0 ∧ tx.getD i 0 < sg.length := by
  have h1 := h.txe
  rw [List.take_length] at h1
  have hit : i < tx.length := by omega
  have h2 : (tx.map fun k => sg.getD k 0).getD i 0 = l.getD i 0 := by rw [h1]
  rw [List.getD_eq_getElem?_getD, List.getElem?_map, List.getElem?_eq_getElem hit] at h2
  have e : tx.getD i 0 = tx[i] := by rw [List.getD_eq_getElem?_getD, List.getElem?_eq_getElem hit]; rfl
  rw [e]
  exact ⟨h2, h.lt _ (List.getElem_mem hit)⟩
/-- The word behind its turns. -/
theorem tg_turn {s : List UInt8} (hs : s.length ≤ 200) : tgE (turnL s) (turnAt s : Nat) = 0 ∧ tgV (turnL s) (turnAt s : Nat) = s := by
  have hE : tgE (turnL s) (turnAt s : Nat) = 0 := by
    unfold tgE
    rw [turnL_len, if_neg (by omega), if_neg, if_pos]
    · rw [Int.toNat_natCast]
      unfold getOk
      rw [get_turn]
      exact ⟨rfl, rfl⟩
    · by_cases h : s = []
      · subst h
        have : turnAt [] = 0 := rfl
        rw [this]
        rintro (h | h)
        · omega
        · have : (max 1 ((([] : List UInt8).length : Nat) : Int)) = 1 := rfl
          omega
      · have := (turnAt_lt h).1
        omega
  refine ⟨hE, ?_⟩
  unfold tgV
  rw [if_pos hE, Int.toNat_natCast, get_turn]
end Go.Proofs.YtncakjchaniheaaDoor
