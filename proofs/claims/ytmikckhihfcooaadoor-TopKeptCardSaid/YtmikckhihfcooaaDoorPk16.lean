/- Borders of a word: the longest of a front, and all of them; periods; the root. Plain lists, no program in sight. word.Borders and what the document says of it. The document's borders and periods, and word.Periods. -/
import Derived.Test.YtmikckhihfcooaaDoorPk01
import Derived.Test.YtmikckhihfcooaaDoorPk10
namespace Go.Proofs.YtmikckhihfcooaaDoor
/-- The front of n bytes begins and ends with the same k. -/
def Bd (s : List UInt8) (n k : Nat) : Prop := k ≤ n ∧ ∀ j, j < k → s.getD (n - k + j) 0 = s.getD j 0
instance (s : List UInt8) (n k : Nat) : Decidable (Bd s n k) := inferInstanceAs (Decidable (_ ∧ _))
theorem Bd.zero (s : List UInt8) (n : Nat) : Bd s n 0 := ⟨Nat.zero_le _, fun _ h => absurd h (by omega)⟩
theorem Bd.succ {s : List UInt8} {n k : Nat} : Bd s (n + 1) (k + 1) ↔ Bd s n k ∧ s.getD k 0 = s.getD n 0 := by
  constructor
  · intro h
    refine ⟨⟨by have := h.1; omega, fun j hj => ?_⟩, ?_⟩
    · have := h.2 j (by omega)
      rw [show n + 1 - (k + 1) + j = n - k + j by omega] at this; exact this
    · have := h.2 k (by omega)
      rw [show n + 1 - (k + 1) + k = n by have := h.1; omega] at this; exact this.symm
  · rintro ⟨h, he⟩
    refine ⟨by have := h.1; omega, fun j hj => ?_⟩
    rw [show n + 1 - (k + 1) + j = n - k + j by omega]
    by_cases hjk : j = k
    · subst hjk
      rw [show n - j + j = n by have := h.1; omega]; exact he.symm
    · exact h.2 j (by omega)
theorem Bd.down {s : List UInt8} {n k k' : Nat} (h : Bd s n k) (h' : Bd s n k') (hk : k' ≤ k) : Bd s k k' := by
  refine ⟨hk, fun j hj => ?_⟩
  have h1 := h'.2 j hj
  have h2 := h.2 (k - k' + j) (by omega)
  have := h.1
  rw [show n - k + (k - k' + j) = n - k' + j by omega] at h2
  rw [← h2, h1]
theorem Bd.up {s : List UInt8} {n k k' : Nat} (h : Bd s n k) (h' : Bd s k k') : Bd s n k' := by
  refine ⟨Nat.le_trans h'.1 h.1, fun j hj => ?_⟩
  have := h.1; have := h'.1
  have h1 := h'.2 j hj
  have h2 := h.2 (k - k' + j) (by omega)
  rw [show n - k + (k - k' + j) = n - k' + j by omega] at h2
  rw [h2, h1]
/-- The longest border of at most k bytes. -/
def fbF (s : List UInt8) (n : Nat) : Nat → Nat
  | 0 => 0
  | k + 1 => if Bd s n (k + 1) then k + 1 else fbF s n k
def fb (s : List UInt8) (n : Nat) : Nat := fbF s n (n - 1)
theorem fbF_le (s : List UInt8) (n : Nat) : ∀ k, fbF s n k ≤ k
  | 0 => Nat.le_refl _
  | k + 1 => by
    unfold fbF; split
    · exact Nat.le_refl _
    · exact Nat.le_trans (fbF_le s n k) (Nat.le_succ k)
theorem fbF_bd (s : List UInt8) (n : Nat) : ∀ k, Bd s n (fbF s n k)
  | 0 => Bd.zero s n
  | k + 1 => by
    unfold fbF; split
    · assumption
    · exact fbF_bd s n k
theorem fbF_max (s : List UInt8) (n : Nat) : ∀ k j, j ≤ k → Bd s n j → j ≤ fbF s n k
  | 0, j, hj, _ => by omega
  | k + 1, j, hj, hb => by
    unfold fbF; split
    · exact hj
    · rename_i hn
      refine fbF_max s n k j ?_ hb
      by_cases hjk : j = k + 1
      · subst hjk; exact absurd hb hn
      · omega
theorem fb_lt (s : List UInt8) {n : Nat} (h : 0 < n) : fb s n < n := by
  have := fbF_le s n (n - 1); unfold fb; omega
theorem fb_bd (s : List UInt8) (n : Nat) : Bd s n (fb s n) := fbF_bd s n _
theorem fb_max {s : List UInt8} {n j : Nat} (hj : j < n) (h : Bd s n j) : j ≤ fb s n := fbF_max s n _ _ (by omega) h
theorem fb_eq {s : List UInt8} {n k : Nat} (hk : k < n) (h : Bd s n k) (hm : ∀ j, j < n → Bd s n j → j ≤ k) : fb s n = k :=
  Nat.le_antisymm (hm _ (fb_lt s (by omega)) (fb_bd s n)) (fb_max hk h)
theorem fb_one (s : List UInt8) : fb s 1 = 0 := rfl
/-- Where the walk down the borders of the front of i bytes stands. -/
structure KmpAt (s : List UInt8) (i k : Nat) : Prop where
  lt : k < i
  bd : Bd s i k
  mx : ∀ j, j < i → Bd s i j → s.getD j 0 = s.getD i 0 → j ≤ k
theorem KmpAt.start {s : List UInt8} {i : Nat} (h : 0 < i) : KmpAt s i (fb s i) := ⟨fb_lt s h, fb_bd s i, fun _ hj hb _ => fb_max hj hb⟩
theorem KmpAt.next {s : List UInt8} {i k : Nat} (h : KmpAt s i k) (hk : 0 < k) (hne : s.getD k 0 ≠ s.getD i 0) : KmpAt s i (fb s k) := by
  have h1 := fb_lt s hk
  have hl := h.lt
  refine ⟨by omega, h.bd.up (fb_bd s k), fun j hj hb he => ?_⟩
  have h2 := h.mx j hj hb he
  have h3 : j ≠ k := fun e => hne (e ▸ he)
  exact fb_max (by omega) (h.bd.down hb h2)
theorem KmpAt.hit {s : List UInt8} {i k : Nat} (h : KmpAt s i k) (he : s.getD k 0 = s.getD i 0) : fb s (i + 1) = k + 1 := by
  refine fb_eq (by have := h.lt; omega) (Bd.succ.2 ⟨h.bd, he⟩) fun j hj hb => ?_
  cases j with
  | zero => omega
  | succ j =>
    obtain ⟨h1, h2⟩ := Bd.succ.1 hb
    have := h.mx j (by omega) h1 h2
    omega
theorem KmpAt.miss {s : List UInt8} {i : Nat} (h : KmpAt s i 0) (hne : s.getD 0 0 ≠ s.getD i 0) : fb s (i + 1) = 0 := by
  refine fb_eq (by omega) (Bd.zero _ _) fun j hj hb => ?_
  cases j with
  | zero => omega
  | succ j =>
    obtain ⟨h1, h2⟩ := Bd.succ.1 hb
    have h3 := h.mx j (by omega) h1 h2
    have : j = 0 := by omega
    subst this
    exact absurd h2 hne
/-- The borders of all fronts of 1 .. m bytes. -/
def bords (s : List UInt8) (m : Nat) : List Nat := (List.range m).map fun i => fb s (i + 1)
theorem bords_len (s : List UInt8) (m : Nat) : (bords s m).length = m := by simp [bords]
theorem bords_succ (s : List UInt8) (m : Nat) : bords s (m + 1) = bords s m ++ [fb s (m + 1)] := by simp [bords, List.range_succ]
theorem bords_at (s : List UInt8) (m i : Nat) (h : i < m) : (bords s m)[i]? = some (fb s (i + 1)) := by simp [bords, h]
/-- Is p a period? -/
def perB (s : List UInt8) (p : Nat) : Bool := decide (Bd s s.length (s.length - p))
/-- The periods below m. -/
def pers (s : List UInt8) : Nat → List Nat
  | 0 => []
  | m + 1 => if 0 < m ∧ perB s m = true then pers s m ++ [m] else pers s m
theorem pers_skip {s : List UInt8} {a : Nat} : ∀ {b : Nat}, a ≤ b → (∀ p, a ≤ p → p < b → ¬ (0 < p ∧ perB s p = true)) → pers s b = pers s a
  | 0, hab, _ => by have : a = 0 := by omega
                    subst this; rfl
  | b + 1, hab, h => by
    by_cases he : a = b + 1
    · subst he; rfl
    · rw [pers, if_neg (h b (by omega) (by omega))]
      exact pers_skip (by omega) fun p h1 h2 => h p h1 (by omega)
theorem pers_mem {s : List UInt8} {p : Nat} : ∀ {m : Nat}, p ∈ pers s m ↔ 0 < p ∧ p < m ∧ perB s p = true
  | 0 => by simp [pers]
  | m + 1 => by
    rw [pers]
    split
    · rename_i h
      rw [List.mem_append, pers_mem, List.mem_singleton]
      constructor
      · rintro (⟨h1, h2, h3⟩ | rfl)
        · exact ⟨h1, by omega, h3⟩
        · exact ⟨h.1, by omega, h.2⟩
      · rintro ⟨h1, h2, h3⟩
        by_cases he : p = m
        · exact .inr he
        · exact .inl ⟨h1, by omega, h3⟩
    · rename_i h
      rw [pers_mem]
      constructor
      · rintro ⟨h1, h2, h3⟩; exact ⟨h1, by omega, h3⟩
      · rintro ⟨h1, h2, h3⟩
        refine ⟨h1, ?_, h3⟩
        by_cases he : p = m
        · subst he; exact absurd ⟨h1, h3⟩ h
        · omega
/-- From border k of the whole to the next. -/
theorem pers_step {s : List UInt8} {k : Nat} (hk : 0 < k) (hl : k < s.length) (hb : Bd s s.length k) : pers s (s.length - fb s k) = pers s (s.length - k) ++ [s.length - k] := by
  have h1 := fb_lt s hk
  have e : pers s (s.length - k + 1) = pers s (s.length - k) ++ [s.length - k] := by
    rw [pers, if_pos ⟨by omega, by unfold perB; rw [decide_eq_true_eq, show s.length - (s.length - k) = k by omega]; exact hb⟩]
  rw [← e]
  refine pers_skip (by omega) fun p h2 h3 h4 => ?_
  have h5 : Bd s s.length (s.length - p) := by have := h4.2; unfold perB at this; exact of_decide_eq_true this
  have := fb_max (s := s) (n := k) (j := s.length - p) (by omega) (hb.down h5 (by omega))
  omega
theorem pers_start {s : List UInt8} (h : 0 < s.length) : pers s (s.length - fb s s.length) = [] := by
  have h0 : pers s 1 = [] := by simp [pers]
  have h1 := fb_lt s h
  rw [← h0]
  refine pers_skip (by omega) fun p h2 h3 h4 => ?_
  have h5 : Bd s s.length (s.length - p) := by have := h4.2; unfold perB at this; exact of_decide_eq_true this
  have := fb_max (s := s) (n := s.length) (j := s.length - p) (by omega) h5
  omega
theorem pers_end {s : List UInt8} (h : 0 < s.length) : pers s (s.length + 1) = pers s s.length ++ [s.length] := by
  rw [pers, if_pos ⟨h, by unfold perB; rw [decide_eq_true_eq, Nat.sub_self]; exact Bd.zero _ _⟩]
/-- All periods. -/
def perAll (s : List UInt8) : List Nat := pers s (s.length + 1)
theorem perAll_nil : perAll [] = [] := by simp [perAll, pers]
theorem perAll_mem {s : List UInt8} {p : Nat} : p ∈ perAll s ↔ 0 < p ∧ p ≤ s.length ∧ perB s p = true := by
  rw [perAll, pers_mem]; constructor <;> rintro ⟨h1, h2, h3⟩ <;> exact ⟨h1, by omega, h3⟩
/-- The root's length; 0 of an empty word. -/
def rootF (s : List UInt8) : List Nat → Nat
  | [] => 0
  | p :: l => if s.length % p = 0 then p else rootF s l
def rootN (s : List UInt8) : Nat := rootF s (perAll s)
theorem rootF_app (s : List UInt8) (p : Nat) : ∀ l : List Nat, (∀ q ∈ l, s.length % q ≠ 0) → rootF s (l ++ [p]) = if s.length % p = 0 then p else 0
  | [], _ => rfl
  | q :: l, h => by
    show rootF s (q :: (l ++ [p])) = _
    rw [rootF, if_neg (h q (by simp))]
    exact rootF_app s p l fun q hq => h q (by simp [hq])
theorem rootF_hit (s : List UInt8) (p : Nat) (r : List Nat) (hp : s.length % p = 0) : ∀ l : List Nat, (∀ q ∈ l, s.length % q ≠ 0) → rootF s (l ++ p :: r) = p
  | [], _ => by show rootF s (p :: r) = p; rw [rootF, if_pos hp]
  | q :: l, h => by
    show rootF s (q :: (l ++ p :: r)) = _
    rw [rootF, if_neg (h q (by simp))]
    exact rootF_hit s p r hp l fun q hq => h q (by simp [hq])
theorem rootF_miss (s : List UInt8) : ∀ l : List Nat, (∀ q ∈ l, s.length % q ≠ 0) → rootF s l = 0
  | [], _ => rfl
  | q :: l, h => by rw [rootF, if_neg (h q (by simp))]; exact rootF_miss s l fun q hq => h q (by simp [hq])
theorem pers_prefix {s : List UInt8} {p : Nat} (h0 : 0 < p) (hb : perB s p = true) : ∀ {m : Nat}, p < m → ∃ r, pers s m = pers s p ++ p :: r
  | 0, h => absurd h (by omega)
  | m + 1, h => by
    rw [pers]
    by_cases he : p = m
    · subst he
      rw [if_pos ⟨h0, hb⟩]
      exact ⟨[], rfl⟩
    · obtain ⟨r, hr⟩ := pers_prefix h0 hb (m := m) (by omega)
      split
      · exact ⟨r ++ [m], by rw [hr]; simp⟩
      · exact ⟨r, hr⟩
/-- The root by trying: the first p that divides and is a period. -/
theorem rootN_of {s : List UInt8} {p : Nat} (h0 : 0 < p) (hl : p ≤ s.length) (hb : perB s p = true) (hd : s.length % p = 0) (hf : ∀ q, 0 < q → q < p → s.length % q = 0 → perB s q = false) : rootN s = p := by
  obtain ⟨r, hr⟩ := pers_prefix h0 hb (m := s.length + 1) (by omega)
  unfold rootN perAll
  rw [hr]
  refine rootF_hit s p r hd _ fun q hq he => ?_
  obtain ⟨h1, h2, h3⟩ := pers_mem.1 hq
  rw [hf q h1 h2 he] at h3; cases h3
/-- s is its front of p bytes again and again. -/
theorem perB_iff_rep {s : List UInt8} {p : Nat} (hp : 0 < p) (hd : s.length % p = 0) : perB s p = true ↔ (List.replicate (s.length / p) (s.take p)).flatten = s := by
  have key : ∀ (m : Nat) (l : List UInt8), l.length = p → ((List.replicate m l).flatten.length = m * p) := by
    intro m l hl
    simp [hl]
  have hat : ∀ (m : Nat) (l : List UInt8), l.length = p → ∀ i, i < m * p → (List.replicate m l).flatten.getD i 0 = l.getD (i % p) 0 := by
    intro m l hl
    induction m with
    | zero => intro i hi; omega
    | succ m ih =>
      intro i hi
      rw [List.replicate_succ, List.flatten_cons, List.getD_eq_getElem?_getD]
      by_cases h : i < p
      · rw [List.getElem?_append_left (by omega), Nat.mod_eq_of_lt h, List.getD_eq_getElem?_getD]
      · rw [List.getElem?_append_right (by omega), hl, ← List.getD_eq_getElem?_getD, ih (i - p) (by rw [Nat.add_mul] at hi; omega)]
        congr 1
        rw [Nat.mod_eq_sub_mod (a := i) (by omega)]
  have hle : p ≤ s.length ∨ s.length = 0 := by
    rcases Nat.lt_or_ge s.length p with h | h
    · rw [Nat.mod_eq_of_lt h] at hd; exact .inr hd
    · exact .inl h
  rcases hle with hle | h0
  · have htl : (s.take p).length = p := by rw [List.length_take]; omega
    have hmul : s.length / p * p = s.length := Nat.div_mul_cancel (Nat.dvd_of_mod_eq_zero hd)
    constructor
    · intro hb
      have hb : Bd s s.length (s.length - p) := by unfold perB at hb; exact of_decide_eq_true hb
      have hper : ∀ i, i < s.length → s.getD i 0 = s.getD (i % p) 0 := by
        intro i
        induction i using Nat.strongRecOn with
        | ind i ih =>
          intro hi
          by_cases h : i < p
          · rw [Nat.mod_eq_of_lt h]
          · have h1 := hb.2 (i - p) (by omega)
            rw [show s.length - (s.length - p) + (i - p) = i by omega] at h1
            rw [h1, ih (i - p) (by omega) (by omega)]
            congr 1
            rw [Nat.mod_eq_sub_mod (a := i) (by omega)]
      apply List.ext_getElem
      · rw [key _ _ htl, hmul]
      · intro i h1 h2
        have h3 := hat _ _ htl i (by rw [hmul]; exact h2)
        rw [List.getD_eq_getElem?_getD, List.getElem?_eq_getElem h1, List.getD_eq_getElem?_getD, List.getElem?_take_of_lt (Nat.mod_lt _ hp), ← List.getD_eq_getElem?_getD, ← hper i h2, List.getD_eq_getElem?_getD, List.getElem?_eq_getElem h2] at h3
        exact h3
    · intro he
      unfold perB
      rw [decide_eq_true_eq]
      refine ⟨by omega, fun j hj => ?_⟩
      have h1 := hat _ _ htl (s.length - (s.length - p) + j) (by rw [hmul]; omega)
      have h2 := hat _ _ htl j (by rw [hmul]; omega)
      rw [he] at h1 h2
      rw [h1, h2]
      congr 1
      rw [show s.length - (s.length - p) + j = p + j by omega, Nat.add_mod_left]
  · have : s = [] := List.eq_nil_of_length_eq_zero h0
    subst this
    simp [perB, Bd.zero]
/-- Some p always does: the whole. -/
theorem perB_whole (s : List UInt8) : perB s s.length = true := by unfold perB; rw [decide_eq_true_eq, Nat.sub_self]; exact Bd.zero _ _
/-- As the program puts it: the bytes behind k are the front. -/
theorem bd_iff_take {s : List UInt8} {n k : Nat} (hk : k ≤ n) (hn : n ≤ s.length) : Bd s n k ↔ s.take k = (s.take n).drop (n - k) := by
  constructor
  · intro h
    apply List.ext_getElem
    · simp only [List.length_take, List.length_drop]; omega
    · intro i h1 h2
      simp only [List.length_take] at h1
      have := h.2 i (by omega)
      rw [List.getElem_take, List.getElem_drop, List.getElem_take]
      rw [List.getD_eq_getElem?_getD, List.getElem?_eq_getElem (by omega), List.getD_eq_getElem?_getD, List.getElem?_eq_getElem (by omega)] at this
      exact this.symm
  · intro h
    refine ⟨hk, fun j hj => ?_⟩
    have := congrArg (fun l => l.getD j 0) h
    simp only [List.getD_eq_getElem?_getD, List.getElem?_drop] at this ⊢
    rw [List.getElem?_take_of_lt (by omega), List.getElem?_take_of_lt (by omega)] at this
    exact this.symm
end Go.Proofs.YtmikckhihfcooaaDoor
namespace Go.Proofs.YtmikckhihfcooaaDoor
open Go.RowKit
def bI (s : List UInt8) (m : Nat) : List Int := (bords s m).map Int.ofNat
theorem bI_len (s : List UInt8) (m : Nat) : (bI s m).length = m := by simp [bI, bords_len]
theorem bI_succ (s : List UInt8) (m : Nat) : bI s (m + 1) = bI s m ++ [(fb s (m + 1) : Int)] := by simp [bI, bords_succ]
theorem bI_at (s : List UInt8) (m j : Nat) (h : j < m) : (bI s m).getD j 0 = (fb s (j + 1) : Nat) := by
  rw [List.getD_eq_getElem?_getD, bI, List.getElem?_map, bords_at s m j h]; rfl
theorem eq_bI {s : List UInt8} {m : Nat} {l : List Int} (hl : l.length = m) (h : ∀ j, j < m → l.getD j 0 = (fb s (j + 1) : Nat)) : l = bI s m := by
  apply List.ext_getElem
  · rw [hl, bI_len]
  · intro j h1 h2
    have h3 := h j (by omega)
    rw [← bI_at s m j (by omega)] at h3
    rw [List.getD_eq_getElem?_getD, List.getElem?_eq_getElem h1, List.getD_eq_getElem?_getD, List.getElem?_eq_getElem h2] at h3
    exact h3
theorem neB {a b : UInt8} : ((a.toNat : Int) != (b.toNat : Int)) = decide (a ≠ b) := by
  rw [Bool.eq_iff_iff, bne_iff_ne, decide_eq_true_iff]
  constructor
  · intro h e; exact h (by rw [e])
  · intro h e; exact h (UInt8.toNat_inj.1 (by omega))
theorem eqB {a b : UInt8} : ((a.toNat : Int) == (b.toNat : Int)) = decide (a = b) := by
  rw [Bool.eq_iff_iff, beq_iff_eq, decide_eq_true_iff]
  constructor
  · intro e; exact UInt8.toNat_inj.1 (by omega)
  · intro e; rw [e]
end Go.Proofs.YtmikckhihfcooaaDoor
namespace Go.Proofs.YtmikckhihfcooaaDoor
open Go.RowKit
theorem ext_bd {s : ByteArray} {n k : Nat} (hk : k ≤ n) (hn : n ≤ s.size) : s.extract 0 k = s.extract (n - k) n ↔ Bd (L s) n k := by
  rw [bd_iff_take hk (by rw [L_len]; exact hn)]
  constructor
  · intro h
    have := congrArg L h
    rw [L_extract, L_extract, List.drop_zero, Nat.sub_zero] at this
    rw [List.drop_take]; exact this
  · intro h
    apply L_inj
    rw [L_extract, L_extract, List.drop_zero, Nat.sub_zero, h, List.drop_take]
theorem neS (x y : ByteArray) : (x.toList != y.toList) = decide (x ≠ y) := by
  rw [bne, beqB]; simp
/-- Periods as ints. -/
def pI (s : List UInt8) (m : Nat) : List Int := (pers s m).map Int.ofNat
theorem pers_len (s : List UInt8) : ∀ m, (pers s m).length ≤ m
  | 0 => Nat.le_refl _
  | m + 1 => by
    have := pers_len s m
    rw [pers]; split
    · rw [List.length_append, List.length_singleton]; omega
    · omega
theorem pI_len (s : List UInt8) (m : Nat) : (pI s m).length ≤ m := by rw [pI, List.length_map]; exact pers_len s m
theorem pI_hit {s : List UInt8} {m : Nat} (h0 : 0 < m) (h : perB s m = true) : pI s (m + 1) = pI s m ++ [(m : Int)] := by
  rw [pI, pers, if_pos ⟨h0, h⟩, List.map_append]; rfl
theorem pI_miss {s : List UInt8} {m : Nat} (h : perB s m = false) : pI s (m + 1) = pI s m := by
  rw [pI, pers, if_neg (by rw [h]; simp)]; rfl
theorem eqS (x y : ByteArray) : (x.toList == y.toList) = decide (x = y) := beqB x y
theorem ext_per {s : ByteArray} {p : Nat} (hp : p ≤ s.size) : (s.extract p s.size = s.extract 0 (s.size - p)) ↔ perB (L s) p = true := by
  unfold perB
  rw [decide_eq_true_eq, L_len]
  have := ext_bd (s := s) (n := s.size) (k := s.size - p) (by omega) (Nat.le_refl _)
  rw [show s.size - (s.size - p) = p by omega] at this
  rw [← this]
  exact eq_comm
end Go.Proofs.YtmikckhihfcooaaDoor
