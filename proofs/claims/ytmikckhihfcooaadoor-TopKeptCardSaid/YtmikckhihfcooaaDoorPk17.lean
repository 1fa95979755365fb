/- word.Root and the document's root. Words that are less than all their turns; Duval's walk. Plain lists, no program in sight. lyndon.Split, lyndon.Is. -/
import Derived.Test.YtmikckhihfcooaaDoorPk16
import Derived.Test.YtmikckhihfcooaaDoorPk05
import Derived.Test.YtmikckhihfcooaaDoorPk09
namespace Go.Proofs.YtmikckhihfcooaaDoor
open Go.RowKit
theorem pI_all (s : List UInt8) : pI s (s.length + 1) = (perAll s).map Int.ofNat := rfl
theorem rootN_hit {s : List UInt8} {k : Nat} (hk : k < (perAll s).length) (hn : ∀ j (h : j < (perAll s).length), j < k → s.length % (perAll s)[j] ≠ 0) (h0 : s.length % (perAll s)[k] = 0) : rootN s = (perAll s)[k] := by
  unfold rootN
  generalize perAll s = P at *
  have e : P = P.take k ++ P[k] :: P.drop (k + 1) := by
    rw [← List.drop_eq_getElem_cons hk, List.take_append_drop]
  have := rootF_hit s P[k] (P.drop (k + 1)) h0 (P.take k) fun q hq => by
    obtain ⟨j, hj, rfl⟩ := List.getElem_of_mem hq
    rw [List.length_take] at hj
    rw [List.getElem_take]
    exact hn j (by omega) (by omega)
  rw [← e] at this
  exact this
theorem rootN_miss {s : List UInt8} (hn : ∀ j (h : j < (perAll s).length), s.length % (perAll s)[j] ≠ 0) : rootN s = 0 := by
  unfold rootN
  refine rootF_miss s _ fun q hq => ?_
  obtain ⟨j, hj, rfl⟩ := List.getElem_of_mem hq
  exact hn j hj
theorem wrap_div {a b : Nat} (h : a ≤ 200) : wrap64 ((a : Int) / (b : Int)) = ((a / b : Nat) : Int) := by
  have : a / b ≤ a := Nat.div_le_self _ _
  rw [show (a : Int) / (b : Int) = ((a / b : Nat) : Int) from rfl]
  generalize a / b = q at *
  rw [IntWalk.wrap64_in _ ⟨by omega, by omega⟩]
theorem tmod_nat (a b : Nat) : Int.tmod (a : Int) (b : Int) = ((a % b : Nat) : Int) := by
  rw [Int.tmod_eq_emod_of_nonneg (by omega)]; omega
theorem tdiv_nat (a b : Nat) : Int.tdiv (a : Int) (b : Int) = ((a / b : Nat) : Int) := by
  rw [Int.tdiv_eq_ediv_of_nonneg (by omega)]; omega
end Go.Proofs.YtmikckhihfcooaaDoor
namespace Go.Proofs.YtmikckhihfcooaaDoor
/-- Below n bytes from at on: less than each end of its own, at a place where both are. -/
def LyP (s : List UInt8) (at_ n : Nat) : Prop := 0 < n ∧ ∀ d, 0 < d → d < n → ∃ j, d + j < n ∧ (∀ i, i < j → s.getD (at_ + i) 0 = s.getD (at_ + d + i) 0) ∧ s.getD (at_ + j) 0 < s.getD (at_ + d + j) 0
/-- Where Duval's inner walk stands. -/
structure DuAt (s : List UInt8) (at_ i k : Nat) : Prop where
  le : at_ ≤ i
  lt : i < k
  per : ∀ j, j < i - at_ → s.getD (at_ + (k - i) + j) 0 = s.getD (at_ + j) 0
  ly : LyP s at_ (k - i)
theorem DuAt.start (s : List UInt8) (at_ : Nat) : DuAt s at_ at_ (at_ + 1) := ⟨Nat.le_refl _, by omega, fun j h => by omega, ⟨by omega, fun d h1 h2 => by omega⟩⟩
theorem DuAt.same {s : List UInt8} {at_ i k : Nat} (h : DuAt s at_ i k) (he : s.getD i 0 = s.getD k 0) : DuAt s at_ (i + 1) (k + 1) := by
  have h1 := h.le; have h2 := h.lt
  refine ⟨by omega, by omega, fun j hj => ?_, by rw [show k + 1 - (i + 1) = k - i by omega]; exact h.ly⟩
  rw [show k + 1 - (i + 1) = k - i by omega]
  by_cases hji : j = i - at_
  · subst hji
    rw [show at_ + (k - i) + (i - at_) = k by omega, show at_ + (i - at_) = i by omega]; exact he.symm
  · exact h.per j (by omega)
/-- The byte at j is the one at j mod p. -/
theorem DuAt.mod_ {s : List UInt8} {at_ i k : Nat} (h : DuAt s at_ i k) : ∀ j, j < k - at_ → s.getD (at_ + j) 0 = s.getD (at_ + j % (k - i)) 0 := by
  have h1 := h.le; have h2 := h.lt
  intro j
  induction j using Nat.strongRecOn with
  | ind j ih =>
    intro hj
    by_cases hp : j < k - i
    · rw [Nat.mod_eq_of_lt hp]
    · have e1 := h.per (j - (k - i)) (by omega)
      rw [show at_ + (k - i) + (j - (k - i)) = at_ + j by omega] at e1
      rw [e1, ih (j - (k - i)) (by omega) (by omega), Nat.mod_eq_sub_mod (a := j) (by omega)]
theorem DuAt.less {s : List UInt8} {at_ i k : Nat} (h : DuAt s at_ i k) (hl : s.getD i 0 < s.getD k 0) : DuAt s at_ at_ (k + 1) := by
  have h1 := h.le; have h2 := h.lt
  refine ⟨Nat.le_refl _, by omega, fun j hj => by omega, ⟨by omega, fun d hd0 hd => ?_⟩⟩
  have hpp : 0 < k - i := by omega
  have hM := h.mod_
  generalize hp : k - i = p at *
  have hL : ∃ L, L = k - at_ := ⟨_, rfl⟩
  obtain ⟨L, hL⟩ := hL
  have hkL : k = at_ + L := by omega
  have hiL : i = at_ + (L - p) := by omega
  have hpL : p ≤ L := by omega
  subst hkL hiL
  rw [show at_ + L - at_ = L by omega] at hM
  have hr := Nat.mod_lt d hpp
  have hdv := Nat.div_add_mod d p
  -- the byte that is compared with the new one
  have hnew : ∀ t, t < p → (d + t) % p = L % p → d + t = L → s.getD (at_ + (L - p)) 0 = s.getD (at_ + (d % p + t) % p) 0 := by
    intro t _ _ h3
    rw [hM (L - p) (by omega)]
    congr 2
    rw [← Nat.mod_eq_sub_mod (a := L) hpL, ← h3, Nat.add_mod]
    exact Nat.add_mod_mod _ _ _
  by_cases hr0 : d % p = 0
  · refine ⟨L - d, by omega, fun q hq => ?_, ?_⟩
    · rw [hM q (by omega), show at_ + d + q = at_ + (d + q) by omega, hM (d + q) (by omega)]
      congr 2
      rw [Nat.add_mod, hr0, Nat.zero_add, Nat.mod_mod]
    · rw [show at_ + d + (L - d) = at_ + L by omega]
      have e1 : s.getD (at_ + (L - d)) 0 = s.getD (at_ + (L - p)) 0 := by
        by_cases hdL : d = L
        · rw [hdL, Nat.sub_self, hM 0 (by omega), hM (L - p) (by omega)]
          congr 2
          rw [← Nat.mod_eq_sub_mod (a := L) hpL, Nat.zero_mod, ← hdL, hr0]
        · rw [hM (L - d) (by omega), hM (L - p) (by omega)]
          congr 2
          rw [← Nat.mod_eq_sub_mod (a := L) hpL]
          have e2 : L % p = (L - d) % p := by
            conv => lhs; rw [show L = d + (L - d) by omega]
            rw [Nat.add_mod, hr0, Nat.zero_add, Nat.mod_mod]
          exact e2.symm
      rw [e1]; exact hl
  · obtain ⟨j, hj1, hj2, hj3⟩ := h.ly.2 (d % p) (by omega) (by rw [hp]; exact hr)
    rw [hp] at hj1
    have hlow : ∀ q, d % p + q < p → d + q < L → s.getD (at_ + d + q) 0 = s.getD (at_ + d % p + q) 0 := by
      intro q h3 h4
      rw [show at_ + d + q = at_ + (d + q) by omega, hM (d + q) h4, show at_ + d % p + q = at_ + (d % p + q) by omega]
      congr 2
      have e3 : (d + q) % p = (d % p + q) % p := by
        conv => lhs; rw [Nat.add_mod]
        conv => rhs; rw [Nat.add_mod, Nat.mod_mod]
      rw [e3, Nat.mod_eq_of_lt h3]
    by_cases hdj : d + j < L
    · refine ⟨j, by omega, fun q hq => ?_, ?_⟩
      · rw [hlow q (by omega) (by omega)]; exact hj2 q hq
      · rw [hlow j hj1 hdj]; exact hj3
    · refine ⟨L - d, by omega, fun q hq => ?_, ?_⟩
      · rw [hlow q (by omega) (by omega)]; exact hj2 q (by omega)
      · rw [show at_ + d + (L - d) = at_ + L by omega]
        have e4 := hnew (L - d) (by omega) (by rw [show d + (L - d) = L by omega]) (by omega)
        rw [Nat.mod_eq_of_lt (show d % p + (L - d) < p by omega)] at e4
        rw [e4] at hl
        refine Nat.lt_of_le_of_lt ?_ hl
        by_cases hq : L - d = j
        · rw [hq, show at_ + (d % p + j) = at_ + d % p + j by omega]
          exact Nat.le_of_lt hj3
        · rw [hj2 (L - d) (by omega), show at_ + d % p + (L - d) = at_ + (d % p + (L - d)) by omega]
          exact Nat.le_refl _
/-- The order of words. -/
theorem lt_of_mis : ∀ {j : Nat} {a b : List UInt8}, j < a.length → j < b.length → (∀ i, i < j → a.getD i 0 = b.getD i 0) → a.getD j 0 < b.getD j 0 → a < b
  | _, [], _, h, _, _, _ => by cases h
  | _, _ :: _, [], _, h, _, _ => by cases h
  | 0, x :: a, y :: b, _, _, _, h => List.cons_lt_cons_iff.2 (.inl h)
  | j + 1, x :: a, y :: b, h1, h2, h3, h4 => by
    have hxy : x = y := h3 0 (by omega)
    exact List.cons_lt_cons_iff.2 (.inr ⟨hxy, lt_of_mis (j := j) (by simpa using h1) (by simpa using h2) (fun i hi => by simpa using h3 (i + 1) (by omega)) (by simpa using h4)⟩)
theorem lt_append_mis {a b c d : List UInt8} {j : Nat} (h1 : j < a.length) (h2 : j < b.length) (h3 : ∀ i, i < j → a.getD i 0 = b.getD i 0) (h4 : a.getD j 0 < b.getD j 0) : a ++ c < b ++ d := by
  have hg : ∀ (x y : List UInt8) i, i < x.length → (x ++ y).getD i 0 = x.getD i 0 := fun x y i hi => by
    rw [List.getD_eq_getElem?_getD, List.getElem?_append_left hi, ← List.getD_eq_getElem?_getD]
  refine lt_of_mis (j := j) (by simp; omega) (by simp; omega) (fun i hi => ?_) ?_
  · rw [hg _ _ _ (by omega), hg _ _ _ (by omega)]; exact h3 i hi
  · rw [hg _ _ _ h1, hg _ _ _ h2]; exact h4
theorem not_lt_take (u : List UInt8) (m : Nat) : ¬ u < u.take m := by
  induction u generalizing m with
  | nil => simp
  | cons x u ih =>
    cases m with
    | zero => simp
    | succ m =>
      rw [List.take_succ_cons, List.cons_lt_cons_iff]
      rintro (h | ⟨_, h⟩)
      · exact absurd h (UInt8.lt_irrefl x)
      · exact ih m h
theorem append_lt_append {u a b : List UInt8} (h : a < b) : u ++ a < u ++ b := by
  induction u with
  | nil => exact h
  | cons x u ih => exact List.cons_lt_cons_iff.2 (.inr ⟨rfl, ih⟩)
/-- The turn that begins at k. -/
def turn (s : List UInt8) (k : Nat) : List UInt8 := s.drop k ++ s.take k
/-- Less than all its turns, as the document's program tries it. -/
def lynB (s : List UInt8) : Bool := !s.isEmpty && (List.range s.length).all fun k => k == 0 || !(decide (turn s k < s) || decide (turn s k = s))
theorem lynB_iff {s : List UInt8} : lynB s = true ↔ s ≠ [] ∧ ∀ k, 0 < k → k < s.length → ¬ turn s k < s ∧ turn s k ≠ s := by
  unfold lynB
  rw [Bool.and_eq_true, List.all_eq_true]
  constructor
  · rintro ⟨h1, h2⟩
    refine ⟨by rintro rfl; simp at h1, fun k h3 h4 => ?_⟩
    have := h2 k (List.mem_range.2 h4)
    simp only [Bool.or_eq_true, beq_iff_eq, Bool.not_eq_true', Bool.or_eq_false_iff, decide_eq_false_iff_not] at this
    rcases this with h5 | h5
    · omega
    · exact h5
  · rintro ⟨h1, h2⟩
    refine ⟨by cases s with
      | nil => exact absurd rfl h1
      | cons a s => rfl, fun k hk => ?_⟩
    simp only [Bool.or_eq_true, beq_iff_eq, Bool.not_eq_true', Bool.or_eq_false_iff, decide_eq_false_iff_not]
    rcases Nat.eq_zero_or_pos k with h3 | h3
    · exact .inl h3
    · exact .inr (h2 k h3 (List.mem_range.1 hk))
def LyW (w : List UInt8) : Prop := LyP w 0 w.length
theorem lynB_of {w : List UInt8} (h : LyW w) : lynB w = true := by
  refine lynB_iff.2 ⟨by rintro rfl; exact absurd h.1 (by simp), fun k h1 h2 => ?_⟩
  obtain ⟨j, h3, h4, h5⟩ := h.2 k h1 h2
  have hlt : w < turn w k := by
    have hg : ∀ i, k + i < w.length → (turn w k).getD i 0 = w.getD (0 + k + i) 0 := fun i hi => by
      rw [turn, List.getD_eq_getElem?_getD, List.getElem?_append_left (by rw [List.length_drop]; omega), List.getElem?_drop, ← List.getD_eq_getElem?_getD, Nat.zero_add]
    refine lt_of_mis (j := j) (by omega) (by simp [turn]; omega) (fun i hi => ?_) ?_
    · rw [hg i (by omega)]; have := h4 i hi; rwa [Nat.zero_add] at this
    · rw [hg j h3]; rwa [Nat.zero_add] at h5
  exact ⟨fun h6 => List.lt_irrefl _ (List.lt_trans hlt h6), fun h6 => List.lt_irrefl w (by rw [h6] at hlt; exact hlt)⟩
theorem lyW_sub {s : List UInt8} {at_ n : Nat} (h : LyP s at_ n) (hn : at_ + n ≤ s.length) : LyW ((s.drop at_).take n) := by
  have hl : ((s.drop at_).take n).length = n := by rw [List.length_take, List.length_drop]; omega
  have hg : ∀ i, i < n → ((s.drop at_).take n).getD i 0 = s.getD (at_ + i) 0 := fun i hi => by
    rw [List.getD_eq_getElem?_getD, List.getElem?_take_of_lt hi, List.getElem?_drop, ← List.getD_eq_getElem?_getD]
  unfold LyW
  rw [hl]
  refine ⟨h.1, fun d h1 h2 => ?_⟩
  obtain ⟨j, h3, h4, h5⟩ := h.2 d h1 h2
  refine ⟨j, h3, fun i hi => ?_, ?_⟩
  · rw [Nat.zero_add, hg i (by omega), Nat.zero_add, hg (d + i) (by omega)]
    have := h4 i hi
    rwa [Nat.add_assoc] at this
  · rw [Nat.zero_add, hg j (by omega), Nat.zero_add, hg (d + j) (by omega)]
    rwa [Nat.add_assoc] at h5
/-- No front of R is above u. -/
def NIr (u R : List UInt8) : Prop := ∀ m, ¬ u < R.take m
/-- How the words are that have been split off. -/
structure SpAt (s : List UInt8) (out : List (List UInt8)) (at_ : Nat) : Prop where
  le : at_ ≤ s.length
  fl : out.flatten = s.take at_
  ly : ∀ w ∈ out, LyW w
  ni : ∀ i (h : i + 1 < out.length), ¬ out[i]'(by omega) < out[i + 1]
theorem SpAt.start (s : List UInt8) : SpAt s [] 0 := ⟨Nat.zero_le _, rfl, fun _ h => (by cases h), fun _ h => (by simp at h)⟩
theorem SpAt.add {s : List UInt8} {out : List (List UInt8)} {at_ p : Nat} (h : SpAt s out at_) (hp : LyP s at_ p) (hn : at_ + p ≤ s.length) (hl : ∀ u, out.getLast? = some u → ¬ u < (s.drop at_).take p) :
    SpAt s (out ++ [(s.drop at_).take p]) (at_ + p) := by
  refine ⟨hn, ?_, fun w hw => ?_, fun i hi => ?_⟩
  · rw [List.flatten_append, h.fl, List.flatten_cons, List.flatten_nil, List.append_nil, List.take_add]
  · rcases List.mem_append.1 hw with h1 | h1
    · exact h.ly w h1
    · rw [List.mem_singleton] at h1; subst h1; exact lyW_sub hp hn
  · simp only [List.length_append, List.length_singleton] at hi
    by_cases hi2 : i + 1 < out.length
    · rw [List.getElem_append_left (by omega), List.getElem_append_left hi2]; exact h.ni i hi2
    · have hio : i + 1 = out.length := by omega
      rw [List.getElem_append_left (by omega), List.getElem_append_right (by omega)]
      simp only [hio, Nat.sub_self, List.getElem_cons_zero]
      refine hl _ ?_
      rw [List.getLast?_eq_getElem?, show out.length - 1 = i by omega, List.getElem?_eq_getElem (by omega)]
/-- Behind the walk's end: what follows is not above u. -/
theorem ni_end {s : List UInt8} {at_ i k m : Nat} (h : DuAt s at_ i k) (hk : k ≤ s.length) (he : k < s.length → s.getD k 0 < s.getD i 0) (hm : at_ + m * (k - i) ≤ k) (hm1 : 1 ≤ m) (hi : i < at_ + m * (k - i)) :
    NIr ((s.drop at_).take (k - i)) (s.drop (at_ + m * (k - i))) := by
  have h1 := h.le; have h2 := h.lt
  have hM := h.mod_
  have hpp : 0 < k - i := by omega
  generalize hp : k - i = p at *
  have hup : ∀ t, t < p → ((s.drop at_).take p).getD t 0 = s.getD (at_ + t) 0 := fun t ht => by
    rw [List.getD_eq_getElem?_getD, List.getElem?_take_of_lt ht, List.getElem?_drop, ← List.getD_eq_getElem?_getD]
  have hlu : ((s.drop at_).take p).length = p := by rw [List.length_take, List.length_drop]; omega
  have hpm : p ≤ m * p := Nat.le_mul_of_pos_left p hm1
  intro q hlt
  generalize hr : k - (at_ + m * p) = r at *
  have hrp : r < p := by omega
  -- the first r bytes are u's
  have hRg : ∀ t, at_ + m * p + t < k → s.getD (at_ + m * p + t) 0 = s.getD (at_ + t) 0 := fun t ht => by
    rw [show at_ + m * p + t = at_ + (m * p + t) by omega, hM (m * p + t) (by omega), Nat.mul_comm m p, Nat.mul_add_mod, Nat.mod_eq_of_lt (by omega)]
  have hRq : ∀ t, t < q → ((s.drop (at_ + m * p)).take q).getD t 0 = s.getD (at_ + m * p + t) 0 := fun t ht => by
    rw [List.getD_eq_getElem?_getD, List.getElem?_take_of_lt ht, List.getElem?_drop, ← List.getD_eq_getElem?_getD]
  by_cases hcase : q ≤ r ∨ k = s.length
  · -- a front of u
    have hv : (s.drop (at_ + m * p)).take q = ((s.drop at_).take p).take (min q r) := by
      apply List.ext_getElem
      · rw [List.length_take, List.length_take, hlu, List.length_drop]
        rcases hcase with h3 | h3 <;> omega
      · intro t ht1 ht2
        rw [List.length_take, hlu] at ht2
        have e1 := hRq t (by omega)
        rw [hRg t (by omega), ← hup t (by omega)] at e1
        have htp : t < ((s.drop at_).take p).length := by omega
        rw [List.getD_eq_getElem?_getD, List.getElem?_eq_getElem ht1, List.getD_eq_getElem?_getD, List.getElem?_eq_getElem htp] at e1
        exact Eq.trans e1 List.getElem_take.symm
    rw [hv] at hlt
    exact not_lt_take _ _ hlt
  · have hkn : k < s.length := by omega
    have hqr : r < q := by omega
    have hless := he hkn
    have hkr : k = at_ + m * p + r := by omega
    have hir : s.getD i 0 = s.getD (at_ + r) 0 := by
      have e2 : i = at_ + ((m - 1) * p + r) := by
        have : (m - 1) * p + p = m * p := by
          rw [← Nat.succ_mul]; congr 1; omega
        omega
      rw [e2, hM ((m - 1) * p + r) (by omega), Nat.mul_comm (m - 1) p, Nat.mul_add_mod, Nat.mod_eq_of_lt hrp]
    have hvu : (s.drop (at_ + m * p)).take q < (s.drop at_).take p := by
      refine lt_of_mis (j := r) (by rw [List.length_take, List.length_drop]; omega) (by rw [hlu]; exact hrp) (fun t ht => ?_) ?_
      · rw [hRq t (by omega), hup t (by omega), hRg t (by omega)]
      · rw [hRq r hqr, hup r hrp, ← hkr, ← hir]; exact hless
    exact List.lt_irrefl _ (List.lt_trans hlt hvu)
/-- Two words or more: not less than all turns. -/
theorem ni_chain {out : List (List UInt8)} (h : ∀ i (h : i + 1 < out.length), ¬ out[i]'(by omega) < out[i + 1]) : ∀ (k : Nat) (hk : k < out.length) (h0 : 0 < out.length), out[k] ≤ out[0]
  | 0, _, _ => List.le_refl _
  | k + 1, hk, h0 => by
    have h1 := ni_chain h k (by omega) h0
    have h2 := h k hk
    exact List.le_trans (List.not_lt.1 h2) h1
theorem lynB_split {s : List UInt8} {out : List (List UInt8)} (h : SpAt s out s.length) (h2 : 2 ≤ out.length) : lynB s = false := by
  rw [Bool.eq_false_iff]
  intro hb
  obtain ⟨_, hall⟩ := lynB_iff.1 hb
  have hfl : out.flatten = s := by rw [h.fl, List.take_length]
  -- the first and the last
  obtain ⟨u, mid, v, rfl⟩ : ∃ u mid v, out = u :: mid ++ [v] := by
    match out, h2 with
    | a :: b :: r, _ =>
      refine ⟨a, (b :: r).dropLast, (b :: r).getLast (by simp), ?_⟩
      rw [List.cons_append, List.dropLast_concat_getLast]
  have hvu : v ≤ u := by
    have := ni_chain h.ni ((u :: mid).length) (by simp) (by simp)
    simpa using this
  have hu := h.ly u (by simp)
  have hv := h.ly v (by simp)
  have hs : s = u ++ (mid.flatten ++ v) := by rw [← hfl]; simp
  have hs2 : s = (u ++ mid.flatten) ++ v := by rw [hs]; simp
  have hvl : 0 < v.length := hv.1
  have hul : 0 < u.length := hu.1
  have hturn : turn s (u ++ mid.flatten).length = v ++ (u ++ mid.flatten) := by
    rw [turn, hs2, List.drop_left, List.take_left]
  obtain ⟨hno, hne⟩ := hall (u ++ mid.flatten).length (by simp; omega) (by rw [hs2]; simp; omega)
  rw [hturn] at hno hne
  by_cases hpre : v <+: u
  · obtain ⟨z, hz⟩ := hpre
    by_cases hz0 : z = []
    · -- u = v
      subst hz0
      rw [List.append_nil] at hz
      subst hz
      by_cases hmid : mid = []
      · subst hmid; apply hne; rw [hs]; simp
      · -- all are alike
        have hal : ∀ w ∈ mid, w = v := by
          intro w hw
          obtain ⟨i, hi, rfl⟩ := List.getElem_of_mem hw
          have h5 : mid[i] ≤ v := by
            have := ni_chain h.ni (i + 1) (by simp; omega) (by simp)
            simpa [List.getElem_append_left hi] using this
          have h6 : ∀ k (hk : k < mid.length), v ≤ mid[k] := by
            intro k hk
            have key : ∀ t (ht : k + t < mid.length), mid[k + t] ≤ mid[k] := by
              intro t
              induction t with
              | zero => intro _; exact List.le_refl _
              | succ t ih =>
                intro ht
                have h7 := ih (by omega)
                have h8 := h.ni (k + t + 1) (by simp; omega)
                have h9 : ¬ mid[k + t] < mid[k + t + 1] := by
                  have e1 : (v :: mid ++ [v])[k + t + 1]'(by simp; omega) = mid[k + t] := by
                    simp [List.getElem_append_left (show k + t < mid.length by omega)]
                  have e2 : (v :: mid ++ [v])[k + t + 1 + 1]'(by simp; omega) = mid[k + t + 1] := by
                    simp [List.getElem_append_left (show k + t + 1 < mid.length by omega)]
                  rw [e1, e2] at h8; exact h8
                exact List.le_trans (List.not_lt.1 h9) h7
            have h10 := key (mid.length - 1 - k) (by omega)
            have h11 := h.ni mid.length (by simp)
            have h12 : ¬ mid[mid.length - 1]'(by omega) < v := by
              have e1 : (v :: mid ++ [v])[mid.length]'(by simp; omega) = mid[mid.length - 1]'(by omega) := by
                have : mid.length = (mid.length - 1) + 1 := by omega
                simp only [List.cons_append]
                rw [List.getElem_cons]
                rw [dif_neg (by omega), List.getElem_append_left (by omega)]
              have e2 : (v :: mid ++ [v])[mid.length + 1]'(by simp) = v := by simp
              rw [e1, e2] at h11; exact h11
            have e3 : mid[k + (mid.length - 1 - k)]'(by omega) = mid[mid.length - 1]'(by omega) := by
              congr 1; omega
            rw [e3] at h10
            exact List.le_trans (List.not_lt.1 h12) h10
          exact List.le_antisymm h5 (h6 i hi)
        apply hne
        rw [hs]
        have hrep : mid = List.replicate mid.length v := List.eq_replicate_iff.2 ⟨rfl, hal⟩
        have hcomm : ∀ n, v ++ (List.replicate n v).flatten = (List.replicate n v).flatten ++ v := by
          intro n
          induction n with
          | zero => simp
          | succ n ih => rw [List.replicate_succ, List.flatten_cons, List.append_assoc, ← ih]
        rw [hrep, hcomm]
    · -- v is a true front of u
      have hzl : 0 < z.length := by
        cases z with
        | nil => exact absurd rfl hz0
        | cons a z => simp
      obtain ⟨j, h3, h4, h5⟩ := hu.2 v.length hvl (by rw [← hz]; simp; omega)
      have hzg : ∀ t, u.getD (v.length + t) 0 = z.getD t 0 := fun t => by
        rw [← hz, List.getD_eq_getElem?_getD, List.getElem?_append_right (by omega), List.getD_eq_getElem?_getD]
        congr 2; omega
      have hul2 : u.length = v.length + z.length := by rw [← hz, List.length_append]
      apply hno
      rw [hs]
      conv => rhs; rw [← hz, List.append_assoc]
      refine append_lt_append ?_
      refine lt_append_mis (j := j) (by omega) (by omega) (fun t ht => ?_) ?_
      · have := h4 t ht; rw [Nat.zero_add, Nat.zero_add, hzg] at this; exact this
      · rw [Nat.zero_add, Nat.zero_add, hzg] at h5; exact h5
  · -- a place where v is below u
    apply hno
    rw [hs]
    have key : ∀ (v u a b : List UInt8), v ≤ u → ¬ v <+: u → v ++ a < u ++ b := by
      intro v
      induction v with
      | nil => intro u a b _ h; exact absurd (List.nil_prefix) h
      | cons x v ih =>
        intro u a b hle hnp
        cases u with
        | nil => exact absurd hle (by rw [List.not_le]; simp)
        | cons y u =>
          rw [List.cons_append, List.cons_append, List.cons_lt_cons_iff]
          rw [List.cons_le_cons_iff] at hle
          rcases hle with h1 | ⟨rfl, h1⟩
          · exact .inl h1
          · refine .inr ⟨rfl, ih u a b h1 fun hp => hnp ?_⟩
            exact (List.cons_prefix_cons).2 ⟨rfl, hp⟩
    exact key v u _ _ hvu hpre
theorem lynB_one {s : List UInt8} {w : List UInt8} (h : SpAt s [w] s.length) : lynB s = true := by
  have : w = s := by have := h.fl; rw [List.take_length] at this; simpa using this
  subst this
  exact lynB_of (h.ly w (by simp))
end Go.Proofs.YtmikckhihfcooaaDoor
namespace Go.Proofs.YtmikckhihfcooaaDoor
open Go.RowKit
theorem strCells_snoc' (l : List (List UInt8)) (x : List UInt8) : strCells l ++ [.string (S x)] = strCells (l ++ [x]) := by simp [strCells]
theorem SpAt.addW {s : List UInt8} {out : List (List UInt8)} {at_ p : Nat} {U : List UInt8} (h : SpAt s out at_) (hU : (s.drop at_).take p = U) (hw : LyW U) (hn : at_ + p ≤ s.length) (hl : ∀ u, out.getLast? = some u → ¬ u < U) :
    SpAt s (out ++ [U]) (at_ + p) := by
  have hlu : U.length = p := by rw [← hU, List.length_take, List.length_drop]; omega
  have hg : ∀ i, i < p → U.getD i 0 = s.getD (at_ + i) 0 := fun i hi => by
    rw [← hU, List.getD_eq_getElem?_getD, List.getElem?_take_of_lt hi, List.getElem?_drop, ← List.getD_eq_getElem?_getD]
  have hp : LyP s at_ p := by
    unfold LyW at hw
    rw [hlu] at hw
    refine ⟨hw.1, fun d h1 h2 => ?_⟩
    obtain ⟨j, h3, h4, h5⟩ := hw.2 d h1 h2
    refine ⟨j, h3, fun i hi => ?_, ?_⟩
    · have := h4 i hi
      rw [Nat.zero_add, Nat.zero_add, hg i (by omega), hg (d + i) (by omega)] at this
      rw [Nat.add_assoc]; exact this
    · rw [Nat.zero_add, Nat.zero_add, hg j (by omega), hg (d + j) (by omega)] at h5
      rw [Nat.add_assoc at_ d j]; exact h5
  have := h.add hp hn (by rw [hU]; exact hl)
  rw [hU] at this
  exact this
theorem DuAt.copy {s : List UInt8} {at_ i k m : Nat} (h : DuAt s at_ i k) (hk : k ≤ s.length) (hm : at_ + m * (k - i) ≤ i) : (s.drop (at_ + m * (k - i))).take (k - i) = (s.drop at_).take (k - i) := by
  have h1 := h.le; have h2 := h.lt
  have hM := h.mod_
  generalize hp : k - i = p at *
  apply List.ext_getElem
  · simp only [List.length_take, List.length_drop]; omega
  · intro t ht1 ht2
    simp only [List.length_take, List.length_drop] at ht1 ht2
    rw [List.getElem_take, List.getElem_take, List.getElem_drop, List.getElem_drop]
    have e := hM (m * p + t) (by omega)
    rw [Nat.mul_comm m p, Nat.mul_add_mod, Nat.mod_eq_of_lt (by omega), Nat.mul_comm p m] at e
    rw [show at_ + (m * p + t) = at_ + m * p + t by omega, List.getD_eq_getElem?_getD, List.getElem?_eq_getElem (by omega), List.getD_eq_getElem?_getD, List.getElem?_eq_getElem (by omega)] at e
    exact e
/-- How the third loop stands. -/
structure EmAt (s : List UInt8) (at_ i k m a : Nat) (out : List (List UInt8)) : Prop where
  ea : a = at_ + m * (k - i)
  le : a ≤ k
  sp : SpAt s out a
  no : ∀ u, out.getLast? = some u → ¬ u < (s.drop at_).take (k - i)
  la : 1 ≤ m → out.getLast? = some ((s.drop at_).take (k - i))
  len : out.length ≤ a
theorem EmAt.step {s : List UInt8} {at_ i k m a : Nat} {out : List (List UInt8)} (h : EmAt s at_ i k m a out) (hd : DuAt s at_ i k) (hk : k ≤ s.length) (hi : a ≤ i) :
    EmAt s at_ i k (m + 1) (a + (k - i)) (out ++ [(s.drop a).take (k - i)]) := by
  have ha := h.ea
  have h1 := hd.le; have h2 := hd.lt
  have hc : (s.drop a).take (k - i) = (s.drop at_).take (k - i) := by
    rw [ha]; exact hd.copy hk (by omega)
  have hw : LyW ((s.drop at_).take (k - i)) := lyW_sub hd.ly (by omega)
  refine ⟨by rw [ha, Nat.succ_mul]; omega, by omega, ?_, ?_, ?_, ?_⟩
  · rw [hc]; exact h.sp.addW hc hw (by omega) h.no
  · intro u hu
    rw [List.getLast?_concat] at hu
    obtain rfl := Option.some.inj hu
    rw [hc]; exact List.lt_irrefl _
  · intro _; rw [List.getLast?_concat, hc]
  · rw [List.length_append, List.length_singleton]
    have := h.len; omega
theorem EmAt.fin {s : List UInt8} {at_ i k m a : Nat} {out : List (List UInt8)} (h : EmAt s at_ i k m a out) (hd : DuAt s at_ i k) (hk : k ≤ s.length) (he : k < s.length → s.getD k 0 < s.getD i 0) (hi : i < a) :
    ∀ u, out.getLast? = some u → NIr u (s.drop a) := by
  have h1 := hd.le; have h2 := hd.lt
  have hm : 1 ≤ m := by
    rcases Nat.eq_zero_or_pos m with h0 | h0
    · exfalso; have := h.ea; rw [h0, Nat.zero_mul] at this; omega
    · exact h0
  intro u hu
  rw [h.la hm] at hu
  obtain rfl := Option.some.inj hu
  have := h.ea
  have hle := h.le
  rw [this] at hi hle ⊢
  exact ni_end hd hk he hle hm hi
end Go.Proofs.YtmikckhihfcooaaDoor
