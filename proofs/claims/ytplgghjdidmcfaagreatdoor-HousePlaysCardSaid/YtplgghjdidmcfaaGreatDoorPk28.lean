/- The ends of a word in order, and how much each has in common with the one ahead (plain). code.Front and the document's FrontCode. The document's FrontCode. -/
import Derived.Test.YtplgghjdidmcfaaGreatDoorPk26
import Derived.Test.YtplgghjdidmcfaaGreatDoorPk06
namespace Go.Proofs.YtplgghjdidmcfaaGreatDoor
/-- How many bytes two texts begin with in common. -/
def lcpL : List UInt8 → List UInt8 → Nat
  | x :: a, y :: b => if x = y then lcpL a b + 1 else 0
  | _, _ => 0
theorem lcpL_le : ∀ a b : List UInt8, lcpL a b ≤ a.length ∧ lcpL a b ≤ b.length
  | [], b => by cases b <;> simp [lcpL]
  | x :: a, [] => by simp [lcpL]
  | x :: a, y :: b => by
    have := lcpL_le a b
    unfold lcpL
    split
    · simp; omega
    · simp
theorem lcpL_take : ∀ a b : List UInt8, a.take (lcpL a b) = b.take (lcpL a b)
  | [], b => by cases b <;> simp [lcpL]
  | x :: a, [] => by simp [lcpL]
  | x :: a, y :: b => by
    have := lcpL_take a b
    unfold lcpL
    split
    · rename_i h; subst h; simp [this]
    · simp
theorem lcpL_ge : ∀ (m : Nat) (a b : List UInt8), m ≤ a.length → m ≤ b.length → a.take m = b.take m → m ≤ lcpL a b := by
  intro m
  induction m with
  | zero => intros; exact Nat.zero_le _
  | succ m ih =>
    intro a b h1 h2 h
    match a, b, h1, h2, h with
    | x :: a, y :: b, h1, h2, h =>
      simp at h h1 h2
      obtain ⟨rfl, h⟩ := h
      have := ih a b h1 h2 h
      unfold lcpL; rw [if_pos rfl]; omega
theorem take_less {a b : List UInt8} {m q : Nat} (h : a.take m = b.take m) (hq : q ≤ m) : a.take q = b.take q := by
  have := congrArg (List.take q) h
  rwa [List.take_take, List.take_take, Nat.min_eq_left hq] at this
theorem take_at {a b : List UInt8} {m j : Nat} (h : a.take m = b.take m) (hj : j < m) : a.getD j 0 = b.getD j 0 := by
  have h1 := congrArg (fun l => l.getD j 0) h
  simp only [List.getD_eq_getElem?_getD, List.getElem?_take_of_lt hj] at h1
  rw [List.getD_eq_getElem?_getD, List.getD_eq_getElem?_getD]; exact h1
theorem take_more {a b : List UInt8} {m : Nat} (h : a.take m = b.take m) (h1 : m < a.length) (h2 : m < b.length) (he : a.getD m 0 = b.getD m 0) : a.take (m + 1) = b.take (m + 1) := by
  rw [List.take_add_one, List.take_add_one, h]
  rw [List.getD_eq_getElem?_getD, List.getD_eq_getElem?_getD, List.getElem?_eq_getElem h1, List.getElem?_eq_getElem h2] at he
  rw [List.getElem?_eq_getElem h1, List.getElem?_eq_getElem h2]
  simp at he
  rw [he]
theorem lcpL_is {m : Nat} {a b : List UInt8} (h1 : m ≤ a.length) (h2 : m ≤ b.length) (h : a.take m = b.take m) (hs : a.length ≤ m ∨ b.length ≤ m ∨ a.getD m 0 ≠ b.getD m 0) : m = lcpL a b := by
  have g1 := lcpL_ge m a b h1 h2 h
  have g2 := lcpL_le a b
  rcases Nat.lt_or_ge m (lcpL a b) with h3 | h3
  · exfalso
    rcases hs with hs | hs | hs
    · omega
    · omega
    · exact hs (take_at (lcpL_take a b) h3)
  · omega
theorem cons_leB {x y : UInt8} {a b : List UInt8} : x :: a ≤ y :: b ↔ x < y ∨ (x = y ∧ a ≤ b) := List.cons_le_cons_iff
theorem nil_leB (a : List UInt8) : [] ≤ a := List.nil_le a
theorem not_cons_le_nil {x : UInt8} {a : List UInt8} : ¬ x :: a ≤ [] := by
  intro h
  have := List.le_antisymm h (List.nil_le _)
  cases this
theorem mid_lcp : ∀ (m : Nat) (a b c : List UInt8), a ≤ b → b ≤ c → m ≤ a.length → m ≤ c.length → a.take m = c.take m → m ≤ b.length ∧ b.take m = c.take m := by
  intro m
  induction m with
  | zero => intros; exact ⟨Nat.zero_le _, by simp⟩
  | succ m ih =>
    intro a b c hab hbc ha hc h
    match a, c, ha, hc, h with
    | x :: a, z :: c, ha, hc, h =>
      simp at h ha hc
      obtain ⟨rfl, h⟩ := h
      match b, hab, hbc with
      | [], hab, _ => exact absurd hab not_cons_le_nil
      | y :: b, hab, hbc =>
        rcases cons_leB.1 hab with h1 | ⟨rfl, h1⟩
        · rcases cons_leB.1 hbc with h2 | ⟨rfl, h2⟩
          · exact absurd (UInt8.lt_trans h1 h2) (UInt8.lt_irrefl _)
          · exact absurd h1 (UInt8.lt_irrefl _)
        · rcases cons_leB.1 hbc with h2 | ⟨_, h2⟩
          · exact absurd h2 (UInt8.lt_irrefl _)
          · obtain ⟨g1, g2⟩ := ih a b c h1 h2 ha hc h
            simp [g2]; omega
theorem take_leB : ∀ (m : Nat) (a c : List UInt8), a ≤ c → a.take m ≤ c.take m := by
  intro m
  induction m with
  | zero => intro a c _; simp
  | succ m ih =>
    intro a c h
    match a, c, h with
    | [], c, _ => simp
    | x :: a, [], h => exact absurd h not_cons_le_nil
    | x :: a, y :: c, h =>
      simp only [List.take_succ_cons]
      rcases cons_leB.1 h with h1 | ⟨h0, h1⟩
      · exact cons_leB.2 (.inl h1)
      · exact cons_leB.2 (.inr ⟨h0, ih a c h1⟩)
/-- The places of a family of texts, in the texts' order. -/
def srtL (f : Nat → List UInt8) (c : Nat) : List Nat := (List.range c).mergeSort fun x y => decide (f x ≤ f y)
theorem srt_sortB (f : Nat → List UInt8) (c : Nat) : sortB ((List.range c).map f) = (srtL f c).map f := by
  unfold sortB srtL
  rw [List.map_mergeSort]
  intro a _ b _; rfl
structure Srt (f : Nat → List UInt8) (c : Nat) (p : List Nat) : Prop where
  perm : p.Perm (List.range c)
  pw : p.Pairwise fun x y => f x ≤ f y
theorem srt_is (f : Nat → List UInt8) (c : Nat) : Srt f c (srtL f c) := by
  refine ⟨List.mergeSort_perm _ _, ?_⟩
  have h := List.pairwise_mergeSort (le := fun (x y : Nat) => decide (f x ≤ f y)) (fun a b c h1 h2 => by
    rw [decide_eq_true_iff] at *; exact List.le_trans h1 h2) (fun a b => by
    rw [Bool.or_eq_true, decide_eq_true_iff, decide_eq_true_iff]; exact List.le_total _ _) (List.range c)
  exact h.imp fun h => by rwa [decide_eq_true_iff] at h
section
variable {f : Nat → List UInt8} {c : Nat} {p : List Nat}
theorem Srt.len (h : Srt f c p) : p.length = c := by rw [h.perm.length_eq, List.length_range]
theorem Srt.get (h : Srt f c p) {i : Nat} (hi : i < c) : p.getD i 0 = p[i]'(by rw [h.len]; exact hi) := by
  rw [List.getD_eq_getElem?_getD, List.getElem?_eq_getElem (by rw [h.len]; exact hi)]; rfl
theorem Srt.lt (h : Srt f c p) {i : Nat} (hi : i < c) : p.getD i 0 < c := by
  rw [h.get hi]
  exact List.mem_range.1 (h.perm.mem_iff.1 (List.getElem_mem _))
theorem Srt.nodup (h : Srt f c p) : p.Nodup := h.perm.nodup_iff.2 List.nodup_range
theorem Srt.inj (h : Srt f c p) {i j : Nat} (hi : i < c) (hj : j < c) (e : p.getD i 0 = p.getD j 0) : i = j := by
  rw [h.get hi, h.get hj] at e
  exact (List.getElem_inj h.nodup).1 e
theorem Srt.sur (h : Srt f c p) {x : Nat} (hx : x < c) : ∃ i, i < c ∧ p.getD i 0 = x := by
  obtain ⟨i, hi, e⟩ := List.mem_iff_getElem.1 (h.perm.mem_iff.2 (List.mem_range.2 hx))
  rw [h.len] at hi
  exact ⟨i, hi, by rw [h.get hi]; exact e⟩
theorem Srt.mono (h : Srt f c p) {i j : Nat} (hij : i ≤ j) (hj : j < c) : f (p.getD i 0) ≤ f (p.getD j 0) := by
  rcases Nat.lt_or_ge i j with h1 | h1
  · rw [h.get hj, h.get (show i < c by omega)]
    exact List.pairwise_iff_getElem.1 h.pw i j _ _ h1
  · obtain rfl : i = j := by omega
    exact List.le_refl _
end
/-- Where the ends of s begin, in their order. -/
def ordS (s : List UInt8) : List Nat := srtL (fun i => s.drop i) s.length
theorem ordS_srt (s : List UInt8) : Srt (fun i => s.drop i) s.length (ordS s) := srt_is _ _
def oS (s : List UInt8) (k : Nat) : Nat := (ordS s).getD k 0
theorem oS_lt {s : List UInt8} {k : Nat} (h : k < s.length) : oS s k < s.length := (ordS_srt s).lt h
theorem ordS_len (s : List UInt8) : (ordS s).length = s.length := (ordS_srt s).len
def sufA (s : List UInt8) (k : Nat) : List UInt8 := s.drop (oS s k)
theorem sufA_len {s : List UInt8} {k : Nat} : (sufA s k).length = s.length - oS s k := List.length_drop
theorem sufA_le {s : List UInt8} {i j : Nat} (hij : i ≤ j) (hj : j < s.length) : sufA s i ≤ sufA s j := (ordS_srt s).mono hij hj
def lcpA (s : List UInt8) (k : Nat) : Nat := if k = 0 then 0 else lcpL (sufA s (k - 1)) (sufA s k)
theorem lcpA_pos {s : List UInt8} {k : Nat} (h : k ≠ 0) : lcpA s k = lcpL (sufA s (k - 1)) (sufA s k) := if_neg h
theorem lcpA_le (s : List UInt8) (k : Nat) : lcpA s k ≤ (sufA s k).length := by
  unfold lcpA
  split
  · exact Nat.zero_le _
  · exact (lcpL_le _ _).2
def rkS (s : List UInt8) (i : Nat) : Nat := (ordS s).idxOf i
theorem rkS_lt {s : List UInt8} {i : Nat} (h : i < s.length) : rkS s i < s.length := by
  have h1 : i ∈ ordS s := (ordS_srt s).perm.mem_iff.2 (List.mem_range.2 h)
  have h2 := List.idxOf_lt_length_of_mem h1
  rw [ordS_len] at h2
  exact h2
theorem oS_rk {s : List UInt8} {i : Nat} (h : i < s.length) : oS s (rkS s i) = i := by
  have h1 := rkS_lt h
  unfold oS
  rw [(ordS_srt s).get h1]
  exact List.getElem_idxOf _
theorem rk_oS {s : List UInt8} {k : Nat} (h : k < s.length) : rkS s (oS s k) = k :=
  (ordS_srt s).inj (rkS_lt (oS_lt h)) h (oS_rk (oS_lt h))
theorem drop_cons {s : List UInt8} {i : Nat} (h : i < s.length) : s.drop i = s.getD i 0 :: s.drop (i + 1) := by
  rw [List.drop_eq_getElem_cons h, List.getD_eq_getElem?_getD, List.getElem?_eq_getElem h]; rfl
/-- One byte further the common part is at most one shorter. -/
theorem kasai {s : List UInt8} {i : Nat} (hi : i + 1 < s.length) (hr : rkS s i ≠ 0) (hA : 2 ≤ lcpA s (rkS s i)) : rkS s (i + 1) ≠ 0 ∧ lcpA s (rkS s i) - 1 ≤ lcpA s (rkS s (i + 1)) := by
  have hri := rkS_lt (s := s) (i := i) (by omega)
  obtain ⟨k, hk⟩ : ∃ k, oS s (rkS s i - 1) = k := ⟨_, rfl⟩
  have hkn : k < s.length := by rw [← hk]; exact oS_lt (by omega)
  have hki : k ≠ i := by
    intro e
    have h1 := oS_rk (s := s) (i := i) (by omega)
    rw [← e, ← hk] at h1
    have := (ordS_srt s).inj (by rw [hk, e]; exact hri) (show rkS s i - 1 < s.length by omega) h1
    rw [hk, e] at this
    omega
  have hle := sufA_le (s := s) (i := rkS s i - 1) (j := rkS s i) (by omega) hri
  rw [lcpA_pos hr] at hA ⊢
  have hm := lcpL_le (sufA s (rkS s i - 1)) (sufA s (rkS s i))
  have ht := lcpL_take (sufA s (rkS s i - 1)) (sufA s (rkS s i))
  unfold sufA at hle hA hm ht ⊢
  rw [hk, oS_rk (by omega)] at hle hA hm ht ⊢
  generalize lcpL (s.drop k) (s.drop i) = m at *
  rw [List.length_drop, List.length_drop] at hm
  obtain ⟨q, rfl⟩ : ∃ q, m = q + 1 := ⟨m - 1, by omega⟩
  rw [drop_cons hkn, drop_cons (show i < s.length by omega)] at hle ht
  simp only [List.take_succ_cons, List.cons.injEq] at ht
  obtain ⟨ht0, ht⟩ := ht
  have hle2 : s.drop (k + 1) ≤ s.drop (i + 1) := by
    rcases cons_leB.1 hle with h1 | ⟨_, h1⟩
    · rw [ht0] at h1; exact absurd h1 (UInt8.lt_irrefl _)
    · exact h1
  have hk1 : k + 1 < s.length := by omega
  have hrk := rkS_lt hk1
  have hri1 := rkS_lt hi
  have hlt : rkS s (k + 1) < rkS s (i + 1) := by
    rcases Nat.lt_or_ge (rkS s (k + 1)) (rkS s (i + 1)) with h1 | h1
    · exact h1
    · exfalso
      have h2 := sufA_le (s := s) h1 hrk
      unfold sufA at h2
      rw [oS_rk hk1, oS_rk hi] at h2
      have := congrArg List.length (List.le_antisymm hle2 h2)
      rw [List.length_drop, List.length_drop] at this
      omega
  refine ⟨by omega, ?_⟩
  have g1 := sufA_le (s := s) (i := rkS s (k + 1)) (j := rkS s (i + 1) - 1) (by omega) (by omega)
  have g2 := sufA_le (s := s) (i := rkS s (i + 1) - 1) (j := rkS s (i + 1)) (by omega) hri1
  rw [lcpA_pos (by omega)]
  unfold sufA at g1 g2 ⊢
  rw [oS_rk hk1] at g1
  rw [oS_rk hi] at g2 ⊢
  obtain ⟨e1, e2⟩ := mid_lcp q _ _ _ g1 g2 (by rw [List.length_drop]; omega) (by rw [List.length_drop]; omega) ht
  rw [Nat.add_sub_cancel]
  exact lcpL_ge q _ _ e1 (by rw [List.length_drop]; omega) e2
end Go.Proofs.YtplgghjdidmcfaaGreatDoor
namespace Go.Proofs.YtplgghjdidmcfaaGreatDoor
open Go.RowKit
def pfx (p s : List UInt8) : Bool := Lib.hasPrefix s p
theorem pfx_iff {p s : List UInt8} : pfx p s = true ↔ s.take p.length = p := by
  unfold pfx Lib.hasPrefix
  rw [List.isPrefixOf_iff_prefix, List.prefix_iff_eq_take]
  exact eq_comm
theorem pfx_len {p s : List UInt8} (h : pfx p s = true) : p.length ≤ s.length := by
  have := congrArg List.length (pfx_iff.1 h)
  rw [List.length_take] at this
  omega
/-- No word begins another one. -/
def IsFront (l : List (List UInt8)) : Prop := ∀ i k, i < l.length → k < l.length → i ≠ k → pfx (l.getD i []) (l.getD k []) = false
noncomputable def frontB (l : List (List UInt8)) : Bool := @decide (IsFront l) (Classical.propDecidable _)
theorem frontB_t {l : List (List UInt8)} (h : IsFront l) : frontB l = true := @decide_eq_true _ (Classical.propDecidable _) h
theorem frontB_f {l : List (List UInt8)} {i k : Nat} (hi : i < l.length) (hk : k < l.length) (hne : i ≠ k) (h : pfx (l.getD i []) (l.getD k []) = true) : frontB l = false :=
  @decide_eq_false _ (Classical.propDecidable _) fun hf => by rw [hf i k hi hk hne] at h; cases h
theorem list_range (l : List (List UInt8)) : (List.range l.length).map (fun i => l.getD i []) = l := by
  apply List.ext_getElem
  · simp
  · intro j h1 h2
    simp only [List.getElem_map, List.getElem_range]
    rw [List.getD_eq_getElem?_getD, List.getElem?_eq_getElem h2]; rfl
def ordP (l : List (List UInt8)) : List Nat := srtL (fun i => l.getD i []) l.length
theorem ordP_srt (l : List (List UInt8)) : Srt (fun i => l.getD i []) l.length (ordP l) := srt_is _ _
theorem sortB_ordP (l : List (List UInt8)) : sortB l = (ordP l).map fun i => l.getD i [] := by
  have h := srt_sortB (fun i => l.getD i []) l.length
  rw [list_range] at h
  exact h
def sAt (l : List (List UInt8)) (i : Nat) : List UInt8 := l.getD ((ordP l).getD i 0) []
theorem sortB_at {l : List (List UInt8)} {i : Nat} (h : i < l.length) : (sortB l).getD i [] = sAt l i := by
  rw [sortB_ordP, List.getD_eq_getElem?_getD, List.getElem?_map, List.getElem?_eq_getElem (by rw [(ordP_srt l).len]; exact h), sAt, (ordP_srt l).get h]; rfl
theorem adj_f {l : List (List UInt8)} {j : Nat} (hj : j + 1 < l.length) (h : pfx (sAt l j) (sAt l (j + 1)) = true) : frontB l = false :=
  frontB_f ((ordP_srt l).lt (by omega)) ((ordP_srt l).lt hj) (fun e => by have := (ordP_srt l).inj (show j < l.length by omega) hj e; omega) h
theorem adj_t {l : List (List UInt8)} (hc : Cod l) (h : ∀ j, j + 1 < l.length → pfx (sAt l j) (sAt l (j + 1)) = false) : frontB l = true := by
  refine frontB_t fun i k hi hk hne => ?_
  cases hp : pfx (l.getD i []) (l.getD k []) with
  | false => rfl
  | true =>
    exfalso
    obtain ⟨a, ha, ea⟩ := (ordP_srt l).sur hi
    obtain ⟨b, hb, eb⟩ := (ordP_srt l).sur hk
    have ha1 : sAt l a = l.getD i [] := by unfold sAt; rw [ea]
    have hb1 : sAt l b = l.getD k [] := by unfold sAt; rw [eb]
    have ht := pfx_iff.1 hp
    have hlen := pfx_len hp
    have hle : l.getD i [] ≤ l.getD k [] := by
      have h2 : l.getD i [] ++ (l.getD k []).drop (l.getD i []).length = l.getD k [] := by
        conv => rhs; rw [← List.take_append_drop (l.getD i []).length (l.getD k [])]
        rw [ht]
      have h3 : ∀ x y : List UInt8, x ≤ x ++ y := by
        intro x y
        induction x with
        | nil => exact List.nil_le _
        | cons c x ih => exact cons_leB.2 (.inr ⟨rfl, ih⟩)
      rw [← h2]; exact h3 _ _
    have hab : a < b := by
      rcases Nat.lt_trichotomy a b with h1 | h1 | h1
      · exact h1
      · exfalso; subst h1; rw [ea] at eb; exact hne eb
      · exfalso
        have h4 := (ordP_srt l).mono (show b ≤ a by omega) ha
        have h5 : l.getD k [] ≤ l.getD i [] := by
          have e1 : l.getD ((ordP l).getD b 0) [] = l.getD k [] := hb1
          have e2 : l.getD ((ordP l).getD a 0) [] = l.getD i [] := ha1
          have h4 : l.getD ((ordP l).getD b 0) [] ≤ l.getD ((ordP l).getD a 0) [] := h4
          rw [e1, e2] at h4
          exact h4
        exact hne (hc.inj i k hi hk (List.le_antisymm hle h5))
    have g1 : sAt l a ≤ sAt l (a + 1) := (ordP_srt l).mono (by omega) (by omega)
    have g2 : sAt l (a + 1) ≤ sAt l b := (ordP_srt l).mono (by omega) hb
    rw [ha1] at g1
    rw [hb1] at g2
    obtain ⟨m1, m2⟩ := mid_lcp (l.getD i []).length _ _ _ g1 g2 (Nat.le_refl _) hlen (by rw [List.take_length, ht])
    have := h a (by omega)
    rw [ha1] at this
    have h6 : pfx (l.getD i []) (sAt l (a + 1)) = true := pfx_iff.2 (by rw [m2, ht])
    rw [h6] at this
    cases this
end Go.Proofs.YtplgghjdidmcfaaGreatDoor
namespace Go.Proofs.YtplgghjdidmcfaaGreatDoor
open Go.RowKit
theorem cloneStr_all (A : Option Addr) (n c B : Nat) (l : List (List UInt8)) (w : World) (hr : Rd w B 1 A n (strCells l)) (hB : B ≤ w.heap.size) (hn : n ≤ 1000) :
    Calls Tryz.prog 65 #[.slice A n c] w fun e w' => ∃ v, e = .returned v ∧ w'.ownsRow w.heap.size 9 1 v n (strCells l) ∧ Below w.heap.size w w' := by
  rcases Nat.eq_zero_or_pos n with rfl | h0
  · have hl : l = [] := List.eq_nil_of_length_eq_zero (by have := hr.1; simpa [strCells] using this)
    subst hl
    cases A with
    | none =>
      refine (Tryz.slices_Clone_string_nil 0 c w).mono ?_
      rintro e w' ⟨rfl, rfl⟩
      exact ⟨_, rfl, World.ownsRow_nil _ _ _ _, Below.refl _ _⟩
    | some a =>
      refine (Tryz.slices_Clone_string_zero a c w).mono ?_
      rintro e w' ⟨v, rfl, h1, _, h2⟩
      exact ⟨v, rfl, h1, h2⟩
  · exact clone_str A n c B l w hr hB hn h0
end Go.Proofs.YtplgghjdidmcfaaGreatDoor
