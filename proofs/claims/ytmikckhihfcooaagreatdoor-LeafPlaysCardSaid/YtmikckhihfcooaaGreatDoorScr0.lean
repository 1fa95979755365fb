/- A script as a text: its numbers and its entries (plain). -/
import Derived.Test.YtmikckhihfcooaaGreatDoorEdit0
import Derived.Lib.Atoi
import Derived.Lib.IndexMore
import Derived.Lib.SlTrimSet
namespace Go.Proofs.YtmikckhihfcooaaGreatDoor
def cutB : List UInt8 → UInt8 → Option (List UInt8 × List UInt8)
  | [], _ => none
  | x :: s, c => if x = c then some ([], s) else (cutB s c).map fun p => (x :: p.1, p.2)
theorem cutB_none {c : UInt8} : ∀ {s : List UInt8}, (∀ b ∈ s, b ≠ c) → cutB s c = none := by
  intro s
  induction s with
  | nil => intro _; rfl
  | cons x s ih =>
    intro h
    rw [cutB, if_neg (h x List.mem_cons_self), ih fun b hb => h b (List.mem_cons_of_mem _ hb)]; rfl
theorem cutB_at {c : UInt8} : ∀ {a r : List UInt8}, (∀ b ∈ a, b ≠ c) → cutB (a ++ c :: r) c = some (a, r) := by
  intro a
  induction a with
  | nil => intro r _; rw [List.nil_append, cutB, if_pos rfl]
  | cons x a ih =>
    intro r h
    rw [List.cons_append, cutB, if_neg (h x List.mem_cons_self), ih fun b hb => h b (List.mem_cons_of_mem _ hb)]; rfl
theorem cutB_spec {c : UInt8} : ∀ {s a r : List UInt8}, cutB s c = some (a, r) → s = a ++ c :: r ∧ ∀ b ∈ a, b ≠ c := by
  intro s
  induction s with
  | nil => intro a r h; cases h
  | cons x s ih =>
    intro a r h
    rw [cutB] at h
    split at h
    · rename_i hx
      simp only [Option.some.injEq, Prod.mk.injEq] at h
      obtain ⟨rfl, rfl⟩ := h
      subst hx
      exact ⟨rfl, by simp⟩
    · rename_i hx
      cases hc : cutB s c with
      | none => rw [hc] at h; cases h
      | some p =>
        rw [hc] at h
        simp only [Option.map_some, Option.some.injEq, Prod.mk.injEq] at h
        obtain ⟨rfl, rfl⟩ := h
        obtain ⟨h1, h2⟩ := ih hc
        exact ⟨by rw [List.cons_append, ← h1], fun b hb => by
          rcases List.mem_cons.1 hb with rfl | hb
          · exact hx
          · exact h2 b hb⟩
theorem cutB_len {c : UInt8} {s a r : List UInt8} (h : cutB s c = some (a, r)) : r.length < s.length := by
  rw [(cutB_spec h).1, List.length_append, List.length_cons]; omega
theorem index_cutB (c : UInt8) : ∀ s : List UInt8, Lib.index s [c] = match cutB s c with
    | some p => (p.1.length : Int)
    | none => -1 := by
  intro s
  induction s with
  | nil => rfl
  | cons x s ih =>
    rw [Lib.index, cutB]
    by_cases h : x = c
    · subst h
      simp
    · have e : List.isPrefixOf [c] (x :: s) = false := by
        simp only [List.isPrefixOf, Bool.and_eq_false_iff, beq_eq_false_iff_ne]
        exact .inl fun e => h e.symm
      rw [e, if_neg h]
      simp only [Bool.false_eq_true, if_false, ih]
      cases cutB s c with
      | none => rfl
      | some p =>
        simp only [Option.map_some, List.length_cons]
        rw [if_neg (by first | (simp; done) | (simp; omega)), Int.natCast_add]
        rfl
theorem cut_lib (s : List UInt8) (c : UInt8) : Lib.cut s [c] = match cutB s c with
    | some p => (p.1, p.2, true)
    | none => (s, [], false) := by
  unfold Lib.cut
  rw [index_cutB]
  cases h : cutB s c with
  | none => rfl
  | some p =>
    obtain ⟨a, r⟩ := p
    simp only
    rw [if_pos (by omega), (cutB_spec h).1]
    simp
/-- Where the first k bytes are not the end: what is cut begins with them. -/
theorem cutB_pre {c : UInt8} {s a r : List UInt8} {k : Nat} (hn : ∀ b ∈ s.take k, b ≠ c) (h : cutB s c = some (a, r)) : ∃ q, a = s.take k ++ q := by
  obtain ⟨h1, h2⟩ := cutB_spec h
  have hka : k ≤ a.length := by
    rcases Nat.lt_or_ge a.length k with h3 | h3
    · exfalso
      refine hn c ?_ rfl
      rw [h1, List.take_append, List.mem_append]
      right
      rw [show k - a.length = (k - a.length - 1) + 1 by omega, List.take_succ_cons]
      exact List.mem_cons_self
    · exact h3
  refine ⟨a.drop k, ?_⟩
  rw [h1, List.take_append_of_le_length hka, List.take_append_drop]
theorem dec_app : ∀ (x y : List UInt8) (acc : Nat), Lib.decFrom acc (x ++ y) = match Lib.decFrom acc x with
    | some v => Lib.decFrom v y
    | none => none := by
  intro x
  induction x with
  | nil => intro y acc; rfl
  | cons b x ih =>
    intro y acc
    rw [List.cons_append, Lib.decFrom, Lib.decFrom]
    cases Lib.digitVal b with
    | none => rfl
    | some d => exact ih y _
theorem dec_ge : ∀ (x : List UInt8) (acc v : Nat), Lib.decFrom acc x = some v → acc * 10 ^ x.length ≤ v := by
  intro x
  induction x with
  | nil => intro acc v h; simp [Lib.decFrom] at h; subst h; simp
  | cons b x ih =>
    intro acc v h
    rw [Lib.decFrom] at h
    cases hd : Lib.digitVal b with
    | none => rw [hd] at h; cases h
    | some d =>
      rw [hd] at h
      have := ih _ _ h
      rw [List.length_cons, Nat.pow_succ, Nat.mul_comm (10 ^ x.length) 10, ← Nat.mul_assoc]
      exact Nat.le_trans (Nat.mul_le_mul_right _ (by omega)) this
theorem dec_up {x : List UInt8} {acc v : Nat} (h : Lib.decFrom acc x = some v) : acc ≤ v :=
  Nat.le_trans (Nat.le_mul_of_pos_right _ (Nat.pow_pos (by omega))) (dec_ge _ _ _ h)
/-- A numeral: none empty, of three digits at most, without a nought ahead. -/
def okNum (a : List UInt8) : Bool := decide (a.length ≠ 0 ∧ a.length ≤ 3 ∧ ¬ (a.getD 0 0 = 48 ∧ 1 < a.length))
def valNum (a : List UInt8) : Option Nat := if okNum a then Lib.decFrom 0 a else none
def cutNum (s : List UInt8) (c : UInt8) : Option (Nat × List UInt8) := match cutB s c with
  | some p => (valNum p.1).map fun v => (v, p.2)
  | none => none
def progNum (s : List UInt8) (c : UInt8) (most : Nat) : Option (Nat × List UInt8) := match cutNum s c with
  | some p => if p.1 ≤ most then some p else none
  | none => none
theorem dig48 {b : UInt8} {d : Nat} (h : Lib.digitVal b = some d) : d = b.toNat - 48 ∧ 48 ≤ b.toNat ∧ b.toNat ≤ 57 := by
  unfold Lib.digitVal at h
  split at h
  · rename_i hb
    cases h; exact ⟨rfl, hb⟩
  · cases h
theorem okNum_small {a : List UInt8} {n : Nat} (h : Lib.decFrom 0 a = some n) (hn : n ≤ 999) : okNum a = (decide (0 < a.length) && (decide (a.getD 0 0 ≠ 48) || decide (a.length = 1))) := by
  cases a with
  | nil => rfl
  | cons b a =>
    rw [Lib.decFrom] at h
    cases hd : Lib.digitVal b with
    | none => rw [hd] at h; cases h
    | some d =>
      rw [hd] at h
      obtain ⟨e, h1, h2⟩ := dig48 hd
      have h3 := dec_ge _ _ _ h
      unfold okNum
      simp only [List.length_cons, List.getD_cons_zero]
      by_cases h48 : b = 48
      · subst h48
        cases a with
        | nil => decide
        | cons y a =>
          rw [Bool.eq_iff_iff]
          simp
      · have hb : b.toNat ≠ 48 := fun e => h48 (UInt8.toNat_inj.1 (e.trans (rfl : 48 = (48 : UInt8).toNat)))
        have hd1 : 1 ≤ d := by omega
        have hl : a.length ≤ 2 := by
          rcases Nat.lt_or_ge 2 a.length with h4 | h4
          · exfalso
            have h5 : 10 ^ 3 ≤ 10 ^ a.length := Nat.pow_le_pow_right (by omega) h4
            have h6 : 1 * 10 ^ a.length ≤ (0 * 10 + d) * 10 ^ a.length := Nat.mul_le_mul_right _ (by omega)
            omega
          · exact h4
        rw [Bool.eq_iff_iff]
        simp [h48]
        omega
/- What the program's reading of a number comes to. -/
theorem num_end {s : List UInt8} {c : UInt8} {most k n : Nat} (hk : k < s.length) (hn : ∀ b ∈ s.take k, b ≠ c) (hd : Lib.decFrom 0 (s.take k) = some n) (hm : n ≤ most) (hm9 : most ≤ 999) (hc : s.getD k 0 = c) :
    progNum s c most = if (decide (0 < k) && (decide (s.getD 0 0 ≠ 48) || decide (k = 1))) = true then some (n, s.drop (k + 1)) else none := by
  have e : s = s.take k ++ c :: s.drop (k + 1) := by
    conv => lhs; rw [← List.take_append_drop k s]
    rw [List.drop_eq_getElem_cons hk]
    congr 2
    rw [← hc, List.getD_eq_getElem?_getD, List.getElem?_eq_getElem hk]; rfl
  have h1 : cutB s c = some (s.take k, s.drop (k + 1)) := by
    conv => lhs; rw [e]
    exact cutB_at hn
  have h2 := okNum_small hd (by omega)
  have h3 : (s.take k).length = k := by rw [List.length_take]; omega
  unfold progNum cutNum
  rw [h1]
  simp only
  unfold valNum
  rw [h2, h3]
  cases Nat.eq_zero_or_pos k with
  | inl h0 => subst h0; simp
  | inr h0 =>
    have h4 : (s.take k).getD 0 0 = s.getD 0 0 := by
      rw [List.getD_eq_getElem?_getD, List.getD_eq_getElem?_getD, List.getElem?_take, if_pos h0]
    rw [h4]
    by_cases hf : (decide (0 < k) && (decide (s.getD 0 0 ≠ 48) || decide (k = 1))) = true
    · rw [if_pos hf, if_pos hf, hd]; simp only [Option.map_some]; rw [if_pos hm]
    · rw [if_neg hf, if_neg hf]; rfl
theorem num_stop {s : List UInt8} {c : UInt8} {most k : Nat} (hn : ∀ b ∈ s.take (k + 1), b ≠ c) (hd : Lib.decFrom 0 (s.take (k + 1)) = none) : progNum s c most = none := by
  unfold progNum cutNum
  cases h : cutB s c with
  | none => rfl
  | some p =>
    obtain ⟨a, r⟩ := p
    obtain ⟨q, rfl⟩ := cutB_pre hn h
    simp only
    have : valNum (s.take (k + 1) ++ q) = none := by
      unfold valNum
      rw [dec_app, hd]; split <;> rfl
    rw [this]; rfl
theorem num_much {s : List UInt8} {c : UInt8} {most k n : Nat} (hn : ∀ b ∈ s.take (k + 1), b ≠ c) (hd : Lib.decFrom 0 (s.take (k + 1)) = some n) (hm : most < n) : progNum s c most = none := by
  unfold progNum cutNum
  cases h : cutB s c with
  | none => rfl
  | some p =>
    obtain ⟨a, r⟩ := p
    obtain ⟨q, rfl⟩ := cutB_pre hn h
    simp only
    cases hv : valNum (s.take (k + 1) ++ q) with
    | none => rfl
    | some v =>
      unfold valNum at hv
      split at hv
      · rw [dec_app, hd] at hv
        have := dec_up hv
        simp only [Option.map_some]
        rw [if_neg (by omega)]
      · cases hv
theorem num_none {s : List UInt8} {c : UInt8} {most : Nat} (hn : ∀ b ∈ s, b ≠ c) : progNum s c most = none := by
  unfold progNum cutNum
  rw [cutB_none hn]
end Go.Proofs.YtmikckhihfcooaaGreatDoor
