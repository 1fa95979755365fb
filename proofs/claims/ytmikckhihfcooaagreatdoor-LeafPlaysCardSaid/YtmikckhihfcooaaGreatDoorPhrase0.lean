/- Phrases, as plain functions. No program in sight. -/
import Derived.Test.YtmikckhihfcooaaGreatDoorBase
namespace Go.Proofs.YtmikckhihfcooaaGreatDoor
/-- The phrases of a text, a byte at a time. -/
def lz : List (List UInt8) → List UInt8 → List UInt8 → List (Nat × UInt8) × List UInt8
  | _, cur, [] => ([], cur)
  | T, cur, c :: r => if cur ++ [c] ∈ T then lz T (cur ++ [c]) r else ((T.idxOf cur, c) :: (lz (T ++ [cur ++ [c]]) [] r).1, (lz (T ++ [cur ++ [c]]) [] r).2)
structure Closed (T : List (List UInt8)) : Prop where
  nil : T[0]? = some []
  pre : ∀ t c, t ++ [c] ∈ T → t ∈ T
  nodup : T.Nodup
theorem Closed.mem {T : List (List UInt8)} (h : Closed T) : [] ∈ T := List.mem_of_getElem? h.nil
theorem Closed.start : Closed [[]] := ⟨rfl, by simp, by simp⟩
theorem Closed.add {T : List (List UInt8)} {m : List UInt8} {c : UInt8} (h : Closed T) (hm : m ∈ T) (hn : m ++ [c] ∉ T) : Closed (T ++ [m ++ [c]]) := by
  refine ⟨?_, ?_, ?_⟩
  · have := h.nil
    rw [List.getElem?_append_left (List.getElem?_eq_some_iff.1 this).1]; exact this
  · intro t d ht
    simp only [List.mem_append, List.mem_singleton] at ht ⊢
    rcases ht with ht | ht
    · exact .inl (h.pre t d ht)
    · rw [List.append_inj_left' ht rfl]; exact .inl hm
  · rw [List.nodup_append]
    refine ⟨h.nodup, by simp, ?_⟩
    intro a ha b hb hab
    simp only [List.mem_singleton] at hb
    subst hb hab
    exact hn ha
theorem Closed.take {T : List (List UInt8)} (h : Closed T) : ∀ (k : Nat) (t : List UInt8), t ∈ T → t.length - k ≤ t.length → t.take (t.length - k) ∈ T := by
  intro k
  induction k with
  | zero => intro t ht _; simpa using ht
  | succ k ih =>
    intro t ht _
    have h1 := ih t ht (Nat.sub_le _ _)
    by_cases hk : t.length - k = 0
    · rw [show t.length - (k + 1) = t.length - k by omega]; exact h1
    · have h2 : t.take (t.length - k) = t.take (t.length - (k + 1)) ++ [t[t.length - (k + 1)]'(by omega)] := by
        rw [show t.length - k = (t.length - (k + 1)) + 1 by omega, List.take_append_getElem]
      rw [h2] at h1
      exact h.pre _ _ h1
theorem Closed.take' {T : List (List UInt8)} (h : Closed T) {t : List UInt8} (ht : t ∈ T) (n : Nat) : t.take n ∈ T := by
  by_cases hn : n ≤ t.length
  · have := h.take (t.length - n) t ht (Nat.sub_le _ _)
    rwa [show t.length - (t.length - n) = n by omega] at this
  · rw [List.take_of_length_le (by omega)]; exact ht
/-- m is the longest of T that the text begins with. -/
structure Longest (T : List (List UInt8)) (u m : List UInt8) : Prop where
  mem : m ∈ T
  pre : m <+: u
  max : ∀ t ∈ T, t <+: u → t.length ≤ m.length
theorem lz_long {T : List (List UInt8)} (hC : Closed T) : ∀ (r cur m : List UInt8), cur ∈ T → Longest T (cur ++ r) m →
    lz T cur r = if h : m.length < (cur ++ r).length then ((T.idxOf m, (cur ++ r)[m.length]) :: (lz (T ++ [(cur ++ r).take (m.length + 1)]) [] ((cur ++ r).drop (m.length + 1))).1, (lz (T ++ [(cur ++ r).take (m.length + 1)]) [] ((cur ++ r).drop (m.length + 1))).2) else ([], cur ++ r) := by
  intro r
  induction r with
  | nil =>
    intro cur m hc hm
    have h1 := hm.max cur hc (by simp)
    simp only [List.append_nil] at *
    rw [dif_neg (by omega), lz]
  | cons c r ih =>
    intro cur m hc hm
    rw [lz]
    by_cases hin : cur ++ [c] ∈ T
    · rw [if_pos hin]
      have e : cur ++ c :: r = (cur ++ [c]) ++ r := by simp
      have := ih (cur ++ [c]) m hin (by rw [← e]; exact hm)
      rw [this]
      simp only [e]
    · rw [if_neg hin]
      have h1 := hm.max cur hc (by simp)
      have h2 : m.length = cur.length := by
        refine Nat.le_antisymm ?_ h1
        refine Nat.le_of_not_lt fun hlt => hin ?_
        have h3 := hC.take' hm.mem (cur.length + 1)
        have h4 : m.take (cur.length + 1) = cur ++ [c] := by
          obtain ⟨z, hz⟩ := hm.pre
          have := congrArg (List.take (cur.length + 1)) hz
          rw [List.take_append_of_le_length (by omega)] at this
          rw [this]
          simp [List.take_append, List.take_of_length_le]
        rw [← h4]; exact h3
      have h5 : m = cur := by
        obtain ⟨z, hz⟩ := hm.pre
        exact (List.append_inj hz h2).1
      subst h5
      rw [dif_pos (by simp)]
      simp [List.take_append, List.drop_append, List.take_of_length_le, List.drop_of_length_le]
/-- The search for the longest. -/
def better (T : List (List UInt8)) (u : List UInt8) (b k : Nat) : Nat := if (T.getD b []).length < (T.getD k []).length ∧ T.getD k [] <+: u then k else b
def bestTo (T : List (List UInt8)) (u : List UInt8) : Nat → Nat
  | 0 => 0
  | k + 1 => better T u (bestTo T u k) k
theorem bestTo_long {T : List (List UInt8)} (hC : Closed T) (u : List UInt8) : ∀ k, k ≤ T.length → bestTo T u k < T.length ∧ T.getD (bestTo T u k) [] <+: u ∧ ∀ j < k, T.getD j [] <+: u → (T.getD j []).length ≤ (T.getD (bestTo T u k) []).length := by
  have h0 : 0 < T.length := (List.getElem?_eq_some_iff.1 hC.nil).1
  intro k
  induction k with
  | zero => intro _; exact ⟨h0, by simp [bestTo, List.getD, hC.nil], by simp⟩
  | succ k ih =>
    intro hk
    obtain ⟨h1, h2, h3⟩ := ih (by omega)
    simp only [bestTo, better]
    split
    · rename_i h
      refine ⟨by omega, h.2, fun j hj hp => ?_⟩
      by_cases hjk : j = k
      · subst hjk; exact Nat.le_refl _
      · exact Nat.le_trans (h3 j (by omega) hp) (Nat.le_of_lt h.1)
    · rename_i h
      refine ⟨h1, h2, fun j hj hp => ?_⟩
      by_cases hjk : j = k
      · subst hjk
        exact Nat.le_of_not_lt fun hlt => h ⟨hlt, hp⟩
      · exact h3 j (by omega) hp
theorem best_longest {T : List (List UInt8)} (hC : Closed T) (u : List UInt8) : Longest T u (T.getD (bestTo T u T.length) []) := by
  obtain ⟨h1, h2, h3⟩ := bestTo_long hC u T.length (Nat.le_refl _)
  refine ⟨?_, h2, fun t ht hp => ?_⟩
  · rw [List.getD_eq_getElem?_getD, List.getElem?_eq_getElem h1]; exact List.getElem_mem h1
  · obtain ⟨j, hj, rfl⟩ := List.getElem_of_mem ht
    have := h3 j hj
    simp only [List.getD_eq_getElem?_getD, List.getElem?_eq_getElem hj, Option.getD_some] at this
    exact this hp
theorem best_idx {T : List (List UInt8)} (hC : Closed T) (u : List UInt8) : T.idxOf (T.getD (bestTo T u T.length) []) = bestTo T u T.length := by
  obtain ⟨h1, _, _⟩ := bestTo_long hC u T.length (Nat.le_refl _)
  rw [List.getD_eq_getElem?_getD, List.getElem?_eq_getElem h1, Option.getD_some]
  exact hC.nodup.idxOf_getElem _ h1
/-- What the texts of phrases are; an error. -/
def phrText : (T : List (List UInt8)) → (out : List UInt8) → List (Int × UInt8) → Option (List UInt8) × Int
  | _, out, [] => (some out, 0)
  | T, out, (b, c) :: l => if b < 0 ∨ (T.length : Int) - 1 < b then (none, 1)
    else if 200 < (out ++ (T.getD b.toNat [] ++ [c])).length then (none, 2)
    else phrText (T ++ [T.getD b.toNat [] ++ [c]]) (out ++ (T.getD b.toNat [] ++ [c])) l
end Go.Proofs.YtmikckhihfcooaaGreatDoor
