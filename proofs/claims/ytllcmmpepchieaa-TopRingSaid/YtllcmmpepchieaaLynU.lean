/- The document's least turn, and its question whether a word is less than all its turns. -/
import Derived.Test.YtllcmmpepchieaaLynV
import Derived.Lib.MinMaxS
namespace Go.Proofs.Ytllcmmpepchieaa
open Go.RowKit
/-- All turns. -/
def turns (s : List UInt8) (n : Nat) : List (List UInt8) := (List.range n).map (turn s)
theorem turns_len (s : List UInt8) (n : Nat) : (turns s n).length = n := by simp [turns]
theorem turns_succ (s : List UInt8) (n : Nat) : turns s (n + 1) = turns s n ++ [turn s n] := by simp [turns, List.range_succ]
theorem minS_S (a b : List UInt8) : Lib.minS (S a) (S b) = if b < a then S b else S a := by
  unfold Lib.minS
  show (if a < b ∨ a = b then S a else S b) = _
  by_cases h : b < a
  · rw [if_neg (by
      rintro (h1 | h1)
      · exact List.lt_irrefl _ (List.lt_trans h h1)
      · subst h1; exact List.lt_irrefl _ h), if_pos h]
  · rw [if_neg h]
    by_cases h1 : a < b
    · rw [if_pos (.inl h1)]
    · rw [if_pos (.inr (List.le_antisymm (List.not_lt.1 h) (List.not_lt.1 h1)))]
theorem fold_turns (s : List UInt8) : ∀ n, 0 < n → ((turns s n).map S).foldl Lib.minS (S (turn s 0)) = S (turn s (lst s n))
  | 1, _ => by
    rw [lst_one]
    show Lib.minS (S (turn s 0)) (S (turn s 0)) = _
    rw [minS_S, if_neg (List.lt_irrefl _)]
  | n + 2, _ => by
    rw [turns_succ, List.map_append, List.foldl_append, fold_turns s (n + 1) (Nat.succ_pos _)]
    show Lib.minS (S (turn s (lst s (n + 1)))) (S (turn s (n + 1))) = _
    rw [minS_S]
    conv => rhs; rw [lst]
    split <;> rfl
theorem min_turns (s : List UInt8) {n : Nat} (h : 0 < n) : Lib.minOfS ((turns s n).map S) = S (turn s (lst s n)) := by
  have h0 : ((turns s n).map S).headD ByteArray.empty = S (turn s 0) := by
    obtain ⟨m, rfl⟩ : ∃ m, n = m + 1 := ⟨n - 1, by omega⟩
    simp [turns, List.range_succ_eq_map]
  rw [Lib.minOfS, h0]
  exact fold_turns s n h
theorem idx_turns (s : List UInt8) {n : Nat} (h : 0 < n) : Lib.idxOfS ((turns s n).map S) (S (turn s (lst s n))) = (lst s n : Nat) := by
  have hg : ∀ k, k < n → ((turns s n).map S).getD k ByteArray.empty = S (turn s k) := fun k hk => by
    rw [List.getD_eq_getElem?_getD, turns, List.map_map, List.getElem?_map, List.getElem?_range hk]; rfl
  have hl := lst_lt s n h
  have := Lib.idxFromS_hit (S (turn s (lst s n))) ((turns s n).map S) (lst s n) 0 (by rw [List.length_map, turns_len]; exact hl) (hg _ hl) (fun j hj he => by
    rw [hg j (by omega)] at he
    have h1 := lst_first s n j hj
    rw [S_inj he] at h1
    exact List.lt_irrefl _ h1)
  rw [Lib.idxOfS, this, Nat.zero_add]
end Go.Proofs.Ytllcmmpepchieaa
