/- lyndon.Is, lyndon.Least and what the document says of them. -/
import Derived.Test.YtllcmmpepchieaaLynW
import Derived.Sort.Walk0
import Derived.Test.YtllcmmpepchieaaWord2
import Derived.Test.YtllcmmpepchieaaShelf
import Derived.Test.YtllcmmpepchieaaSchedZ
import Derived.Test.YtllcmmpepchieaaApp
namespace Go.Proofs.Ytllcmmpepchieaa
open Go.RowKit
theorem split_is {s : List UInt8} {out : List (List UInt8)} (h : SpAt s out s.length) : lynB s = decide (out.length = 1) := by
  match out, h with
  | [], h =>
    have : s = [] := by have := h.fl; rw [List.take_length] at this; exact this.symm
    subst this; rfl
  | [w], h => rw [lynB_one h]; rfl
  | a :: b :: r, h =>
    rw [lynB_split h (by simp)]
    symm; rw [decide_eq_false_iff_not]; simp
set_option maxHeartbeats 1000000 in
theorem lynIs_large (s : ByteArray) (hs : 200 < s.size) (w : World) :
    Calls Try.prog 28 #[.string s] w fun e w' => e = .returned (.tuple #[.bool false, .int .i64 2]) ∧ Below w.heap.size w w' := by
  go_enter Try.func28, Try.ntmps28
  go_wp2_with fail
  refine (lynSplit_large s hs _).mono ?_
  rintro e w1 ⟨rfl, hb1⟩
  go_wp2_with fail
  go_ret2
  exact ⟨rfl, hb1⟩
set_option maxHeartbeats 1000000 in
theorem lynIs_any (s : ByteArray) (hs : s.size ≤ 200) (w : World) :
    Calls Try.prog 28 #[.string s] w fun e w' => e = .returned (.tuple #[.bool (lynB (L s)), .int .i64 0]) ∧ Below w.heap.size w w' := by
  go_enter Try.func28, Try.ntmps28
  go_wp2_with fail
  refine (lynSplit_any s hs _).mono ?_
  rintro e w1 ⟨v, out, rfl, hsp, hol, hown, hb1⟩
  obtain ⟨A, c, rfl, _, _, _⟩ := own_form hown
  have HI := Lib.hid (split_is (by rw [L_len]; exact hsp))
  clear hsp hown
  have g1 : ((out.length : Int) == 1) = decide (out.length = 1) := by
    rw [Bool.eq_iff_iff, beq_iff_eq, decide_eq_true_iff]; omega
  go_wp2_with fail
  go_ret2
  rw [HI.out]
  exact ⟨rfl, hb1⟩
/-- The least turn of the first i; the first of those. -/
def lst (s : List UInt8) : Nat → Nat
  | 0 => 0
  | i + 1 => if turn s i < turn s (lst s i) then i else lst s i
theorem lst_lt (s : List UInt8) : ∀ i, 0 < i → lst s i < i
  | i + 1, _ => by
    rw [lst]; split
    · omega
    · rcases Nat.eq_zero_or_pos i with h | h
      · subst h; exact Nat.zero_lt_succ _
      · have := lst_lt s i h; omega
theorem lst_le (s : List UInt8) (i : Nat) : lst s i ≤ i := by
  rcases Nat.eq_zero_or_pos i with h | h
  · subst h; exact Nat.le_refl _
  · exact Nat.le_of_lt (lst_lt s i h)
theorem lst_first (s : List UInt8) : ∀ i k, k < lst s i → turn s (lst s i) < turn s k
  | 0, k, h => by simp [lst] at h
  | i + 1, k, h => by
    rw [lst] at h ⊢
    split at h <;> rename_i hc
    · rw [if_pos hc]
      by_cases hk : k < lst s i
      · exact List.lt_trans hc (lst_first s i k hk)
      · by_cases hk2 : k = lst s i
        · rw [hk2]; exact hc
        · -- between the best so far and i
          have key : ∀ j q, q < j → ¬ turn s q < turn s (lst s j) := by
            intro j
            induction j with
            | zero => intro q hq; omega
            | succ j ih =>
              intro q hq
              rw [lst]; split
              · rename_i hc2
                by_cases hqj : q = j
                · subst hqj; exact List.lt_irrefl _
                · intro h3; exact ih q (by omega) (List.lt_trans h3 hc2)
              · rename_i hc2
                by_cases hqj : q = j
                · subst hqj; exact hc2
                · exact ih q (by omega)
          have h1 := key i k h
          by_cases h2 : turn s (lst s i) < turn s k
          · exact List.lt_trans hc h2
          · rw [← List.le_antisymm (List.not_lt.1 h1) (List.not_lt.1 h2)]; exact hc
    · rw [if_neg hc]; exact lst_first s i k h
theorem turn_zero (s : List UInt8) : turn s 0 = s := by simp [turn]
theorem lst_one (s : List UInt8) : lst s 1 = 0 := by
  rw [lst]; split <;> rfl
/-- Turn k as the program makes it. -/
theorem turn_S (s : ByteArray) (k : Nat) : s.extract k s.size ++ s.extract 0 k = S (turn (L s) k) := by
  rw [append_S, L_extract, L_extract, List.drop_zero, Nat.sub_zero, List.take_of_length_le (by rw [List.length_drop, L_len]; exact Nat.le_refl _)]; rfl
theorem less_S (a b : List UInt8) : Op.bytesLess (S a).toList (S b).toList = decide (a < b) := by
  rw [bytesLess_eq]
  have h1 : (S a).toList = a := ByteArray.toList_eq _
  have h2 : (S b).toList = b := ByteArray.toList_eq _
  rw [h1, h2]
theorem sz_extract (s : ByteArray) (a b : Nat) (h : b ≤ s.size) : (s.extract a b).size = b - a := by rw [ByteArray.size_extract]; omega
end Go.Proofs.Ytllcmmpepchieaa
