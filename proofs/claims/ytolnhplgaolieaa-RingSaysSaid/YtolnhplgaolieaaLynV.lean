/- lyndon.Is, lyndon.Least and what the document says of them. -/
import Derived.Test.YtolnhplgaolieaaLynW
import Derived.Test.YtolnhplgaolieaaWord2
import Derived.Test.YtolnhplgaolieaaShelf
import Derived.Test.YtolnhplgaolieaaSchedZ
import Derived.Test.YtolnhplgaolieaaApp
namespace Go.Proofs.Ytolnhplgaolieaa
open Go.RowKit
theorem split_is {s : List UInt8} {out : List (List UInt8)} (h : SpAt s out s.length) : lynB s = decide (out.length = 1) := by
  match out, h with
  | [], h =>
    have : s = [] := by have := h.fl; rw [List.take_length] at this; exact this.symm
    subst this; rfl
  | [w], h => rw [lynB_one h]; rfl
  | a :: b :: r, h =>
    rw [lynB_split h (by simp)]
    symm; rw [decide_eq_false_iff_not]; simp
set_option maxHeartbeats 1000000 in
theorem lynIs_large (s : ByteArray) (hs : 200 < s.size) (w : World) :
    Calls Try.prog 30 #[.string s] w fun e w' => e = .returned (.tuple #[.bool false, .int .i64 2]) ∧ Below w.heap.size w w' := by
  go_enter Try.func30, Try.ntmps30
  go_wp2_with fail
  refine (lynSplit_large s hs _).mono ?_
  rintro e w1 ⟨rfl, hb1⟩
  go_wp2_with fail
  go_ret2
  exact ⟨rfl, hb1⟩
set_option maxHeartbeats 1000000 in
theorem lynIs_any (s : ByteArray) (hs : s.size ≤ 200) (w : World) :
    Calls Try.prog 30 #[.string s] w fun e w' => e = .returned (.tuple #[.bool (lynB (L s)), .int .i64 0]) ∧ Below w.heap.size w w' := by
  go_enter Try.func30, Try.ntmps30
  go_wp2_with fail
  refine (lynSplit_any s hs _).mono ?_
  rintro e w1 ⟨v, out, rfl, hsp, hol, hown, hb1⟩
  obtain ⟨A, c, rfl, _, _, _⟩ := own_form hown
  have HI := Lib.hid (split_is (by rw [L_len]; exact hsp))
  clear hsp hown
  have g1 : ((out.length : Int) == 1) = decide (out.length = 1) := by
    rw [Bool.eq_iff_iff, beq_iff_eq, decide_eq_true_iff]; omega
  go_wp2_with fail
  go_ret2
  rw [HI.out]
  exact ⟨rfl, hb1⟩
/-- The least turn of the first i; the first of those. -/
def lst (s : List UInt8) : Nat → Nat
  | 0 => 0
  | i + 1 => if turn s i < turn s (lst s i) then i else lst s i
theorem lst_lt (s : List UInt8) : ∀ i, 0 < i → lst s i < i
  | i + 1, _ => by
    rw [lst]; split
    · omega
    · rcases Nat.eq_zero_or_pos i with h | h
      · subst h; exact Nat.zero_lt_succ _
      · have := lst_lt s i h; omega
theorem lst_le (s : List UInt8) (i : Nat) : lst s i ≤ i := by
  rcases Nat.eq_zero_or_pos i with h | h
  · subst h; exact Nat.le_refl _
  · exact Nat.le_of_lt (lst_lt s i h)
theorem lst_first (s : List UInt8) : ∀ i k, k < lst s i → turn s (lst s i) < turn s k
  | 0, k, h => by simp [lst] at h
  | i + 1, k, h => by
    rw [lst] at h ⊢
    split at h <;> rename_i hc
    · rw [if_pos hc]
      by_cases hk : k < lst s i
      · exact List.lt_trans hc (lst_first s i k hk)
      · by_cases hk2 : k = lst s i
        · rw [hk2]; exact hc
        · -- between the best so far and i
          have key : ∀ j q, q < j → ¬ turn s q < turn s (lst s j) := by
            intro j
            induction j with
            | zero => intro q hq; omega
            | succ j ih =>
              intro q hq
              rw [lst]; split
              · rename_i hc2
                by_cases hqj : q = j
                · subst hqj; exact List.lt_irrefl _
                · intro h3; exact ih q (by omega) (List.lt_trans h3 hc2)
              · rename_i hc2
                by_cases hqj : q = j
                · subst hqj; exact hc2
                · exact ih q (by omega)
          have h1 := key i k h
          by_cases h2 : turn s (lst s i) < turn s k
          · exact List.lt_trans hc h2
          · rw [← List.le_antisymm (List.not_lt.1 h1) (List.not_lt.1 h2)]; exact hc
    · rw [if_neg hc]; exact lst_first s i k h
theorem turn_zero (s : List UInt8) : turn s 0 = s := by simp [turn]
theorem lst_one (s : List UInt8) : lst s 1 = 0 := by
  rw [lst]; split <;> rfl
/-- Turn k as the program makes it. -/
theorem turn_S (s : ByteArray) (k : Nat) : s.extract k s.size ++ s.extract 0 k = S (turn (L s) k) := by
  rw [append_S, L_extract, L_extract, List.drop_zero, Nat.sub_zero, List.take_of_length_le (by rw [List.length_drop, L_len]; exact Nat.le_refl _)]; rfl
theorem less_S (a b : List UInt8) : Op.bytesLess (S a).toList (S b).toList = decide (a < b) := by
  rw [bytesLess_eq]
  have h1 : (S a).toList = a := ByteArray.toList_eq _
  have h2 : (S b).toList = b := ByteArray.toList_eq _
  rw [h1, h2]
theorem sz_extract (s : ByteArray) (a b : Nat) (h : b ≤ s.size) : (s.extract a b).size = b - a := by rw [ByteArray.size_extract]; omega
set_option maxRecDepth 100000 in
set_option maxHeartbeats 4000000 in
theorem lynLeast_any (s : ByteArray) (hs : s.size ≤ 200) (w : World) :
    Calls Try.prog 31 #[.string s] w fun e w' => e = .returned (.tuple #[.string (S (turn (L s) (lst (L s) s.size))), .int .i64 (lst (L s) s.size : Nat), .int .i64 0]) ∧ Below w.heap.size w w' := by
  have HE : Hid (longErr s.size = 0) := by unfold Hid longErr; rw [if_neg (by omega)]
  go_enter Try.func31, Try.ntmps31
  go_wp2_with fail
  refine (wordCheck_any s _).mono ?_
  rintro e w1 ⟨rfl, hb1⟩
  rw [HE.out]
  go_wp2_with fail
  go_loopw [6, 7] (fun b k wr => ∃ k' : Nat, 1 ≤ k' ∧ (k' ≤ s.size ∨ k' = 1) ∧ k = .int .i64 (k' : Int) ∧ b = .int .i64 ((lst (L s) k' : Nat) : Int) ∧ Below w.heap.size w wr) (fun _ k _ => s.size - (intOf k).toNat)
  case atStart => exact ⟨1, Nat.le_refl _, .inr rfl, rfl, by rw [lst_one]; rfl, hb1⟩
  case round =>
    clear hb1
    obtain ⟨k, hk1, hk, rfl, rfl, hb⟩ := hrel
    have hll := lst_lt (L s) k (by omega)
    by_cases hlt : k < s.size
    · have g1 : decide ((k : Int) < (s.size : Int)) = true := decide_eq_true (by omega)
      have z1 := sz_extract s k s.size (Nat.le_refl _)
      have z2 := sz_extract s 0 k (by omega)
      have z3 := sz_extract s (lst (L s) k) s.size (Nat.le_refl _)
      have z4 := sz_extract s 0 (lst (L s) k) (by omega)
      have HT1 := Lib.hid (turn_S s k)
      have HT2 := Lib.hid (turn_S s (lst (L s) k))
      have HNX : Hid (lst (L s) (k + 1) = if turn (L s) k < turn (L s) (lst (L s) k) then k else lst (L s) k) := rfl
      generalize lst (L s) k = b at *
      have hbs : b < s.size := by omega
      by_cases hc : turn (L s) k < turn (L s) b
      · have g2 : Op.bytesLess (s.extract k s.size ++ s.extract 0 k).toList (s.extract b s.size ++ s.extract 0 b).toList = true := by
          rw [HT1.out, HT2.out, less_S, decide_eq_true_iff]; exact hc
        have HN : Hid (lst (L s) (k + 1) = k) := by unfold Hid; rw [HNX.out, if_pos hc]
        clear hc
        go_wp2_with fail
        go_quiet (fail)
        go_wp2_with fail
        go_roundw
        case rel => exact ⟨k + 1, by omega, .inl (by omega), by go_num, by rw [HN.out], below_drewN hb _⟩
        case measure => simp [intOf]; omega
      · have g2 : Op.bytesLess (s.extract k s.size ++ s.extract 0 k).toList (s.extract b s.size ++ s.extract 0 b).toList = false := by
          rw [HT1.out, HT2.out, less_S, decide_eq_false_iff_not]; exact hc
        have HN : Hid (lst (L s) (k + 1) = b) := by unfold Hid; rw [HNX.out, if_neg hc]
        clear hc
        go_wp2_with fail
        go_quiet (fail)
        go_wp2_with fail
        go_roundw
        case rel => exact ⟨k + 1, by omega, .inl (by omega), by go_num, by rw [HN.out], below_drewN hb _⟩
        case measure => simp [intOf]; omega
    · have g1 : decide ((k : Int) < (s.size : Int)) = false := decide_eq_false (by omega)
      have hfin : lst (L s) k = lst (L s) s.size := by
        rcases hk with h | h
        · rw [show k = s.size by omega]
        · subst h
          rcases Nat.eq_zero_or_pos s.size with h0 | h0
          · rw [h0, lst_one]; rfl
          · rw [show s.size = 1 by omega]
      have hle : lst (L s) k ≤ s.size := by rw [hfin]; exact lst_le _ _
      have HF := Lib.hid hfin
      clear hfin
      have z3 := sz_extract s (lst (L s) k) s.size (Nat.le_refl _)
      have z4 := sz_extract s 0 (lst (L s) k) hle
      have HT2 := Lib.hid (turn_S s (lst (L s) k))
      generalize lst (L s) k = b at *
      go_wp2_with fail
      go_quiet (fail)
      go_wp2_with fail
      go_ret3
      refine ⟨?_, below_drewN hb _⟩
      rw [← HF.out, ← HT2.out]
      rfl
set_option maxHeartbeats 1000000 in
theorem lynLeast_large (s : ByteArray) (hs : 200 < s.size) (w : World) :
    Calls Try.prog 31 #[.string s] w fun e w' => e = .returned (.tuple #[.string ⟨#[]⟩, .int .i64 0, .int .i64 2]) ∧ Below w.heap.size w w' := by
  have HE : Hid (longErr s.size = 2) := by unfold Hid longErr; rw [if_pos hs]
  go_enter Try.func31, Try.ntmps31
  go_wp2_with fail
  refine (wordCheck_any s _).mono ?_
  rintro e w1 ⟨rfl, hb1⟩
  rw [HE.out]
  go_wp2_with fail
  go_ret3
  exact ⟨rfl, hb1⟩
end Go.Proofs.Ytolnhplgaolieaa
