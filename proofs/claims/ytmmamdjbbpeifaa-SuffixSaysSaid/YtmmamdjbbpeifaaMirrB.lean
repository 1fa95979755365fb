/- mirror.Longest. -/
import Derived.Test.YtmmamdjbbpeifaaMirrA
import Derived.Test.YtmmamdjbbpeifaaWord3
namespace Go.Proofs.Ytmmamdjbbpeifaa
open Go.RowKit
set_option maxHeartbeats 1000000 in
theorem mirrArms_large (s : ByteArray) (hs : 200 < s.size) (w : World) :
    Calls Try.prog 7 #[.string s] w fun e w' => e = .returned (.tuple #[.slice none 0 0, .int .i64 2]) ∧ Below w.heap.size w w' := by
  have HE : Hid (longErr s.size = 2) := by unfold Hid longErr; rw [if_pos hs]
  go_enter Try.func7, Try.ntmps7
  go_wp2_with fail
  refine (wordCheck_any s _).mono ?_
  rintro e w1 ⟨rfl, hb1⟩
  rw [HE.out]
  go_wp2_with fail
  go_ret2
  exact ⟨rfl, hb1⟩
set_option maxHeartbeats 1000000 in
theorem mirrLong_large (s : ByteArray) (hs : 200 < s.size) (w : World) :
    Calls Try.prog 8 #[.string s] w fun e w' => e = .returned (.tuple #[.string ⟨#[]⟩, .int .i64 2]) ∧ Below w.heap.size w w' := by
  go_enter Try.func8, Try.ntmps8
  go_wp2_with fail
  refine (mirrArms_large s hs _).mono ?_
  rintro e w1 ⟨rfl, hb1⟩
  go_wp2_with fail
  go_ret2
  exact ⟨rfl, hb1⟩
/-- Of the middles ahead of k the longest arm is n; the first such one begins at a. -/
structure BestAt (s : List UInt8) (k a n : Nat) : Prop where
  le : ∀ j, j < k → armOf s j ≤ n
  at_ : (n = 0 ∧ a = 0) ∨ (0 < n ∧ ∃ j, j < k ∧ armOf s j = n ∧ a = (j - n) / 2 ∧ ∀ i, i < j → armOf s i < n)
theorem BestAt.start (s : List UInt8) : BestAt s 0 0 0 := ⟨fun j h => by omega, .inl ⟨rfl, rfl⟩⟩
theorem BestAt.more {s : List UInt8} {k a n : Nat} (h : BestAt s k a n) (h1 : n < armOf s k) : BestAt s (k + 1) ((k - armOf s k) / 2) (armOf s k) :=
  ⟨fun j hj => by
    rcases Nat.lt_or_ge j k with h2 | h2
    · have := h.le j h2; omega
    · obtain rfl : j = k := by omega
      exact Nat.le_refl _, .inr ⟨by omega, k, by omega, rfl, rfl, fun i hi => by have := h.le i hi; omega⟩⟩
theorem BestAt.less {s : List UInt8} {k a n : Nat} (h : BestAt s k a n) (h1 : armOf s k ≤ n) : BestAt s (k + 1) a n :=
  ⟨fun j hj => by
    rcases Nat.lt_or_ge j k with h2 | h2
    · exact h.le j h2
    · obtain rfl : j = k := by omega
      exact h1, h.at_.imp id fun ⟨h0, j, h2, h3⟩ => ⟨h0, j, by omega, h3⟩⟩
theorem BestAt.fits {s : List UInt8} {k a n : Nat} (h : BestAt s k a n) (hk : k ≤ 2 * s.length + 1) : a + n ≤ s.length := by
  rcases h.at_ with ⟨rfl, rfl⟩ | ⟨_, j, hj, rfl, rfl, _⟩
  · omega
  · have hm := armOf_max (s := s) (k := j) (by omega)
    have e := hm.even
    have l1 := hm.1.lo
    have l2 := hm.1.hi
    omega
set_option maxRecDepth 100000 in
set_option maxHeartbeats 4000000 in
theorem mirrLong_any (s : ByteArray) (hs : s.size ≤ 200) (w : World) :
    Calls Try.prog 8 #[.string s] w fun e w' => ∃ a n, BestAt (L s) (2 * s.size + 1) a n ∧ e = .returned (.tuple #[.string (S (part (L s) a (a + n))), .int .i64 0]) ∧ Below w.heap.size w w' := by
  have hzL : (L s).length = s.size := by simp [L]
  have HZ := Lib.hid hzL
  clear hzL
  go_enter Try.func8, Try.ntmps8
  go_wp2_with fail
  refine (mirrArms_any s hs _).mono ?_
  rintro e w1 ⟨g, rfl, hrow, hb1⟩
  have HROW := Lib.hid hrow
  clear hrow
  go_wp2_with fail
  go_loopw [20, 6, 7] (fun i av nv wr => ∃ k a n : Nat, k ≤ 2 * s.size + 1 ∧ i = .int .i64 (k : Int) ∧ av = .int .i64 (a : Int) ∧ nv = .int .i64 (n : Int) ∧ Hid (BestAt (L s) k a n) ∧ wr = w1) (fun i _ _ _ => 2 * s.size + 1 - (intOf i).toNat)
  case atStart => exact ⟨0, 0, 0, Nat.zero_le _, rfl, rfl, rfl, Lib.hid (BestAt.start _), rfl⟩
  case round =>
    obtain ⟨k, a, n, hk, rfl, rfl, rfl, HB, rfl⟩ := hrel
    by_cases hlt : k < 2 * s.size + 1
    · have c0 := HROW.out.at_ (k := k) hlt
      rw [armI_at _ k (by rw [HZ.out]; omega)] at c0
      have hm := armOf_max (s := L s) (k := k) (by rw [HZ.out]; omega)
      have l1 := hm.1.lo
      have l2 := hm.1.hi
      rw [HZ.out] at l2
      clear hm
      have HM : Hid (n < armOf (L s) k → BestAt (L s) (k + 1) ((k - armOf (L s) k) / 2) (armOf (L s) k)) := HB.out.more
      have HL : Hid (armOf (L s) k ≤ n → BestAt (L s) (k + 1) a n) := HB.out.less
      generalize armOf (L s) k = x at *
      by_cases hnx : n < x
      · have g2 : decide ((n : Int) < (x : Int)) = true := decide_eq_true (by omega)
        have HN := Lib.hid (HM.out hnx)
        clear HM HL
        obtain ⟨b, hb⟩ : ∃ b, b = (k - x) / 2 := ⟨_, rfl⟩
        have gb : ((k : Int) - (x : Int)) / 2 = (b : Int) := by omega
        rw [← hb] at HN
        clear hb
        go_wp2_with fail
        go_roundw
        case rel => exact ⟨k + 1, b, x, by omega, by go_num, congrArg (Value.int .i64) gb, rfl, HN, by first | rfl | trivial⟩
        case measure => simp [intOf]; omega
      · have g2 : decide ((n : Int) < (x : Int)) = false := decide_eq_false (by omega)
        have HN := Lib.hid (HL.out (by omega))
        clear HM HL
        go_wp2_with fail
        go_roundw
        case rel => exact ⟨k + 1, a, n, by omega, by go_num, rfl, rfl, HN, by first | rfl | trivial⟩
        case measure => simp [intOf]; omega
    · obtain rfl : k = 2 * s.size + 1 := by omega
      have hf := HB.out.fits (by rw [HZ.out]; omega)
      rw [HZ.out] at hf
      go_wp2_with fail
      go_ret2
      refine ⟨a, n, HB.out, ?_, hb1⟩
      rw [extract_S]
      rfl
end Go.Proofs.Ytmmamdjbbpeifaa
