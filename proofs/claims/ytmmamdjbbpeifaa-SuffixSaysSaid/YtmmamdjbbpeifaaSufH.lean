/- suffix.Unlike and suffix.Twice. -/
import Derived.Test.YtmmamdjbbpeifaaSufG
namespace Go.Proofs.Ytmmamdjbbpeifaa
open Go.RowKit
theorem lcpA_leN (s : List UInt8) (k : Nat) : lcpA s k ≤ s.length := by
  have h1 := lcpA_le s k
  have h2 := sufA_len (s := s) (k := k)
  omega
theorem sum_lcp (s : List UInt8) : ∀ k, sumN (lcpA s) k ≤ k * s.length := by
  intro k
  induction k with
  | zero => simp [sumN_zero]
  | succ k ih =>
    rw [sumN_succ, Nat.succ_mul]
    have := lcpA_leN s k
    omega
set_option maxHeartbeats 1000000 in
theorem sufUnlike_large (s : ByteArray) (hs : 200 < s.size) (w : World) :
    Calls Try.prog 16 #[.string s] w fun e w' => e = .returned (.tuple #[.int .i64 0, .int .i64 2]) ∧ Below w.heap.size w w' := by
  go_enter Try.func16, Try.ntmps16
  go_wp2_with fail
  refine (common_large s hs _).mono ?_
  rintro e w1 ⟨rfl, hb1⟩
  go_wp2_with fail
  go_ret2
  exact ⟨rfl, hb1⟩
set_option maxHeartbeats 1000000 in
theorem sufTwice_large (s : ByteArray) (hs : 200 < s.size) (w : World) :
    Calls Try.prog 17 #[.string s] w fun e w' => e = .returned (.tuple #[.string ⟨#[]⟩, .int .i64 2]) ∧ Below w.heap.size w w' := by
  go_enter Try.func17, Try.ntmps17
  go_wp2_with fail
  refine (order_large s hs _).mono ?_
  rintro e w1 ⟨rfl, hb1⟩
  go_wp2_with fail
  go_ret2
  exact ⟨rfl, hb1⟩
set_option maxRecDepth 100000 in
set_option maxHeartbeats 4000000 in
theorem sufUnlike_any (s : ByteArray) (hs : s.size ≤ 200) (w : World) :
    Calls Try.prog 16 #[.string s] w fun e w' => e = .returned (.tuple #[.int .i64 ((fact (L s)).length : Nat), .int .i64 0]) ∧ Below w.heap.size w w' := by
  have HZ : Hid ((L s).length = s.size) := L_len s
  obtain ⟨P, hP⟩ : ∃ P, s.size * (s.size + 1) = P := ⟨_, rfl⟩
  have hPb : P ≤ 40200 := by rw [← hP]; exact Nat.le_trans (Nat.mul_le_mul hs (by omega : s.size + 1 ≤ 201)) (by omega)
  have gp : (s.size : Int) * ((s.size : Int) + 1) = (P : Int) := by rw [← hP]; simp
  have HU : Hid ((fact (L s)).length + sumN (lcpA (L s)) s.size = P / 2) := by
    have := unlike_is (L s)
    rw [HZ.out, hP] at this
    exact this
  clear hP
  go_enter Try.func16, Try.ntmps16
  go_wp2_with fail
  refine (common_any s hs _).mono ?_
  rintro e w1 ⟨g, rfl, hrow, hb1⟩
  have HROW := Lib.hid hrow
  clear hrow
  go_wp2_with fail
  go_loopw [26, 6] (fun iv nv wr => ∃ k : Nat, k ≤ s.size ∧ iv = .int .i64 (k : Int) ∧ nv = .int .i64 ((P : Int) / 2 - (sumN (lcpA (L s)) k : Int)) ∧ wr = w1) (fun iv _ _ => s.size - (intOf iv).toNat)
  case atStart => exact ⟨0, Nat.zero_le _, rfl, by first | rfl | (rw [sumN_zero]; go_num), rfl⟩
  case round =>
    obtain ⟨k, hk, rfl, rfl, rfl⟩ := hrel
    have hsb := sum_lcp (L s) k
    rw [HZ.out] at hsb
    have hsb2 : sumN (lcpA (L s)) k ≤ 40000 := Nat.le_trans hsb (Nat.le_trans (Nat.mul_le_mul (by omega : k ≤ 200) hs) (by omega))
    clear hsb
    by_cases hlt : k < s.size
    · have g1 : decide ((k : Int) < (s.size : Int)) = true := decide_eq_true (by omega)
      have g1' : decide (k < s.size) = true := decide_eq_true hlt
      have c0 := HROW.out.at_ (k := k) hlt
      rw [comI_at _ (by rw [HZ.out]; exact hlt)] at c0
      have hle := lcpA_leN (L s) k
      rw [HZ.out] at hle
      have HN := Lib.hid (sumN_succ (lcpA (L s)) k)
      generalize lcpA (L s) k = x at *
      obtain ⟨q, hq⟩ : ∃ q, sumN (lcpA (L s)) k = q := ⟨_, rfl⟩
      rw [hq] at HN hsb2 ⊢
      clear hq
      go_wp2_with fail
      go_roundw
      case rel => exact ⟨k + 1, by omega, by go_num, congrArg (Value.int .i64) (by rw [HN.out]; omega), by first | rfl | trivial⟩
      case measure => simp [intOf]; omega
    · obtain rfl : k = s.size := by omega
      have g1 : decide ((s.size : Int) < (s.size : Int)) = false := decide_eq_false (by omega)
      have g1' : decide (s.size < s.size) = false := decide_eq_false hlt
      have HV : Hid ((P : Int) / 2 - (sumN (lcpA (L s)) s.size : Int) = ((fact (L s)).length : Nat)) := by
        have := HU.out
        unfold Hid; omega
      go_wp2_with fail
      go_ret2
      rw [← HV.out]
      exact ⟨rfl, hb1⟩
set_option maxRecDepth 100000 in
set_option maxHeartbeats 4000000 in
theorem sufTwice_any (s : ByteArray) (hs : s.size ≤ 200) (w : World) :
    Calls Try.prog 17 #[.string s] w fun e w' => ∃ b, TwiceIs (L s) b ∧ e = .returned (.tuple #[.string (S b), .int .i64 0]) ∧ Below w.heap.size w w' := by
  have HZ : Hid ((L s).length = s.size) := L_len s
  go_enter Try.func17, Try.ntmps17
  go_wp2_with fail
  refine (order_any s hs _).mono ?_
  rintro e w1 ⟨go, rfl, hord, hb1⟩
  have HORD := Lib.hid hord
  clear hord
  go_wp2_with fail
  refine (common_any s hs _).mono ?_
  rintro e w2 ⟨g, rfl, hrow, hb2⟩
  have HROW := Lib.hid hrow
  clear hrow
  have HO2 := Lib.hid (HORD.out.below hb2)
  go_wp2_with fail
  go_loopw [26, 8] (fun iv bv wr => ∃ (k M q : Nat) (b : List UInt8), k ≤ s.size ∧ iv = .int .i64 (k : Int) ∧ bv = .string (S b) ∧ M ≤ 200 ∧ Hid (BestL (L s) k M b) ∧ wr = w2.drewN q) (fun iv _ _ => s.size - (intOf iv).toNat)
  case atStart => exact ⟨0, 0, 0, [], Nat.zero_le _, rfl, rfl, by omega, Lib.hid (BestL.start _), rfl⟩
  case round =>
    obtain ⟨k, M, q, b, hk, rfl, rfl, hM, HB, rfl⟩ := hrel
    by_cases hlt : k < s.size
    · have g1 : decide ((k : Int) < (s.size : Int)) = true := decide_eq_true (by omega)
      have g1' : decide (k < s.size) = true := decide_eq_true hlt
      have c0 := HROW.out.at_ (k := k) hlt
      rw [comI_at _ (by rw [HZ.out]; exact hlt)] at c0
      have co := HO2.out.at_ (k := k) hlt
      rw [ordI_at _ (by rw [HZ.out]; exact hlt)] at co
      have hle := lcpA_leN (L s) k
      have hle2 := lcpA_le (L s) k
      rw [sufA_len] at hle2
      rw [HZ.out] at hle hle2
      have hol := oS_lt (s := L s) (k := k) (by rw [HZ.out]; exact hlt)
      rw [HZ.out] at hol
      have HMO : Hid (M < lcpA (L s) k → BestL (L s) (k + 1) (lcpA (L s) k) (((L s).drop (oS (L s) k)).take (lcpA (L s) k))) := HB.out.more
      have HLE : Hid (lcpA (L s) k ≤ M → BestL (L s) (k + 1) M b) := HB.out.less
      obtain ⟨Y, hY⟩ : ∃ Y, S b = Y := ⟨_, rfl⟩
      have hyz : Y.size = M := by rw [← hY, S_size, HB.out.len]
      rw [hY]
      have HY := Lib.hid hY
      clear hY
      generalize lcpA (L s) k = x at *
      generalize oS (L s) k = a at *
      by_cases hx : M < x
      · have g2 : decide ((Y.size : Int) < (x : Int)) = true := decide_eq_true (by omega)
        have g2' : decide (Y.size < x) = true := decide_eq_true (by omega)
        have gx : ((a : Int) + (x : Int)).toNat = a + x := by omega
        have HX : Hid (s.extract a (a + x) = S (((L s).drop a).take x)) := by
          unfold Hid; rw [extract_S, Nat.add_sub_cancel_left]
        have HN := Lib.hid (HMO.out hx)
        clear HMO HLE hyz
        go_wp2_with fail
        go_quiet (fail)
        go_wp2_with fail
        go_roundw
        case rel => exact ⟨k + 1, x, _, _, by omega, by go_num, congrArg Value.string HX.out, by omega, HN, rfl⟩
        case measure => simp [intOf]; omega
      · have g2 : decide ((Y.size : Int) < (x : Int)) = false := decide_eq_false (by omega)
        have g2' : decide (Y.size < x) = false := decide_eq_false (by omega)
        have HN := Lib.hid (HLE.out (by omega))
        clear HMO HLE hyz
        go_wp2_with fail
        go_roundw
        case rel => exact ⟨k + 1, M, _, b, by omega, by go_num, by rw [HY.out], hM, HN, rfl⟩
        case measure => simp [intOf]; omega
    · obtain rfl : k = s.size := by omega
      have g1 : decide ((s.size : Int) < (s.size : Int)) = false := decide_eq_false (by omega)
      have g1' : decide (s.size < s.size) = false := decide_eq_false hlt
      have HT : Hid (TwiceIs (L s) b) := by
        have h := HB.out
        rw [← HZ.out] at h
        exact h.fin
      go_wp2_with fail
      go_ret2
      exact ⟨b, HT.out, rfl, below_drewN (bthen hb1 hb2) _⟩
end Go.Proofs.Ytmmamdjbbpeifaa
