/- code.bits. -/
import Derived.Test.YtmmamdjbbpeifaaCodeW
namespace Go.Proofs.Ytmmamdjbbpeifaa
open Go.RowKit
theorem ofInt_64 (a : Nat) (ha : a < 4096) : (BitVec.ofInt 64 (a : Int)).toNat = a := by
  rw [BitVec.ofInt_natCast, BitVec.toNat_ofNat]; exact Nat.mod_eq_of_lt (by omega)
theorem i64_and_nat (a b : Nat) (ha : a < 4096) (hb : b < 4096) : bits .and .i64 (a : Int) (b : Int) = ((a &&& b : Nat) : Int) := by
  have hx : a &&& b < 2 ^ 12 := Nat.and_lt_two_pow _ (by omega)
  show IntKind.i64.wrap ((BitVec.ofInt 64 (a : Int) &&& BitVec.ofInt 64 (b : Int)).toNat : Int) = _
  rw [BitVec.toNat_and, ofInt_64 a ha, ofInt_64 b hb, IntWalk.i64_in _ (by omega)]
theorem bw_step (x j : Nat) : bw x (j + 1) = UInt8.ofNat (48 + x / 2 ^ j % 2) :: bw x j := rfl
theorem rune0 (W : World) : (convert 21 9 (.int .i32 48)).run Try.prog W = .ok (.string (S [48])) W := by kernel_rfl
theorem rune1 (W : World) : (convert 21 9 (.int .i32 49)).run Try.prog W = .ok (.string (S [49])) W := by kernel_rfl
set_option maxRecDepth 100000 in
set_option maxHeartbeats 1000000 in
theorem bits_any (x n : Nat) (hx : x < 4096) (hn : n ≤ 12) (w : World) :
    Calls Try.prog 91 #[.int .i64 (x : Int), .int .i64 (n : Int)] w fun e w' => e = .returned (.string (S (bw x n))) ∧ Below w.heap.size w w' := by
  have r0 := rune0
  have r1 := rune1
  go_enter Try.func91, Try.ntmps91
  go_wp2_with fail
  go_loop [5, 6] (fun o k => ∃ (j : Nat) (out : List UInt8), j ≤ n ∧ k = .int .i64 ((j : Int) - 1) ∧ o = .string (S out) ∧ out ++ bw x j = bw x n ∧ out.length ≤ 12) (fun _ k => (intOf k + 1).toNat)
  case atStart => exact ⟨n, [], Nat.le_refl _, rfl, rfl, rfl, Nat.zero_le _⟩
  case round =>
    obtain ⟨j, out, hj, rfl, rfl, ho, hol⟩ := hrel
    have HO := Lib.hid ho; clear ho
    have hos : (S out).size ≤ 12 := by rw [S_size]; exact hol
    by_cases hlt : 0 < j
    · obtain ⟨j, rfl⟩ : ∃ k, j = k + 1 := ⟨j - 1, by omega⟩
      have e0 : (((j + 1 : Nat) : Int) - 1) = (j : Int) := by omega
      rw [e0]
      have hlen2 := congrArg List.length HO.out
      rw [List.length_append, bw_len, bw_len] at hlen2
      have hol2 : out.length + 1 ≤ 12 := by omega
      clear hlen2
      have hd : x / 2 ^ j < 4096 := Nat.lt_of_le_of_lt (Nat.div_le_self _ _) hx
      have HB : Hid ((x : Int) / 2 ^ j = ((x / 2 ^ j : Nat) : Int)) := by unfold Hid; rw [Int.natCast_ediv, Int.natCast_pow]; rfl
      have HST : Hid (bw x (j + 1) = UInt8.ofNat (48 + x / 2 ^ j % 2) :: bw x j) := rfl
      generalize x / 2 ^ j = y at *
      rcases Nat.mod_two_eq_zero_or_one y with hm | hm
      · have h1 : bits BinOp.and IntKind.i64 ((x : Int) / 2 ^ j) 1 = 0 := by
          have := i64_and_nat y 1 (by omega) (by omega)
          rw [nat_mask1, hm] at this
          rw [HB.out]; exact this
        have hz1 : (S [48]).size ≤ 1 := by rw [S_size]; exact Nat.le_refl _
        have HN : Hid ((out ++ [48]) ++ bw x j = bw x n) := by
          unfold Hid
          rw [← HO.out, HST.out, hm]; simp
        clear hm
        go_wp2_with fail
        exact ⟨⟨j, out ++ [48], by omega, rfl, by rw [append_S, L_S, L_S], HN.out, by simp; omega⟩, by simp [intOf]⟩
      · have h1 : bits BinOp.and IntKind.i64 ((x : Int) / 2 ^ j) 1 = 1 := by
          have := i64_and_nat y 1 (by omega) (by omega)
          rw [nat_mask1, hm] at this
          rw [HB.out]; exact this
        have hz1 : (S [49]).size ≤ 1 := by rw [S_size]; exact Nat.le_refl _
        have HN : Hid ((out ++ [49]) ++ bw x j = bw x n) := by
          unfold Hid
          rw [← HO.out, HST.out, hm]; simp
        clear hm
        go_wp2_with fail
        exact ⟨⟨j, out ++ [49], by omega, rfl, by rw [append_S, L_S, L_S], HN.out, by simp; omega⟩, by simp [intOf]⟩
    · obtain rfl : j = 0 := by omega
      go_wp2_with fail
      go_ret
      exact ⟨by rw [← HO.out, bw, List.append_nil]; rfl, Below.refl _ _⟩
end Go.Proofs.Ytmmamdjbbpeifaa
