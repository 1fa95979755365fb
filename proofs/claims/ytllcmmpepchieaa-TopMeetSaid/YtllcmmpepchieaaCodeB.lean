/- code.bits. -/
import Derived.Test.YtllcmmpepchieaaCodeW
namespace Go.Proofs.Ytllcmmpepchieaa
open Go.RowKit
theorem ofInt_64 (a : Nat) (ha : a < 4096) : (BitVec.ofInt 64 (a : Int)).toNat = a := by
  rw [BitVec.ofInt_natCast, BitVec.toNat_ofNat]; exact Nat.mod_eq_of_lt (by omega)
theorem i64_and_nat (a b : Nat) (ha : a < 4096) (hb : b < 4096) : bits .and .i64 (a : Int) (b : Int) = ((a &&& b : Nat) : Int) := by
  have hx : a &&& b < 2 ^ 12 := Nat.and_lt_two_pow _ (by omega)
  show IntKind.i64.wrap ((BitVec.ofInt 64 (a : Int) &&& BitVec.ofInt 64 (b : Int)).toNat : Int) = _
  rw [BitVec.toNat_and, ofInt_64 a ha, ofInt_64 b hb, IntWalk.i64_in _ (by omega)]
theorem bw_step (x j : Nat) : bw x (j + 1) = UInt8.ofNat (48 + x / 2 ^ j % 2) :: bw x j := rfl
theorem rune0 (W : World) : (convert 21 9 (.int .i32 48)).run Try.prog W = .ok (.string (S [48])) W := by kernel_rfl
theorem rune1 (W : World) : (convert 21 9 (.int .i32 49)).run Try.prog W = .ok (.string (S [49])) W := by kernel_rfl
end Go.Proofs.Ytllcmmpepchieaa
