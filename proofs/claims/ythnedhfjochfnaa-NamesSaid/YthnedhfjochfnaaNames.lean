/- Names: the numbers of package api are the written ones. -/
import Derived.Test.YthnedhfjochfnaaEq
namespace Go.Proofs.Ythnedhfjochfnaa
open Go.RowKit
def nameNums : List Int := [0, 1, 2, 3, 4, 5, 6, 7, 8, 9, 10, 11, 12, 200, 10, 20, 512, 8, 12, 12, 10000, 4096, 40, 200, 20, 40, 60, 30, 1100, 4000, 6, 8, 8, 4096, 60, 1, 2, 3, 1, 2, 3, 4, 5, 6, 7, 8, 9, 10, 0, 1, 2, 3]
def nameCells : Array Value := #[.int .i64 0, .int .i64 1, .int .i64 2, .int .i64 3, .int .i64 4, .int .i64 5, .int .i64 6, .int .i64 7, .int .i64 8, .int .i64 9, .int .i64 10, .int .i64 11, .int .i64 12, .int .i64 200, .int .i64 10, .int .i64 20, .int .i64 512, .int .i64 8, .int .i64 12, .int .i64 12, .int .i64 10000, .int .i64 4096, .int .i64 40, .int .i64 200, .int .i64 20, .int .i64 40, .int .i64 60, .int .i64 30, .int .i64 1100, .int .i64 4000, .int .i64 6, .int .i64 8, .int .i64 8, .int .i64 4096, .int .i64 60, .int .i64 1, .int .i64 2, .int .i64 3, .int .i64 1, .int .i64 2, .int .i64 3, .int .i64 4, .int .i64 5, .int .i64 6, .int .i64 7, .int .i64 8, .int .i64 9, .int .i64 10, .int .i64 0, .int .i64 1, .int .i64 2, .int .i64 3]
theorem nameCells_ints : nameCells.toList = ints nameNums := rfl
theorem names_rd (w : World) (B : Nat) (hB : w.heap.size < B) (A : Option Addr) (hA : A = some ⟨w.heap.size, 0, none⟩) (W : World) (hW : W = w.alloc (.cells nameCells 3)) : Rd W B 1 A 52 (ints nameNums) := by
  subst hA; subst hW
  rw [← nameCells_ints]
  exact Rd.new_ (n := 52) (size := 1) w _ _ hB rfl
set_option maxRecDepth 100000 in
set_option maxHeartbeats 2000000 in
theorem names_any (w : World) : Calls Try.prog 3 #[] w fun e w' => e = .returned (.bool true) ∧ Below w.heap.size w w' := by
  go_enter Try.func3, Try.ntmps3
  go_wp2_with fail
  refine (equal_int_true _ _ _ _ _ (w.heap.size + 1) (w.heap.size + 2) nameNums _ (by omega) ?r1 ?r2).mono ?_
  case r1 => exact (names_rd w _ (Nat.lt_succ_self _) _ rfl _ rfl).alloc (by simp) _
  case r2 => exact names_rd (w.alloc (.cells nameCells 3)) _ (by simp) _ (by simp) _ rfl
  rintro e w' ⟨rfl, k, rfl⟩
  go_wp2
  go_ret
  exact ⟨rfl, below_drewN ((((Below.refl _ _).alloc (Nat.le_refl _) _).alloc (by simp) _)) _⟩
end Go.Proofs.Ythnedhfjochfnaa
