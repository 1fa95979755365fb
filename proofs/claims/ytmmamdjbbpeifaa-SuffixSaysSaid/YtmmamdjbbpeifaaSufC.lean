/- The order of two ends, as suffix.Order's function tells it. -/
import Derived.Test.YtmmamdjbbpeifaaShelf
import Derived.Test.YtmmamdjbbpeifaaSuf0
import Derived.Shelf.SlSortCmp.Xorshift
namespace Go.Proofs.Ytmmamdjbbpeifaa
open Go.RowKit Go.Sort Go.Proofs
set_option maxHeartbeats 2000000 in
theorem sufCmp_any (s : ByteArray) (B i k : Nat) (hi : i ≤ s.size) (hk : k ≤ s.size) (W : World) (hc : W.cell? ⟨B, 0, none⟩ = some (.string s)) :
    Calls Try.prog 46 #[.int .i64 (i : Int), .int .i64 (k : Int), .pointer (some ⟨B, 0, none⟩)] W fun e w' => e = .returned (.int .i64 (Lib.compareBytes ((L s).drop i) ((L s).drop k))) ∧ ∃ q, w' = W.drewN q := by
  have HX : Hid ((s.extract i s.size).data.toList = (L s).drop i) := by
    have := L_extract s i s.size
    rw [List.take_of_length_le (by rw [List.length_drop, L_len]; exact Nat.le_refl _)] at this
    exact this
  have HY : Hid ((s.extract k s.size).data.toList = (L s).drop k) := by
    have := L_extract s k s.size
    rw [List.take_of_length_le (by rw [List.length_drop, L_len]; exact Nat.le_refl _)] at this
    exact this
  have HC := fun w => Lib.hid (Try.strings_Compare (s.extract i s.size) (s.extract k s.size) w)
  go_enter Try.func46, Try.ntmps46
  go_wp2_with fail
  go_quiet ((go_at_call 47; exact Calls.quiet_of_same (HC _).out))
  go_wp2_with fail
  go_ret
  rw [HX.out, HY.out]
  exact ⟨rfl, _, rfl⟩
end Go.Proofs.Ytmmamdjbbpeifaa
