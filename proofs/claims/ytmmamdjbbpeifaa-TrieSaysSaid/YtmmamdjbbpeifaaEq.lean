/- What slices.Equal returns on two slices of the same cells. -/
import Derived.Test.YtmmamdjbbpeifaaBase
namespace Go.Proofs.Ytmmamdjbbpeifaa
open Go.RowKit

def ints (l : List Int) : List Value := l.map (.int .i64 ·)

theorem ints_at {l : List Int} {k : Nat} {u : Value} (h : (ints l)[k]? = some u) : ∃ x, l[k]? = some x ∧ u = .int .i64 x := by
  unfold ints at h
  rw [List.getElem?_map] at h
  cases hx : l[k]? with
  | none => rw [hx] at h; simp at h
  | some x => rw [hx] at h; exact ⟨x, rfl, by simpa using h.symm⟩

set_option maxHeartbeats 400000 in
theorem equal_int_true (A B : Option Addr) (n c d BA BB : Nat) (l : List Int) (w : World) (hn : n ≤ 9223372036854775807)
    (ha : Rd w BA 1 A n (ints l)) (hb : Rd w BB 1 B n (ints l)) :
    Calls Try.prog 44 #[.slice A n c, .slice B n d] w fun e w' => e = .returned (.bool true) ∧ ∃ k, w' = w.drewN k := by
  have Ha := Lib.hid ha; clear ha
  have Hb := Lib.hid hb; clear hb
  go_enter Try.func44, Try.ntmps44
  go_wp2
  go_loopw [13] (fun i wr => ∃ k m : Nat, k ≤ n ∧ i = .int .i64 k ∧ wr = w.drewN m) (fun i _ => n - (intOf i).toNat)
  case atStart => exact ⟨0, 0, Nat.zero_le _, rfl, rfl⟩
  case round =>
    obtain ⟨k, m, hk, rfl, rfl⟩ := hrel
    by_cases hlt : k < n
    · obtain ⟨ad, u, rfl, _, hu, hca⟩ := Ha.out.at_ hlt
      obtain ⟨bd, u', rfl, _, hu', hcb⟩ := Hb.out.at_ hlt
      rw [hu] at hu'
      obtain rfl : u = u' := by simpa using hu'
      obtain ⟨x, hx, rfl⟩ := ints_at hu
      clear hu hu' hx
      go_wp2
      go_quiet (fail)
      go_wp2
      go_roundw
      case rel => exact ⟨k + 1, _, by omega, by go_num, rfl⟩
      case measure => simp [intOf]; omega
    · go_wp2
      go_ret
      exact ⟨rfl, _, rfl⟩
end Go.Proofs.Ytmmamdjbbpeifaa
