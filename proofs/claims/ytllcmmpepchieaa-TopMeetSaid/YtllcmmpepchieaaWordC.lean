/- word.Check and the reference's Long: is a string too long? -/
import Derived.Test.YtllcmmpepchieaaBase
namespace Go.Proofs.Ytllcmmpepchieaa
open Go.RowKit
def longErr (n : Nat) : Int := if 200 < n then 2 else 0
/-- Of several. -/
def longAll (l : List ByteArray) : Int := if ∃ s ∈ l, 200 < s.size then 2 else 0
theorem longAll_one (s : ByteArray) : longAll [s] = longErr s.size := by simp [longAll, longErr]
theorem wordCheck_any (s : ByteArray) (w : World) :
    Calls Try.prog 47 #[.string s] w fun e w' => e = .returned (.int .i64 (longErr s.size)) ∧ Below w.heap.size w w' := by
  unfold longErr
  go_enter Try.func47, Try.ntmps47
  go_wp2
  all_goals go_ret
  all_goals refine ⟨ret_int ?_, Below.refl _ _⟩
  all_goals rfl
set_option maxRecDepth 100000 in
theorem long_any (l : List ByteArray) (A : Option Addr) (n c B : Nat) (w : World) (hr : Rd w B 1 A n (l.map .string)) (hn : n ≤ 9223372036854775807) :
    Calls Try.prog 31 #[.slice A n c] w fun e w' => e = .returned (.int .i64 (longAll l)) ∧ Below w.heap.size w w' := by
  have hlen : l.length = n := by simpa using hr.1
  have HR := Lib.hid hr; clear hr
  go_enter Try.func31, Try.ntmps31
  go_wp2
  go_loop [2, 7] (fun _ i => ∃ k : Nat, k ≤ n ∧ i = .int .i64 k ∧ ∀ s ∈ l.take k, ¬ 200 < s.size) (fun _ i => n - (intOf i).toNat)
  case atStart => exact ⟨0, Nat.zero_le _, rfl, by simp⟩
  case round =>
    obtain ⟨k, hk, rfl, hno⟩ := hrel
    have HNO := Lib.hid hno; clear hno
    by_cases hlt : k < n
    · obtain ⟨ad, u, rfl, hb, hu, hc⟩ := HR.out.at_ hlt
      simp only [List.getElem?_map, Option.map_eq_some_iff] at hu
      obtain ⟨s, hs, rfl⟩ := hu
      by_cases h2 : 200 < s.size
      · have HL : Hid (longAll l = 2) := by unfold Hid longAll; rw [if_pos ⟨s, List.mem_of_getElem? hs, h2⟩]
        clear hs
        go_wp2
        go_ret
        exact ⟨ret_int HL.out.symm, Below.refl _ _⟩
      · have HS : Hid (∀ x ∈ l.take (k + 1), ¬ 200 < x.size) := by
          intro x hx
          rw [List.take_add_one, hs] at hx
          simp only [List.mem_append, Option.toList_some, List.mem_singleton] at hx
          rcases hx with hx | rfl
          · exact HNO.out x hx
          · exact h2
        clear hs
        go_wp2
        go_round
        case rel => exact ⟨k + 1, by omega, by go_num, HS.out⟩
        case measure => simp [intOf]; omega
    · have HL : Hid (longAll l = 0) := by
        unfold Hid longAll
        rw [if_neg]
        rintro ⟨s, hs, h2⟩
        exact HNO.out s (by rw [List.take_of_length_le (by omega)]; exact hs) h2
      go_wp2
      go_ret
      exact ⟨ret_int HL.out.symm, Below.refl _ _⟩
end Go.Proofs.Ytllcmmpepchieaa
