/- The document's root. -/
import Derived.Test.YtolnhplgaolieaaWord3
import Derived.Test.YtolnhplgaolieaaShelf
namespace Go.Proofs.Ytolnhplgaolieaa
open Go.RowKit
theorem repeatL_flat (l : List UInt8) : ∀ c, Lib.repeatL l c = (List.replicate c l).flatten
  | 0 => rfl
  | c + 1 => by rw [Lib.repeatL, List.replicate_succ, List.flatten_cons, repeatL_flat l c]
set_option maxRecDepth 100000 in
set_option maxHeartbeats 4000000 in
theorem rootOf_any (s : ByteArray) (hs : s.size ≤ 200) (w : World) :
    Calls Try.prog 25 #[.string s] w fun e w' => e = .returned (.tuple #[.string (S ((L s).take (rootN (L s)))), .int .i64 ((s.size / rootN (L s) : Nat) : Int)]) ∧ Below w.heap.size w w' := by
  have HRT : Hid (∀ p, 0 < p → p ≤ s.size → perB (L s) p = true → s.size % p = 0 → (∀ q, 0 < q → q < p → s.size % q = 0 → perB (L s) q = false) → rootN (L s) = p) := fun p h0 h1 h2 h3 h4 =>
    rootN_of h0 (by rw [L_len]; exact h1) h2 (by rw [L_len]; exact h3) (by rw [L_len]; exact h4)
  have HRE : Hid (s.size = 0 → rootN (L s) = 0) := fun h => by
    have : L s = [] := List.eq_nil_of_length_eq_zero (by rw [L_len]; exact h)
    rw [this]; rfl
  have HW : Hid (perB (L s) s.size = true) := by have := perB_whole (L s); rw [L_len] at this; exact this
  have HREP : Hid (∀ p, 0 < p → s.size % p = 0 → ∀ w : World, ∃ X : ByteArray, (X.toList == s.toList) = perB (L s) p ∧ ∀ w : World, Calls Try.prog 57 #[.string (s.extract 0 p), .int .i64 ((s.size / p : Nat) : Int)] w fun e w' => e = .returned (.string X) ∧ Below w.heap.size w w') := fun p h0 h1 w => by
    have hdl : s.size / p ≤ s.size := Nat.div_le_self _ _
    refine ⟨S (Lib.repeatL (L (s.extract 0 p)) (s.size / p)), ?_, fun w => Try.strings_Repeat (s.extract 0 p) (s.size / p) w (by omega) ?_⟩
    · rw [beqB, Bool.eq_iff_iff, decide_eq_true_iff, perB_iff_rep h0 (by rw [L_len]; exact h1), L_len, repeatL_flat, L_extract, List.drop_zero, Nat.sub_zero]
      constructor
      · intro h; rw [← L_S (List.replicate (s.size / p) ((L s).take p)).flatten, h]
      · intro h; apply L_inj; rw [L_S, h]
    · rw [ByteArray.size_extract]
      have : (min p s.size - 0) * (s.size / p) ≤ 200 * 200 := Nat.mul_le_mul (by omega) (by omega)
      omega
  generalize rootN (L s) = R at *
  go_enter Try.func25, Try.ntmps25
  go_wp2_with fail
  go_loopw [4] (fun i wr => ∃ k : Nat, 1 ≤ k ∧ k ≤ s.size + 1 ∧ i = .int .i64 (k : Int) ∧ (∀ q, 0 < q → q < k → s.size % q = 0 → perB (L s) q = false) ∧ Below w.heap.size w wr) (fun i _ => s.size + 1 - (intOf i).toNat)
  case atStart => exact ⟨1, Nat.le_refl _, by omega, rfl, fun q h h2 => absurd h2 (by omega), Below.refl _ _⟩
  case round =>
    obtain ⟨k, hk1, hk, rfl, hno, hb⟩ := hrel
    have HNO := Lib.hid hno
    clear hno
    by_cases hlt : k ≤ s.size
    · have g0 : decide ((k : Int) ≤ (s.size : Int)) = true := decide_eq_true (by omega)
      have HM : Hid ((s.size : Int) % (k : Int) = ((s.size % k : Nat) : Int)) := by unfold Hid; omega
      have HD : Hid ((s.size : Int) / (k : Int) = ((s.size / k : Nat) : Int)) := by unfold Hid; omega
      by_cases hz : s.size % k = 0
      · have g1 : ((s.size : Int) % (k : Int) == 0) = true := by rw [HM.out, hz]; rfl
        obtain ⟨X, gX, hcall⟩ := HREP.out k hk1 hz w
        rw [← wrap_div (b := k) hs] at hcall
        have HC := Lib.hid hcall
        clear hcall
        cases hp : perB (L s) k with
        | true =>
          have HR : Hid (R = k) := HRT.out k hk1 hlt hp hz HNO.out
          rw [hp] at gX
          clear hp hz HREP HRT HRE HNO HM
          go_wp2_with fail
          refine wp_region_quiet_below (by kernel_rfl) (by kernel_rfl) ?_
          repeat (go_big_quiet_step ((go_at_call 57; exact Calls.regrown_of (HC.out _))))
          refine wpQuiet_nil ?_
          intro w5 hb50
          have hb5 := below_of_regrown hb50
          clear hb50
          have hb5' := bthen hb hb5
          clear hb hb5
          go_wp2_with fail
          go_quiet (fail)
          go_wp2_with fail
          go_ret2
          refine ⟨?_, below_drewN hb5' _⟩
          rw [HR.out]
          show Ending.returned (.tuple #[.string (s.extract 0 k), .int .i64 (wrap64 ((s.size : Int) / (k : Int)))]) = _
          rw [wrap_div hs, extract_S, List.drop_zero, Nat.sub_zero]
        | false =>
          have HN1 : Hid (∀ q, 0 < q → q < k + 1 → s.size % q = 0 → perB (L s) q = false) := fun q h0 h1 h2 => by
            by_cases hq : q = k
            · subst hq; exact hp
            · exact HNO.out q h0 (by omega) h2
          rw [hp] at gX
          clear hp hz HREP HM HNO
          go_wp2_with fail
          refine wp_region_quiet_below (by kernel_rfl) (by kernel_rfl) ?_
          repeat (go_big_quiet_step ((go_at_call 57; exact Calls.regrown_of (HC.out _))))
          refine wpQuiet_nil ?_
          intro w5 hb50
          have hb5 := below_of_regrown hb50
          clear hb50
          have hb5' := bthen hb hb5
          clear hb hb5
          go_wp2_with fail
          go_roundw
          case rel => exact ⟨k + 1, by omega, by omega, by go_num, HN1.out, hb5'⟩
          case measure => simp [intOf]; omega
      · have g1 : ((s.size : Int) % (k : Int) == 0) = false := by rw [beq_eq_false_iff_ne, HM.out]; omega
        have HN1 : Hid (∀ q, 0 < q → q < k + 1 → s.size % q = 0 → perB (L s) q = false) := fun q h0 h1 h2 => by
          by_cases hq : q = k
          · subst hq; exact absurd h2 hz
          · exact HNO.out q h0 (by omega) h2
        clear hz HREP HM HNO
        go_wp2_with fail
        go_quiet (fail)
        go_wp2_with fail
        go_roundw
        case rel => exact ⟨k + 1, by omega, by omega, by go_num, HN1.out, below_drewN hb _⟩
        case measure => simp [intOf]; omega
    · obtain rfl : k = s.size + 1 := by omega
      have h0 : s.size = 0 := by
        rcases Nat.eq_zero_or_pos s.size with h | h
        · exact h
        · have := HNO.out s.size h (by omega) (Nat.mod_self _)
          rw [HW.out] at this; cases this
      have HR0 := Lib.hid (HRE.out h0)
      have g0 : decide (((s.size + 1 : Nat) : Int) ≤ (s.size : Int)) = false := decide_eq_false (by omega)
      clear h0
      go_wp2_with fail
      go_ret2
      rw [HR0.out]
      exact ⟨by simp [S], hb⟩
end Go.Proofs.Ytolnhplgaolieaa
