/- slices.ContainsFunc with the law's two closures. -/
import Derived.Test.YtmmamdjbbpeifaaDoorPakA
namespace Go.Proofs.YtmmamdjbbpeifaaDoor
open Go.RowKit
set_option maxHeartbeats 2000000 in
theorem badA_any (b : Nat) (A : Option Addr) (n c : Nat) (k : Int) (W : World) (hc : W.cell? ⟨b, 0, none⟩ = some (.slice A n c)) :
    Calls Tryd.prog 23 #[.int .i64 k, .pointer (some ⟨b, 0, none⟩)] W fun e w' => e = .returned (.bool (bad n k)) ∧ w' = W := by
  have hbd : bad n k = (decide (k < 0) || decide ((n : Int) ≤ k)) := by unfold bad; rw [Bool.decide_or]
  have HB := Lib.hid hbd
  clear hbd
  go_enter Tryd.func23, Tryd.ntmps23
  by_cases h1 : k < 0
  · have g1 : decide (k < 0) = true := decide_eq_true h1
    have HB2 : Hid (bad n k = true) := by unfold Hid; rw [HB.out, g1]; rfl
    clear h1
    go_wp2_with fail
    go_ret
    exact ⟨by rw [HB2.out]; rfl, rfl⟩
  · have g1 : decide (k < 0) = false := decide_eq_false h1
    clear h1
    by_cases h2 : (n : Int) ≤ k
    · have g2 : decide ((n : Int) ≤ k) = true := decide_eq_true h2
      have HB2 : Hid (bad n k = true) := by unfold Hid; rw [HB.out, g1, g2]; rfl
      clear h2
      go_wp2_with fail
      go_ret
      exact ⟨by rw [HB2.out]; rfl, rfl⟩
    · have g2 : decide ((n : Int) ≤ k) = false := decide_eq_false h2
      have HB2 : Hid (bad n k = false) := by unfold Hid; rw [HB.out, g1, g2]; rfl
      clear h2
      go_wp2_with fail
      go_ret
      exact ⟨by rw [HB2.out]; rfl, rfl⟩
set_option maxHeartbeats 2000000 in
theorem badB_any (b : Nat) (A : Option Addr) (n c : Nat) (k : Int) (W : World) (hc : W.cell? ⟨b, 0, none⟩ = some (.slice A n c)) :
    Calls Tryd.prog 26 #[.int .i64 k, .pointer (some ⟨b, 0, none⟩)] W fun e w' => e = .returned (.bool (bad n k)) ∧ w' = W := by
  have hbd : bad n k = (decide (k < 0) || decide ((n : Int) ≤ k)) := by unfold bad; rw [Bool.decide_or]
  have HB := Lib.hid hbd
  clear hbd
  go_enter Tryd.func26, Tryd.ntmps26
  by_cases h1 : k < 0
  · have g1 : decide (k < 0) = true := decide_eq_true h1
    have HB2 : Hid (bad n k = true) := by unfold Hid; rw [HB.out, g1]; rfl
    clear h1
    go_wp2_with fail
    go_ret
    exact ⟨by rw [HB2.out]; rfl, rfl⟩
  · have g1 : decide (k < 0) = false := decide_eq_false h1
    clear h1
    by_cases h2 : (n : Int) ≤ k
    · have g2 : decide ((n : Int) ≤ k) = true := decide_eq_true h2
      have HB2 : Hid (bad n k = true) := by unfold Hid; rw [HB.out, g1, g2]; rfl
      clear h2
      go_wp2_with fail
      go_ret
      exact ⟨by rw [HB2.out]; rfl, rfl⟩
    · have g2 : decide ((n : Int) ≤ k) = false := decide_eq_false h2
      have HB2 : Hid (bad n k = false) := by unfold Hid; rw [HB.out, g1, g2]; rfl
      clear h2
      go_wp2_with fail
      go_ret
      exact ⟨by rw [HB2.out]; rfl, rfl⟩
set_option maxRecDepth 100000 in
set_option maxHeartbeats 4000000 in
theorem badA_idx (b : Nat) (A : Option Addr) (n c : Nat) (A2 : Option Addr) (m c2 B2 : Nat) (t : List Int) (w : World) (hc : w.cell? ⟨b, 0, none⟩ = some (.slice A n c)) (hr2 : Rd w B2 1 A2 m (ints t)) (hm : m ≤ maxLen) :
    Calls Tryd.prog 43 #[.slice A2 m c2, .func (.func 23) #[] #[.pointer (some ⟨b, 0, none⟩)]] w fun e w' => (∃ i : Int, e = .returned (.int .i64 i) ∧ decide (0 ≤ i) = t.any (bad n)) ∧ w' = w := by
  have hlm : t.length = m := by have := hr2.1; simpa [ints] using this
  have hml : maxLen ≤ 9223372036854775807 := by decide
  have HR := Lib.hid hr2
  have HLM := Lib.hid hlm
  have HCL : Hid (∀ (k : Int), Calls Tryd.prog 23 #[.int .i64 k, .pointer (some ⟨b, 0, none⟩)] w fun e w' => e = .returned (.bool (bad n k)) ∧ w' = w) := fun k => badA_any b A n c k w hc
  clear hc hr2 hlm
  go_enter Tryd.func43, Tryd.ntmps43
  go_wp2_with fail
  go_loopw [8] (fun iv wr => ∃ i : Nat, i ≤ m ∧ iv = .int .i64 (i : Int) ∧ Hid (∀ j, j < i → bad n (t.getD j 0) = false) ∧ wr = w) (fun iv _ => m - (intOf iv).toNat)
  case atStart => exact ⟨0, Nat.zero_le _, rfl, Lib.hid (fun j h => by omega), rfl⟩
  case round =>
    obtain ⟨i, hi, rfl, HN, rfl⟩ := hrel
    by_cases hlt : i < m
    · have g1 : decide ((i : Int) < (m : Int)) = true := decide_eq_true (by omega)
      have g1' : decide (i < m) = true := decide_eq_true hlt
      obtain ⟨ad, rfl, hab, c0⟩ := intCell HR.out hlt
      have HC := Lib.hid (HCL.out (t.getD i 0))
      cases hb : bad n (t.getD i 0) with
      | true =>
        rw [hb] at HC
        have HV := Lib.hid (bad_any (by rw [HLM.out]; exact hlt) hb)
        clear hb
        go_wp2_with fail
        refine HC.out.mono ?_
        rintro e w2 ⟨rfl, rfl⟩
        go_wp2_with fail
        go_ret
        exact ⟨⟨_, rfl, by rw [HV.out]; exact decide_eq_true (by omega)⟩, rfl⟩
      | false =>
        rw [hb] at HC
        have HN2 : Hid (∀ j, j < i + 1 → bad n (t.getD j 0) = false) := fun j hj => by
          rcases Nat.lt_or_ge j i with h1 | h1
          · exact HN.out j h1
          · obtain rfl : j = i := by omega
            exact hb
        clear hb
        go_wp2_with fail
        refine HC.out.mono ?_
        rintro e w2 ⟨rfl, rfl⟩
        go_wp2_with fail
        go_roundw
        case rel => exact ⟨i + 1, by omega, by go_num, HN2, by first | rfl | trivial⟩
        case measure => simp [intOf]; omega
    · obtain rfl : i = m := by omega
      have g1 : decide ((i : Int) < (i : Int)) = false := decide_eq_false (by omega)
      have g1' : decide (i < i) = false := decide_eq_false hlt
      have HV := Lib.hid (bad_none (n := n) (t := t) fun j hj => HN.out j (by rw [HLM.out] at hj; exact hj))
      go_wp2_with fail
      go_ret
      exact ⟨⟨_, rfl, by rw [HV.out]; rfl⟩, rfl⟩
set_option maxHeartbeats 2000000 in
theorem badA_has (b : Nat) (A : Option Addr) (n c : Nat) (A2 : Option Addr) (m c2 B2 : Nat) (t : List Int) (w : World) (hc : w.cell? ⟨b, 0, none⟩ = some (.slice A n c)) (hr2 : Rd w B2 1 A2 m (ints t)) (hm : m ≤ maxLen) :
    Calls Tryd.prog 22 #[.slice A2 m c2, .func (.func 23) #[] #[.pointer (some ⟨b, 0, none⟩)]] w fun e w' => e = .returned (.bool (t.any (bad n))) ∧ w' = w := by
  have HC := Lib.hid (badA_idx b A n c A2 m c2 B2 t w hc hr2 hm)
  clear hc hr2
  go_enter Tryd.func22, Tryd.ntmps22
  go_wp2_with fail
  refine HC.out.mono ?_
  rintro e w2 ⟨⟨i, rfl, hi⟩, rfl⟩
  cases ha : t.any (bad n) with
  | true =>
    rw [ha] at hi
    go_wp2_with fail
    go_ret
    exact ⟨by rw [ha]; rfl, rfl⟩
  | false =>
    rw [ha] at hi
    go_wp2_with fail
    go_ret
    exact ⟨by rw [ha]; rfl, rfl⟩
set_option maxRecDepth 100000 in
set_option maxHeartbeats 4000000 in
theorem badB_idx (b : Nat) (A : Option Addr) (n c : Nat) (A2 : Option Addr) (m c2 B2 : Nat) (t : List Int) (w : World) (hc : w.cell? ⟨b, 0, none⟩ = some (.slice A n c)) (hr2 : Rd w B2 1 A2 m (ints t)) (hm : m ≤ maxLen) :
    Calls Tryd.prog 43 #[.slice A2 m c2, .func (.func 26) #[] #[.pointer (some ⟨b, 0, none⟩)]] w fun e w' => (∃ i : Int, e = .returned (.int .i64 i) ∧ decide (0 ≤ i) = t.any (bad n)) ∧ w' = w := by
  have hlm : t.length = m := by have := hr2.1; simpa [ints] using this
  have hml : maxLen ≤ 9223372036854775807 := by decide
  have HR := Lib.hid hr2
  have HLM := Lib.hid hlm
  have HCL : Hid (∀ (k : Int), Calls Tryd.prog 26 #[.int .i64 k, .pointer (some ⟨b, 0, none⟩)] w fun e w' => e = .returned (.bool (bad n k)) ∧ w' = w) := fun k => badB_any b A n c k w hc
  clear hc hr2 hlm
  go_enter Tryd.func43, Tryd.ntmps43
  go_wp2_with fail
  go_loopw [8] (fun iv wr => ∃ i : Nat, i ≤ m ∧ iv = .int .i64 (i : Int) ∧ Hid (∀ j, j < i → bad n (t.getD j 0) = false) ∧ wr = w) (fun iv _ => m - (intOf iv).toNat)
  case atStart => exact ⟨0, Nat.zero_le _, rfl, Lib.hid (fun j h => by omega), rfl⟩
  case round =>
    obtain ⟨i, hi, rfl, HN, rfl⟩ := hrel
    by_cases hlt : i < m
    · have g1 : decide ((i : Int) < (m : Int)) = true := decide_eq_true (by omega)
      have g1' : decide (i < m) = true := decide_eq_true hlt
      obtain ⟨ad, rfl, hab, c0⟩ := intCell HR.out hlt
      have HC := Lib.hid (HCL.out (t.getD i 0))
      cases hb : bad n (t.getD i 0) with
      | true =>
        rw [hb] at HC
        have HV := Lib.hid (bad_any (by rw [HLM.out]; exact hlt) hb)
        clear hb
        go_wp2_with fail
        refine HC.out.mono ?_
        rintro e w2 ⟨rfl, rfl⟩
        go_wp2_with fail
        go_ret
        exact ⟨⟨_, rfl, by rw [HV.out]; exact decide_eq_true (by omega)⟩, rfl⟩
      | false =>
        rw [hb] at HC
        have HN2 : Hid (∀ j, j < i + 1 → bad n (t.getD j 0) = false) := fun j hj => by
          rcases Nat.lt_or_ge j i with h1 | h1
          · exact HN.out j h1
          · obtain rfl : j = i := by omega
            exact hb
        clear hb
        go_wp2_with fail
        refine HC.out.mono ?_
        rintro e w2 ⟨rfl, rfl⟩
        go_wp2_with fail
        go_roundw
        case rel => exact ⟨i + 1, by omega, by go_num, HN2, by first | rfl | trivial⟩
        case measure => simp [intOf]; omega
    · obtain rfl : i = m := by omega
      have g1 : decide ((i : Int) < (i : Int)) = false := decide_eq_false (by omega)
      have g1' : decide (i < i) = false := decide_eq_false hlt
      have HV := Lib.hid (bad_none (n := n) (t := t) fun j hj => HN.out j (by rw [HLM.out] at hj; exact hj))
      go_wp2_with fail
      go_ret
      exact ⟨⟨_, rfl, by rw [HV.out]; rfl⟩, rfl⟩
set_option maxHeartbeats 2000000 in
theorem badB_has (b : Nat) (A : Option Addr) (n c : Nat) (A2 : Option Addr) (m c2 B2 : Nat) (t : List Int) (w : World) (hc : w.cell? ⟨b, 0, none⟩ = some (.slice A n c)) (hr2 : Rd w B2 1 A2 m (ints t)) (hm : m ≤ maxLen) :
    Calls Tryd.prog 22 #[.slice A2 m c2, .func (.func 26) #[] #[.pointer (some ⟨b, 0, none⟩)]] w fun e w' => e = .returned (.bool (t.any (bad n))) ∧ w' = w := by
  have HC := Lib.hid (badB_idx b A n c A2 m c2 B2 t w hc hr2 hm)
  clear hc hr2
  go_enter Tryd.func22, Tryd.ntmps22
  go_wp2_with fail
  refine HC.out.mono ?_
  rintro e w2 ⟨⟨i, rfl, hi⟩, rfl⟩
  cases ha : t.any (bad n) with
  | true =>
    rw [ha] at hi
    go_wp2_with fail
    go_ret
    exact ⟨by rw [ha]; rfl, rfl⟩
  | false =>
    rw [ha] at hi
    go_wp2_with fail
    go_ret
    exact ⟨by rw [ha]; rfl, rfl⟩
end Go.Proofs.YtmmamdjbbpeifaaDoor
