/- The law PhraseSays, walked. -/
import Derived.Test.YthnedhfjochfnaaPhraseQ
import Derived.Test.YthnedhfjochfnaaPhraseR
namespace Go.Proofs.Ythnedhfjochfnaa
open Go.RowKit
set_option maxHeartbeats 400000 in
theorem equal_phr_true (A B : Option Addr) (n c d BA BB : Nat) (l : List (Int × UInt8)) (w : World) (hn : n ≤ 9223372036854775807)
    (ha : Rd w BA 2 A n (phrCells l)) (hb : Rd w BB 2 B n (phrCells l)) :
    Calls Try.prog 79 #[.slice A n c, .slice B n d] w fun e w' => e = .returned (.bool true) ∧ Below w.heap.size w w' := by
  have Ha := Lib.hid ha; clear ha
  have Hb := Lib.hid hb; clear hb
  go_enter Try.func79, Try.ntmps79
  go_wp2
  go_loopw [13] (fun i wr => ∃ k m : Nat, k ≤ n ∧ i = .int .i64 k ∧ wr = w.drewN m) (fun i _ => n - (intOf i).toNat)
  case atStart => exact ⟨0, 0, Nat.zero_le _, rfl, rfl⟩
  case round =>
    obtain ⟨k, m, hk, rfl, rfl⟩ := hrel
    by_cases hlt : k < n
    · obtain ⟨ad, u, rfl, _, hu, hc0, hc1⟩ := Ha.out.at_phr hlt
      obtain ⟨bd, u', rfl, _, hu', hd0, hd1⟩ := Hb.out.at_phr hlt
      rw [hu] at hu'
      obtain rfl : u = u' := by simpa using hu'
      clear hu hu'
      obtain ⟨p, q⟩ := u
      simp only at hc0 hc1 hd0 hd1
      go_wp2
      go_quiet (fail)
      go_wp2
      go_roundw
      case rel => exact ⟨k + 1, _, by omega, by go_num, rfl⟩
      case measure => simp [intOf]; omega
    · go_wp2
      go_ret
      exact ⟨rfl, below_drewN (Below.refl _ _) _⟩
theorem alike_phr_true (A B : Option Addr) (n c d BA BB : Nat) (l : List (Int × UInt8)) (w : World) (hn : n ≤ 9223372036854775807)
    (ha : Rd w BA 2 A n (phrCells l)) (hb : Rd w BB 2 B n (phrCells l)) :
    Calls Try.prog 35 #[.slice A n c, .slice B n d] w fun e w' => e = .returned (.bool true) ∧ Below w.heap.size w w' := by
  have Ha := Lib.hid ha; clear ha
  have Hb := Lib.hid hb; clear hb
  go_enter Try.func35, Try.ntmps35
  go_wp2_with fail
  refine (equal_phr_true A B n c d BA BB l w hn Ha.out Hb.out).mono ?_
  rintro e w1 ⟨rfl, hb1⟩
  go_wp2_with fail
  go_ret
  exact ⟨rfl, hb1⟩
set_option maxHeartbeats 400000 in
theorem phrPut_long (s : ByteArray) (hs : 200 < s.size) (w : World) :
    Calls Try.prog 31 #[.string s] w fun e w' => e = .returned (.tuple #[.slice none 0 0, .string (S []), .int .i64 2]) ∧ Below w.heap.size w w' := by
  have hE : (longErr s.size != 0) = true := by unfold longErr; rw [if_pos (by omega)]; rfl
  have hV : Hid (longErr s.size = 2) := by unfold Hid longErr; rw [if_pos (by omega)]
  go_enter Try.func31, Try.ntmps31
  go_wp2_with fail
  refine (wordCheck_any s _).mono ?_
  rintro e w1 ⟨rfl, hb1⟩
  go_wp2_with fail
  go_ret3
  exact ⟨by rw [hV.out]; rfl, hb1⟩
set_option maxRecDepth 100000 in
set_option maxHeartbeats 1000000 in
theorem phraseSays_any (s rest : ByteArray) (A : Option Addr) (n c : Nat) (l : List (Int × UInt8)) (w : World) (hr : Rd w w.heap.size 2 A n (phrCells l)) (hn : n ≤ 9223372036854775807) :
    Calls Try.prog 7 #[.string s, .slice A n c, .string rest] w fun e w' => e = .returned (.bool true) ∧ Below w.heap.size w w' := by
  have HR := Lib.hid hr; clear hr
  by_cases hs : s.size ≤ 200
  · have hE : (longAll [s] != 0) = false := by rw [longAll_one]; unfold longErr; rw [if_neg (by omega)]; rfl
    go_enter Try.func7, Try.ntmps7
    go_wp2_with fail
    refine (phrPut_any s hs _).mono ?_
    rintro e w1 ⟨v1, rfl, hown1, hb1⟩
    obtain ⟨A1, c1, rfl, hn1, hm1, hrd1⟩ := own_form hown1
    have HW1 := Lib.hid hrd1
    clear hown1 hrd1
    go_wp2_with fail
    refine (phrGet_any l rest A n c w.heap.size w1 (HR.out.below hb1) hb1.size hn).mono ?_
    rintro e w2 ⟨rfl, hb2⟩
    go_wp2_with fail
    refine (long_any [s] _ 1 _ (w2.heap.size + 1) _ (Rd.new_ (size := 1) (n := 1) w2 _ _ (Nat.lt_succ_self _) rfl) (by omega)).mono ?_
    rintro e w3 ⟨rfl, hb3⟩
    have hb3' : Below w2.heap.size w2 w3 := ((Below.refl _ _).alloc (Nat.le_refl _) _).trans (hb3.mono (by simp))
    go_wp2_with fail
    refine (phrOf_any s hs _).mono ?_
    rintro e w4 ⟨v4, rfl, hown4, hb4⟩
    obtain ⟨A4, c4, rfl, hn4, hm4, hrd4⟩ := own_form hown4
    have hb4' := bthen hb3' hb4
    have h1 := HW1.out.below (bthen hb2 hb4')
    go_wp2_with fail
    refine (alike_phr_true _ _ _ _ _ _ _ _ _ (by unfold maxLen at hm1; omega) h1 hrd4).mono ?_
    rintro e w5 ⟨rfl, hb5⟩
    have hB5 := bthen (bthen (bthen hb1 hb2) hb4') hb5
    go_wp2_with fail
    refine (phrTextOf_any l rest A n c w.heap.size w5 (HR.out.below hB5) hB5.size hn).mono ?_
    rintro e w6 ⟨rfl, hb6⟩
    go_wp2_with fail
    go_ret
    exact ⟨ret_bool (by simp), bthen hB5 hb6⟩
  · have hE : (longAll [s] != 0) = true := by rw [longAll_one]; unfold longErr; rw [if_pos (by omega)]; rfl
    have hV : Hid (longAll [s] = 2) := by unfold Hid; rw [longAll_one]; unfold longErr; rw [if_pos (by omega)]
    go_enter Try.func7, Try.ntmps7
    go_wp2_with fail
    refine (phrPut_long s (by omega) _).mono ?_
    rintro e w1 ⟨rfl, hb1⟩
    go_wp2_with fail
    refine (phrGet_any l rest A n c w.heap.size w1 (HR.out.below hb1) hb1.size hn).mono ?_
    rintro e w2 ⟨rfl, hb2⟩
    go_wp2_with fail
    refine (long_any [s] _ 1 _ (w2.heap.size + 1) _ (Rd.new_ (size := 1) (n := 1) w2 _ _ (Nat.lt_succ_self _) rfl) (by omega)).mono ?_
    rintro e w3 ⟨rfl, hb3⟩
    have hb3' : Below w2.heap.size w2 w3 := ((Below.refl _ _).alloc (Nat.le_refl _) _).trans (hb3.mono (by simp))
    have hB3 := bthen (bthen hb1 hb2) hb3'
    have hE2 : ((2 : Int) != longAll [s]) = false := by rw [hV.out]; rfl
    have hnil : (S []).toList = [] := ByteArray.toList_mk []
    go_wp2_with fail
    refine (phrTextOf_any l rest A n c w.heap.size w3 (HR.out.below hB3) hB3.size hn).mono ?_
    rintro e w6 ⟨rfl, hb6⟩
    go_wp2_with fail
    go_ret
    exact ⟨ret_bool (by simp), bthen hB3 hb6⟩
end Go.Proofs.Ythnedhfjochfnaa
