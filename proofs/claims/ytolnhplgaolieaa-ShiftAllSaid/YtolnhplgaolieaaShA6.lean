/- The law ShiftAll, walked. -/
import Derived.Test.YtolnhplgaolieaaShA4
import Derived.Test.YtolnhplgaolieaaShA5
namespace Go.Proofs.Ytolnhplgaolieaa
open Go.RowKit
set_option maxRecDepth 100000 in
set_option maxHeartbeats 4000000 in
theorem equal_op_true (A B : Option Addr) (n c d BA BB : Nat) (l : List Op) (w : World) (hn : n ≤ 9223372036854775807)
    (ha : Rd w BA 3 A n (opCells l)) (hb : Rd w BB 3 B n (opCells l)) :
    Calls Try.prog 99 #[.slice A n c, .slice B n d] w fun e w' => e = .returned (.bool true) ∧ Below w.heap.size w w' := by
  have Ha := Lib.hid ha; clear ha
  have Hb := Lib.hid hb; clear hb
  go_enter Try.func99, Try.ntmps99
  go_wp2
  go_loopw [13] (fun i wr => ∃ k m : Nat, k ≤ n ∧ i = .int .i64 k ∧ wr = w.drewN m) (fun i _ => n - (intOf i).toNat)
  case atStart => exact ⟨0, 0, Nat.zero_le _, rfl, rfl⟩
  case round =>
    obtain ⟨k, m, hk, rfl, rfl⟩ := hrel
    by_cases hlt : k < n
    · obtain ⟨ad, hl, rfl, _, hc0, hc1, hc2⟩ := Ha.out.at_op hlt
      obtain ⟨bd, hl', rfl, _, hd0, hd1, hd2⟩ := Hb.out.at_op hlt
      generalize l[k] = x at *
      go_wp2
      go_quiet (fail)
      go_wp2
      go_roundw
      case rel => exact ⟨k + 1, _, by omega, by go_num, rfl⟩
      case measure => simp [intOf]; omega
    · go_wp2
      go_ret
      exact ⟨rfl, below_drewN (Below.refl _ _) _⟩
theorem alike_op_true (A B : Option Addr) (n c d BA BB : Nat) (l : List Op) (w : World) (hn : n ≤ 9223372036854775807)
    (ha : Rd w BA 3 A n (opCells l)) (hb : Rd w BB 3 B n (opCells l)) :
    Calls Try.prog 41 #[.slice A n c, .slice B n d] w fun e w' => e = .returned (.bool true) ∧ Below w.heap.size w w' := by
  have Ha := Lib.hid ha; clear ha
  have Hb := Lib.hid hb; clear hb
  go_enter Try.func41, Try.ntmps41
  go_wp2_with fail
  refine (equal_op_true A B n c d BA BB l w hn Ha.out Hb.out).mono ?_
  rintro e w1 ⟨rfl, hb1⟩
  go_wp2_with fail
  go_ret
  exact ⟨rfl, hb1⟩
set_option maxRecDepth 100000 in
set_option maxHeartbeats 4000000 in
theorem shiftAll_any (n : Int) (a b : List Op) (A B : Option Addr) (na ca nb cb : Nat) (w : World) (ha : Rd w w.heap.size 3 A na (opCells a)) (hb : Rd w w.heap.size 3 B nb (opCells b))
    (hna : na ≤ 140737488351232) (hnb : nb ≤ 140737488351232) (hoa : OpsOk a) (hob : OpsOk b) :
    Calls Try.prog 7 #[.int .i64 n, .slice A na ca, .slice B nb cb] w fun e w' => e = .returned (.bool true) ∧ Below w.heap.size w w' := by
  have HA := Lib.hid ha
  have HB := Lib.hid hb
  clear ha hb
  by_cases he : allErr n a b = 0
  · have HE := Lib.hid he
    have hsw := run_swap true a b
    rw [Bool.not_true] at hsw
    have HSW := Lib.hid hsw
    clear he hsw
    go_enter Try.func7, Try.ntmps7
    go_wp2_with fail
    refine (shAll_any n a b A B na ca nb cb w.heap.size _ HA.out HB.out (Nat.le_refl _) hna hnb hoa hob).mono ?_
    rintro e w1 ⟨u, v, rfl, _, hown, hb1⟩
    obtain ⟨ownu, ownv⟩ := hown HE.out
    rw [HE.out]
    obtain ⟨U, cu, rfl, hnu, hmu, hru⟩ := own_form ownu
    obtain ⟨V, cv, rfl, hnv, hmv, hrv⟩ := own_form ownv
    have HU := Lib.hid hru
    have HV := Lib.hid hrv
    clear hown ownu ownv hru hrv
    go_wp2_with fail
    refine (allErrR_any n a b A B na ca nb cb w.heap.size _ (HA.out.below hb1) (HB.out.below hb1) hb1.size hna hnb hoa hob).mono ?_
    rintro e w2 ⟨rfl, hb2⟩
    rw [HE.out]
    have hb12 := bthen hb1 hb2
    have HU2 := Lib.hid (HU.out.below hb2)
    have HV2 := Lib.hid (HV.out.below hb2)
    have hz2 := hb2.size
    clear HU HV hb2
    go_wp2_with fail
    refine (shAllOf_any n a b A B na ca nb cb w.heap.size _ (HA.out.below hb12) (HB.out.below hb12) hb12.size HE.out).mono ?_
    rintro e w3 ⟨u', v', rfl, ownu, ownv, hb3⟩
    obtain ⟨U', cu', rfl, hnu', hmu', hru⟩ := own_form ownu
    obtain ⟨V', cv', rfl, hnv', hmv', hrv⟩ := own_form ownv
    rw [HSW.out.2] at hru
    rw [HSW.out.1] at hrv
    have HU' := Lib.hid hru
    have HV' := Lib.hid hrv
    have HU3 := Lib.hid (HU2.out.below (hb3.mono hz2))
    have HV3 := Lib.hid (HV2.out.below (hb3.mono hz2))
    have hb13 := bthen hb12 hb3
    have hz23 := hb3.size
    clear ownu ownv hru hrv HU2 HV2 hb3
    go_wp2_with fail
    refine (alike_op_true U U' na cu cu' _ _ _ _ (by omega) HU3.out HU'.out).mono ?_
    rintro e w4 ⟨rfl, hb4⟩
    go_wp2_with fail
    refine (alike_op_true V V' nb cv cv' _ _ _ _ (by omega) (HV3.out.below (hb4.mono (Nat.le_trans hz2 hz23))) (HV'.out.below hb4)).mono ?_
    rintro e w5 ⟨rfl, hb5⟩
    go_wp2_with fail
    go_ret
    exact ⟨rfl, bthen hb13 (bthen hb4 hb5)⟩
  · have g1 : (allErr n a b != 0) = true := by rw [bne_iff_ne]; exact he
    have g2 : (allErr n a b == allErr n a b) = true := beq_self_eq_true _
    have HE := Lib.hid he
    clear he
    go_enter Try.func7, Try.ntmps7
    go_wp2_with fail
    refine (shAll_any n a b A B na ca nb cb w.heap.size _ HA.out HB.out (Nat.le_refl _) hna hnb hoa hob).mono ?_
    rintro e w1 ⟨u, v, rfl, hnil, _, hb1⟩
    obtain ⟨rfl, rfl⟩ := hnil HE.out
    clear hnil
    go_wp2_with fail
    refine (allErrR_any n a b A B na ca nb cb w.heap.size _ (HA.out.below hb1) (HB.out.below hb1) hb1.size hna hnb hoa hob).mono ?_
    rintro e w2 ⟨rfl, hb2⟩
    go_wp2_with fail
    go_ret
    exact ⟨rfl, bthen hb1 hb2⟩
end Go.Proofs.Ytolnhplgaolieaa
