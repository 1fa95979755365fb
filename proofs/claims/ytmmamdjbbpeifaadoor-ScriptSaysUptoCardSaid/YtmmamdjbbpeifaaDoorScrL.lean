/- The law ScriptSays, walked. -/
import Derived.Test.YtmmamdjbbpeifaaDoorScrD
import Derived.Test.YtmmamdjbbpeifaaDoorScrE
import Derived.Test.YtmmamdjbbpeifaaDoorScrG
namespace Go.Proofs.YtmmamdjbbpeifaaDoor
open Go.RowKit
set_option maxHeartbeats 400000 in
theorem equalEdS_true (A B : Option Addr) (n c d BA BB : Nat) (l : List Ed) (w : World) (hn : n ≤ 9223372036854775807)
    (ha : Rd w BA 3 A n (edCells l)) (hb : Rd w BB 3 B n (edCells l)) :
    Calls Tryd.prog 33 #[.slice A n c, .slice B n d] w fun e w' => e = .returned (.bool true) ∧ Below w.heap.size w w' := by
  have Ha := Lib.hid ha; clear ha
  have Hb := Lib.hid hb; clear hb
  go_enter Tryd.func33, Tryd.ntmps33
  go_wp2
  go_loopw [13] (fun i wr => ∃ k m : Nat, k ≤ n ∧ i = .int .i64 k ∧ wr = w.drewN m) (fun i _ => n - (intOf i).toNat)
  case atStart => exact ⟨0, 0, Nat.zero_le _, rfl, rfl⟩
  case round =>
    obtain ⟨k, m, hk, rfl, rfl⟩ := hrel
    by_cases hlt : k < n
    · obtain ⟨ad, hl, rfl, _, c0, c1, c2⟩ := Ha.out.at_ed hlt
      obtain ⟨bd, hl', rfl, _, d0, d1, d2⟩ := Hb.out.at_ed hlt
      generalize l[k] = x at *
      obtain ⟨xa, xd, xi⟩ := x
      simp only at c0 c1 c2 d0 d1 d2
      generalize S xi = si at *
      go_wp2
      go_quiet (fail)
      go_wp2
      go_roundw
      case rel => exact ⟨k + 1, _, by omega, by go_num, rfl⟩
      case measure => simp [intOf]; omega
    · go_wp2
      go_ret
      exact ⟨rfl, below_drewN (Below.refl _ _) _⟩
theorem alikeEdS_true (A B : Option Addr) (n c d BA BB : Nat) (l : List Ed) (w : World) (hn : n ≤ 9223372036854775807)
    (ha : Rd w BA 3 A n (edCells l)) (hb : Rd w BB 3 B n (edCells l)) :
    Calls Tryd.prog 12 #[.slice A n c, .slice B n d] w fun e w' => e = .returned (.bool true) ∧ Below w.heap.size w w' := by
  have Ha := Lib.hid ha; clear ha
  have Hb := Lib.hid hb; clear hb
  go_enter Tryd.func12, Tryd.ntmps12
  go_wp2_with fail
  refine (equalEdS_true A B n c d BA BB l w hn Ha.out Hb.out).mono ?_
  rintro e w1 ⟨rfl, hb1⟩
  go_wp2_with fail
  go_ret
  exact ⟨rfl, hb1⟩

theorem rd_join {s : List UInt8} {out out2 : List Ed} {c : Int} {ok : Bool} (h1 : RdAns s out c) (h2 : RfAns s out2 ok) : (ok = false → c = 12 ∧ out = []) ∧ (ok = true → c = 0 ∧ out2 = out) := by
  unfold RdAns at h1
  rw [readP_zero] at h1
  unfold RfAns at h2
  rcases h2 with ⟨e, rfl⟩ | ⟨e, rfl, rfl⟩
  · rw [e] at h1
    simp only at h1
    by_cases hz : scrErr out2 = 0
    · rw [if_pos hz] at h1
      refine ⟨fun h => (by simp [hz] at h), fun _ => ?_⟩
      rcases h1 with ⟨h1, rfl⟩ | ⟨h1, _⟩
      · exact ⟨rfl, Option.some.inj h1⟩
      · cases h1
    · rw [if_neg hz] at h1
      refine ⟨fun _ => ?_, fun h => (by simp [hz] at h)⟩
      rcases h1 with ⟨h1, _⟩ | ⟨_, h1, h3⟩
      · cases h1
      · exact ⟨h1, h3⟩
  · rw [e] at h1
    refine ⟨fun _ => ?_, fun h => by cases h⟩
    rcases h1 with ⟨h1, _⟩ | ⟨_, h1, h3⟩
    · cases h1
    · exact ⟨h1, h3⟩
set_option maxRecDepth 100000 in
set_option maxHeartbeats 16000000 in
theorem scriptSays_any (A : Option Addr) (m c : Nat) (l : List Ed) (s : ByteArray) (mx : Int) (w : World) (hr : Rd w w.heap.size 3 A m (edCells l)) (hm : m ≤ 9223372036854775807) (hs : s.size ≤ 1048576)
    (ht : TabI w) (hmx : w.cell? ⟨0, 0, none⟩ = some (.int .i64 mx)) (hw0 : 0 < w.heap.size) :
    Calls Tryd.prog 3 #[.slice A m c, .string s] w fun e w' => e = .returned (.bool true) ∧ Below w.heap.size w w' := by
  have HW := Lib.hid (write_any l A m c w.heap.size w hr (Nat.le_refl _) hm ht)
  have HCK := Lib.hid (fun W (hb : Below w.heap.size w W) => scrCheck_any l A m c w.heap.size W (hr.below hb) hb.size hm)
  have HER := Lib.hid (fun W (hb : Below w.heap.size w W) => scrErrR_any l A m c w.heap.size W (hr.below hb) hb.size hm)
  have HWR := Lib.hid (fun W (hb : Below w.heap.size w W) (hz : scrErr l = 0) => written_any l A m c w.heap.size W (hr.below hb) hb.size hm (Go.Joins.tab_stays (g := Tryd.prog.globalNamed "internal/strconv.uint64pow10" |>.getD 0) (by kernel_rfl) ht hb (Nat.le_refl _)) hz)
  have HRO := Lib.hid (fun W (hb : Below w.heap.size w W) => readOf_any s hs mx W ((hb.cell (p := ⟨0, 0, none⟩) hw0).trans hmx) (Nat.lt_of_lt_of_le hw0 hb.size))
  have HRE := Lib.hid (fun W => read_any s (by omega) W)
  clear hr hmx
  obtain ⟨tt, htt⟩ : ∃ tt : ByteArray, tt = (if scrErr l = 0 then S (wrL l) else ⟨#[]⟩) := ⟨_, rfl⟩
  rw [← htt] at HW
  have HTT := Lib.hid htt
  clear htt
  obtain ⟨z, hz⟩ : ∃ z, scrErr l = z := ⟨_, rfl⟩
  rw [hz] at HW HCK HER HTT
  have HZ := Lib.hid hz
  clear hz
  go_enter Tryd.func3, Tryd.ntmps3
  go_wp2_with fail
  refine HW.out.mono ?_
  rintro e w1 ⟨rfl, hb1⟩
  go_wp2_with fail
  refine (HRE.out _).mono ?_
  rintro e w2 ⟨v, out, cc, rfl, hans, hown, hb2⟩
  have HANS := Lib.hid hans
  have HOWN := Lib.hid hown
  obtain ⟨AV, cv, rfl, hnc, hcm, hrx⟩ := own_form hown
  have hB2 := bthen hb1 hb2
  clear hans hown hrx
  go_wp2_with fail
  refine (HER.out _ hB2).mono ?_
  rintro e w3 ⟨rfl, hb3⟩
  have hB3 := bthen hB2 hb3
  go_wp2_with fail
  refine (HCK.out _ hB3).mono ?_
  rintro e w4 ⟨rfl, hb4⟩
  have hB4 := bthen hB3 hb4
  have hB24 := bthen hb3 hb4
  by_cases hz0 : z = 0
  · subst hz0
    have HWZ := Lib.hid (fun W (hb : Below w.heap.size w W) => HWR.out W hb HZ.out)
    have hx : tt = S (wrL l) := by rw [HTT.out]; rfl
    rw [← hx] at HWZ
    clear hx HWR HTT HZ
    have g1 : (tt.toList == tt.toList) = true := beq_self_eq_true _
    go_wp2_with fail
    refine (HWZ.out _ hB4).mono ?_
    rintro e w5 ⟨rfl, hb5⟩
    have hB5 := bthen hB4 hb5
    have hB25 := bthen hB24 hb5
    go_wp2_with fail
    refine (HRO.out _ hB5).mono ?_
    rintro e w6 ⟨v2, out2, ok, rfl, hans2, hown2, hb6⟩
    have hB6 := bthen hB5 hb6
    have HJ := Lib.hid (rd_join HANS.out hans2)
    have hO2 := own_below HOWN.out (bthen hB25 hb6)
    obtain ⟨A2, c2, rfl, hnc2, hcm2, hrx2⟩ := own_form hown2
    cases ok with
    | false =>
      obtain ⟨rfl, h0⟩ := HJ.out.1 rfl
      have hl0 : out.length = 0 := by rw [h0]; rfl
      clear HJ hans2 hO2 hrx2 hown2 HANS HOWN h0
      rw [hl0]
      go_wp2_with fail
      go_ret
      exact ⟨rfl, hB6⟩
    | true =>
      obtain ⟨rfl, rfl⟩ := HJ.out.2 rfl
      obtain ⟨_, _, he, _, _, hrx1⟩ := own_form hO2
      simp only [Value.slice.injEq, true_and] at he
      obtain ⟨rfl, rfl⟩ := he
      have HAL := Lib.hid (fun (W : World) (hb : Below w6.heap.size w6 W) => alikeEdS_true AV A2 out2.length cv c2 _ _ out2 W (Nat.le_trans hnc2 (Nat.le_trans hcm2 (by decide))) (hrx1.below hb) (hrx2.below hb))
      clear HJ hans2 hO2 hrx2 hown2 HANS HOWN hrx1
      go_wp2_with fail
      refine (HAL.out _ (Below.refl _ _)).mono ?_
      rintro e w7 ⟨rfl, hb7⟩
      go_wp2_with fail
      go_ret
      exact ⟨rfl, bthen hB6 hb7⟩
  · have hx : tt = ⟨#[]⟩ := by rw [HTT.out, if_neg hz0]
    subst hx
    have g1 : (z == (0 : Int)) = false := by rw [beq_eq_false_iff_ne]; exact hz0
    have g2 : (z != (0 : Int)) = true := by rw [bne, g1]; rfl
    clear HWR HTT HZ hz0
    go_wp2_with fail
    refine (HRO.out _ hB4).mono ?_
    rintro e w6 ⟨v2, out2, ok, rfl, hans2, hown2, hb6⟩
    have hB6 := bthen hB4 hb6
    have HJ := Lib.hid (rd_join HANS.out hans2)
    have hO2 := own_below HOWN.out (bthen hB24 hb6)
    obtain ⟨A2, c2, rfl, hnc2, hcm2, hrx2⟩ := own_form hown2
    cases ok with
    | false =>
      obtain ⟨rfl, h0⟩ := HJ.out.1 rfl
      have hl0 : out.length = 0 := by rw [h0]; rfl
      clear HJ hans2 hO2 hrx2 hown2 HANS HOWN h0
      rw [hl0]
      go_wp2_with fail
      go_ret
      exact ⟨rfl, hB6⟩
    | true =>
      obtain ⟨rfl, rfl⟩ := HJ.out.2 rfl
      obtain ⟨_, _, he, _, _, hrx1⟩ := own_form hO2
      simp only [Value.slice.injEq, true_and] at he
      obtain ⟨rfl, rfl⟩ := he
      have HAL := Lib.hid (fun (W : World) (hb : Below w6.heap.size w6 W) => alikeEdS_true AV A2 out2.length cv c2 _ _ out2 W (Nat.le_trans hnc2 (Nat.le_trans hcm2 (by decide))) (hrx1.below hb) (hrx2.below hb))
      clear HJ hans2 hO2 hrx2 hown2 HANS HOWN hrx1
      go_wp2_with fail
      refine (HAL.out _ (Below.refl _ _)).mono ?_
      rintro e w7 ⟨rfl, hb7⟩
      go_wp2_with fail
      go_ret
      exact ⟨rfl, bthen hB6 hb7⟩
end Go.Proofs.YtmmamdjbbpeifaaDoor
