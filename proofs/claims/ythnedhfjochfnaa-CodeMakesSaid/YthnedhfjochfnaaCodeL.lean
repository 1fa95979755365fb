/- The law CodeMakes, walked. -/
import Derived.Test.YthnedhfjochfnaaCodeN
namespace Go.Proofs.Ythnedhfjochfnaa
open Go.RowKit
theorem codesL_len (ns : List Nat) : (codesL ns).length = ns.length := by simp [codesL]
set_option maxRecDepth 100000 in
set_option maxHeartbeats 2000000 in
theorem codeMakes_any (l : List Int) (A : Option Addr) (m c : Nat) (w : World) (hr : Rd w w.heap.size 1 A m (ints l)) (hm : m ≤ 9223372036854775807) :
    Calls Try.prog 8 #[.slice A m c] w fun e w' => e = .returned (.bool true) ∧ Below w.heap.size w w' := by
  have hlen := ints_len hr
  have HR := Lib.hid hr; clear hr
  by_cases hE : (lensErr l).2 = 0
  · obtain ⟨x, hx⟩ : ∃ x, lensErr l = (x, 0) := ⟨(lensErr l).1, by rw [← hE]⟩
    obtain ⟨ns, rfl, hns, h12, hxt⟩ := lensErr_nat hx
    have HX := Lib.hid hx
    have HNS := Lib.hid hns
    have hm12 : m ≤ 12 := by rw [← hlen, nInts_len]; exact h12
    clear hE hx hns hlen
    by_cases ht : total ns ≤ 4096
    · have g1 : decide ((4096 : Int) < x) = false := decide_eq_false (by omega)
      have HXT := Lib.hid hxt
      have hx4 : x ≤ 4096 := by omega
      clear hxt
      go_enter Try.func8, Try.ntmps8
      go_wp2_with fail
      refine (coSum_any (nInts ns) A m c w.heap.size w HR.out hm).mono ?_
      rintro e w1 ⟨rfl, hb1⟩
      rw [HX.out]
      go_wp2_with fail
      refine (coMake_any ns x A m c w.heap.size w1 (HR.out.below hb1) hb1.size HX.out HNS.out h12 HXT.out ht).mono ?_
      rintro e w2 ⟨v2, rfl, hown2, hb2⟩
      obtain ⟨A2, c2, rfl, hn2, hm2, hrd2⟩ := own_form hown2
      have HRD2 := Lib.hid hrd2
      clear hown2 hrd2
      have hB2 := bthen hb1 hb2
      go_wp2_with fail
      refine (coLens_any (nInts ns) A m c w.heap.size w2 (HR.out.below hB2) hm).mono ?_
      rintro e w3 ⟨rfl, hb3⟩
      rw [HX.out]
      have hB3 := bthen hB2 hb3
      go_wp2_with fail
      refine (coCodes_any ns A m c w.heap.size w3 (HR.out.below hB3) hB3.size HNS.out h12).mono ?_
      rintro e w4 ⟨v4, b4, rfl, hv4, hb4⟩
      obtain ⟨rfl, hown4⟩ := hv4 ht
      obtain ⟨A4, c4, rfl, hn4, hm4, hrd4⟩ := own_form hown4
      have h2 := (HRD2.out.below hb3).below (hb4.mono hb3.size)
      clear hown4 hv4
      go_wp2_with fail
      refine (alike_str_true _ _ _ _ _ _ _ _ _ (by omega) h2 hrd4).mono ?_
      rintro e w5 ⟨rfl, hb5⟩
      go_wp2_with fail
      go_ret
      exact ⟨rfl, bthen (bthen hB3 hb4) hb5⟩
    · have hx4 : 4096 < x := by omega
      have HXT := Lib.hid hxt
      clear hxt
      go_enter Try.func8, Try.ntmps8
      go_wp2_with fail
      refine (coSum_any (nInts ns) A m c w.heap.size w HR.out hm).mono ?_
      rintro e w1 ⟨rfl, hb1⟩
      rw [HX.out]
      go_wp2_with fail
      refine (coMake_full (nInts ns) x A m c w.heap.size w1 (HR.out.below hb1) hm HX.out hx4).mono ?_
      rintro e w2 ⟨rfl, hb2⟩
      have hB2 := bthen hb1 hb2
      go_wp2_with fail
      refine (coLens_any (nInts ns) A m c w.heap.size w2 (HR.out.below hB2) hm).mono ?_
      rintro e w3 ⟨rfl, hb3⟩
      rw [HX.out]
      have hB3 := bthen hB2 hb3
      go_wp2_with fail
      refine (coCodes_any ns A m c w.heap.size w3 (HR.out.below hB3) hB3.size HNS.out h12).mono ?_
      rintro e w4 ⟨v4, b4, rfl, _, hb4⟩
      go_wp2_with fail
      go_ret
      exact ⟨rfl, bthen hB3 hb4⟩
  · have g1 : ((lensErr l).2 != 0) = true := by simpa using hE
    have HE := Lib.hid hE
    clear hE
    go_enter Try.func8, Try.ntmps8
    go_wp2_with fail
    refine (coSum_any l A m c w.heap.size w HR.out hm).mono ?_
    rintro e w1 ⟨rfl, hb1⟩
    go_wp2_with fail
    refine (coMake_err l A m c w.heap.size w1 (HR.out.below hb1) hm HE.out).mono ?_
    rintro e w2 ⟨rfl, hb2⟩
    have hB2 := bthen hb1 hb2
    go_wp2_with fail
    refine (coLens_any l A m c w.heap.size w2 (HR.out.below hB2) hm).mono ?_
    rintro e w3 ⟨rfl, hb3⟩
    have hB3 := bthen hB2 hb3
    go_wp2_with fail
    go_ret
    exact ⟨ret_bool (by simp), hB3⟩
end Go.Proofs.Ythnedhfjochfnaa
