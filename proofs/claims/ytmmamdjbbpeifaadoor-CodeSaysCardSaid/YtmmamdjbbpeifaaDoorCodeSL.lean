/- The law CodeSays, walked. -/
import Derived.Test.YtmmamdjbbpeifaaDoorSoleD
import Derived.Test.YtmmamdjbbpeifaaDoorSoleB
import Derived.Test.YtmmamdjbbpeifaaDoorCdpD
namespace Go.Proofs.YtmmamdjbbpeifaaDoor
open Go.RowKit
theorem sole_all (A : Option Addr) (n c B : Nat) (l : List (List UInt8)) (w : World) (hr : Rd w B 1 A n (strCells l)) (hn : n ≤ c) (hB : B ≤ w.heap.size) (hx : ∀ x ∈ l, x.length ≤ maxLen) :
    Calls Tryd.prog 14 #[.slice A n c] w fun e w' => e = .returned (.tuple #[.bool (if codeErr l = 0 then soleB l else false), .int .i64 (codeErr l)]) ∧ Below w.heap.size w w' := by
  by_cases hE : codeErr l = 0
  · rw [if_pos hE, hE]; exact sole_any A n c B l w hr hn hB hx hE
  · rw [if_neg hE]; exact sole_bad A n c B l w hr hn hB hx hE
set_option maxRecDepth 100000 in
set_option maxHeartbeats 4000000 in
theorem codeSays_any (A : Option Addr) (n c : Nat) (l : List (List UInt8)) (w : World) (hr : Rd w w.heap.size 1 A n (strCells l)) (hn : n ≤ c) (hc : c ≤ maxLen) (hx : ∀ x ∈ l, x.length ≤ maxLen) :
    Calls Tryd.prog 4 #[.slice A n c] w fun e w' => e = .returned (.bool true) ∧ Below w.heap.size w w' := by
  have hml : maxLen ≤ 9223372036854775807 := by decide
  have HR := Lib.hid hr
  have HX := Lib.hid hx
  obtain ⟨ff, hff⟩ : ∃ ff, ff = (if codeErr l = 0 then frontB l else false) := ⟨_, rfl⟩
  obtain ⟨fs, hfs⟩ : ∃ fs, fs = (if codeErr l = 0 then soleB l else false) := ⟨_, rfl⟩
  have HF := codeFront_any A n c w.heap.size l w hr hn (Nat.le_refl _) hx
  have HS : ∀ w1, Below w.heap.size w w1 → _ := fun w1 (hb1 : Below w.heap.size w w1) => sole_all A n c w.heap.size l w1 (hr.below hb1) hn hb1.size hx
  rw [← hff] at HF
  simp only [← hfs] at HS
  have HF := Lib.hid HF
  have HS := Lib.hid HS
  have HFF := Lib.hid hff
  have HFS := Lib.hid hfs
  clear hff hfs
  clear hr hx
  go_enter Tryd.func4, Tryd.ntmps4
  go_wp2_with fail
  refine HF.out.mono ?_
  rintro e w1 ⟨rfl, hb1⟩
  go_wp2_with fail
  refine (HS.out w1 hb1).mono ?_
  rintro e w2 ⟨rfl, hb2⟩
  have hb2' := bthen hb1 hb2
  go_wp2_with fail
  refine (refCodeErr_any A n c w.heap.size l w2 (HR.out.below hb2') (by omega) HX.out).mono ?_
  rintro e w3 ⟨rfl, rfl⟩
  go_wp2_with fail
  refine (codeCheck_any A n c w.heap.size l w3 (HR.out.below hb2') hn hb2'.size HX.out).mono ?_
  rintro e w4 ⟨rfl, hb4⟩
  have hb4' := bthen hb2' hb4
  have g0 : (codeErr l == codeErr l) = true := beq_self_eq_true _
  have g0' : (codeErr l != codeErr l) = false := by rw [bne, g0]; rfl
  by_cases hE : codeErr l = 0
  · have HCO := Lib.hid (cod_of hE)
    have HFC := Lib.hid (frontCode_any A n c w.heap.size l w4 (HR.out.below hb4') hb4'.size HCO.out)
    obtain rfl : ff = frontB l := by rw [HFF.out, if_pos hE]
    obtain rfl : fs = soleB l := by rw [HFS.out, if_pos hE]
    rw [hE]
    rw [hE] at g0 g0'
    have gf : (frontB l == frontB l) = true := beq_self_eq_true _
    have gs : (soleB l == soleB l) = true := beq_self_eq_true _
    have HSC : Hid (∀ w5, Below w.heap.size w w5 → Calls Tryd.prog 18 #[.slice A n c] w5 fun e w' => e = .returned (.bool (soleB l)) ∧ Below w5.heap.size w5 w') := fun w5 hb5 => soleCode_any A n c w.heap.size l w5 (HR.out.below hb5) hn hb5.size HCO.out
    clear hE
    generalize frontB l = bf at *
    generalize soleB l = bs at *
    go_wp2_with fail
    refine HFC.out.mono ?_
    rintro e w5 ⟨rfl, hb5⟩
    have hb5' := bthen hb4' hb5
    go_wp2_with fail
    refine (HSC.out w5 hb5').mono ?_
    rintro e w6 ⟨rfl, hb6⟩
    go_wp2_with fail
    go_ret
    exact ⟨rfl, bthen hb5' hb6⟩
  · obtain rfl : ff = false := by rw [HFF.out, if_neg hE]
    obtain rfl : fs = false := by rw [HFS.out, if_neg hE]
    have g1 : (codeErr l == 0) = false := by rw [beq_eq_false_iff_ne]; exact hE
    have g2 : (codeErr l != 0) = true := by rw [bne, g1]; rfl
    clear hE
    generalize codeErr l = E at *
    go_wp2_with fail
    go_ret
    exact ⟨rfl, hb4'⟩
end Go.Proofs.YtmmamdjbbpeifaaDoor
