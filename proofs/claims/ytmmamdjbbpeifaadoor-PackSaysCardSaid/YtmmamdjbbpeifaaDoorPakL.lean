/- The law PackSays, walked. -/
import Derived.Test.YtmmamdjbbpeifaaDoorPakH
namespace Go.Proofs.YtmmamdjbbpeifaaDoor
open Go.RowKit
theorem putErr_zero {n : Nat} {t : List Int} (h : putErr n t = 0) : t.length ≤ 200 ∧ t.any (bad n) = false := by
  unfold putErr at h
  split at h
  · cases h
  · split at h
    · cases h
    · rename_i h1 h2
      exact ⟨by omega, by simpa using h2⟩
theorem packErr_of {l : List (List UInt8)} {n : Nat} {t : List Int} (hl : l.length = n) (h : codeErr l = 0) : packErr l t = putErr n t := by unfold packErr; rw [if_pos h, hl]
set_option maxRecDepth 100000 in
set_option maxHeartbeats 4000000 in
theorem packSays_bad (A : Option Addr) (n c : Nat) (l : List (List UInt8)) (A2 : Option Addr) (m c2 : Nat) (t : List Int) (s : ByteArray) (w : World) (hr : Rd w w.heap.size 1 A n (strCells l)) (hn : n ≤ c) (hc : c ≤ maxLen) (hx : ∀ x ∈ l, x.length ≤ maxLen)
    (hr2 : Rd w w.heap.size 1 A2 m (ints t)) (hE : codeErr l ≠ 0) :
    Calls Tryd.prog 5 #[.slice A n c, .slice A2 m c2, .string s] w fun e w' => e = .returned (.bool true) ∧ Below w.heap.size w w' := by
  have hml : maxLen ≤ 9223372036854775807 := by decide
  have hml2 : 4096 ≤ maxLen := by decide
  obtain ⟨E, hEE⟩ : ∃ E, E = codeErr l := ⟨_, rfl⟩
  have HPO : Hid (packOut l t = []) := packOut_bad (by unfold packErr; rw [if_neg hE]; exact hE)
  have HPE : Hid (packErr l t = E) := by unfold Hid packErr; rw [if_neg hE, hEE]
  have HX := Lib.hid hx
  have HR := Lib.hid hr
  have HR2 := Lib.hid hr2
  have HE := Lib.hid hE
  have HEE := Lib.hid hEE
  have g1 : (E == 0) = false := by rw [hEE, beq_eq_false_iff_ne]; exact hE
  have g2 : (E != 0) = true := by rw [bne, g1]; rfl
  obtain ⟨z1, z2⟩ := (emp_facts (S [])).1 rfl
  clear hr hr2 hE hEE hx
  go_enter Tryd.func5, Tryd.ntmps5
  go_wp2_with fail
  have hb0 : Below w.heap.size w (w.alloc (.cells #[.slice A n c] 36)) := (Below.refl _ _).alloc (Nat.le_refl _) _
  have hbx : w.heap.size < (w.alloc (.cells #[.slice A n c] 36)).heap.size := by simp
  have c0 : (w.alloc (.cells #[.slice A n c] 36)).cell? ⟨w.heap.size, 0, none⟩ = some (.slice A n c) := cells_new w #[.slice A n c] 36 0 _ rfl
  generalize (w.alloc (.cells #[.slice A n c] 36)) = w0 at *
  have C0 := Lib.hid c0
  have hws : w.heap.size ≤ w0.heap.size := by omega
  refine (packPut_any A n c w.heap.size l A2 m c2 w.heap.size t w0 (HR.out.below hb0) hws (HR2.out.below hb0) hws hn HX.out).mono ?_
  rintro e w1 ⟨rfl, hb1⟩
  rw [HPO.out, HPE.out]
  have c1 := (hb1.cell (p := ⟨w.heap.size, 0, none⟩) hbx).trans c0
  have hbx1 : w.heap.size < w1.heap.size := by have := hb1.size; omega
  have hb1' := bthen hb0 hb1
  have hws1 : w.heap.size ≤ w1.heap.size := hb1'.size
  clear c0
  go_wp2_with fail
  refine (packGet_bad A n c w.heap.size l s w1 (HR.out.below hb1') hn hws1 HX.out HE.out).mono ?_
  rintro e w2 ⟨rfl, hb2⟩
  have c2' := (hb2.cell (p := ⟨w.heap.size, 0, none⟩) hbx1).trans c1
  have hbx2 : w.heap.size < w2.heap.size := by have := hb2.size; omega
  have hb2' := bthen hb1' hb2
  have hws2 : w.heap.size ≤ w2.heap.size := hb2'.size
  rw [← HEE.out]
  clear c1
  go_wp2_with fail
  refine (ways_bad A n c w.heap.size l s w2 (HR.out.below hb2') hn hws2 HX.out HE.out).mono ?_
  rintro e w3 ⟨rfl, hb3⟩
  have c3' := (hb3.cell (p := ⟨w.heap.size, 0, none⟩) hbx2).trans c2'
  have hb3' := bthen hb2' hb3
  rw [← HEE.out]
  clear c2'
  go_wp2_with fail
  refine (refCodeErr_any A n c w.heap.size l w3 (HR.out.below hb3') (by omega) HX.out).mono ?_
  rintro e w4 ⟨rfl, rfl⟩
  rw [← HEE.out]
  have g3 : (E == E) = true := beq_self_eq_true _
  go_wp2_with fail
  go_ret
  exact ⟨rfl, hb3'⟩
set_option maxRecDepth 100000 in
set_option maxHeartbeats 8000000 in
theorem packSays_good (A : Option Addr) (n c : Nat) (l : List (List UInt8)) (A2 : Option Addr) (m c2 : Nat) (t : List Int) (s : ByteArray) (w : World) (hr : Rd w w.heap.size 1 A n (strCells l)) (hn : n ≤ c) (hc : c ≤ maxLen) (hx : ∀ x ∈ l, x.length ≤ maxLen)
    (hr2 : Rd w w.heap.size 1 A2 m (ints t)) (hm : m ≤ maxLen) (hE : codeErr l = 0) :
    Calls Tryd.prog 5 #[.slice A n c, .slice A2 m c2, .string s] w fun e w' => e = .returned (.bool true) ∧ Below w.heap.size w w' := by
  have hml : maxLen ≤ 9223372036854775807 := by decide
  have hml2 : 4096 ≤ maxLen := by decide
  have hln : l.length = n := by have := hr.1; simpa [strCells] using this
  have hlm : t.length = m := by have := hr2.1; simpa [ints] using this
  have HCO := Lib.hid (cod_of hE)
  have HPE := Lib.hid (packErr_of (t := t) hln hE)
  have HPB : Hid (packErr l t ≠ 0 → S (packOut l t) = S []) := fun h => by rw [packOut_bad h]
  have HPK : Hid (packErr l t = 0 → packOut l t = joinI l t) := packOut_ok
  have HLN := Lib.hid hln
  have HLM := Lib.hid hlm
  have HX := Lib.hid hx
  have HR := Lib.hid hr
  have HR2 := Lib.hid hr2
  have HE := Lib.hid hE
  have HWL := Lib.hid HCO.out.le
  clear hr hr2 hE hx hln hlm
  go_enter Tryd.func5, Tryd.ntmps5
  go_wp2_with fail
  have hb0 : Below w.heap.size w (w.alloc (.cells #[.slice A n c] 36)) := (Below.refl _ _).alloc (Nat.le_refl _) _
  have hbx : w.heap.size < (w.alloc (.cells #[.slice A n c] 36)).heap.size := by simp
  have c0 : (w.alloc (.cells #[.slice A n c] 36)).cell? ⟨w.heap.size, 0, none⟩ = some (.slice A n c) := cells_new w #[.slice A n c] 36 0 _ rfl
  generalize (w.alloc (.cells #[.slice A n c] 36)) = w0 at *
  have hws : w.heap.size ≤ w0.heap.size := by omega
  refine (packPut_any A n c w.heap.size l A2 m c2 w.heap.size t w0 (HR.out.below hb0) hws (HR2.out.below hb0) hws hn HX.out).mono ?_
  rintro e w1 ⟨rfl, hb1⟩
  generalize packErr l t = E1 at *
  generalize hP : S (packOut l t) = P at *
  have HP := Lib.hid hP
  clear hP
  have c1 := (hb1.cell (p := ⟨w.heap.size, 0, none⟩) hbx).trans c0
  have hbx1 : w.heap.size < w1.heap.size := by have := hb1.size; omega
  have hb1' := bthen hb0 hb1
  have hws1 : w.heap.size ≤ w1.heap.size := hb1'.size
  clear c0
  go_wp2_with fail
  refine (packGet_all A n c w.heap.size l s w1 (HR.out.below hb1') hn hws1 HX.out HE.out).mono ?_
  rintro e w2 ⟨A3, c3, ks, e2, rfl, hk4, hrk, hgs, hb2⟩
  have HRK := Lib.hid hrk
  have HGS := Lib.hid hgs
  have c2' := (hb2.cell (p := ⟨w.heap.size, 0, none⟩) hbx1).trans c1
  have hbx2 : w.heap.size < w2.heap.size := by have := hb2.size; omega
  have hb2' := bthen hb1' hb2
  have hws2 : w.heap.size ≤ w2.heap.size := hb2'.size
  clear c1 hrk hgs
  go_wp2_with fail
  refine (ways_all A n c w.heap.size l s w2 (HR.out.below hb2') hn hws2 HX.out HE.out).mono ?_
  rintro e w3 ⟨x, e3, rfl, hws3, hb3⟩
  have HWS := Lib.hid hws3
  have c3' := (hb3.cell (p := ⟨w.heap.size, 0, none⟩) hbx2).trans c2'
  have hb3' := bthen hb2' hb3
  have HRK3 := Lib.hid ((HRK.out.below hb3).more hb3.size)
  have hbx3 : w.heap.size < w3.heap.size := by have := hb3.size; omega
  clear c2' hws3 HRK
  go_wp2_with fail
  refine (refCodeErr_any A n c w.heap.size l w3 (HR.out.below hb3') (by omega) HX.out).mono ?_
  rintro e w4 ⟨rfl, rfl⟩
  rw [HE.out]
  generalize hkl : ks.length = kn at *
  clear hb0 hb1 hb2 hb3 hb1' hb2' hws hws1 hws2 hbx hbx1 hbx2
  go_upto_if 65 with (fail)
  go_cut [14] (fun x wx => x = .int .i64 E1 ∧ wx = w4)
  case first =>
    by_cases h2 : 200 < m
    · have g1 : decide ((200 : Int) < (m : Int)) = true := decide_eq_true (by omega)
      have g1' : decide (200 < m) = true := decide_eq_true h2
      obtain rfl : E1 = 2 := by rw [HPE.out]; unfold putErr; rw [if_pos (by rw [HLM.out]; exact h2)]
      go_wp2_with fail
      go_meet
      exact ⟨rfl, rfl⟩
    · have g1 : decide ((200 : Int) < (m : Int)) = false := decide_eq_false (by omega)
      have g1' : decide (200 < m) = false := decide_eq_false h2
      have HC := Lib.hid (badA_has w.heap.size A n c A2 m c2 w.heap.size t w4 c3' (HR2.out.below hb3') hm)
      cases ha : t.any (bad n) with
      | true =>
        obtain rfl : E1 = 1 := by rw [HPE.out]; unfold putErr; rw [if_neg (by rw [HLM.out]; exact h2), ha]; rfl
        rw [ha] at HC
        clear ha
        go_wp2_with fail
        refine HC.out.mono ?_
        rintro e w5 ⟨rfl, rfl⟩
        go_wp2_with fail
        go_meet
        exact ⟨rfl, rfl⟩
      | false =>
        obtain rfl : E1 = 0 := by rw [HPE.out]; unfold putErr; rw [if_neg (by rw [HLM.out]; exact h2), ha]; rfl
        rw [ha] at HC
        clear ha
        go_wp2_with fail
        refine HC.out.mono ?_
        rintro e w5 ⟨rfl, rfl⟩
        go_wp2_with fail
        go_meet
        exact ⟨rfl, rfl⟩
  case rest =>
    obtain ⟨rfl, rfl⟩ := hcut
    obtain ⟨w5, hw5⟩ : ∃ w5 : World, w5 = wc := ⟨_, rfl⟩
    subst hw5
    go_upto_region 12 with (fail)
    go_cut [90] (fun v wx => v = .bool false ∧ Below w5.heap.size w5 wx)
    case first =>
      have gE : (E1 == E1) = true := beq_self_eq_true _
      have gE' : (E1 != E1) = false := by rw [bne, gE]; rfl
      by_cases h0 : E1 = 0
      · subst h0
        obtain ⟨h1, h2⟩ := putErr_zero HPE.out.symm
        have hPJ : P = S (joinI l t) := by rw [← HP.out, HPK.out rfl]
        have HJ := joined_any A n c w.heap.size l A2 m c2 w.heap.size t w5 (HR.out.below hb3') hb3'.size (HR2.out.below hb3') hb3'.size (by rw [← HLM.out]; omega) HWL.out h2
        rw [← hPJ] at HJ
        have HJ := Lib.hid HJ
        have gP : (P.toList == P.toList) = true := beq_self_eq_true _
        clear hPJ
        go_wp2_with fail
        refine HJ.out.mono ?_
        rintro e w5 ⟨rfl, hb5⟩
        go_wp2_with fail
        go_meet
        exact ⟨rfl, hb5⟩
      · have hPS : P = S [] := HPB.out h0
        have z := (emp_facts P).1 (by rw [hPS]; rfl)
        obtain ⟨z1, z2⟩ := z
        have gE0 : (E1 == 0) = false := by rw [beq_eq_false_iff_ne]; exact h0
        have gE0' : (E1 != 0) = true := by rw [bne, gE0]; rfl
        clear hPS h0
        go_wp2_with fail
        go_meet
        exact ⟨rfl, Below.refl _ _⟩
    case rest =>
      obtain ⟨rfl, hb4⟩ := hcut
      have hb4' := bthen hb3' hb4
      have c4' := (hb4.cell (p := ⟨w.heap.size, 0, none⟩) hbx3).trans c3'
      have HRK4 := Lib.hid ((HRK3.out.below hb4).more hb4.size)
      have hbx4 : w.heap.size < wc.heap.size := by have := hb4.size; omega
      clear c3' HRK3 hbx3 hb3'
      clear hb4 HP HPB HPK HPE
      obtain ⟨w6, hw6⟩ : ∃ w6 : World, w6 = wc := ⟨_, rfl⟩
      subst hw6
      go_upto_if 93 with (fail)
      go_cut [] (fun wx => Below w6.heap.size w6 wx)
      case first =>
        by_cases h4 : 40 < s.size
        · obtain ⟨rfl, rfl⟩ := HWS.out.1 h4
          have g1 : decide ((40 : Int) < (s.size : Int)) = true := decide_eq_true (by omega)
          have g1' : decide (40 < s.size) = true := decide_eq_true h4
          go_wp2_with fail
          go_meet
          exact Below.refl _ _
        · obtain ⟨rfl, rfl⟩ := HWS.out.2 (by omega)
          have g1 : decide ((40 : Int) < (s.size : Int)) = false := decide_eq_false (by omega)
          have g1' : decide (40 < s.size) = false := decide_eq_false h4
          have HRO := Lib.hid (rowsOf_any A n c w.heap.size l s w6 (HR.out.below hb4') hn hb4'.size HCO.out (by omega))
          generalize wrap64 (cntC l (L s) s.size : Int) = y at *
          have gy : (y == y) = true := beq_self_eq_true _
          have gy' : (y != y) = false := by rw [bne, gy]; rfl
          go_wp2_with fail
          refine HRO.out.mono ?_
          rintro e w7 ⟨rfl, hb7⟩
          go_wp2_with fail
          go_meet
          exact hb7
      case rest =>
        have hb5 := bthen hb4' hcut
        have c5' := (hcut.cell (p := ⟨w.heap.size, 0, none⟩) hbx4).trans c4'
        have HRK5 := Lib.hid ((HRK4.out.below hcut).more hcut.size)
        have hbx5 : w.heap.size < wc.heap.size := by have := hcut.size; omega
        clear c4' HRK4 hbx4 hb4' hcut HWS
        have HFC := frontCode_any A n c w.heap.size l wc (HR.out.below hb5) hb5.size HCO.out
        cases hf : frontB l with
        | false =>
          obtain ⟨rfl, rfl⟩ := HGS.out.1 hf
          rw [hf] at HFC
          have HFC := Lib.hid HFC
          obtain rfl : kn = 0 := by rw [← hkl]; rfl
          clear hf
          go_wp2_with fail
          refine HFC.out.mono ?_
          rintro e w7 ⟨rfl, hb7⟩
          go_wp2_with fail
          go_ret
          exact ⟨rfl, bthen hb5 hb7⟩
        | true =>
          rw [hf] at HFC
          have HFC := Lib.hid HFC
          by_cases h4 : 4096 < s.size
          · have g1 : decide ((4096 : Int) < (s.size : Int)) = true := decide_eq_true (by omega)
            have g1' : decide (4096 < s.size) = true := decide_eq_true h4
            obtain ⟨rfl, rfl⟩ := HGS.out.2.1 hf h4
            obtain rfl : kn = 0 := by rw [← hkl]; rfl
            clear hf
            go_wp2_with fail
            refine HFC.out.mono ?_
            rintro e w7 ⟨rfl, hb7⟩
            go_wp2_with fail
            go_ret
            exact ⟨rfl, bthen hb5 hb7⟩
          · have g1 : decide ((4096 : Int) < (s.size : Int)) = false := decide_eq_false (by omega)
            have g1' : decide (4096 < s.size) = false := decide_eq_false h4
            rcases HGS.out.2.2 hf (by omega) with ⟨rfl, hj, hbd, hk, hne⟩ | ⟨rfl, rfl, hs0, hcz⟩
            · have HJO := Lib.hid hj
              have HBD := Lib.hid hbd
              clear hf hj hbd
              by_cases hs0 : s.size = 0
              · obtain ⟨z1, z2⟩ := (emp_facts s).1 hs0
                go_wp2_with fail
                refine HFC.out.mono ?_
                rintro e w7 ⟨rfl, hb7⟩
                have c7 := (hb7.cell (p := ⟨w.heap.size, 0, none⟩) hbx5).trans c5'
                have HRK7 := Lib.hid ((HRK5.out.below hb7).more hb7.size)
                have HCF := badB_has w.heap.size A n c A3 kn c3 w7.heap.size ks w7 c7 HRK7.out (by omega)
                rw [HBD.out] at HCF
                have HCF := Lib.hid HCF
                have HJ := joined_any A n c w.heap.size l A3 kn c3 w7.heap.size ks w7 (HR.out.below (bthen hb5 hb7)) (bthen hb5 hb7).size HRK7.out (Nat.le_refl _) (by omega) HWL.out HBD.out
                rw [HJO.out, S_L] at HJ
                have HJ := Lib.hid HJ
                have gs : (s.toList == s.toList) = true := beq_self_eq_true _
                go_wp2_with fail
                refine HCF.out.mono ?_
                rintro e w8 ⟨rfl, rfl⟩
                go_wp2_with fail
                refine HJ.out.mono ?_
                rintro e w9 ⟨rfl, hb9⟩
                go_wp2_with fail
                go_ret
                exact ⟨rfl, bthen hb5 (bthen hb7 hb9)⟩
              · obtain ⟨z1, z2⟩ := (emp_facts s).2 hs0
                have hkz : kn ≠ 0 := by rw [← hkl]; exact hne hs0
                have gk : ((kn : Int) == 0) = false := by rw [beq_eq_false_iff_ne]; omega
                have gk' : (kn == 0) = false := by rw [beq_eq_false_iff_ne]; exact hkz
                go_wp2_with fail
                refine HFC.out.mono ?_
                rintro e w7 ⟨rfl, hb7⟩
                have c7 := (hb7.cell (p := ⟨w.heap.size, 0, none⟩) hbx5).trans c5'
                have HRK7 := Lib.hid ((HRK5.out.below hb7).more hb7.size)
                have HCF := badB_has w.heap.size A n c A3 kn c3 w7.heap.size ks w7 c7 HRK7.out (by omega)
                rw [HBD.out] at HCF
                have HCF := Lib.hid HCF
                have HJ := joined_any A n c w.heap.size l A3 kn c3 w7.heap.size ks w7 (HR.out.below (bthen hb5 hb7)) (bthen hb5 hb7).size HRK7.out (Nat.le_refl _) (by omega) HWL.out HBD.out
                rw [HJO.out, S_L] at HJ
                have HJ := Lib.hid HJ
                have gs : (s.toList == s.toList) = true := beq_self_eq_true _
                go_wp2_with fail
                refine HCF.out.mono ?_
                rintro e w8 ⟨rfl, rfl⟩
                go_wp2_with fail
                refine HJ.out.mono ?_
                rintro e w9 ⟨rfl, hb9⟩
                go_wp2_with fail
                go_ret
                exact ⟨rfl, bthen hb5 (bthen hb7 hb9)⟩
            · obtain ⟨z1, z2⟩ := (emp_facts s).2 hs0
              have HRO := rowsOf_any A n c w.heap.size l s wc (HR.out.below hb5) hn hb5.size HCO.out (by omega)
              obtain rfl : kn = 0 := by rw [← hkl]; rfl
              have HRO7 : Hid (∀ w7, Below wc.heap.size wc w7 → Calls Tryd.prog 25 #[.slice A n c, .string s] w7 fun e w' => e = .returned (.int .i64 0) ∧ Below w7.heap.size w7 w') := fun w7 hb7 => by
                have h := rowsOf_any A n c w.heap.size l s w7 (HR.out.below (bthen hb5 hb7)) hn (bthen hb5 hb7).size HCO.out (by omega)
                rw [hcz] at h
                exact h
              clear hf HRO hcz
              go_wp2_with fail
              refine HFC.out.mono ?_
              rintro e w7 ⟨rfl, hb7⟩
              have c7 := (hb7.cell (p := ⟨w.heap.size, 0, none⟩) hbx5).trans c5'
              go_wp2_with fail
              refine (HRO7.out w7 hb7).mono ?_
              rintro e w8 ⟨rfl, hb8⟩
              go_wp2_with fail
              go_ret
              exact ⟨rfl, bthen hb5 (bthen hb7 hb8)⟩
theorem packSays_any (A : Option Addr) (n c : Nat) (l : List (List UInt8)) (A2 : Option Addr) (m c2 : Nat) (t : List Int) (s : ByteArray) (w : World) (hr : Rd w w.heap.size 1 A n (strCells l)) (hn : n ≤ c) (hc : c ≤ maxLen) (hx : ∀ x ∈ l, x.length ≤ maxLen)
    (hr2 : Rd w w.heap.size 1 A2 m (ints t)) (hm : m ≤ maxLen) :
    Calls Tryd.prog 5 #[.slice A n c, .slice A2 m c2, .string s] w fun e w' => e = .returned (.bool true) ∧ Below w.heap.size w w' := by
  by_cases hE : codeErr l = 0
  · exact packSays_good A n c l A2 m c2 t s w hr hn hc hx hr2 hm hE
  · exact packSays_bad A n c l A2 m c2 t s w hr hn hc hx hr2 hE
end Go.Proofs.YtmmamdjbbpeifaaDoor
