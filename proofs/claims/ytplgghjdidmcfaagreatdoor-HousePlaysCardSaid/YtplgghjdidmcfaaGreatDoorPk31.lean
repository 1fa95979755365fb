/- The reference's deeds at a page, on. The reference's deeds at a house. The reference's deeds at a house. -/
import Derived.Test.YtplgghjdidmcfaaGreatDoorPk30
import Derived.Test.YtplgghjdidmcfaaGreatDoorPk25
import Derived.Test.YtplgghjdidmcfaaGreatDoorPk29
namespace Go.Proofs.YtplgghjdidmcfaaGreatDoor
open Go.RowKit
set_option maxRecDepth 100000 in
set_option maxHeartbeats 8000000 in
theorem refPg10 (r : Rc) (x : Dd) (K : Nat → Prop) (w : World) (hf : RfOk w K r x) (hkk : x.kind = 10) : Calls Tryz.prog 37 #[r.val, x.val, .func (.func 10) #[] #[]] w (PgAns w K r x) := by
  obtain ⟨i0, hi0, hz0, hz1, hz2⟩ := info_parts info_st
  have hq := pg10 (s := r.s) hkk
  obtain ⟨hr, hK, hok, hre, hxm, htb, ⟨mx, hmx⟩, hmg⟩ := hf
  have HR := Lib.hid hr
  have HOK := Lib.hid hok
  have HRE : Hid (∀ W, Below w.heap.size w W → Rd W w.heap.size 3 x.A x.m (edCells x.l)) := fun W hW => hre.below hW
  have HTB : Hid (∀ W, Below w.heap.size w W → TabI W) := fun W hW => tabI_stays htb hW
  have HMX : Hid (∀ W, Below w.heap.size w W → W.cell? ⟨0, 0, none⟩ = some (.int .i64 mx)) := fun W hb => (hb.cell (p := ⟨0, 0, none⟩) hmg).trans hmx
  have HKK := Lib.hid hK
  have HP3 := Lib.hid (p3_new w r.arr x)
  have hbA : Below w.heap.size w (((w.alloc (.cells r.arr 82)).alloc (.cells x.cells 32)).alloc (.cells zPage 82)) := (by repeat (first | exact Below.refl _ _ | assumption | refine Below.alloc ?_ (by first | exact Nat.le_refl _ | assumption | omega | (simp <;> omega)) _ | refine Below.setCell ?_ (by first | exact Nat.le_refl _ | assumption | omega | (simp <;> omega)) _ | refine Below.drew ?_ | refine below_drewN ?_ _))
  have HBA := Lib.hid hbA
  unfold PgAns
  obtain ⟨wA, hwA⟩ : ∃ wA, wA = (((w.alloc (.cells r.arr 82)).alloc (.cells x.cells 32)).alloc (.cells zPage 82)) := ⟨_, rfl⟩
  rw [← hwA] at HP3 HBA
  have HWA := Lib.hid hwA
  clear hwA
  clear hr hK hok hre htb hmx hbA
  rw [hq.1, hq.2]
  clear hq
  have hn30 : r.s.back.length + r.s.onward.length ≤ 30 := HOK.out.es.n
  by_cases hz : mkE r.s.tx x.text = 0
  · have hPE : mkPE r.s x.text = edPE r.s (mkL r.s.tx x.text) := by unfold mkPE; rw [if_pos hz]
    have hPP : mkP r.s x.text = edP r.s (mkL r.s.tx x.text) := by unfold mkP; rw [if_pos hz]
    rw [hPE, hPP]
    clear hPE hPP
    have HMK := Lib.hid (fun W => mkE_any r.s.tx x.text W)
    rw [hz] at HMK
    clear hz
    obtain ⟨M, hM⟩ : ∃ M, M = mkL r.s.tx x.text := ⟨_, rfl⟩
    rw [← hM] at HMK ⊢
    clear hM
    obtain ⟨EX, hEX⟩ : ∃ EX, EX = edPE r.s M := ⟨_, rfl⟩
    obtain ⟨PX, hPX⟩ : ∃ PX, PX = edP r.s M := ⟨_, rfl⟩
    rw [← hEX, ← hPX]
    have HEX := Lib.hid hEX
    have HPX := Lib.hid hPX
    clear hEX hPX
    obtain ⟨xk, xn, xnm, xt, xA, xm, xc, xl⟩ := x
    obtain ⟨⟨rn, rtx, rd, rsf, rb, ro⟩, rAb, rcb, rAo, rco⟩ := r
    unfold Dd.val Rc.val
    unfold Rc.arr Dd.cells at HWA
    unfold Rc.arr at HP3
    simp only at *
    subst hkk
    obtain ⟨nb, hnb⟩ : ∃ nb, rb.length = nb := ⟨_, rfl⟩
    obtain ⟨no, hno⟩ : ∃ no, ro.length = no := ⟨_, rfl⟩
    rw [hnb, hno] at HP3 HWA ⊢
    have HNB := Lib.hid hnb
    have HNO := Lib.hid hno
    clear hnb hno
    rw [HNB.out, HNO.out] at hn30
    have hrb := HR.out.b
    simp only at hrb
    rw [HNB.out] at hrb
    have HRBK : Hid (∀ W, Below w.heap.size w W → Rd W w.heap.size 1 rAb nb (strCells rb)) := fun W hW => hrb.rd.below hW
    clear hrb
    go_enter Tryz.func37, Tryz.ntmps37
    go_wp2_with fail
    rw [← HWA.out]
    refine (HMK.out wA).mono ?_
    rintro e w4 ⟨v4, rfl, hv4, hb4⟩
    obtain ⟨A4, c4, rfl, hn4, hm4, ho4⟩ := OwnO.form (hv4 trivial)
    have HEE0 := Lib.hid ho4
    have HEM : Hid (M.length ≤ 9223372036854775807) := by unfold Hid; unfold maxLen at hm4; omega
    have HBE := Lib.hid (HBA.out.trans (hb4.mono HBA.out.size))
    have HPQ := Lib.hid (HP3.out.below hb4)
    have HP := HPQ
    clear hv4 ho4 hb4 HMK
    have e0 := HP.out.p.cell 0; have e1 := HP.out.p.cell 1; have e2 := HP.out.p.cell 2; have e3 := HP.out.p.cell 3; have e4 := HP.out.p.cell 4; have e5 := HP.out.p.cell 5
    have ef0 := HP.out.p.frozen 0; have ef1 := HP.out.p.frozen 1; have ef2 := HP.out.p.frozen 2; have ef3 := HP.out.p.frozen 3; have ef4 := HP.out.p.frozen 4; have ef5 := HP.out.p.frozen 5
    have d1 : w4.cell? ⟨w.heap.size + 1, 1, none⟩ = some (.int .i64 xn) := HP.out.d.cell 1
    have d3 : w4.cell? ⟨w.heap.size + 1, 3, none⟩ = some (.string xt) := HP.out.d.cell 3
    have d4 : w4.cell? ⟨w.heap.size + 1, 4, none⟩ = some (.slice xA xm xc) := HP.out.d.cell 4
    have z0 : w4.cell? ⟨w.heap.size + 1 + 1, 0, none⟩ = some (.string ⟨#[]⟩) := HP.out.z.cell 0
    have z1 : w4.cell? ⟨w.heap.size + 1 + 1, 1, none⟩ = some (.string ⟨#[]⟩) := HP.out.z.cell 1
    have z2 : w4.cell? ⟨w.heap.size + 1 + 1, 2, none⟩ = some (.string ⟨#[]⟩) := HP.out.z.cell 2
    have z3 : w4.cell? ⟨w.heap.size + 1 + 1, 3, none⟩ = some (.int .i64 0) := HP.out.z.cell 3
    have z4 : w4.cell? ⟨w.heap.size + 1 + 1, 4, none⟩ = some (.slice none 0 0) := HP.out.z.cell 4
    have z5 : w4.cell? ⟨w.heap.size + 1 + 1, 5, none⟩ = some (.slice none 0 0) := HP.out.z.cell 5
    have zf0 := HP.out.z.frozen 0; have zf1 := HP.out.z.frozen 1; have zf2 := HP.out.z.frozen 2; have zf3 := HP.out.z.frozen 3; have zf4 := HP.out.z.frozen 4; have zf5 := HP.out.z.frozen 5
    by_cases hm0 : M.length = 0
    · have HE : Hid (EX = 5) := by unfold Hid; rw [HEX.out]; unfold edPE; rw [if_pos hm0]
      have HPP : Hid (PX = ⟨rn, rtx, rd, rsf, rb, ro⟩) := by
        unfold Hid; rw [HPX.out]; unfold edP
        rw [if_neg (by rw [← HEX.out, HE.out]; decide)]
      rw [hm0]
      go_wp2_with fail
      (apply bodyPost_ret; (simp [results, Tryz.results37, go_sem, z0, z1, z2, z3, z4, z5]; rfl); rfl)
      refine ⟨⟨⟨rn, rtx, rd, rsf, rb, ro⟩, rAb, rcb, rAo, rco⟩, ?_, HPP.out.symm, fin_rc (bel6 HBE.out (le2 _)) (fun W hW => HR.out.below hW)⟩
      rw [HNB.out, HNO.out, HE.out]
    · obtain ⟨xm2, hx2⟩ : ∃ xm2, xm2 = M.length := ⟨_, rfl⟩
      rw [← hx2] at hm0 HEE0 HEM hn4 ⊢
      clear hx2
      have g0 : ((xm2 : Int) == 0) = false := by rw [beq_eq_false_iff_ne]; omega
      have g0' : (xm2 == 0) = false := by rw [beq_eq_false_iff_ne]; exact hm0
      have HFS : Hid (∀ {s : Ps}, edP ⟨rn, rtx, rd, rsf, rb, ro⟩ M = s → s = PX) := fun h => h.symm.trans HPX.out.symm
      have HFE := HEX
      have HEE : Hid (Rd w4 w4.heap.size 3 A4 xm2 (edCells M)) := HEE0
      go_wp2_with fail
      clear e0 e1 e2 e3 e4 e5 ef0 ef1 ef2 ef3 ef4 ef5 d1 d3 d4 z0 z1 z2 z3 z4 z5 zf0 zf1 zf2 zf3 zf4 zf5
      have HLE := Lib.hid (rlEdit_any rtx rd rsf M A4 xm2 c4 w4.heap.size w4 (HEE.out) (Nat.le_refl _) HEM.out (HTB.out w4 HBE.out) HOK.out.lf.size)
      have hlen := Rd.rec_len ed_len (by omega) HEE.out
      by_cases hz : lfE rtx rd M = 0
      · have HZ := Lib.hid hz
        have HPP : Hid (edP ⟨rn, rtx, rd, rsf, rb, ro⟩ M = ⟨rn, lfT rtx rd M, lfD rtx rd M, rsf, (rb ++ [L rtx]).drop (nb + 1 - 30), []⟩) := by
          unfold Hid edP
          rw [if_pos (by unfold edPE; rw [if_neg (by omega)]; exact hz)]
          show (⟨rn, lfT rtx rd M, lfD rtx rd M, rsf, (rb ++ [L rtx]).drop (rb.length + 1 - 30), []⟩ : Ps) = _
          rw [HNB.out]
        have HPE5 : Hid (edPE ⟨rn, rtx, rd, rsf, rb, ro⟩ M = 0) := by unfold Hid edPE; rw [if_neg (by omega)]; exact hz
        rw [hz] at HLE
        clear hz hlen
        generalize lfT rtx rd M = tx' at *
        generalize lfD rtx rd M = d' at *
        refine HLE.out.mono ?_
        rintro e w5 ⟨rfl, hb5⟩
        have HB5 := Lib.hid (HBE.out.trans (hb5.mono HBE.out.size))
        have HP5 := Lib.hid (HPQ.out.below hb5)
        have HB6 : Hid (Below w.heap.size w (((w5.setCell ⟨w.heap.size, 1, none⟩ (.string tx')).setCell ⟨w.heap.size, 2, none⟩ (.string d')).setCell ⟨w.heap.size, 3, none⟩ (.int .i64 (rsf : Int)))) := bel3 HB5.out
        have HP6 : Hid (P3 (((w5.setCell ⟨w.heap.size, 1, none⟩ (.string tx')).setCell ⟨w.heap.size, 2, none⟩ (.string d')).setCell ⟨w.heap.size, 3, none⟩ (.int .i64 (rsf : Int))) w.heap.size #[.string rn, .string tx', .string d', .int .i64 (rsf : Int), .slice rAb nb rcb, .slice rAo no rco] ⟨10, xn, xnm, xt, xA, xm, xc, xl⟩) := ((HP5.out.set_ 1 _).set_ 2 _).set_ 3 _
        have HCL := Lib.hid (cloneStr_all rAb nb rcb w.heap.size rb _ (HRBK.out _ HB6.out) HB6.out.size (by omega))
        have HP := HP5
        clear hb5 HLE HP5 HPQ
        have e0 := HP.out.p.cell 0; have e1 := HP.out.p.cell 1; have e2 := HP.out.p.cell 2; have e3 := HP.out.p.cell 3; have e4 := HP.out.p.cell 4; have e5 := HP.out.p.cell 5
        have ef0 := HP.out.p.frozen 0; have ef1 := HP.out.p.frozen 1; have ef2 := HP.out.p.frozen 2; have ef3 := HP.out.p.frozen 3; have ef4 := HP.out.p.frozen 4; have ef5 := HP.out.p.frozen 5
        have d1 : w5.cell? ⟨w.heap.size + 1, 1, none⟩ = some (.int .i64 xn) := HP.out.d.cell 1
        have d3 : w5.cell? ⟨w.heap.size + 1, 3, none⟩ = some (.string xt) := HP.out.d.cell 3
        have d4 : w5.cell? ⟨w.heap.size + 1, 4, none⟩ = some (.slice xA xm xc) := HP.out.d.cell 4
        have z0 : w5.cell? ⟨w.heap.size + 1 + 1, 0, none⟩ = some (.string ⟨#[]⟩) := HP.out.z.cell 0
        have z1 : w5.cell? ⟨w.heap.size + 1 + 1, 1, none⟩ = some (.string ⟨#[]⟩) := HP.out.z.cell 1
        have z2 : w5.cell? ⟨w.heap.size + 1 + 1, 2, none⟩ = some (.string ⟨#[]⟩) := HP.out.z.cell 2
        have z3 : w5.cell? ⟨w.heap.size + 1 + 1, 3, none⟩ = some (.int .i64 0) := HP.out.z.cell 3
        have z4 : w5.cell? ⟨w.heap.size + 1 + 1, 4, none⟩ = some (.slice none 0 0) := HP.out.z.cell 4
        have z5 : w5.cell? ⟨w.heap.size + 1 + 1, 5, none⟩ = some (.slice none 0 0) := HP.out.z.cell 5
        have zf0 := HP.out.z.frozen 0; have zf1 := HP.out.z.frozen 1; have zf2 := HP.out.z.frozen 2; have zf3 := HP.out.z.frozen 3; have zf4 := HP.out.z.frozen 4; have zf5 := HP.out.z.frozen 5
        go_wp2_with fail
        clear e0 e1 e2 e3 e4 e5 ef0 ef1 ef2 ef3 ef4 ef5 d1 d3 d4 z0 z1 z2 z3 z4 z5 zf0 zf1 zf2 zf3 zf4 zf5
        generalize (((w5.setCell ⟨w.heap.size, 1, none⟩ (.string tx')).setCell ⟨w.heap.size, 2, none⟩ (.string d')).setCell ⟨w.heap.size, 3, none⟩ (.int .i64 (rsf : Int))) = w6 at *
        refine HCL.out.mono ?_
        rintro e w7 ⟨v7, rfl, hown7, hb7⟩
        have hs67 := hb7.size
        have hs6 := HB6.out.size
        have hg26 : w.heap.size + 1 + 1 < w6.heap.size := HP6.out.z.lt
        have hnew := cell_one_new w7 (.string rtx) 9
        have hownA := hown7.alloc (.cells #[.string rtx] 9)
        have HG6 : Hid (∀ k, K k → k < w6.heap.size) := fun k hk => Nat.lt_of_lt_of_le (HKK.out k hk) hs6
        have HB67 : Hid (Below w6.heap.size w6 (w7.alloc (.cells #[.string rtx] 9))) := hb7.alloc hs67 _
        have HP6K := HP6
        have HP7 := Lib.hid (HP6.out.below hb7)
        clear HP6 HCL hb7 HP HB5
        have hsz8 : w6.heap.size ≤ (w7.alloc (.cells #[.string rtx] 9)).heap.size := HB67.out.size
        obtain ⟨N, hN⟩ : ∃ N, nb + 1 = N := ⟨_, rfl⟩
        have HN := Lib.hid hN
        by_cases h31 : N = 31
        · have hmax : max 0 ((N : Int) - 30) = 1 := by rw [Int.max_eq_right (by omega)]; omega
          have H30 : Hid (nb + 1 - 30 = 1) := by unfold Hid; omega
          clear hN h31
          go_wp2_with (at_builtin; go_must (refine wpList_appG rfl _ _ _ rfl w6.heap.size 9 i0 _ 1 16 Tryz.underlying25 hi0 hz0 hz1 hz2 rfl (by omega) _ nb (strCells rb) rfl hownA ⟨w7.heap.size, 0, none⟩ 1 1 [.string rtx] rfl rfl hnew (by simp [Value.oneCell']) (by omega) (by omega) (by simp at hsz8 ⊢; omega) ?_); intro v8 w8 hown8 hg8 hb8; have hO8 := OwnO.of_own hown8; rw [HN.out] at hO8; obtain ⟨A8, c8, rfl, hn8, hm8, hrd8⟩ := OwnO.form hO8; obtain ⟨a8, eA8, _, _⟩ := hrd8.2 (by have := HN.out; omega); subst eA8; obtain ⟨A9, hcut0, ho9, hl9⟩ := cut_ownW (k := 1) hO8 HN.out HNB.out (by have := HN.out; omega); have hcut : ∀ W, (Instr.sliceAt 25 (.slice (some a8) N c8) (some (.int .i64 (1 : Int))) none none).run Tryz.prog W = .ok (.slice A9 (N - 1) (c8 - 1)) W := hcut0; clear hcut0; (try simp only [Nat.sub_zero] at hcut); have HO9 := Lib.hid ho9; have HL9 := Lib.hid hl9; clear ho9 hl9; have HB8 := Lib.hid (HB6.out.trans ((HB67.out.trans hb8).mono HB6.out.size)); have HP := Lib.hid (HP6K.out.below (HB67.out.trans hb8)); have HC8 : Hid (N ≤ c8 ∧ c8 ≤ maxLen) := ⟨hn8, hm8⟩; clear hown8 hg8 hb8 hO8 hownA hnew hrd8 hm8; have e0 := HP.out.p.cell 0; have e1 := HP.out.p.cell 1; have e2 := HP.out.p.cell 2; have e3 := HP.out.p.cell 3; have e4 := HP.out.p.cell 4; have e5 := HP.out.p.cell 5; have ef4 := HP.out.p.frozen 4; have ef5 := HP.out.p.frozen 5; have z0 : w8.cell? ⟨w.heap.size + 1 + 1, 0, none⟩ = some (.string ⟨#[]⟩) := HP.out.z.cell 0; have z1 : w8.cell? ⟨w.heap.size + 1 + 1, 1, none⟩ = some (.string ⟨#[]⟩) := HP.out.z.cell 1; have z2 : w8.cell? ⟨w.heap.size + 1 + 1, 2, none⟩ = some (.string ⟨#[]⟩) := HP.out.z.cell 2; have z3 : w8.cell? ⟨w.heap.size + 1 + 1, 3, none⟩ = some (.int .i64 0) := HP.out.z.cell 3; have z4 : w8.cell? ⟨w.heap.size + 1 + 1, 4, none⟩ = some (.slice none 0 0) := HP.out.z.cell 4; have z5 : w8.cell? ⟨w.heap.size + 1 + 1, 5, none⟩ = some (.slice none 0 0) := HP.out.z.cell 5; have zf0 := HP.out.z.frozen 0; have zf1 := HP.out.z.frozen 1; have zf2 := HP.out.z.frozen 2; have zf3 := HP.out.z.frozen 3; have zf4 := HP.out.z.frozen 4; have zf5 := HP.out.z.frozen 5)
          (apply bodyPost_ret; (simp [results, Tryz.results37, go_sem, z0, z1, z2, z3, z4, z5]; rfl); rfl)
          have l1 := HL9.out
          refine ⟨⟨⟨rn, tx', d', rsf, (rb ++ [L rtx]).drop 1, []⟩, A9, c8 - 1, none, 0⟩, ?_, HFS.out (HPP.out.trans (by rw [H30.out])), ?_⟩
          · rw [HFE.out, HPE5.out]
            simp only [l1, Nat.sub_zero, List.length_nil]
          · exact ⟨⟨fin_own HO9.out HG6.out (show w.heap.size < w6.heap.size by omega) hg26, RdK.nil_ _ K 1, ⟨by rw [l1]; exact Nat.sub_le_sub_right HC8.out.1 _, Nat.le_trans (Nat.sub_le _ _) HC8.out.2⟩, ⟨Nat.le_refl _, Nat.zero_le _⟩⟩, bel6 (bel1 (bel1 (bel1 HB8.out (Nat.le_refl _)) (Nat.le_refl _)) (Nat.le_refl _)) (le2 _)⟩
        · have hmax : max 0 ((N : Int) - 30) = 0 := by rw [Int.max_eq_left (by omega)]
          have H30 : Hid (nb + 1 - 30 = 0) := by unfold Hid; omega
          clear hN h31
          go_wp2_with (at_builtin; go_must (refine wpList_appG rfl _ _ _ rfl w6.heap.size 9 i0 _ 1 16 Tryz.underlying25 hi0 hz0 hz1 hz2 rfl (by omega) _ nb (strCells rb) rfl hownA ⟨w7.heap.size, 0, none⟩ 1 1 [.string rtx] rfl rfl hnew (by simp [Value.oneCell']) (by omega) (by omega) (by simp at hsz8 ⊢; omega) ?_); intro v8 w8 hown8 hg8 hb8; have hO8 := OwnO.of_own hown8; rw [HN.out] at hO8; obtain ⟨A8, c8, rfl, hn8, hm8, hrd8⟩ := OwnO.form hO8; obtain ⟨a8, eA8, _, _⟩ := hrd8.2 (by have := HN.out; omega); subst eA8; obtain ⟨A9, hcut0, ho9, hl9⟩ := cut_ownW (k := 0) hO8 HN.out HNB.out (by have := HN.out; omega); have hcut : ∀ W, (Instr.sliceAt 25 (.slice (some a8) N c8) (some (.int .i64 (0 : Int))) none none).run Tryz.prog W = .ok (.slice A9 (N - 0) (c8 - 0)) W := hcut0; clear hcut0; (try simp only [Nat.sub_zero] at hcut); have HO9 := Lib.hid ho9; have HL9 := Lib.hid hl9; clear ho9 hl9; have HB8 := Lib.hid (HB6.out.trans ((HB67.out.trans hb8).mono HB6.out.size)); have HP := Lib.hid (HP6K.out.below (HB67.out.trans hb8)); have HC8 : Hid (N ≤ c8 ∧ c8 ≤ maxLen) := ⟨hn8, hm8⟩; clear hown8 hg8 hb8 hO8 hownA hnew hrd8 hm8; have e0 := HP.out.p.cell 0; have e1 := HP.out.p.cell 1; have e2 := HP.out.p.cell 2; have e3 := HP.out.p.cell 3; have e4 := HP.out.p.cell 4; have e5 := HP.out.p.cell 5; have ef4 := HP.out.p.frozen 4; have ef5 := HP.out.p.frozen 5; have z0 : w8.cell? ⟨w.heap.size + 1 + 1, 0, none⟩ = some (.string ⟨#[]⟩) := HP.out.z.cell 0; have z1 : w8.cell? ⟨w.heap.size + 1 + 1, 1, none⟩ = some (.string ⟨#[]⟩) := HP.out.z.cell 1; have z2 : w8.cell? ⟨w.heap.size + 1 + 1, 2, none⟩ = some (.string ⟨#[]⟩) := HP.out.z.cell 2; have z3 : w8.cell? ⟨w.heap.size + 1 + 1, 3, none⟩ = some (.int .i64 0) := HP.out.z.cell 3; have z4 : w8.cell? ⟨w.heap.size + 1 + 1, 4, none⟩ = some (.slice none 0 0) := HP.out.z.cell 4; have z5 : w8.cell? ⟨w.heap.size + 1 + 1, 5, none⟩ = some (.slice none 0 0) := HP.out.z.cell 5; have zf0 := HP.out.z.frozen 0; have zf1 := HP.out.z.frozen 1; have zf2 := HP.out.z.frozen 2; have zf3 := HP.out.z.frozen 3; have zf4 := HP.out.z.frozen 4; have zf5 := HP.out.z.frozen 5)
          (apply bodyPost_ret; (simp [results, Tryz.results37, go_sem, z0, z1, z2, z3, z4, z5]; rfl); rfl)
          have l1 := HL9.out
          refine ⟨⟨⟨rn, tx', d', rsf, (rb ++ [L rtx]).drop 0, []⟩, A9, c8 - 0, none, 0⟩, ?_, HFS.out (HPP.out.trans (by rw [H30.out])), ?_⟩
          · rw [HFE.out, HPE5.out]
            simp only [l1, Nat.sub_zero, List.length_nil]
          · exact ⟨⟨fin_own HO9.out HG6.out (show w.heap.size < w6.heap.size by omega) hg26, RdK.nil_ _ K 1, ⟨by rw [l1]; exact Nat.sub_le_sub_right HC8.out.1 _, Nat.le_trans (Nat.sub_le _ _) HC8.out.2⟩, ⟨Nat.le_refl _, Nat.zero_le _⟩⟩, bel6 (bel1 (bel1 (bel1 HB8.out (Nat.le_refl _)) (Nat.le_refl _)) (Nat.le_refl _)) (le2 _)⟩
      · have HN2 : Hid (edPE ⟨rn, rtx, rd, rsf, rb, ro⟩ M = lfE rtx rd M ∧ edP ⟨rn, rtx, rd, rsf, rb, ro⟩ M = ⟨rn, rtx, rd, rsf, rb, ro⟩) := by
          have h1 : edPE ⟨rn, rtx, rd, rsf, rb, ro⟩ M = lfE rtx rd M := by unfold edPE; rw [if_neg (by omega)]
          exact ⟨h1, by unfold edP; rw [if_neg (by rw [h1]; exact hz)]⟩
        have hlt : lfT rtx rd M = rtx := by unfold lfT; rw [if_neg hz]
        have hld : lfD rtx rd M = rd := by unfold lfD; rw [if_neg hz]
        rw [hlt, hld] at HLE
        have g1 : (lfE rtx rd M == 0) = false := by rw [beq_eq_false_iff_ne]; exact hz
        clear hz hlen hlt hld
        refine HLE.out.mono ?_
        rintro e w5 ⟨rfl, hb5⟩
        have HB5 := Lib.hid (HBE.out.trans (hb5.mono HBE.out.size))
        have HP5 := Lib.hid (HPQ.out.below hb5)
        clear hb5
        have HP := HP5
        have e0 := HP.out.p.cell 0; have e1 := HP.out.p.cell 1; have e2 := HP.out.p.cell 2; have e3 := HP.out.p.cell 3; have e4 := HP.out.p.cell 4; have e5 := HP.out.p.cell 5
        have ef0 := HP.out.p.frozen 0; have ef1 := HP.out.p.frozen 1; have ef2 := HP.out.p.frozen 2; have ef3 := HP.out.p.frozen 3; have ef4 := HP.out.p.frozen 4; have ef5 := HP.out.p.frozen 5
        have d1 : w5.cell? ⟨w.heap.size + 1, 1, none⟩ = some (.int .i64 xn) := HP.out.d.cell 1
        have d3 : w5.cell? ⟨w.heap.size + 1, 3, none⟩ = some (.string xt) := HP.out.d.cell 3
        have d4 : w5.cell? ⟨w.heap.size + 1, 4, none⟩ = some (.slice xA xm xc) := HP.out.d.cell 4
        have z0 : w5.cell? ⟨w.heap.size + 1 + 1, 0, none⟩ = some (.string ⟨#[]⟩) := HP.out.z.cell 0
        have z1 : w5.cell? ⟨w.heap.size + 1 + 1, 1, none⟩ = some (.string ⟨#[]⟩) := HP.out.z.cell 1
        have z2 : w5.cell? ⟨w.heap.size + 1 + 1, 2, none⟩ = some (.string ⟨#[]⟩) := HP.out.z.cell 2
        have z3 : w5.cell? ⟨w.heap.size + 1 + 1, 3, none⟩ = some (.int .i64 0) := HP.out.z.cell 3
        have z4 : w5.cell? ⟨w.heap.size + 1 + 1, 4, none⟩ = some (.slice none 0 0) := HP.out.z.cell 4
        have z5 : w5.cell? ⟨w.heap.size + 1 + 1, 5, none⟩ = some (.slice none 0 0) := HP.out.z.cell 5
        have zf0 := HP.out.z.frozen 0; have zf1 := HP.out.z.frozen 1; have zf2 := HP.out.z.frozen 2; have zf3 := HP.out.z.frozen 3; have zf4 := HP.out.z.frozen 4; have zf5 := HP.out.z.frozen 5
        go_wp2_with fail
        (apply bodyPost_ret; (simp [results, Tryz.results37, go_sem, z0, z1, z2, z3, z4, z5]; rfl); rfl)
        refine ⟨⟨⟨rn, rtx, rd, rsf, rb, ro⟩, rAb, rcb, rAo, rco⟩, ?_, HFS.out HN2.out.2, fin_rc (bel6 (bel3 HB5.out) (le2 _)) (fun W hW => HR.out.below hW)⟩
        rw [HNB.out, HNO.out, HFE.out, HN2.out.1]
  · have hPE : mkPE r.s x.text = mkE r.s.tx x.text := by unfold mkPE; rw [if_neg hz]
    have hPP : mkP r.s x.text = r.s := by unfold mkP; rw [if_neg hz]
    rw [hPE, hPP]
    clear hPE hPP
    have HMK := Lib.hid (fun W => mkE_any r.s.tx x.text W)
    obtain ⟨EX, hEX⟩ : ∃ EX, EX = mkE r.s.tx x.text := ⟨_, rfl⟩
    rw [← hEX] at HMK hz ⊢
    clear hEX
    have hg1 : (EX == 0) = false := by rw [beq_eq_false_iff_ne]; exact hz
    obtain ⟨xk, xn, xnm, xt, xA, xm, xc, xl⟩ := x
    obtain ⟨⟨rn, rtx, rd, rsf, rb, ro⟩, rAb, rcb, rAo, rco⟩ := r
    unfold Dd.val Rc.val
    unfold Rc.arr Dd.cells at HWA
    unfold Rc.arr at HP3
    simp only at *
    subst hkk
    obtain ⟨nb, hnb⟩ : ∃ nb, rb.length = nb := ⟨_, rfl⟩
    obtain ⟨no, hno⟩ : ∃ no, ro.length = no := ⟨_, rfl⟩
    rw [hnb, hno] at HP3 HWA ⊢
    have HNB := Lib.hid hnb
    have HNO := Lib.hid hno
    clear hnb hno
    go_enter Tryz.func37, Tryz.ntmps37
    go_wp2_with fail
    rw [← HWA.out]
    refine (HMK.out wA).mono ?_
    rintro e w4 ⟨v4, rfl, hv4, hb4⟩
    have HBE := Lib.hid (HBA.out.trans (hb4.mono HBA.out.size))
    have HP := Lib.hid (HP3.out.below hb4)
    clear hv4 hb4 HMK
    have e0 := HP.out.p.cell 0; have e1 := HP.out.p.cell 1; have e2 := HP.out.p.cell 2; have e3 := HP.out.p.cell 3; have e4 := HP.out.p.cell 4; have e5 := HP.out.p.cell 5
    have ef0 := HP.out.p.frozen 0; have ef1 := HP.out.p.frozen 1; have ef2 := HP.out.p.frozen 2; have ef3 := HP.out.p.frozen 3; have ef4 := HP.out.p.frozen 4; have ef5 := HP.out.p.frozen 5
    have d1 : w4.cell? ⟨w.heap.size + 1, 1, none⟩ = some (.int .i64 xn) := HP.out.d.cell 1
    have d3 : w4.cell? ⟨w.heap.size + 1, 3, none⟩ = some (.string xt) := HP.out.d.cell 3
    have d4 : w4.cell? ⟨w.heap.size + 1, 4, none⟩ = some (.slice xA xm xc) := HP.out.d.cell 4
    have z0 : w4.cell? ⟨w.heap.size + 1 + 1, 0, none⟩ = some (.string ⟨#[]⟩) := HP.out.z.cell 0
    have z1 : w4.cell? ⟨w.heap.size + 1 + 1, 1, none⟩ = some (.string ⟨#[]⟩) := HP.out.z.cell 1
    have z2 : w4.cell? ⟨w.heap.size + 1 + 1, 2, none⟩ = some (.string ⟨#[]⟩) := HP.out.z.cell 2
    have z3 : w4.cell? ⟨w.heap.size + 1 + 1, 3, none⟩ = some (.int .i64 0) := HP.out.z.cell 3
    have z4 : w4.cell? ⟨w.heap.size + 1 + 1, 4, none⟩ = some (.slice none 0 0) := HP.out.z.cell 4
    have z5 : w4.cell? ⟨w.heap.size + 1 + 1, 5, none⟩ = some (.slice none 0 0) := HP.out.z.cell 5
    have zf0 := HP.out.z.frozen 0; have zf1 := HP.out.z.frozen 1; have zf2 := HP.out.z.frozen 2; have zf3 := HP.out.z.frozen 3; have zf4 := HP.out.z.frozen 4; have zf5 := HP.out.z.frozen 5
    go_wp2_with fail
    (apply bodyPost_ret; (simp [results, Tryz.results37, go_sem, z0, z1, z2, z3, z4, z5]; rfl); rfl)
    refine ⟨⟨⟨rn, rtx, rd, rsf, rb, ro⟩, rAb, rcb, rAo, rco⟩, ?_, rfl, fin_rc (bel6 HBE.out (le2 _)) (fun W hW => HR.out.below hW)⟩
    rw [HNB.out, HNO.out]
end Go.Proofs.YtplgghjdidmcfaaGreatDoor
namespace Go.Proofs.YtplgghjdidmcfaaGreatDoor
open Go.RowKit
set_option maxRecDepth 100000 in
set_option maxHeartbeats 1000000 in
theorem clone_pg (A : Option Addr) (n c B : Nat) (xs : List Value) (w : World) (hr : Rd w B 6 A n xs) (hB : B ≤ w.heap.size) (hx : ∀ u ∈ xs, u.oneCell' = true) (hn : n ≤ 1000) :
    Calls Tryz.prog 34 #[.slice A n c] w fun e w' => ∃ v, e = .returned v ∧ w'.ownsRow w.heap.size 82 6 v n xs ∧ Below w.heap.size w w' := by
  obtain ⟨i0, hi0, hz0, hz1, hz2⟩ := info_parts info_rc
  have HR := Lib.hid hr
  have HX := Lib.hid hx; clear hx
  cases A with
  | none =>
    have h0 : n = 0 := by
      rcases Nat.eq_zero_or_pos n with h0 | h0
      · exact h0
      · obtain ⟨ad, h, _⟩ := hr.2 h0; cases h
    subst h0
    have hxs : xs = [] := List.eq_nil_of_length_eq_zero (by have := hr.1; omega)
    subst hxs
    clear hr
    have hnil := fun (W : World) => Lib.run_eql_slice_nil (P := Tryz.prog) W 27 82 none 0 c 0 0 Tryz.underlying27
    go_enter Tryz.func34, Tryz.ntmps34
    go_wp2_with fail
    go_ret
    exact ⟨_, rfl, World.ownsRow_nil _ _ _ _, Below.refl _ _⟩
  | some ad =>
    clear hr
    have hnil := fun (W : World) => Lib.run_eql_slice_nil (P := Tryz.prog) W 27 82 (some ad) n c 0 0 Tryz.underlying27
    go_enter Tryz.func34, Tryz.ntmps34
    go_wp2_with (at_builtin; go_must (refine wpList_appRd rfl _ _ _ rfl w.heap.size 82 i0 _ 6 104 Tryz.underlying27 hi0 hz0 hz1 hz2 rfl (by omega) _ 0 [] rfl (World.ownsRow_lit w #[] 0 (Nat.le_refl _) (Nat.zero_le _) rfl) B (some ad) n c xs rfl (HR.out.alloc hB _) HX.out (by omega) (by omega) (by simp) ?_); intro v6 w6 hown6 hb6)
    go_ret
    exact ⟨v6, rfl, by simpa using hown6, ((Below.refl _ _).alloc (Nat.le_refl _) _).trans hb6⟩
/-- A deed at a page, all of them. -/
theorem refPg_any (r : Rc) (x : Dd) (K : Nat → Prop) (w : World) (hf : RfOk w K r x) (h2 : 2 ≤ x.kind) (h10 : x.kind ≤ 10) (h8 : x.kind ≠ 8) (h9 : x.kind ≠ 9) : Calls Tryz.prog 37 #[r.val, x.val, .func (.func 10) #[] #[]] w (PgAns w K r x) := by
  have hq : x.kind = 2 ∨ x.kind = 3 ∨ x.kind = 4 ∨ x.kind = 5 ∨ x.kind = 6 ∨ x.kind = 7 ∨ x.kind = 10 := by omega
  rcases hq with e | e | e | e | e | e | e
  · exact refPg2 r x K w hf e
  · exact refPg3 r x K w hf e
  · exact refPg4 r x K w hf e
  · exact refPg5 r x K w hf e
  · exact refPg6 r x K w hf e
  · exact refPg7 r x K w hf e
  · exact refPg10 r x K w hf e
structure H3 (w : World) (g : Nat) (hv : Value) (x : Dd) (zv : Value) : Prop where
  p : Blk w g 29 #[hv]
  d : Blk w (g + 1) 32 x.cells
  z : Blk w (g + 1 + 1) 29 #[zv]
section
variable {w w' : World} {g : Nat} {hv zv : Value} {x : Dd}
theorem H3.below (h : H3 w g hv x zv) (hb : Below w.heap.size w w') : H3 w' g hv x zv := ⟨h.p.below' hb, h.d.below' hb, h.z.below' hb⟩
theorem H3.grown {row : Option Nat} (h : H3 w g hv x zv) (hb : w.grownBy w' row) (hg : ∀ k, row = some k → g + 1 + 1 < k) : H3 w' g hv x zv := ⟨h.p.grown hb fun e => by have := hg _ e.symm; omega, h.d.grown hb fun e => by have := hg _ e.symm; omega, h.z.grown hb fun e => by have := hg _ e.symm; omega⟩
end
theorem h3_new (w : World) (hv : Value) (x : Dd) : H3 (((w.alloc (.cells #[hv] 29)).alloc (.cells x.cells 32)).alloc (.cells #[.slice none 0 0] 29)) w.heap.size hv x (.slice none 0 0) := by
  refine ⟨((Blk.new_ _ _ _).alloc _).alloc _, ?_, ?_⟩
  · have := Blk.new_ (w.alloc (.cells #[hv] 29)) 32 x.cells
    rw [World.size_alloc] at this
    exact this.alloc _
  · have := Blk.new_ ((w.alloc (.cells #[hv] 29)).alloc (.cells x.cells 32)) 29 #[.slice none 0 0]
    rw [World.size_alloc, World.size_alloc] at this
    exact this
/-- What a deed of the reference's comes to. -/
def RoAns (w : World) (K : Nat → Prop) (rs : List Rc) (x : Dd) (e : Ending) (w' : World) : Prop :=
  ∃ A' c' rs', e = .returned (.tuple #[.agg #[.slice A' rs'.length c'], .string (hsT (rs.map Rc.s) x), .int .i64 (hsE (rs.map Rc.s) x)]) ∧ rs'.map Rc.s = hsP (rs.map Rc.s) x ∧ RhAt w' K A' c' rs' ∧ Below w.heap.size w w'
structure RoOk (w : World) (K : Nat → Prop) (A : Option Addr) (c : Nat) (rs : List Rc) (x : Dd) : Prop where
  at_ : RhAt w K A c rs
  k : ∀ k, K k → k < w.heap.size
  o : HsOk (rs.map Rc.s)
  nm : x.name.size ≤ 9223372036854775807
  tx : x.text.size ≤ 9223372036854775807
  e : Rd w w.heap.size 3 x.A x.m (edCells x.l)
  m : x.m ≤ 9223372036854775807
  t : TabI w
  x : ∃ mx, w.cell? ⟨0, 0, none⟩ = some (.int .i64 mx)
  g : 0 < w.heap.size
theorem fin_rh {w WF : World} {K : Nat → Prop} {A : Option Addr} {c : Nat} {rs : List Rc} (hb : Below w.heap.size w WF) (h : ∀ W, Below w.heap.size w W → RhAt W K A c rs) : RhAt WF K A c rs ∧ Below w.heap.size w WF := ⟨h WF hb, hb⟩
set_option maxRecDepth 100000 in
set_option maxHeartbeats 4000000 in
theorem refDo_nokind (A : Option Addr) (c : Nat) (rs : List Rc) (x : Dd) (K : Nat → Prop) (w : World) (hf : RoOk w K A c rs x) (hk : x.kind < 1 ∨ 10 < x.kind) : Calls Tryz.prog 9 #[.agg #[.slice A rs.length c], x.val, .func (.func 10) #[] #[]] w (RoAns w K rs x) := by
  obtain ⟨hq1, hq2, hq3⟩ := hs_nokind (P := rs.map Rc.s) hk
  obtain ⟨hr, hK, hok, hnm, htx, hre, hxm, htb, ⟨mx, hmx⟩, hmg⟩ := hf
  have hn6 : rs.length ≤ 6 := by have := hok.n; rwa [List.length_map] at this
  have HOKP := Lib.hid hok
  have HRR : Hid (∀ W, Below w.heap.size w W → RhAt W K A c rs) := fun W hW => hr.below hW
  have HKK := Lib.hid hK
  have HRE : Hid (∀ W, Below w.heap.size w W → Rd W w.heap.size 3 x.A x.m (edCells x.l)) := fun W hW => hre.below hW
  have HTB : Hid (∀ W, Below w.heap.size w W → TabI W) := fun W hW => tabI_stays htb hW
  have HMX : Hid (∀ W, Below w.heap.size w W → W.cell? ⟨0, 0, none⟩ = some (.int .i64 mx)) := fun W hb => (hb.cell (p := ⟨0, 0, none⟩) hmg).trans hmx
  have HNM := Lib.hid (fun W => refNamed_any x.name W hnm)
  have HID := Lib.hid (fun W g (hW : Below w.heap.size w W) (hg : g < W.heap.size) (hc : W.cell? ⟨g, 2, none⟩ = some (.string x.name)) => idxRc_any rs x.name A rs.length c w.heap.size g W (hr.row.rd.below hW) hW.size (by omega) rfl hg hc)
  have HTX := Lib.hid htx
  have HXM := Lib.hid hxm
  have HH3 := Lib.hid (h3_new w (.slice A rs.length c) x)
  have hbA : Below w.heap.size w (((w.alloc (.cells #[.slice A rs.length c] 29)).alloc (.cells x.cells 32)).alloc (.cells #[.slice none 0 0] 29)) := (by repeat (first | exact Below.refl _ _ | assumption | refine Below.alloc ?_ (by first | exact Nat.le_refl _ | assumption | omega | (simp <;> omega)) _ | refine Below.setCell ?_ (by first | exact Nat.le_refl _ | assumption | omega | (simp <;> omega)) _ | refine Below.drew ?_ | refine below_drewN ?_ _))
  have HBA := Lib.hid hbA
  unfold RoAns
  rw [hq1, hq2, hq3]
  obtain ⟨wA, hwA⟩ : ∃ wA, wA = (((w.alloc (.cells #[.slice A rs.length c] 29)).alloc (.cells x.cells 32)).alloc (.cells #[.slice none 0 0] 29)) := ⟨_, rfl⟩
  rw [← hwA] at HH3 HBA
  have HWA := Lib.hid hwA
  clear hwA hr hK hok hnm htx hre hxm htb hmx hbA hq1 hq2 hq3
  obtain ⟨xk, xn, xnm, xt, xA, xm, xc, xl⟩ := x
  unfold Dd.val
  unfold Dd.cells at HWA
  simp only at *
  obtain ⟨N, hN⟩ : ∃ N, rs.length = N := ⟨_, rfl⟩
  rw [hN] at HH3 HWA HID hn6 ⊢
  have HN := Lib.hid hN
  clear hN
  by_cases hk1 : xk < 1
  · have g1 : decide (xk < 1) = true := decide_eq_true hk1
    clear hk
    go_enter Tryz.func9, Tryz.ntmps9
    go_wp2_with fail
    (apply bodyPost_ret; (simp [results, Tryz.results9, go_sem]; rfl); rfl)
    refine ⟨A, c, rs, ?_, rfl, fin_rh (by repeat (first | exact Below.refl _ _ | assumption | refine Below.alloc ?_ (by first | exact Nat.le_refl _ | assumption | omega | (simp <;> omega)) _ | refine Below.setCell ?_ (by first | exact Nat.le_refl _ | assumption | omega | (simp <;> omega)) _ | refine Below.drew ?_ | refine below_drewN ?_ _)) HRR.out⟩
    rw [HN.out]
  · have g1 : decide (xk < 1) = false := decide_eq_false hk1
    have g2 : decide (10 < xk) = true := decide_eq_true (by omega)
    clear hk
    go_enter Tryz.func9, Tryz.ntmps9
    go_wp2_with fail
    (apply bodyPost_ret; (simp [results, Tryz.results9, go_sem]; rfl); rfl)
    refine ⟨A, c, rs, ?_, rfl, fin_rh (by repeat (first | exact Below.refl _ _ | assumption | refine Below.alloc ?_ (by first | exact Nat.le_refl _ | assumption | omega | (simp <;> omega)) _ | refine Below.setCell ?_ (by first | exact Nat.le_refl _ | assumption | omega | (simp <;> omega)) _ | refine Below.drew ?_ | refine below_drewN ?_ _)) HRR.out⟩
    rw [HN.out]
set_option maxRecDepth 100000 in
set_option maxHeartbeats 4000000 in
theorem refDo_noname (A : Option Addr) (c : Nat) (rs : List Rc) (x : Dd) (K : Nat → Prop) (w : World) (hf : RoOk w K A c rs x) (hk1 : 1 ≤ x.kind) (hk10 : x.kind ≤ 10) (hn : named x.name = false) : Calls Tryz.prog 9 #[.agg #[.slice A rs.length c], x.val, .func (.func 10) #[] #[]] w (RoAns w K rs x) := by
  obtain ⟨hq1, hq2, hq3⟩ := hs_noname (P := rs.map Rc.s) hk1 hk10 hn
  obtain ⟨hr, hK, hok, hnm, htx, hre, hxm, htb, ⟨mx, hmx⟩, hmg⟩ := hf
  have hn6 : rs.length ≤ 6 := by have := hok.n; rwa [List.length_map] at this
  have HOKP := Lib.hid hok
  have HRR : Hid (∀ W, Below w.heap.size w W → RhAt W K A c rs) := fun W hW => hr.below hW
  have HKK := Lib.hid hK
  have HRE : Hid (∀ W, Below w.heap.size w W → Rd W w.heap.size 3 x.A x.m (edCells x.l)) := fun W hW => hre.below hW
  have HTB : Hid (∀ W, Below w.heap.size w W → TabI W) := fun W hW => tabI_stays htb hW
  have HMX : Hid (∀ W, Below w.heap.size w W → W.cell? ⟨0, 0, none⟩ = some (.int .i64 mx)) := fun W hb => (hb.cell (p := ⟨0, 0, none⟩) hmg).trans hmx
  have HNM := Lib.hid (fun W => refNamed_any x.name W hnm)
  have HID := Lib.hid (fun W g (hW : Below w.heap.size w W) (hg : g < W.heap.size) (hc : W.cell? ⟨g, 2, none⟩ = some (.string x.name)) => idxRc_any rs x.name A rs.length c w.heap.size g W (hr.row.rd.below hW) hW.size (by omega) rfl hg hc)
  have HTX := Lib.hid htx
  have HXM := Lib.hid hxm
  have HH3 := Lib.hid (h3_new w (.slice A rs.length c) x)
  have hbA : Below w.heap.size w (((w.alloc (.cells #[.slice A rs.length c] 29)).alloc (.cells x.cells 32)).alloc (.cells #[.slice none 0 0] 29)) := (by repeat (first | exact Below.refl _ _ | assumption | refine Below.alloc ?_ (by first | exact Nat.le_refl _ | assumption | omega | (simp <;> omega)) _ | refine Below.setCell ?_ (by first | exact Nat.le_refl _ | assumption | omega | (simp <;> omega)) _ | refine Below.drew ?_ | refine below_drewN ?_ _))
  have HBA := Lib.hid hbA
  unfold RoAns
  rw [hq1, hq2, hq3]
  obtain ⟨wA, hwA⟩ : ∃ wA, wA = (((w.alloc (.cells #[.slice A rs.length c] 29)).alloc (.cells x.cells 32)).alloc (.cells #[.slice none 0 0] 29)) := ⟨_, rfl⟩
  rw [← hwA] at HH3 HBA
  have HWA := Lib.hid hwA
  clear hwA hr hK hok hnm htx hre hxm htb hmx hbA hq1 hq2 hq3
  rw [hn] at HNM
  obtain ⟨xk, xn, xnm, xt, xA, xm, xc, xl⟩ := x
  unfold Dd.val
  unfold Dd.cells at HWA
  simp only at *
  obtain ⟨N, hN⟩ : ∃ N, rs.length = N := ⟨_, rfl⟩
  rw [hN] at HH3 HWA HID hn6 ⊢
  have HN := Lib.hid hN
  clear hN
  have g1 : decide (xk < 1) = false := decide_eq_false (by omega)
  have g2 : decide (10 < xk) = false := decide_eq_false (by omega)
  go_enter Tryz.func9, Tryz.ntmps9
  go_wp2_with fail
  rw [← HWA.out]
  refine (HNM.out wA).mono ?_
  rintro e w1 ⟨rfl, hb1⟩
  have HB1 := Lib.hid (HBA.out.trans (hb1.mono HBA.out.size))
  have HP := Lib.hid (HH3.out.below hb1)
  clear hb1
  have p0 : w1.cell? ⟨w.heap.size, 0, none⟩ = some (.slice A N c) := HP.out.p.cell 0
  have d0 : w1.cell? ⟨w.heap.size + 1, 0, none⟩ = some (.int .i64 xk) := HP.out.d.cell 0
  have d1 : w1.cell? ⟨w.heap.size + 1, 1, none⟩ = some (.int .i64 xn) := HP.out.d.cell 1
  have d2 : w1.cell? ⟨w.heap.size + 1, 2, none⟩ = some (.string xnm) := HP.out.d.cell 2
  have d3 : w1.cell? ⟨w.heap.size + 1, 3, none⟩ = some (.string xt) := HP.out.d.cell 3
  have d4 : w1.cell? ⟨w.heap.size + 1, 4, none⟩ = some (.slice xA xm xc) := HP.out.d.cell 4
  have z0 : w1.cell? ⟨w.heap.size + 1 + 1, 0, none⟩ = some (.slice none 0 0) := HP.out.z.cell 0
  have zf0 := HP.out.z.frozen 0
  go_wp2_with fail
  (apply bodyPost_ret; (simp [results, Tryz.results9, go_sem, z0]; rfl); rfl)
  refine ⟨A, c, rs, ?_, rfl, fin_rh (bel1 HB1.out (le2 _)) HRR.out⟩
  rw [HN.out]
set_option maxRecDepth 100000 in
set_option maxHeartbeats 4000000 in
theorem refDo_none (A : Option Addr) (c : Nat) (rs : List Rc) (x : Dd) (K : Nat → Prop) (w : World) (hf : RoOk w K A c rs x) (hk2 : 2 ≤ x.kind) (hk10 : x.kind ≤ 10) (hn : named x.name = true) (hi : ¬ fnd x.name (rs.map Rc.s) < (rs.map Rc.s).length) : Calls Tryz.prog 9 #[.agg #[.slice A rs.length c], x.val, .func (.func 10) #[] #[]] w (RoAns w K rs x) := by
  obtain ⟨hq1, hq2, hq3⟩ := hs_none (P := rs.map Rc.s) hk2 hk10 hn hi
  have hz := idxZ_neg hi
  obtain ⟨hr, hK, hok, hnm, htx, hre, hxm, htb, ⟨mx, hmx⟩, hmg⟩ := hf
  have hn6 : rs.length ≤ 6 := by have := hok.n; rwa [List.length_map] at this
  have HOKP := Lib.hid hok
  have HRR : Hid (∀ W, Below w.heap.size w W → RhAt W K A c rs) := fun W hW => hr.below hW
  have HKK := Lib.hid hK
  have HRE : Hid (∀ W, Below w.heap.size w W → Rd W w.heap.size 3 x.A x.m (edCells x.l)) := fun W hW => hre.below hW
  have HTB : Hid (∀ W, Below w.heap.size w W → TabI W) := fun W hW => tabI_stays htb hW
  have HMX : Hid (∀ W, Below w.heap.size w W → W.cell? ⟨0, 0, none⟩ = some (.int .i64 mx)) := fun W hb => (hb.cell (p := ⟨0, 0, none⟩) hmg).trans hmx
  have HNM := Lib.hid (fun W => refNamed_any x.name W hnm)
  have HID := Lib.hid (fun W g (hW : Below w.heap.size w W) (hg : g < W.heap.size) (hc : W.cell? ⟨g, 2, none⟩ = some (.string x.name)) => idxRc_any rs x.name A rs.length c w.heap.size g W (hr.row.rd.below hW) hW.size (by omega) rfl hg hc)
  have HTX := Lib.hid htx
  have HXM := Lib.hid hxm
  have HH3 := Lib.hid (h3_new w (.slice A rs.length c) x)
  have hbA : Below w.heap.size w (((w.alloc (.cells #[.slice A rs.length c] 29)).alloc (.cells x.cells 32)).alloc (.cells #[.slice none 0 0] 29)) := (by repeat (first | exact Below.refl _ _ | assumption | refine Below.alloc ?_ (by first | exact Nat.le_refl _ | assumption | omega | (simp <;> omega)) _ | refine Below.setCell ?_ (by first | exact Nat.le_refl _ | assumption | omega | (simp <;> omega)) _ | refine Below.drew ?_ | refine below_drewN ?_ _))
  have HBA := Lib.hid hbA
  unfold RoAns
  rw [hq1, hq2, hq3]
  obtain ⟨wA, hwA⟩ : ∃ wA, wA = (((w.alloc (.cells #[.slice A rs.length c] 29)).alloc (.cells x.cells 32)).alloc (.cells #[.slice none 0 0] 29)) := ⟨_, rfl⟩
  rw [← hwA] at HH3 HBA
  have HWA := Lib.hid hwA
  clear hwA hr hK hok hnm htx hre hxm htb hmx hbA hq1 hq2 hq3
  rw [hn] at HNM
  rw [hz] at HID
  clear hz hi
  obtain ⟨xk, xn, xnm, xt, xA, xm, xc, xl⟩ := x
  unfold Dd.val
  unfold Dd.cells at HWA
  simp only at *
  obtain ⟨N, hN⟩ : ∃ N, rs.length = N := ⟨_, rfl⟩
  rw [hN] at HH3 HWA HID hn6 ⊢
  have HN := Lib.hid hN
  clear hN
  have g1 : decide (xk < 1) = false := decide_eq_false (by omega)
  have g2 : decide (10 < xk) = false := decide_eq_false (by omega)
  have g3 : (xk == 1) = false := by rw [beq_eq_false_iff_ne]; omega
  go_enter Tryz.func9, Tryz.ntmps9
  go_wp2_with fail
  rw [← HWA.out]
  refine (HNM.out wA).mono ?_
  rintro e w1 ⟨rfl, hb1⟩
  have HB1 := Lib.hid (HBA.out.trans (hb1.mono HBA.out.size))
  have HP := Lib.hid (HH3.out.below hb1)
  clear hb1
  have p0 : w1.cell? ⟨w.heap.size, 0, none⟩ = some (.slice A N c) := HP.out.p.cell 0
  have d0 : w1.cell? ⟨w.heap.size + 1, 0, none⟩ = some (.int .i64 xk) := HP.out.d.cell 0
  have d1 : w1.cell? ⟨w.heap.size + 1, 1, none⟩ = some (.int .i64 xn) := HP.out.d.cell 1
  have d2 : w1.cell? ⟨w.heap.size + 1, 2, none⟩ = some (.string xnm) := HP.out.d.cell 2
  have d3 : w1.cell? ⟨w.heap.size + 1, 3, none⟩ = some (.string xt) := HP.out.d.cell 3
  have d4 : w1.cell? ⟨w.heap.size + 1, 4, none⟩ = some (.slice xA xm xc) := HP.out.d.cell 4
  have z0 : w1.cell? ⟨w.heap.size + 1 + 1, 0, none⟩ = some (.slice none 0 0) := HP.out.z.cell 0
  have zf0 := HP.out.z.frozen 0
  have hg1 : w.heap.size + 1 < w1.heap.size := HP.out.d.lt
  go_wp2_with fail
  refine (HID.out w1 _ HB1.out hg1 d2).mono ?_
  rintro e w2 ⟨rfl, hb2⟩
  have HB2 := Lib.hid (HB1.out.trans (hb2.mono HB1.out.size))
  have HP2 := Lib.hid (HP.out.below hb2)
  clear p0 d0 d1 d2 d3 d4 z0 zf0
  clear HP hb2 HID HNM hg1
  have HP := HP2
  have p0 : w2.cell? ⟨w.heap.size, 0, none⟩ = some (.slice A N c) := HP.out.p.cell 0
  have d0 : w2.cell? ⟨w.heap.size + 1, 0, none⟩ = some (.int .i64 xk) := HP.out.d.cell 0
  have d1 : w2.cell? ⟨w.heap.size + 1, 1, none⟩ = some (.int .i64 xn) := HP.out.d.cell 1
  have d2 : w2.cell? ⟨w.heap.size + 1, 2, none⟩ = some (.string xnm) := HP.out.d.cell 2
  have d3 : w2.cell? ⟨w.heap.size + 1, 3, none⟩ = some (.string xt) := HP.out.d.cell 3
  have d4 : w2.cell? ⟨w.heap.size + 1, 4, none⟩ = some (.slice xA xm xc) := HP.out.d.cell 4
  have z0 : w2.cell? ⟨w.heap.size + 1 + 1, 0, none⟩ = some (.slice none 0 0) := HP.out.z.cell 0
  have zf0 := HP.out.z.frozen 0
  go_wp2_with fail
  (apply bodyPost_ret; (simp [results, Tryz.results9, go_sem, z0]; rfl); rfl)
  refine ⟨A, c, rs, ?_, rfl, fin_rh (bel1 HB2.out (le2 _)) HRR.out⟩
  rw [HN.out]
end Go.Proofs.YtplgghjdidmcfaaGreatDoor
namespace Go.Proofs.YtplgghjdidmcfaaGreatDoor
open Go.RowKit
theorem hs_textRc {rs : List Rc} {x : Dd} (h8 : x.kind = 8) (hn : named x.name = true) {i : Nat} (hi : fnd x.name (rs.map Rc.s) = i) (hil : i < rs.length) : hsE (rs.map Rc.s) x = 0 ∧ hsT (rs.map Rc.s) x = rs[i].s.tx ∧ hsP (rs.map Rc.s) x = rs.map Rc.s := by
  subst hi
  have hl : fnd x.name (rs.map Rc.s) < (rs.map Rc.s).length := by rw [List.length_map]; exact hil
  obtain ⟨h1, h3, h4⟩ := hs_text (P := rs.map Rc.s) h8 hn hl
  rw [List.getElem_map] at h3
  exact ⟨h1, h3, h4⟩
theorem hs_dropRc {rs : List Rc} {x : Dd} (h9 : x.kind = 9) (hn : named x.name = true) {i : Nat} (hi : fnd x.name (rs.map Rc.s) = i) (hil : i < rs.length) : hsE (rs.map Rc.s) x = 0 ∧ hsT (rs.map Rc.s) x = ⟨#[]⟩ ∧ hsP (rs.map Rc.s) x = (rs.map Rc.s).eraseIdx i := by
  subst hi
  exact hs_drop (P := rs.map Rc.s) h9 hn (by rw [List.length_map]; exact hil)
theorem hs_pageRc {rs : List Rc} {x : Dd} (h2 : 2 ≤ x.kind) (h10 : x.kind ≤ 10) (h8 : x.kind ≠ 8) (h9 : x.kind ≠ 9) (hn : named x.name = true) {i : Nat} (hi : fnd x.name (rs.map Rc.s) = i) (hil : i < rs.length) : hsE (rs.map Rc.s) x = pgE rs[i].s x ∧ hsT (rs.map Rc.s) x = ⟨#[]⟩ ∧ hsP (rs.map Rc.s) x = (rs.map Rc.s).set i (pgP rs[i].s x) := by
  subst hi
  have hl : fnd x.name (rs.map Rc.s) < (rs.map Rc.s).length := by rw [List.length_map]; exact hil
  obtain ⟨h1, h3, h4⟩ := hs_page (P := rs.map Rc.s) h2 h10 h8 h9 hn hl
  rw [List.getElem_map] at h1 h4
  exact ⟨h1, h3, h4⟩
set_option maxRecDepth 100000 in
set_option maxHeartbeats 4000000 in
theorem refDo_text (A : Option Addr) (c : Nat) (rs : List Rc) (x : Dd) (K : Nat → Prop) (w : World) (hf : RoOk w K A c rs x) (hkk : x.kind = 8) (hn : named x.name = true) (i : Nat) (hi : fnd x.name (rs.map Rc.s) = i) (hil : i < rs.length) : Calls Tryz.prog 9 #[.agg #[.slice A rs.length c], x.val, .func (.func 10) #[] #[]] w (RoAns w K rs x) := by
  obtain ⟨hq1, hq2, hq3⟩ := hs_textRc (rs := rs) hkk hn hi hil
  obtain ⟨T, hT⟩ : ∃ T, rs[i].s.tx = T := ⟨_, rfl⟩
  rw [hT] at hq2
  have HT := Lib.hid hT
  clear hT
  have hz : idxZ x.name (rs.map Rc.s) = (i : Int) := by rw [idxZ_pos (by rw [hi, List.length_map]; exact hil), hi]
  obtain ⟨hr, hK, hok, hnm, htx, hre, hxm, htb, ⟨mx, hmx⟩, hmg⟩ := hf
  have hn6 : rs.length ≤ 6 := by have := hok.n; rwa [List.length_map] at this
  have HOKP := Lib.hid hok
  have HRR : Hid (∀ W, Below w.heap.size w W → RhAt W K A c rs) := fun W hW => hr.below hW
  have HKK := Lib.hid hK
  have HRE : Hid (∀ W, Below w.heap.size w W → Rd W w.heap.size 3 x.A x.m (edCells x.l)) := fun W hW => hre.below hW
  have HTB : Hid (∀ W, Below w.heap.size w W → TabI W) := fun W hW => tabI_stays htb hW
  have HMX : Hid (∀ W, Below w.heap.size w W → W.cell? ⟨0, 0, none⟩ = some (.int .i64 mx)) := fun W hb => (hb.cell (p := ⟨0, 0, none⟩) hmg).trans hmx
  have HNM := Lib.hid (fun W => refNamed_any x.name W hnm)
  have HID := Lib.hid (fun W g (hW : Below w.heap.size w W) (hg : g < W.heap.size) (hc : W.cell? ⟨g, 2, none⟩ = some (.string x.name)) => idxRc_any rs x.name A rs.length c w.heap.size g W (hr.row.rd.below hW) hW.size (by omega) rfl hg hc)
  have HTX := Lib.hid htx
  have HXM := Lib.hid hxm
  have HH3 := Lib.hid (h3_new w (.slice A rs.length c) x)
  have hbA : Below w.heap.size w (((w.alloc (.cells #[.slice A rs.length c] 29)).alloc (.cells x.cells 32)).alloc (.cells #[.slice none 0 0] 29)) := (by repeat (first | exact Below.refl _ _ | assumption | refine Below.alloc ?_ (by first | exact Nat.le_refl _ | assumption | omega | (simp <;> omega)) _ | refine Below.setCell ?_ (by first | exact Nat.le_refl _ | assumption | omega | (simp <;> omega)) _ | refine Below.drew ?_ | refine below_drewN ?_ _))
  have HBA := Lib.hid hbA
  unfold RoAns
  rw [hq1, hq2, hq3]
  obtain ⟨wA, hwA⟩ : ∃ wA, wA = (((w.alloc (.cells #[.slice A rs.length c] 29)).alloc (.cells x.cells 32)).alloc (.cells #[.slice none 0 0] 29)) := ⟨_, rfl⟩
  rw [← hwA] at HH3 HBA
  have HWA := Lib.hid hwA
  clear hwA hr hK hok hnm htx hre hxm htb hmx hbA hq1 hq2 hq3
  rw [hn] at HNM
  rw [hz] at HID
  clear hz hi
  obtain ⟨xk, xn, xnm, xt, xA, xm, xc, xl⟩ := x
  unfold Dd.val
  unfold Dd.cells at HWA
  simp only at *
  obtain ⟨N, hN⟩ : ∃ N, rs.length = N := ⟨_, rfl⟩
  rw [hN] at HH3 HWA HID hn6 ⊢
  have HN := Lib.hid hN
  clear hN
  have hil2 : i < N := by have := HN.out; omega
  subst hkk
  go_enter Tryz.func9, Tryz.ntmps9
  go_wp2_with fail
  rw [← HWA.out]
  refine (HNM.out wA).mono ?_
  rintro e w1 ⟨rfl, hb1⟩
  have HB1 := Lib.hid (HBA.out.trans (hb1.mono HBA.out.size))
  have HP := Lib.hid (HH3.out.below hb1)
  clear hb1
  have p0 : w1.cell? ⟨w.heap.size, 0, none⟩ = some (.slice A N c) := HP.out.p.cell 0
  have d0 : w1.cell? ⟨w.heap.size + 1, 0, none⟩ = some (.int .i64 8) := HP.out.d.cell 0
  have d1 : w1.cell? ⟨w.heap.size + 1, 1, none⟩ = some (.int .i64 xn) := HP.out.d.cell 1
  have d2 : w1.cell? ⟨w.heap.size + 1, 2, none⟩ = some (.string xnm) := HP.out.d.cell 2
  have d3 : w1.cell? ⟨w.heap.size + 1, 3, none⟩ = some (.string xt) := HP.out.d.cell 3
  have d4 : w1.cell? ⟨w.heap.size + 1, 4, none⟩ = some (.slice xA xm xc) := HP.out.d.cell 4
  have z0 : w1.cell? ⟨w.heap.size + 1 + 1, 0, none⟩ = some (.slice none 0 0) := HP.out.z.cell 0
  have zf0 := HP.out.z.frozen 0
  have hg1 : w.heap.size + 1 < w1.heap.size := HP.out.d.lt
  go_wp2_with fail
  refine (HID.out w1 _ HB1.out hg1 d2).mono ?_
  rintro e w2 ⟨rfl, hb2⟩
  have HB2 := Lib.hid (HB1.out.trans (hb2.mono HB1.out.size))
  have HP2 := Lib.hid (HP.out.below hb2)
  clear p0 d0 d1 d2 d3 d4 z0 zf0
  clear HP hb2 HID HNM hg1
  have HP := HP2
  have p0 : w2.cell? ⟨w.heap.size, 0, none⟩ = some (.slice A N c) := HP.out.p.cell 0
  have d0 : w2.cell? ⟨w.heap.size + 1, 0, none⟩ = some (.int .i64 8) := HP.out.d.cell 0
  have d1 : w2.cell? ⟨w.heap.size + 1, 1, none⟩ = some (.int .i64 xn) := HP.out.d.cell 1
  have d2 : w2.cell? ⟨w.heap.size + 1, 2, none⟩ = some (.string xnm) := HP.out.d.cell 2
  have d3 : w2.cell? ⟨w.heap.size + 1, 3, none⟩ = some (.string xt) := HP.out.d.cell 3
  have d4 : w2.cell? ⟨w.heap.size + 1, 4, none⟩ = some (.slice xA xm xc) := HP.out.d.cell 4
  have z0 : w2.cell? ⟨w.heap.size + 1 + 1, 0, none⟩ = some (.slice none 0 0) := HP.out.z.cell 0
  have zf0 := HP.out.z.frozen 0
  have hrd := (HRR.out w2 HB2.out).row.rd
  rw [HN.out] at hrd
  obtain ⟨ad, hA, _, r0, r1, r2, r3, r4, r5⟩ := rc_cell hrd hil HN.out
  have hab := (HRR.out w (Below.refl _ _)).row.lt ad hA
  subst hA
  rw [HT.out] at r1
  clear r0 r2 r3 r4 r5
  go_wp2_with fail
  obtain ⟨F1, hFd⟩ : ∃ F : World → Prop, F = fun w' => w'.cell? ⟨w.heap.size, 0, none⟩ = some (.slice (some ad) N c) ∧ w'.cell? ⟨(ad.add (i * 6)).block, (ad.add (i * 6)).off + 1, none⟩ = some (.string T) := ⟨_, rfl⟩
  have HF1 := Lib.hid hFd
  clear hFd
  have hcell10 : ∀ p' : Wof F1, p'.w.cell? ⟨w.heap.size, 0, none⟩ = some (.slice (some ad) N c) := fun ⟨x, hx⟩ => by rw [HF1.out] at hx; exact hx.1
  have hcell11 : ∀ p' : Wof F1, p'.w.cell? ⟨(ad.add (i * 6)).block, (ad.add (i * 6)).off + 1, none⟩ = some (.string T) := fun ⟨x, hx⟩ => by rw [HF1.out] at hx; exact hx.2
  refine wp_region_schedF [(0, true), (1, true), (2, true), (3, true), (4, true), (5, true), (6, true), (7, true), (8, false), (9, true), (10, true)] F1 (by kernel_rfl) (by kernel_rfl) rfl (fun _ _ _ _ _ h => h) (by kernel_rfl) (by rw [HF1.out]; first | ((repeat' apply And.intro) <;> assumption) | trivial | (simp; done) | (simp [*]; done)) (by rw [HF1.out]; exact fun h => h) ?_
  intro hne1
  simp only [opersOf, List.getElem?_toArray, List.getElem?_cons_succ, List.getElem?_cons_zero]
  repeat (first | (refine wpSched_free rfl ?_; intro K hK; go_big_quiet_op; go_big_quiet_on) | (refine wpSched_wantS _ rfl rfl rfl ?_; intro K hK; go_big_quiet_op; go_big_quiet_on) | (refine wpSched_skipS _ rfl rfl rfl rfl ?_; simp only [Act.put, List.setIfInBounds_toArray, List.set_cons_zero, List.set_cons_succ]) | (refine wpSched_skipU _ rfl rfl rfl ?_; simp only [Act.put, List.setIfInBounds_toArray, List.set_cons_zero, List.set_cons_succ]))
  have hneg : ad.block ≠ w.heap.size + 1 + 1 := by omega
  have HB3 : Hid (Below w.heap.size w w2.drew) := HB2.out.drew
  have HP3 : Hid (H3 w2.drew w.heap.size (.slice (some ad) N c) ⟨8, xn, xnm, xt, xA, xm, xc, xl⟩ (.slice none 0 0)) := HP2.out.below (Below.drew (Below.refl _ _))
  clear p0 d0 d1 d2 d3 d4 z0 zf0
  clear HP
  have HP := HP3
  have p0 : w2.drew.cell? ⟨w.heap.size, 0, none⟩ = some (.slice (some ad) N c) := HP.out.p.cell 0
  have d0 : w2.drew.cell? ⟨w.heap.size + 1, 0, none⟩ = some (.int .i64 8) := HP.out.d.cell 0
  have d1 : w2.drew.cell? ⟨w.heap.size + 1, 1, none⟩ = some (.int .i64 xn) := HP.out.d.cell 1
  have d2 : w2.drew.cell? ⟨w.heap.size + 1, 2, none⟩ = some (.string xnm) := HP.out.d.cell 2
  have d3 : w2.drew.cell? ⟨w.heap.size + 1, 3, none⟩ = some (.string xt) := HP.out.d.cell 3
  have d4 : w2.drew.cell? ⟨w.heap.size + 1, 4, none⟩ = some (.slice xA xm xc) := HP.out.d.cell 4
  have z0 : w2.drew.cell? ⟨w.heap.size + 1 + 1, 0, none⟩ = some (.slice none 0 0) := HP.out.z.cell 0
  have zf0 := HP.out.z.frozen 0
  have z9 : w2.cell? ⟨w.heap.size + 1 + 1, 0, none⟩ = some (.slice none 0 0) := HP2.out.z.cell 0
  refine wpSched_other ?_
  go_wp2_with fail
  have q1 : (w2.drew.setCell ⟨w.heap.size + 1 + 1, 0, none⟩ (.slice (some ad) N c)).cell? ⟨w.heap.size, 0, none⟩ = some (.slice (some ad) N c) := (HP3.out.p.far (p := ⟨w.heap.size + 1 + 1, 0, none⟩) (by show w.heap.size ≠ w.heap.size + 1 + 1; omega) _).cell 0
  have q2 : (w2.drew.setCell ⟨w.heap.size + 1 + 1, 0, none⟩ (.slice (some ad) N c)).cell? ⟨(ad.add (i * 6)).block, (ad.add (i * 6)).off + 1, none⟩ = some (.string T) := by
    rw [World.cell?_setCell_other _ _ _ _ (fun e => hneg (by injection e with e1; rw [← blk_add ad (i * 6), ← e1]))]
    exact r1
  refine sched_back (by rw [HF1.out]; exact ⟨q1, q2⟩) ?_
  repeat (first | (refine wpSched_free rfl ?_; intro K hK; go_big_quiet_op; go_big_quiet_on) | (refine wpSched_wantS _ rfl rfl rfl ?_; intro K hK; go_big_quiet_op; go_big_quiet_on) | (refine wpSched_skipS _ rfl rfl rfl rfl ?_; simp only [Act.put, List.setIfInBounds_toArray, List.set_cons_zero, List.set_cons_succ]) | (refine wpSched_skipU _ rfl rfl rfl ?_; simp only [Act.put, List.setIfInBounds_toArray, List.set_cons_zero, List.set_cons_succ]))
  refine wpSched_nil ?_
  go_wp2_with fail
  (apply bodyPost_ret; (simp [results, Tryz.results9, go_sem, z9]; rfl); rfl)
  refine ⟨some ad, c, rs, ?_, rfl, fin_rh (bel1 HB3.out (le2 _)) HRR.out⟩
  rw [HN.out]
end Go.Proofs.YtplgghjdidmcfaaGreatDoor
