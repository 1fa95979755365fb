/- The law LeafPlays, walked. -/
import Derived.Test.YtmikckhihfcooaaGreatDoorLeaS
import Derived.Test.YtmikckhihfcooaaGreatDoorLeaT
import Derived.Test.YtmikckhihfcooaaGreatDoorOpenStep
namespace Go.Proofs.YtmikckhihfcooaaGreatDoor
open Go.RowKit
theorem LeafAt.far {w : World} {g gl : Nat} {tx d : ByteArray} {sf : Nat} (h : LeafAt w g gl tx d sf) {p : Addr} (hg : g ≠ p.block) (hl : gl ≠ p.block) (u : Value) : LeafAt (w.setCell p u) g gl tx d sf := ⟨h.leaf.far hg u, Blk.far h.log hl u, h.ne⟩
set_option maxRecDepth 100000 in
set_option maxHeartbeats 1000000 in
theorem rest5_any (k : Int) (h0 : -9223372036854775808 ≤ k) (h1 : k ≤ 9223372036854775807) (w : World) :
    Calls Tryz.prog 6 #[.int .i64 k, .int .i64 5] w fun e w' => e = .returned (.int .i64 (k % 5)) ∧ Below w.heap.size w w' := by
  by_cases hk : 0 ≤ k
  · have g : ¬ k % 5 < 0 := by omega
    go_enter Tryz.func6, Tryz.ntmps6
    go_wp2
    all_goals first
      | (go_ret; exact ⟨rfl, (by repeat (first | exact Below.refl _ _ | assumption | refine Below.alloc ?_ (by first | exact Nat.le_refl _ | assumption | omega | (simp <;> omega)) _ | refine Below.setCell ?_ (by first | exact Nat.le_refl _ | assumption | omega | (simp <;> omega)) _ | refine Below.drew ?_ | refine below_drewN ?_ _))⟩)
      | (exfalso; omega)
  · have e : Int.tmod k 5 = -((-k) % 5) := by
      have := Int.tmod_eq_emod (a := -k) (b := 5)
      rw [Int.neg_tmod, if_pos (.inl (by omega))] at this
      omega
    have HE := Lib.hid e
    have hr1 : -4 ≤ Int.tmod k 5 := by omega
    have hr2 : Int.tmod k 5 ≤ 0 := by omega
    clear e
    by_cases hz : Int.tmod k 5 < 0
    · go_enter Tryz.func6, Tryz.ntmps6
      go_wp2
      all_goals first
        | (go_ret; exact ⟨ret_int (by rw [HE.out] at *; omega), (by repeat (first | exact Below.refl _ _ | assumption | refine Below.alloc ?_ (by first | exact Nat.le_refl _ | assumption | omega | (simp <;> omega)) _ | refine Below.setCell ?_ (by first | exact Nat.le_refl _ | assumption | omega | (simp <;> omega)) _ | refine Below.drew ?_ | refine below_drewN ?_ _))⟩)
        | (exfalso; omega)
    · go_enter Tryz.func6, Tryz.ntmps6
      go_wp2
      all_goals first
        | (go_ret; exact ⟨ret_int (by rw [HE.out] at *; omega), (by repeat (first | exact Below.refl _ _ | assumption | refine Below.alloc ?_ (by first | exact Nat.le_refl _ | assumption | omega | (simp <;> omega)) _ | refine Below.setCell ?_ (by first | exact Nat.le_refl _ | assumption | omega | (simp <;> omega)) _ | refine Below.drew ?_ | refine below_drewN ?_ _))⟩)
        | (exfalso; omega)
set_option maxRecDepth 100000 in
set_option maxHeartbeats 4000000 in
theorem leafPlaysBig_any (s : ByteArray) (A : Option Addr) (n c : Nat) (w : World) (hs : 200 < s.size) :
    Calls Tryz.prog 3 #[.string s, .slice A n c] w fun e w' => e = .returned (.bool true) ∧ Below w.heap.size w w' := by
  go_enter Tryz.func3, Tryz.ntmps3
  go_wp2_with fail
  refine (lfNewBig_any s _ hs).mono ?_
  rintro e w1 ⟨rfl, hb1⟩
  go_wp2_with fail
  go_ret
  exact ⟨rfl, hb1⟩
set_option maxRecDepth 100000 in
set_option maxHeartbeats 16000000 in
theorem leafPlays_any (s : ByteArray) (l : List Stp) (A : Option Addr) (n c : Nat) (mx : Int) (w : World) (hr : Rd w w.heap.size 4 A n (stpCells l)) (hn : n ≤ 9223372036854775807) (hK : ∀ x ∈ l, StpOk w x) (ht : TabI w)
    (hm : w.cell? ⟨1, 0, none⟩ = some (.int .i64 mx)) (hw0 : 1 < w.heap.size) :
    Calls Tryz.prog 3 #[.string s, .slice A n c] w fun e w' => e = .returned (.bool true) ∧ Below w.heap.size w w' := by
  by_cases hs : 200 < s.size
  · exact leafPlaysBig_any s A n c w hs
  have HRR := Lib.hid hr; clear hr
  have HK := Lib.hid hK; clear hK
  have HM : Hid (∀ W, Below w.heap.size w W → W.cell? ⟨1, 0, none⟩ = some (.int .i64 mx)) := fun W hb => (hb.cell (p := ⟨1, 0, none⟩) hw0).trans hm
  have HW0 : Hid (∀ W, Below w.heap.size w W → 1 < W.heap.size) := fun W hb => Nat.lt_of_lt_of_le hw0 hb.size
  have HT : Hid (∀ W, Below w.heap.size w W → TabI W) := fun W hb => tabI_stays ht hb
  clear ht hm hw0
  have HOK := Lib.hid (LfOk.new_ (s := s) (by omega))
  have HNW := Lib.hid (fun W => lfNew_any s W (by omega))
  have HLO := Lib.hid (fun W => rlOf_any s W (by omega))
  generalize newD s = d0 at *
  have hs2 : s.size ≤ 200 := by omega
  go_enter Tryz.func3, Tryz.ntmps3
  go_wp2_with fail
  refine (HNW.out _).mono ?_
  rintro e w1 ⟨rfl, hL1, hb1⟩
  have H1 := Lib.hid hL1
  clear hL1
  have hgb : w.heap.size ≤ w.heap.size + 1 := by omega
  have hglb : w.heap.size ≤ w.heap.size := Nat.le_refl _
  obtain ⟨g, hg⟩ : ∃ g, g = w.heap.size + 1 := ⟨_, rfl⟩
  rw [← hg] at H1 hgb ⊢
  clear hg
  obtain ⟨gl0, hgl0⟩ : ∃ g, g = w.heap.size := ⟨_, rfl⟩
  rw [Hid, ← hgl0] at H1
  have H1 := Lib.hid H1
  have hglb : w.heap.size ≤ gl0 := by omega
  clear hgl0
  go_wp2_with fail
  refine (HLO.out _).mono ?_
  rintro e w2 ⟨rfl, hb2⟩
  have H2 := Lib.hid (H1.out.below hb2)
  have B2 := bthen hb1 hb2
  clear H1 hb1 hb2
  go_wp2_with fail
  have H3 : Hid (LeafAt (w2.alloc (.cells #[.string s, .string d0, .int .i64 (d0.size : Int)] 30)) g gl0 s d0 d0.size) := H2.out.below (by repeat (first | exact Below.refl _ _ | assumption | refine Below.alloc ?_ (by first | exact Nat.le_refl _ | assumption | omega | (simp <;> omega)) _ | refine Below.setCell ?_ (by first | exact Nat.le_refl _ | assumption | omega | (simp <;> omega)) _ | refine Below.drew ?_ | refine below_drewN ?_ _))
  have R3 : Hid (Blk (w2.alloc (.cells #[.string s, .string d0, .int .i64 (d0.size : Int)] 30)) w2.heap.size 30 #[.string s, .string d0, .int .i64 (d0.size : Int)]) := Blk.new_ _ _ _
  have B3 : Below w.heap.size w (w2.alloc (.cells #[.string s, .string d0, .int .i64 (d0.size : Int)] 30)) := Below.alloc B2 B2.size _
  have hggr : g ≠ w2.heap.size := Nat.ne_of_lt H2.out.leaf.lt
  have hglr : gl0 ≠ w2.heap.size := Nat.ne_of_lt (Blk.lt H2.out.log)
  have hgrb : w.heap.size ≤ w2.heap.size := B2.size
  clear H2 B2
  generalize (w2.alloc (.cells #[.string s, .string d0, .int .i64 (d0.size : Int)] 30)) = w3 at *
  generalize w2.heap.size = gr at *
  go_loopw [38] (fun i wr => ∃ (k gl : Nat) (tx d : ByteArray) (sf : Nat), k ≤ n ∧ i = .int .i64 k ∧ LfOk tx d sf ∧ LeafAt wr g gl tx d sf ∧ Blk wr gr 30 #[.string tx, .string d, .int .i64 (sf : Int)] ∧ gl ≠ gr ∧ w.heap.size ≤ gl ∧ Below w.heap.size w wr)
    (fun i _ => n - (intOf i).toNat)
  case atStart => exact ⟨0, gl0, s, d0, d0.size, Nat.zero_le _, rfl, HOK.out, H3.out, R3.out, hglr, hglb, B3⟩
  case round =>
    obtain ⟨k, gl, tx, d, sf, hk, rfl, hok, hL, hR, hgr, hglb2, hb⟩ := hrel
    clear H3 R3 B3 hglr hglb HOK HNW HLO
    have H0 := Lib.hid hL; have R0 := Lib.hid hR
    clear hL hR
    have hbs := hb.size
    by_cases hlt : k < n
    · obtain ⟨ad, hl, rfl, hab, x0, x1, x2, x3⟩ := (HRR.out.below hb).at_stp hlt
      have hxk := HK.out l[k] (List.getElem_mem hl)
      generalize l[k] = x at *
      obtain ⟨xk, xn, xt, xA, xm, xc, xl⟩ := x
      obtain ⟨hk0, hi0, hxc, hxn, hxr⟩ := hxk
      simp only at x0 x1 x2 x3 hk0 hi0 hxc hxn hxr
      have HXR := Lib.hid hxr; clear hxr
      obtain ⟨hk0, hk1⟩ := hk0
      generalize S xt = xs at *
      have HA0 : Hid (Blk (wr.alloc (.cells #[.int .i64 xk, .int .i64 xn, .string xs, .slice xA xm xc] 34)) wr.heap.size 34 #[.int .i64 xk, .int .i64 xn, .string xs, .slice xA xm xc]) := Blk.new_ _ _ _
      have hbA : Below wr.heap.size wr (wr.alloc (.cells #[.int .i64 xk, .int .i64 xn, .string xs, .slice xA xm xc] 34)) := (by repeat (first | exact Below.refl _ _ | assumption | refine Below.alloc ?_ (by first | exact Nat.le_refl _ | assumption | omega | (simp <;> omega)) _ | refine Below.setCell ?_ (by first | exact Nat.le_refl _ | assumption | omega | (simp <;> omega)) _ | refine Below.drew ?_ | refine below_drewN ?_ _))
      go_wp2_with fail
      refine (rest5_any xk hk0 hk1 _).mono ?_
      rintro e w2 ⟨rfl, hb2⟩
      have hb2' := bthen hbA hb2
      have H2 := Lib.hid (H0.out.below hb2')
      have R2 := Lib.hid (R0.out.below' hb2')
      have A2 : Hid (Blk w2 wr.heap.size 34 #[.int .i64 xk, .int .i64 xn, .string xs, .slice xA xm xc]) := HA0.out.below' hb2
      have B2 := bthen hb hb2'
      have hga0 : gr < wr.heap.size := R0.out.lt
      have hga1 : g < wr.heap.size := H0.out.leaf.lt
      have hga2 : gl < wr.heap.size := Blk.lt H0.out.log
      have hga3 : wr.heap.size ≤ w2.heap.size := hb2'.size
      generalize wr.heap.size = ga at *
      clear hb2' hbA hb2 HA0 H0 R0 hb
      have q0 := Blk.cell0 A2.out; have q1 := Blk.cell1 A2.out; have q2 := Blk.cell2 A2.out; have q3 := A2.out.cell 3
      by_cases hm0 : xk % 5 = 0
      · have HP := Lib.hid (fun (W : World) (hL : LeafAt W g gl tx d sf) (hb : Below w.heap.size w W) => lfEdit_any g gl tx d sf xl xA xm xc w.heap.size W hL hok (HXR.out.below hb) hb.size hxn (HT.out W hb))
        have HQ := Lib.hid (fun (W : World) (hb : Below w.heap.size w W) => rlEdit_any tx d sf xl xA xm xc w.heap.size W (HXR.out.below hb) hb.size hxn (HT.out W hb) hok.size)
        have HO := Lib.hid (hok.edit' xl)
        have g0 : ((xk % 5) == 0) = true := by rw [hm0]; rfl
        clear hm0 hok
        generalize lfT tx d xl = tx' at *
        generalize lfD tx d xl = d' at *
        generalize lfE tx d xl = eq at *
        generalize hsf : sf = sf' at *
        clear hsf
        clear HK x0 x1 x2 x3
        go_wp2_with fail
        refine (HP.out w2 H2.out B2).mono ?_
        rintro e w3 ⟨rfl, hL3, hg3⟩
        have H3 := Lib.hid hL3
        have R3 := Lib.hid (R2.out.gbs hg3 (by simp only [List.mem_cons, List.not_mem_nil, or_false, not_or]; omega))
        have A3 := Lib.hid (A2.out.gbs hg3 (by simp only [List.mem_cons, List.not_mem_nil, or_false, not_or]; omega))
        have B3 := Below.gbs B2 hg3 (by simp only [List.mem_cons, List.not_mem_nil, or_false]; rintro o (rfl | rfl) <;> omega) B2.size
        clear hL3 hg3 H2 R2 A2 B2 q0 q1 q2 q3
        have q0 := Blk.cell0 A3.out; have q1 := Blk.cell1 A3.out; have q2 := Blk.cell2 A3.out; have q3 := A3.out.cell 3
        have r0 := Blk.cell0 R3.out; have r1 := Blk.cell1 R3.out; have r2 := Blk.cell2 R3.out
        go_wp2_with fail
        refine (HQ.out w3 B3).mono ?_
        rintro e w4 ⟨rfl, hb4⟩
        have H4 := Lib.hid (H3.out.below hb4)
        have R4 := Lib.hid (R3.out.below' hb4)
        have B4 := bthen B3 hb4
        have HX4 : Hid True := trivial
        clear H3 R3 A3 B3 q0 q1 q2 q3 r0 r1 r2 hb4 HP HQ
        obtain ⟨gq, hgq⟩ : ∃ gq, gq = gl := ⟨_, rfl⟩
        rw [← hgq] at H4
        have hgqr : gq ≠ gr := by omega
        have hgqb : w.heap.size ≤ gq := by omega
        clear hgq
        have HW := Lib.hid (HX4.out)
        have c0 := Blk.cell0 R4.out; have c1 := Blk.cell1 R4.out; have c2 := Blk.cell2 R4.out
        have f0 := R4.out.frozen 0; have f1 := R4.out.frozen 1; have f2 := R4.out.frozen 2
        have n0 : g ≠ gr := hggr
        have n1 : gq ≠ gr := hgqr
        have H5 := Lib.hid (((H4.out.far (p := ⟨gr, 0, none⟩) n0 n1 (.string tx')).far (p := ⟨gr, 1, none⟩) n0 n1 (.string d')).far (p := ⟨gr, 2, none⟩) n0 n1 (.int .i64 (sf' : Int)))
        have R5 : Hid (Blk (((w4.setCell ⟨gr, 0, none⟩ (.string tx')).setCell ⟨gr, 1, none⟩ (.string d')).setCell ⟨gr, 2, none⟩ (.int .i64 (sf' : Int))) gr 30 #[.string tx', .string d', .int .i64 (sf' : Int)]) := Blk.set_ (Blk.set_ (Blk.set_ R4.out 0 _) 1 _) 2 _
        have B5 : Below w.heap.size w (((w4.setCell ⟨gr, 0, none⟩ (.string tx')).setCell ⟨gr, 1, none⟩ (.string d')).setCell ⟨gr, 2, none⟩ (.int .i64 (sf' : Int))) := (by repeat (first | exact Below.refl _ _ | assumption | refine Below.alloc ?_ (by first | exact Nat.le_refl _ | assumption | omega | (simp <;> omega)) _ | refine Below.setCell ?_ (by first | exact Nat.le_refl _ | assumption | omega | (simp <;> omega)) _ | refine Below.drew ?_ | refine below_drewN ?_ _))
        clear HW HX4
        go_wp2_with fail
        clear c0 c1 c2 f0 f1 f2 R4 H4 B4
        generalize (((w4.setCell ⟨gr, 0, none⟩ (.string tx')).setCell ⟨gr, 1, none⟩ (.string d')).setCell ⟨gr, 2, none⟩ (.int .i64 (sf' : Int))) = w5 at *
        refine (lfSize_any g gq tx' d' sf' w5 H5.out).mono ?_
        rintro e w6 ⟨rfl, hb6⟩
        have H6 := Lib.hid (H5.out.below hb6)
        have R6 := Lib.hid (R5.out.below' hb6)
        have B6 := bthen B5 hb6
        clear H5 R5 B5 hb6
        have HTX := Lib.hid (fun W (hb : Below w6.heap.size w6 W) => lfText_any g gq tx' d' sf' W (H6.out.below hb))
        have c0 := cell_regrown (Blk.cell0 R6.out); have c1 := cell_regrown (Blk.cell1 R6.out); have c2 := cell_regrown (Blk.cell2 R6.out)
        have y0 : (eq != eq) = false := bne_self_eq_false' _
        have y1 : (tx'.toList == tx'.toList) = true := beq_self_eq_true _
        have y2 : ((d'.size : Int) != (d'.size : Int)) = false := bne_self_eq_false' _
        have y3 : ((sf' : Int) != (sf' : Int)) = false := bne_self_eq_false' _
        go_wp2_with fail
        refine wp_region_quiet_below (by kernel_rfl) (by kernel_rfl) ?_
        repeat (go_big_quiet_step ((go_at_call 18; exact Calls.regrown_of (HTX.out _ (below_regrown _ _ _)))))
        refine wpQuiet_nil ?_
        intro w7 hb70
        have hb7 := below_of_regrown hb70
        clear hb70
        have H7 := Lib.hid (H6.out.below hb7)
        have R7 := Lib.hid (R6.out.below' hb7)
        have B7 := bthen B6 hb7
        clear H6 R6 B6 c0 c1 c2 hb7 HTX
        go_wp2_with fail
        go_roundw
        case rel => exact ⟨k + 1, gq, tx', d', sf', by omega, by go_num, HO.out, H7.out, R7.out, hgqr, hgqb, B7⟩
        case measure => simp [intOf]; omega
      have g0 : ((xk % 5) == 0) = false := by simpa using hm0
      by_cases hm1 : xk % 5 = 1
      · have HP := Lib.hid (fun (W : World) (hL : LeafAt W g gl tx d sf) (_hb : Below w.heap.size w W) => lfSet_any g gl tx d xs sf W hL hok)
        have HQ := Lib.hid (fun (W : World) (_hb : Below w.heap.size w W) => rlSet_any tx d xs sf W hok.size)
        have HO := Lib.hid (hok.set' xs)
        have g1 : ((xk % 5) == 1) = true := by rw [hm1]; rfl
        clear hm0 hm1 hok
        generalize lsT tx d xs = tx' at *
        generalize lsD d xs = d' at *
        generalize lsE d xs = eq at *
        generalize hsf : sf = sf' at *
        clear hsf
        clear HK x0 x1 x2 x3
        go_wp2_with fail
        refine (HP.out w2 H2.out B2).mono ?_
        rintro e w3 ⟨rfl, hL3, hg3⟩
        have H3 := Lib.hid hL3
        have R3 := Lib.hid (R2.out.gbs hg3 (by simp only [List.mem_cons, List.not_mem_nil, or_false, not_or]; omega))
        have A3 := Lib.hid (A2.out.gbs hg3 (by simp only [List.mem_cons, List.not_mem_nil, or_false, not_or]; omega))
        have B3 := Below.gbs B2 hg3 (by simp only [List.mem_cons, List.not_mem_nil, or_false]; rintro o (rfl | rfl) <;> omega) B2.size
        clear hL3 hg3 H2 R2 A2 B2 q0 q1 q2 q3
        have q0 := Blk.cell0 A3.out; have q1 := Blk.cell1 A3.out; have q2 := Blk.cell2 A3.out; have q3 := A3.out.cell 3
        have r0 := Blk.cell0 R3.out; have r1 := Blk.cell1 R3.out; have r2 := Blk.cell2 R3.out
        go_wp2_with fail
        refine (HQ.out w3 B3).mono ?_
        rintro e w4 ⟨rfl, hb4⟩
        have H4 := Lib.hid (H3.out.below hb4)
        have R4 := Lib.hid (R3.out.below' hb4)
        have B4 := bthen B3 hb4
        have HX4 : Hid True := trivial
        clear H3 R3 A3 B3 q0 q1 q2 q3 r0 r1 r2 hb4 HP HQ
        obtain ⟨gq, hgq⟩ : ∃ gq, gq = gl := ⟨_, rfl⟩
        rw [← hgq] at H4
        have hgqr : gq ≠ gr := by omega
        have hgqb : w.heap.size ≤ gq := by omega
        clear hgq
        have HW := Lib.hid (HX4.out)
        have c0 := Blk.cell0 R4.out; have c1 := Blk.cell1 R4.out; have c2 := Blk.cell2 R4.out
        have f0 := R4.out.frozen 0; have f1 := R4.out.frozen 1; have f2 := R4.out.frozen 2
        have n0 : g ≠ gr := hggr
        have n1 : gq ≠ gr := hgqr
        have H5 := Lib.hid (((H4.out.far (p := ⟨gr, 0, none⟩) n0 n1 (.string tx')).far (p := ⟨gr, 1, none⟩) n0 n1 (.string d')).far (p := ⟨gr, 2, none⟩) n0 n1 (.int .i64 (sf' : Int)))
        have R5 : Hid (Blk (((w4.setCell ⟨gr, 0, none⟩ (.string tx')).setCell ⟨gr, 1, none⟩ (.string d')).setCell ⟨gr, 2, none⟩ (.int .i64 (sf' : Int))) gr 30 #[.string tx', .string d', .int .i64 (sf' : Int)]) := Blk.set_ (Blk.set_ (Blk.set_ R4.out 0 _) 1 _) 2 _
        have B5 : Below w.heap.size w (((w4.setCell ⟨gr, 0, none⟩ (.string tx')).setCell ⟨gr, 1, none⟩ (.string d')).setCell ⟨gr, 2, none⟩ (.int .i64 (sf' : Int))) := (by repeat (first | exact Below.refl _ _ | assumption | refine Below.alloc ?_ (by first | exact Nat.le_refl _ | assumption | omega | (simp <;> omega)) _ | refine Below.setCell ?_ (by first | exact Nat.le_refl _ | assumption | omega | (simp <;> omega)) _ | refine Below.drew ?_ | refine below_drewN ?_ _))
        clear HW HX4
        go_wp2_with fail
        clear c0 c1 c2 f0 f1 f2 R4 H4 B4
        generalize (((w4.setCell ⟨gr, 0, none⟩ (.string tx')).setCell ⟨gr, 1, none⟩ (.string d')).setCell ⟨gr, 2, none⟩ (.int .i64 (sf' : Int))) = w5 at *
        refine (lfSize_any g gq tx' d' sf' w5 H5.out).mono ?_
        rintro e w6 ⟨rfl, hb6⟩
        have H6 := Lib.hid (H5.out.below hb6)
        have R6 := Lib.hid (R5.out.below' hb6)
        have B6 := bthen B5 hb6
        clear H5 R5 B5 hb6
        have HTX := Lib.hid (fun W (hb : Below w6.heap.size w6 W) => lfText_any g gq tx' d' sf' W (H6.out.below hb))
        have c0 := cell_regrown (Blk.cell0 R6.out); have c1 := cell_regrown (Blk.cell1 R6.out); have c2 := cell_regrown (Blk.cell2 R6.out)
        have y0 : (eq != eq) = false := bne_self_eq_false' _
        have y1 : (tx'.toList == tx'.toList) = true := beq_self_eq_true _
        have y2 : ((d'.size : Int) != (d'.size : Int)) = false := bne_self_eq_false' _
        have y3 : ((sf' : Int) != (sf' : Int)) = false := bne_self_eq_false' _
        go_wp2_with fail
        refine wp_region_quiet_below (by kernel_rfl) (by kernel_rfl) ?_
        repeat (go_big_quiet_step ((go_at_call 18; exact Calls.regrown_of (HTX.out _ (below_regrown _ _ _)))))
        refine wpQuiet_nil ?_
        intro w7 hb70
        have hb7 := below_of_regrown hb70
        clear hb70
        have H7 := Lib.hid (H6.out.below hb7)
        have R7 := Lib.hid (R6.out.below' hb7)
        have B7 := bthen B6 hb7
        clear H6 R6 B6 c0 c1 c2 hb7 HTX
        go_wp2_with fail
        go_roundw
        case rel => exact ⟨k + 1, gq, tx', d', sf', by omega, by go_num, HO.out, H7.out, R7.out, hgqr, hgqb, B7⟩
        case measure => simp [intOf]; omega
      have g1 : ((xk % 5) == 1) = false := by simpa using hm1
      by_cases hm2 : xk % 5 = 2
      · have HP := Lib.hid (fun (W : World) (hL : LeafAt W g gl tx d sf) (_hb : Below w.heap.size w W) => lfSave_any g gl tx d sf W hL)
        have HQ := Lib.hid (fun (W : World) (_hb : Below w.heap.size w W) => rlSave_any tx d sf W)
        have HO := Lib.hid hok.save
        have g2 : ((xk % 5) == 2) = true := by rw [hm2]; rfl
        clear hm0 hm1 hm2 hok
        obtain ⟨tx', htx'⟩ : ∃ x, x = tx := ⟨_, rfl⟩
        obtain ⟨d', hd'⟩ : ∃ x, x = d := ⟨_, rfl⟩
        subst htx'
        subst hd'
        obtain ⟨sf', hsf'⟩ : ∃ x, x = d'.size := ⟨_, rfl⟩
        rw [Hid, ← hsf'] at HP HQ HO
        have HP := Lib.hid HP; have HQ := Lib.hid HQ; have HO := Lib.hid HO
        clear hsf'
        clear HK x0 x1 x2 x3
        go_wp2_with fail
        refine (HP.out w2 H2.out B2).mono ?_
        rintro e w3 ⟨rfl, hL3, hg3⟩
        have H3 := Lib.hid hL3
        have R3 := Lib.hid (R2.out.gbs hg3 (by simp only [List.mem_cons, List.not_mem_nil, or_false, not_or]; omega))
        have A3 := Lib.hid (A2.out.gbs hg3 (by simp only [List.mem_cons, List.not_mem_nil, or_false, not_or]; omega))
        have B3 := Below.gbs B2 hg3 (by simp only [List.mem_cons, List.not_mem_nil, or_false]; rintro o (rfl | rfl) <;> omega) B2.size
        clear hL3 hg3 H2 R2 A2 B2 q0 q1 q2 q3
        have q0 := Blk.cell0 A3.out; have q1 := Blk.cell1 A3.out; have q2 := Blk.cell2 A3.out; have q3 := A3.out.cell 3
        have r0 := Blk.cell0 R3.out; have r1 := Blk.cell1 R3.out; have r2 := Blk.cell2 R3.out
        go_wp2_with fail
        refine (HQ.out w3 B3).mono ?_
        rintro e w4 ⟨rfl, hb4⟩
        have H4 := Lib.hid (H3.out.below hb4)
        have R4 := Lib.hid (R3.out.below' hb4)
        have B4 := bthen B3 hb4
        have HX4 : Hid True := trivial
        clear H3 R3 A3 B3 q0 q1 q2 q3 r0 r1 r2 hb4 HP HQ
        obtain ⟨gq, hgq⟩ : ∃ gq, gq = gl := ⟨_, rfl⟩
        rw [← hgq] at H4
        have hgqr : gq ≠ gr := by omega
        have hgqb : w.heap.size ≤ gq := by omega
        clear hgq
        have HW := Lib.hid (HX4.out)
        have c0 := Blk.cell0 R4.out; have c1 := Blk.cell1 R4.out; have c2 := Blk.cell2 R4.out
        have f0 := R4.out.frozen 0; have f1 := R4.out.frozen 1; have f2 := R4.out.frozen 2
        have n0 : g ≠ gr := hggr
        have n1 : gq ≠ gr := hgqr
        have H5 := Lib.hid (((H4.out.far (p := ⟨gr, 0, none⟩) n0 n1 (.string tx')).far (p := ⟨gr, 1, none⟩) n0 n1 (.string d')).far (p := ⟨gr, 2, none⟩) n0 n1 (.int .i64 (sf' : Int)))
        have R5 : Hid (Blk (((w4.setCell ⟨gr, 0, none⟩ (.string tx')).setCell ⟨gr, 1, none⟩ (.string d')).setCell ⟨gr, 2, none⟩ (.int .i64 (sf' : Int))) gr 30 #[.string tx', .string d', .int .i64 (sf' : Int)]) := Blk.set_ (Blk.set_ (Blk.set_ R4.out 0 _) 1 _) 2 _
        have B5 : Below w.heap.size w (((w4.setCell ⟨gr, 0, none⟩ (.string tx')).setCell ⟨gr, 1, none⟩ (.string d')).setCell ⟨gr, 2, none⟩ (.int .i64 (sf' : Int))) := (by repeat (first | exact Below.refl _ _ | assumption | refine Below.alloc ?_ (by first | exact Nat.le_refl _ | assumption | omega | (simp <;> omega)) _ | refine Below.setCell ?_ (by first | exact Nat.le_refl _ | assumption | omega | (simp <;> omega)) _ | refine Below.drew ?_ | refine below_drewN ?_ _))
        clear HW HX4
        go_wp2_with fail
        clear c0 c1 c2 f0 f1 f2 R4 H4 B4
        generalize (((w4.setCell ⟨gr, 0, none⟩ (.string tx')).setCell ⟨gr, 1, none⟩ (.string d')).setCell ⟨gr, 2, none⟩ (.int .i64 (sf' : Int))) = w5 at *
        refine (lfSize_any g gq tx' d' sf' w5 H5.out).mono ?_
        rintro e w6 ⟨rfl, hb6⟩
        have H6 := Lib.hid (H5.out.below hb6)
        have R6 := Lib.hid (R5.out.below' hb6)
        have B6 := bthen B5 hb6
        clear H5 R5 B5 hb6
        have HTX := Lib.hid (fun W (hb : Below w6.heap.size w6 W) => lfText_any g gq tx' d' sf' W (H6.out.below hb))
        have c0 := cell_regrown (Blk.cell0 R6.out); have c1 := cell_regrown (Blk.cell1 R6.out); have c2 := cell_regrown (Blk.cell2 R6.out)
        have y0 : ((0 : Int) != (0 : Int)) = false := bne_self_eq_false' _
        have y1 : (tx'.toList == tx'.toList) = true := beq_self_eq_true _
        have y2 : ((d'.size : Int) != (d'.size : Int)) = false := bne_self_eq_false' _
        have y3 : ((sf' : Int) != (sf' : Int)) = false := bne_self_eq_false' _
        go_wp2_with fail
        refine wp_region_quiet_below (by kernel_rfl) (by kernel_rfl) ?_
        repeat (go_big_quiet_step ((go_at_call 18; exact Calls.regrown_of (HTX.out _ (below_regrown _ _ _)))))
        refine wpQuiet_nil ?_
        intro w7 hb70
        have hb7 := below_of_regrown hb70
        clear hb70
        have H7 := Lib.hid (H6.out.below hb7)
        have R7 := Lib.hid (R6.out.below' hb7)
        have B7 := bthen B6 hb7
        clear H6 R6 B6 c0 c1 c2 hb7 HTX
        go_wp2_with fail
        go_roundw
        case rel => exact ⟨k + 1, gq, tx', d', sf', by omega, by go_num, HO.out, H7.out, R7.out, hgqr, hgqb, B7⟩
        case measure => simp [intOf]; omega
      have g2 : ((xk % 5) == 2) = false := by simpa using hm2
      by_cases hm3 : xk % 5 = 3
      · have HP := Lib.hid (fun (W : World) (hL : LeafAt W g gl tx d sf) (_hb : Below w.heap.size w W) => lfCrash_any g gl tx d sf xn W hL hok)
        have HQ := Lib.hid (fun (W : World) (hb : Below w.heap.size w W) => rlCrash_any tx d sf xn mx W hok (HM.out W hb) (HW0.out W hb))
        have HO := Lib.hid (hok.crash' xn)
        have g3 : ((xk % 5) == 3) = true := by rw [hm3]; rfl
        clear hm0 hm1 hm2 hm3 hok
        generalize cfT tx d sf xn = tx' at *
        generalize craD d sf xn = d' at *
        generalize craF d sf xn = sf' at *
        generalize craErr d sf xn = eq at *
        clear HK x0 x1 x2 x3
        go_wp2_with fail
        refine (HP.out w2 H2.out B2).mono ?_
        rintro e w3 ⟨rfl, hL3, hg3⟩
        have H3 := Lib.hid hL3
        have R3 := Lib.hid (R2.out.gbs hg3 (by simp only [List.mem_cons, List.not_mem_nil, or_false, not_or]; omega))
        have A3 := Lib.hid (A2.out.gbs hg3 (by simp only [List.mem_cons, List.not_mem_nil, or_false, not_or]; omega))
        have B3 := Below.gbs B2 hg3 (by simp only [List.mem_cons, List.not_mem_nil, or_false]; rintro o (rfl | rfl) <;> omega) B2.size
        clear hL3 hg3 H2 R2 A2 B2 q0 q1 q2 q3
        have q0 := Blk.cell0 A3.out; have q1 := Blk.cell1 A3.out; have q2 := Blk.cell2 A3.out; have q3 := A3.out.cell 3
        have r0 := Blk.cell0 R3.out; have r1 := Blk.cell1 R3.out; have r2 := Blk.cell2 R3.out
        go_wp2_with fail
        refine (HQ.out w3 B3).mono ?_
        rintro e w4 ⟨rfl, hb4⟩
        have H4 := Lib.hid (H3.out.below hb4)
        have R4 := Lib.hid (R3.out.below' hb4)
        have B4 := bthen B3 hb4
        have HX4 : Hid True := trivial
        clear H3 R3 A3 B3 q0 q1 q2 q3 r0 r1 r2 hb4 HP HQ
        obtain ⟨gq, hgq⟩ : ∃ gq, gq = gl := ⟨_, rfl⟩
        rw [← hgq] at H4
        have hgqr : gq ≠ gr := by omega
        have hgqb : w.heap.size ≤ gq := by omega
        clear hgq
        have HW := Lib.hid (HX4.out)
        have c0 := Blk.cell0 R4.out; have c1 := Blk.cell1 R4.out; have c2 := Blk.cell2 R4.out
        have f0 := R4.out.frozen 0; have f1 := R4.out.frozen 1; have f2 := R4.out.frozen 2
        have n0 : g ≠ gr := hggr
        have n1 : gq ≠ gr := hgqr
        have H5 := Lib.hid (((H4.out.far (p := ⟨gr, 0, none⟩) n0 n1 (.string tx')).far (p := ⟨gr, 1, none⟩) n0 n1 (.string d')).far (p := ⟨gr, 2, none⟩) n0 n1 (.int .i64 (sf' : Int)))
        have R5 : Hid (Blk (((w4.setCell ⟨gr, 0, none⟩ (.string tx')).setCell ⟨gr, 1, none⟩ (.string d')).setCell ⟨gr, 2, none⟩ (.int .i64 (sf' : Int))) gr 30 #[.string tx', .string d', .int .i64 (sf' : Int)]) := Blk.set_ (Blk.set_ (Blk.set_ R4.out 0 _) 1 _) 2 _
        have B5 : Below w.heap.size w (((w4.setCell ⟨gr, 0, none⟩ (.string tx')).setCell ⟨gr, 1, none⟩ (.string d')).setCell ⟨gr, 2, none⟩ (.int .i64 (sf' : Int))) := (by repeat (first | exact Below.refl _ _ | assumption | refine Below.alloc ?_ (by first | exact Nat.le_refl _ | assumption | omega | (simp <;> omega)) _ | refine Below.setCell ?_ (by first | exact Nat.le_refl _ | assumption | omega | (simp <;> omega)) _ | refine Below.drew ?_ | refine below_drewN ?_ _))
        clear HW HX4
        go_wp2_with fail
        clear c0 c1 c2 f0 f1 f2 R4 H4 B4
        generalize (((w4.setCell ⟨gr, 0, none⟩ (.string tx')).setCell ⟨gr, 1, none⟩ (.string d')).setCell ⟨gr, 2, none⟩ (.int .i64 (sf' : Int))) = w5 at *
        refine (lfSize_any g gq tx' d' sf' w5 H5.out).mono ?_
        rintro e w6 ⟨rfl, hb6⟩
        have H6 := Lib.hid (H5.out.below hb6)
        have R6 := Lib.hid (R5.out.below' hb6)
        have B6 := bthen B5 hb6
        clear H5 R5 B5 hb6
        have HTX := Lib.hid (fun W (hb : Below w6.heap.size w6 W) => lfText_any g gq tx' d' sf' W (H6.out.below hb))
        have c0 := cell_regrown (Blk.cell0 R6.out); have c1 := cell_regrown (Blk.cell1 R6.out); have c2 := cell_regrown (Blk.cell2 R6.out)
        have y0 : (eq != eq) = false := bne_self_eq_false' _
        have y1 : (tx'.toList == tx'.toList) = true := beq_self_eq_true _
        have y2 : ((d'.size : Int) != (d'.size : Int)) = false := bne_self_eq_false' _
        have y3 : ((sf' : Int) != (sf' : Int)) = false := bne_self_eq_false' _
        go_wp2_with fail
        refine wp_region_quiet_below (by kernel_rfl) (by kernel_rfl) ?_
        repeat (go_big_quiet_step ((go_at_call 18; exact Calls.regrown_of (HTX.out _ (below_regrown _ _ _)))))
        refine wpQuiet_nil ?_
        intro w7 hb70
        have hb7 := below_of_regrown hb70
        clear hb70
        have H7 := Lib.hid (H6.out.below hb7)
        have R7 := Lib.hid (R6.out.below' hb7)
        have B7 := bthen B6 hb7
        clear H6 R6 B6 c0 c1 c2 hb7 HTX
        go_wp2_with fail
        go_roundw
        case rel => exact ⟨k + 1, gq, tx', d', sf', by omega, by go_num, HO.out, H7.out, R7.out, hgqr, hgqb, B7⟩
        case measure => simp [intOf]; omega
      have g3 : ((xk % 5) == 3) = false := by simpa using hm3
      have HP := Lib.hid (fun (W : World) (hL : LeafAt W g gl tx d sf) => lfPack_any g gl tx d sf xn W hL hok)
      have HQ := Lib.hid (fun (W : World) (hb : Below w.heap.size w W) => rlPack_any tx d sf xn mx W hok (HM.out W hb) (HW0.out W hb))
      have HO := Lib.hid (hok.pack xn)
      unfold PackAns at HP
      clear hm0 hm1 hm2 hm3 hok
      generalize pkT tx d sf xn = tx' at *
      generalize pkD tx d sf xn = d' at *
      generalize pkF tx d sf xn = sf' at *
      generalize pkE xn = eq at *
      clear HK x0 x1 x2 x3
      go_wp2_with fail
      refine (HP.out w2 H2.out).mono ?_
      rintro e w3 ⟨gq, rfl, hgq, hL3, hg3⟩
      have H3 := Lib.hid hL3
      have R3 := Lib.hid (R2.out.gbs hg3 (by simp only [List.mem_cons, List.not_mem_nil, or_false, not_or]; omega))
      have A3 := Lib.hid (A2.out.gbs hg3 (by simp only [List.mem_cons, List.not_mem_nil, or_false, not_or]; omega))
      have B3 := Below.gbs B2 hg3 (by simp only [List.mem_cons, List.not_mem_nil, or_false]; rintro o (rfl | rfl) <;> omega) B2.size
      have hgqr : gq ≠ gr := by omega
      have hgqb : w.heap.size ≤ gq := by omega
      clear hL3 hg3 H2 R2 A2 B2 q0 q1 q2 q3 hgq
      have q0 := Blk.cell0 A3.out; have q1 := Blk.cell1 A3.out; have q2 := Blk.cell2 A3.out; have q3 := A3.out.cell 3
      have r0 := Blk.cell0 R3.out; have r1 := Blk.cell1 R3.out; have r2 := Blk.cell2 R3.out
      go_wp2_with fail
      refine (HQ.out w3 B3).mono ?_
      rintro e w4 ⟨rfl, hb4⟩
      have H4 := Lib.hid (H3.out.below hb4)
      have R4 := Lib.hid (R3.out.below' hb4)
      have B4 := bthen B3 hb4
      have HX4 : Hid True := trivial
      clear H3 R3 A3 B3 q0 q1 q2 q3 r0 r1 r2 hb4 HP HQ
      have HW := Lib.hid (HX4.out)
      have c0 := Blk.cell0 R4.out; have c1 := Blk.cell1 R4.out; have c2 := Blk.cell2 R4.out
      have f0 := R4.out.frozen 0; have f1 := R4.out.frozen 1; have f2 := R4.out.frozen 2
      have n0 : g ≠ gr := hggr
      have n1 : gq ≠ gr := hgqr
      have H5 := Lib.hid (((H4.out.far (p := ⟨gr, 0, none⟩) n0 n1 (.string tx')).far (p := ⟨gr, 1, none⟩) n0 n1 (.string d')).far (p := ⟨gr, 2, none⟩) n0 n1 (.int .i64 (sf' : Int)))
      have R5 : Hid (Blk (((w4.setCell ⟨gr, 0, none⟩ (.string tx')).setCell ⟨gr, 1, none⟩ (.string d')).setCell ⟨gr, 2, none⟩ (.int .i64 (sf' : Int))) gr 30 #[.string tx', .string d', .int .i64 (sf' : Int)]) := Blk.set_ (Blk.set_ (Blk.set_ R4.out 0 _) 1 _) 2 _
      have B5 : Below w.heap.size w (((w4.setCell ⟨gr, 0, none⟩ (.string tx')).setCell ⟨gr, 1, none⟩ (.string d')).setCell ⟨gr, 2, none⟩ (.int .i64 (sf' : Int))) := (by repeat (first | exact Below.refl _ _ | assumption | refine Below.alloc ?_ (by first | exact Nat.le_refl _ | assumption | omega | (simp <;> omega)) _ | refine Below.setCell ?_ (by first | exact Nat.le_refl _ | assumption | omega | (simp <;> omega)) _ | refine Below.drew ?_ | refine below_drewN ?_ _))
      clear HW HX4
      go_wp2_with fail
      clear c0 c1 c2 f0 f1 f2 R4 H4 B4
      generalize (((w4.setCell ⟨gr, 0, none⟩ (.string tx')).setCell ⟨gr, 1, none⟩ (.string d')).setCell ⟨gr, 2, none⟩ (.int .i64 (sf' : Int))) = w5 at *
      refine (lfSize_any g gq tx' d' sf' w5 H5.out).mono ?_
      rintro e w6 ⟨rfl, hb6⟩
      have H6 := Lib.hid (H5.out.below hb6)
      have R6 := Lib.hid (R5.out.below' hb6)
      have B6 := bthen B5 hb6
      clear H5 R5 B5 hb6
      have HTX := Lib.hid (fun W (hb : Below w6.heap.size w6 W) => lfText_any g gq tx' d' sf' W (H6.out.below hb))
      have c0 := cell_regrown (Blk.cell0 R6.out); have c1 := cell_regrown (Blk.cell1 R6.out); have c2 := cell_regrown (Blk.cell2 R6.out)
      have y0 : (eq != eq) = false := bne_self_eq_false' _
      have y1 : (tx'.toList == tx'.toList) = true := beq_self_eq_true _
      have y2 : ((d'.size : Int) != (d'.size : Int)) = false := bne_self_eq_false' _
      have y3 : ((sf' : Int) != (sf' : Int)) = false := bne_self_eq_false' _
      go_wp2_with fail
      refine wp_region_quiet_below (by kernel_rfl) (by kernel_rfl) ?_
      repeat (go_big_quiet_step ((go_at_call 18; exact Calls.regrown_of (HTX.out _ (below_regrown _ _ _)))))
      refine wpQuiet_nil ?_
      intro w7 hb70
      have hb7 := below_of_regrown hb70
      clear hb70
      have H7 := Lib.hid (H6.out.below hb7)
      have R7 := Lib.hid (R6.out.below' hb7)
      have B7 := bthen B6 hb7
      clear H6 R6 B6 c0 c1 c2 hb7 HTX
      go_wp2_with fail
      go_roundw
      case rel => exact ⟨k + 1, gq, tx', d', sf', by omega, by go_num, HO.out, H7.out, R7.out, hgqr, hgqb, B7⟩
      case measure => simp [intOf]; omega
    · go_wp2_with fail
      go_ret
      exact ⟨rfl, hb⟩
end Go.Proofs.YtmikckhihfcooaaGreatDoor
