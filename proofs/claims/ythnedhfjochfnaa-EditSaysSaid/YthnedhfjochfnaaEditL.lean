/- The law EditSays, walked. -/
import Derived.Test.YthnedhfjochfnaaEditC
namespace Go.Proofs.Ythnedhfjochfnaa
open Go.RowKit
theorem undoL_get {s : ByteArray} {l : List Ed} {k : Nat} (h : k < l.length) : ∃ h2 : k < (undoL (L s) l).length, (undoL (L s) l)[k] = ⟨l[k].at_ + grows (l.take k), l[k].ins.length, ((L s).drop l[k].at_.toNat).take l[k].del.toNat⟩ := by
  refine ⟨by unfold undoL; rw [undoFrom_length]; exact h, ?_⟩
  have := undoFrom_get (L s) l 0 k h
  rw [Int.zero_add] at this
  exact this
set_option maxRecDepth 100000 in
set_option maxHeartbeats 8000000 in
theorem editSays_any (s : ByteArray) (l : List Ed) (n at_ : Int) (A : Option Addr) (m c : Nat) (w : World) (hr : Rd w w.heap.size 3 A m (edCells l)) (hmc : m ≤ c) (hm : m ≤ 9223372036854775807) (hs : s.size ≤ 140737488351232) :
    Calls Try.prog 14 #[.string s, .slice A m c, .int .i64 n, .int .i64 at_] w fun e w' => e = .returned (.bool true) ∧ Below w.heap.size w w' := by
  have hlen := Rd.rec_len ed_len (by omega) hr
  have HR := Lib.hid hr; clear hr
  have HL := Lib.hid hlen; clear hlen
  go_enter Try.func14, Try.ntmps14
  go_wp2_with fail
  refine (edApply_any s l A m c w.heap.size w HR.out (Nat.le_refl _) hm hs).mono ?_
  rintro e w1 ⟨rfl, hb1⟩
  go_wp2_with fail
  refine (edUndo_any s l A m c w.heap.size w1 (HR.out.below hb1) hb1.size hm hs).mono ?_
  rintro e w2 ⟨v2, rfl, hv0, hv1, hb2⟩
  have HV0 := Lib.hid hv0; have HV1 := Lib.hid hv1
  have hB2 := bthen hb1 hb2
  have hz12 := hb1.size
  clear hv0 hv1 hb1 hb2
  go_wp2_with fail
  refine (edPlace_any n at_ l A m c w.heap.size w2 (HR.out.below hB2) hB2.size hm).mono ?_
  rintro e w3 ⟨rfl, hb3⟩
  go_wp2_with fail
  have hB3 := bthen hB2 hb3
  refine (edCheck_any n l A m c w.heap.size w3 (HR.out.below hB3) hB3.size hm).mono ?_
  rintro e w4 ⟨rfl, hb4⟩
  have hB4 := bthen hB3 hb4
  have hb24 := bthen hb3 hb4
  clear hb3 hB3 hb4
  go_wp2_with fail
  refine (editsErr_any n l A m c w.heap.size w4 (HR.out.below hB4) hB4.size hm).mono ?_
  rintro e w5 ⟨rfl, hb5⟩
  have hB5 := bthen hB4 hb5
  have hb25 := bthen hb24 hb5
  clear hb24 hB4 hb5
  go_wp2_with fail
  refine (editsErr_any n l A m c w.heap.size w5 (HR.out.below hB5) hB5.size hm).mono ?_
  rintro e w6 ⟨rfl, hb6⟩
  have hB6 := bthen hB5 hb6
  have hb26 := bthen hb25 hb6
  clear hb25 hB5 hb6
  by_cases hE : edErr n l = 0
  · have g1 : (edErr n l == 0) = true := by rw [hE]; rfl
    have g2 : (edErr n l != 0) = false := by rw [hE]; rfl
    by_cases ha : at_ < 0
    · have HP : Hid (plErr n l at_ = 1) := by unfold Hid plErr; rw [if_pos hE, if_pos (.inl ha)]
      have HO : Hid (plOut n l at_ = (0, false)) := by unfold Hid plOut; rw [HP.out, if_neg (by decide)]
      clear hE
      rw [HP.out, HO.out]
      have hB7 := hB6; have hb27 := hb26
      clear hB6 hb26
      obtain ⟨w7, hw7⟩ : ∃ x, x = w6 := ⟨_, rfl⟩
      subst hw7
      go_wp2_with fail
      refine (editsErr_any s.size l A m c w.heap.size w7 (HR.out.below hB7) hB7.size hm).mono ?_
      rintro e w8 ⟨rfl, hb8⟩
      have hB8 := bthen hB7 hb8
      have hb28 := bthen hb27 hb8
      clear hB7 hb27 hb8
      by_cases hES : edErr s.size l = 0
      · have k1 : (edErr s.size l != 0) = false := by rw [hES]; rfl
        have HAP : Hid (apOut s l = S (edDone (L s) l)) := by unfold Hid apOut; rw [if_pos hES]
        have HUE : Hid (unErr s l = if bigDel l = true then 2 else 0) := by unfold Hid unErr; rw [if_pos hES]
        have HES := Lib.hid hES
        have hsz := (edErr_zero.1 hES).2.1
        have hl20 : m ≤ 20 := by rw [← HL.out]; exact (edErr_zero.1 hES).2.2.1
        have HM : Hid (∀ x ∈ l, 0 ≤ x.at_ ∧ 0 ≤ x.del ∧ x.at_ + x.del ≤ s.size ∧ x.ins.length ≤ 40) := fun x hx => by
          obtain ⟨a, b, c, d, _⟩ := (edErr_zero.1 hES).2.2.2.1.mem x hx; exact ⟨a, b, c, d⟩
        have HSM := Lib.hid (edErr_small hES)
        clear hES
        go_wp2_with fail
        refine (edDone_any s l A m c w.heap.size w8 (HR.out.below hB8) hB8.size HES.out).mono ?_
        rintro e w9 ⟨rfl, hb9⟩
        have hB9 := bthen hB8 hb9
        have hb29 := bthen hb28 hb9
        clear hB8 hb28 hb9
        rw [HAP.out]
        have k2 : ((S (edDone (L s) l)).toList != (S (edDone (L s) l)).toList) = false := by simp
        have HDZ : Hid ((S (edDone (L s) l)).size = (edDone (L s) l).length) := S_size _
        have HUR : Hid ((∀ x ∈ l, x.del ≤ 40) → edErr (edDone (L s) l).length (undoL (L s) l) = 0) := fun h => undo_right (by rw [L_len]; exact HES.out) h
        generalize edDone (L s) l = dn at *
        go_wp2_with fail
        refine (edBig_any l A m c w.heap.size w9 (HR.out.below hB9) hB9.size hm).mono ?_
        rintro e w10 ⟨rfl, hb10⟩
        have hB10 := bthen hB9 hb10
        have hb210 := bthen hb29 hb10
        clear hB9 hb29 hb10
        by_cases hbig : bigDel l = true
        · have HU2 : Hid (unErr s l = 2) := by unfold Hid; rw [HUE.out, if_pos hbig]
          have hv := HV0.out (by rw [HU2.out]; decide)
          subst hv
          rw [HU2.out]
          go_wp2_with fail
          go_ret
          exact ⟨ret_bool (by simp), hB10⟩
        · have hbig' : bigDel l = false := by simpa using hbig
          have HU0 : Hid (unErr s l = 0) := by unfold Hid; rw [HUE.out, if_neg hbig]
          have hown := HV1.out HU0.out
          obtain ⟨A2, c2, rfl, hn2, hm2, hrd2⟩ := own_form hown
          have HU := Lib.hid (hrd2.below hb210)
          have hul : (undoL (L s) l).length = m := by unfold undoL; rw [undoFrom_length, HL.out]
          have HUL := Lib.hid hul
          clear hown hrd2 hbig hul
          rw [HU0.out]
          have HEU := Lib.hid (HUR.out (fun x hx => by
            have := List.any_eq_false.1 hbig' x hx
            simp at this; omega))
          have k3 : (edErr (S dn).size (undoL (L s) l) != 0) = false := by rw [HDZ.out, HEU.out]; rfl
          clear HUR
          go_wp2_with fail
          refine (editsErr_any (S dn).size (undoL (L s) l) A2 m c2 w2.heap.size w10 HU.out hb210.size hm).mono ?_
          rintro e w11 ⟨rfl, hb11⟩
          have hB11 := bthen hB10 hb11
          have hb211 := bthen hb210 hb11
          have HU1 := Lib.hid (HU.out.below (hb11.mono hb210.size))
          clear HU hB10 hb210 hb11
          go_wp2_with fail
          go_loopw [151] (fun i wr => ∃ k : Nat, k ≤ m ∧ i = .int .i64 k ∧ Below w.heap.size w wr ∧ Below w11.heap.size w11 wr) (fun i _ => m - (intOf i).toNat)
          case atStart => exact ⟨0, Nat.zero_le _, rfl, hB11, Below.refl _ _⟩
          case round =>
            obtain ⟨k, hk, rfl, hb, hb'⟩ := hrel
            have hbs := hb.size
            have hbs' := hb'.size
            by_cases hlt : k < m
            · have HRb := Lib.hid (HR.out.below hb)
              have hz211 := hb211.size
              have HUb := Lib.hid (HU1.out.below (hb'.mono hz211))
              obtain ⟨ad, hl, rfl, hab, c0, c1, c2'⟩ := HRb.out.at_ed hlt
              obtain ⟨ud, hul, rfl, hub, d0, d1, d2⟩ := HUb.out.at_ed hlt
              obtain ⟨_, hug⟩ := undoL_get (s := s) hl
              rw [hug] at d0 d1 d2
              clear hug
              obtain ⟨b0, b1, b2, b3⟩ := HM.out l[k] (List.getElem_mem hl)
              have hgb := (HSM.out.take k).grows
              have hkl : (l.take k).length ≤ 20 := by rw [List.length_take]; omega
              obtain ⟨hg0, hg1⟩ := hgb
              have hg2 : -4000 ≤ grows (l.take k) := by omega
              have hg3 : grows (l.take k) ≤ 800 := by omega
              clear hg0 hg1
              have HSMk := Lib.hid (HSM.out.take k)
              have HRk := Lib.hid (HRb.out.take_ed hk)
              have hzs : (S l[k].ins).size = l[k].ins.length := S_size _
              generalize l.take k = lk at *
              generalize l[k] = x at *
              obtain ⟨xa, xd, xi⟩ := x
              simp only at c0 c1 c2' b0 b1 b2 b3 d0 d1 d2 hzs
              obtain ⟨xa, rfl⟩ := Int.eq_ofNat_of_zero_le b0
              obtain ⟨xd, rfl⟩ := Int.eq_ofNat_of_zero_le b1
              have hex : S (((L s).drop (xa : Int).toNat).take (xd : Int).toNat) = s.extract xa (xa + xd) := by
                rw [extract_S, Int.toNat_natCast, Int.toNat_natCast, Nat.add_sub_cancel_left]
              rw [hex] at d2
              rw [← hzs] at d1
              have q1 : (S xi).size ≤ 40 := by omega
              have q2 : xa + xd ≤ s.size := by omega
              clear hzs hex
              have hub2 : ud.block < wr.heap.size := by omega
              have e0 : ∀ o, (wr.alloc o).cell? (ud.add (k * 3)) = some (.int .i64 ((xa : Int) + grows lk)) := fun o => (World.cell?_alloc_lt wr o _ (by rw [blk_add]; omega)).trans d0
              have e1 : ∀ o, (wr.alloc o).cell? ⟨(ud.add (k * 3)).block, (ud.add (k * 3)).off + 1, none⟩ = some (.int .i64 ((S xi).size : Int)) := fun o => (World.cell?_alloc_lt wr o _ (by show (ud.add (k * 3)).block < _; rw [blk_add]; omega)).trans d1
              have e2 : ∀ o, (wr.alloc o).cell? ⟨(ud.add (k * 3)).block, (ud.add (k * 3)).off + 2, none⟩ = some (.string (s.extract xa (xa + xd))) := fun o => (World.cell?_alloc_lt wr o _ (by show (ud.add (k * 3)).block < _; rw [blk_add]; omega)).trans d2
              clear d0 d1 d2
              go_wp2_with fail
              have hbA : Below wr.heap.size wr (wr.alloc (.cells #[.int .i64 (xa : Int), .int .i64 (xd : Int), .string (S xi)] 73)) := (by repeat (first | exact Below.refl _ _ | assumption | refine Below.alloc ?_ (by first | exact Nat.le_refl _ | assumption | omega | (simp <;> omega)) _ | refine Below.setCell ?_ (by first | exact Nat.le_refl _ | assumption | omega | (simp <;> omega)) _ | refine Below.drew ?_ | refine below_drewN ?_ _))
              have HRA := Lib.hid (HRk.out.below (hbA.mono hbs))
              have e0 := e0 (.cells #[.int .i64 (xa : Int), .int .i64 (xd : Int), .string (S xi)] 73)
              have e1 := e1 (.cells #[.int .i64 (xa : Int), .int .i64 (xd : Int), .string (S xi)] 73)
              have e2 := e2 (.cells #[.int .i64 (xa : Int), .int .i64 (xd : Int), .string (S xi)] 73)
              have c0' : (wr.alloc (.cells #[.int .i64 (xa : Int), .int .i64 (xd : Int), .string (S xi)] 73)).cell? ⟨wr.heap.size, 0, none⟩ = some (.int .i64 (xa : Int)) := by simp
              have c1' : (wr.alloc (.cells #[.int .i64 (xa : Int), .int .i64 (xd : Int), .string (S xi)] 73)).cell? ⟨wr.heap.size, 1, none⟩ = some (.int .i64 (xd : Int)) := by simp
              have c3' : (wr.alloc (.cells #[.int .i64 (xa : Int), .int .i64 (xd : Int), .string (S xi)] 73)).cell? ⟨wr.heap.size, 2, none⟩ = some (.string (S xi)) := by simp
              have hsA := hbA.size
              have hB12 := bthen hb hbA
              have hb12 := bthen hb' hbA
              generalize (wr.alloc (.cells #[.int .i64 (xa : Int), .int .i64 (xd : Int), .string (S xi)] 73)) = wa at *
              have hsB := hB12.size
              have e0r := cell_regrown e0; have e1r := cell_regrown e1; have e2r := cell_regrown e2
              have c0r := cell_regrown c0'; have c1r := cell_regrown c1'; have c3r := cell_regrown c3'
              refine wp_region_quiet_below (by kernel_rfl) (by kernel_rfl) ?_
              repeat (go_big_quiet_step ((go_at_call 76; exact Calls.regrown_of (grows_any lk (some ad) k c w.heap.size _ (HRA.out.below ((below_regrown _ _ _).mono hsB)) (Nat.le_trans hsB (below_regrown _ _ _).size) (by omega) HSMk.out))))
              refine wpQuiet_nil ?_
              intro w13 hb130
              have hb13 := below_of_regrown hb130
              clear hb130
              go_wp2_with fail
              go_roundw
              case rel => exact ⟨k + 1, by omega, by go_num, bthen hB12 hb13, bthen hb12 hb13⟩
              case measure => simp [intOf]; omega
            · go_wp2_with fail
              go_ret
              exact ⟨rfl, hb⟩
      · have k1 : (edErr s.size l != 0) = true := by simpa using hES
        have HAP : Hid (apOut s l = S []) := by unfold Hid apOut; rw [if_neg hES]
        have HUE : Hid (unErr s l = edErr s.size l) := by unfold Hid unErr; rw [if_neg hES]
        have hv := HV0.out (by rw [HUE.out]; exact hES)
        subst hv
        have hnil : (S []).toList = [] := ByteArray.toList_mk []
        clear hES
        rw [HAP.out, HUE.out]
        go_wp2_with fail
        go_ret
        exact ⟨ret_bool (by simp), hB8⟩
    · by_cases ha2 : n < at_
      · have HP : Hid (plErr n l at_ = 1) := by unfold Hid plErr; rw [if_pos hE, if_pos (.inr ha2)]
        have HO : Hid (plOut n l at_ = (0, false)) := by unfold Hid plOut; rw [HP.out, if_neg (by decide)]
        clear hE
        rw [HP.out, HO.out]
        have hB7 := hB6; have hb27 := hb26
        clear hB6 hb26
        obtain ⟨w7, hw7⟩ : ∃ x, x = w6 := ⟨_, rfl⟩
        subst hw7
        go_wp2_with fail
        refine (editsErr_any s.size l A m c w.heap.size w7 (HR.out.below hB7) hB7.size hm).mono ?_
        rintro e w8 ⟨rfl, hb8⟩
        have hB8 := bthen hB7 hb8
        have hb28 := bthen hb27 hb8
        clear hB7 hb27 hb8
        by_cases hES : edErr s.size l = 0
        · have k1 : (edErr s.size l != 0) = false := by rw [hES]; rfl
          have HAP : Hid (apOut s l = S (edDone (L s) l)) := by unfold Hid apOut; rw [if_pos hES]
          have HUE : Hid (unErr s l = if bigDel l = true then 2 else 0) := by unfold Hid unErr; rw [if_pos hES]
          have HES := Lib.hid hES
          have hsz := (edErr_zero.1 hES).2.1
          have hl20 : m ≤ 20 := by rw [← HL.out]; exact (edErr_zero.1 hES).2.2.1
          have HM : Hid (∀ x ∈ l, 0 ≤ x.at_ ∧ 0 ≤ x.del ∧ x.at_ + x.del ≤ s.size ∧ x.ins.length ≤ 40) := fun x hx => by
            obtain ⟨a, b, c, d, _⟩ := (edErr_zero.1 hES).2.2.2.1.mem x hx; exact ⟨a, b, c, d⟩
          have HSM := Lib.hid (edErr_small hES)
          clear hES
          go_wp2_with fail
          refine (edDone_any s l A m c w.heap.size w8 (HR.out.below hB8) hB8.size HES.out).mono ?_
          rintro e w9 ⟨rfl, hb9⟩
          have hB9 := bthen hB8 hb9
          have hb29 := bthen hb28 hb9
          clear hB8 hb28 hb9
          rw [HAP.out]
          have k2 : ((S (edDone (L s) l)).toList != (S (edDone (L s) l)).toList) = false := by simp
          have HDZ : Hid ((S (edDone (L s) l)).size = (edDone (L s) l).length) := S_size _
          have HUR : Hid ((∀ x ∈ l, x.del ≤ 40) → edErr (edDone (L s) l).length (undoL (L s) l) = 0) := fun h => undo_right (by rw [L_len]; exact HES.out) h
          generalize edDone (L s) l = dn at *
          go_wp2_with fail
          refine (edBig_any l A m c w.heap.size w9 (HR.out.below hB9) hB9.size hm).mono ?_
          rintro e w10 ⟨rfl, hb10⟩
          have hB10 := bthen hB9 hb10
          have hb210 := bthen hb29 hb10
          clear hB9 hb29 hb10
          by_cases hbig : bigDel l = true
          · have HU2 : Hid (unErr s l = 2) := by unfold Hid; rw [HUE.out, if_pos hbig]
            have hv := HV0.out (by rw [HU2.out]; decide)
            subst hv
            rw [HU2.out]
            go_wp2_with fail
            go_ret
            exact ⟨ret_bool (by simp), hB10⟩
          · have hbig' : bigDel l = false := by simpa using hbig
            have HU0 : Hid (unErr s l = 0) := by unfold Hid; rw [HUE.out, if_neg hbig]
            have hown := HV1.out HU0.out
            obtain ⟨A2, c2, rfl, hn2, hm2, hrd2⟩ := own_form hown
            have HU := Lib.hid (hrd2.below hb210)
            have hul : (undoL (L s) l).length = m := by unfold undoL; rw [undoFrom_length, HL.out]
            have HUL := Lib.hid hul
            clear hown hrd2 hbig hul
            rw [HU0.out]
            have HEU := Lib.hid (HUR.out (fun x hx => by
              have := List.any_eq_false.1 hbig' x hx
              simp at this; omega))
            have k3 : (edErr (S dn).size (undoL (L s) l) != 0) = false := by rw [HDZ.out, HEU.out]; rfl
            clear HUR
            go_wp2_with fail
            refine (editsErr_any (S dn).size (undoL (L s) l) A2 m c2 w2.heap.size w10 HU.out hb210.size hm).mono ?_
            rintro e w11 ⟨rfl, hb11⟩
            have hB11 := bthen hB10 hb11
            have hb211 := bthen hb210 hb11
            have HU1 := Lib.hid (HU.out.below (hb11.mono hb210.size))
            clear HU hB10 hb210 hb11
            go_wp2_with fail
            go_loopw [151] (fun i wr => ∃ k : Nat, k ≤ m ∧ i = .int .i64 k ∧ Below w.heap.size w wr ∧ Below w11.heap.size w11 wr) (fun i _ => m - (intOf i).toNat)
            case atStart => exact ⟨0, Nat.zero_le _, rfl, hB11, Below.refl _ _⟩
            case round =>
              obtain ⟨k, hk, rfl, hb, hb'⟩ := hrel
              have hbs := hb.size
              have hbs' := hb'.size
              by_cases hlt : k < m
              · have HRb := Lib.hid (HR.out.below hb)
                have hz211 := hb211.size
                have HUb := Lib.hid (HU1.out.below (hb'.mono hz211))
                obtain ⟨ad, hl, rfl, hab, c0, c1, c2'⟩ := HRb.out.at_ed hlt
                obtain ⟨ud, hul, rfl, hub, d0, d1, d2⟩ := HUb.out.at_ed hlt
                obtain ⟨_, hug⟩ := undoL_get (s := s) hl
                rw [hug] at d0 d1 d2
                clear hug
                obtain ⟨b0, b1, b2, b3⟩ := HM.out l[k] (List.getElem_mem hl)
                have hgb := (HSM.out.take k).grows
                have hkl : (l.take k).length ≤ 20 := by rw [List.length_take]; omega
                obtain ⟨hg0, hg1⟩ := hgb
                have hg2 : -4000 ≤ grows (l.take k) := by omega
                have hg3 : grows (l.take k) ≤ 800 := by omega
                clear hg0 hg1
                have HSMk := Lib.hid (HSM.out.take k)
                have HRk := Lib.hid (HRb.out.take_ed hk)
                have hzs : (S l[k].ins).size = l[k].ins.length := S_size _
                generalize l.take k = lk at *
                generalize l[k] = x at *
                obtain ⟨xa, xd, xi⟩ := x
                simp only at c0 c1 c2' b0 b1 b2 b3 d0 d1 d2 hzs
                obtain ⟨xa, rfl⟩ := Int.eq_ofNat_of_zero_le b0
                obtain ⟨xd, rfl⟩ := Int.eq_ofNat_of_zero_le b1
                have hex : S (((L s).drop (xa : Int).toNat).take (xd : Int).toNat) = s.extract xa (xa + xd) := by
                  rw [extract_S, Int.toNat_natCast, Int.toNat_natCast, Nat.add_sub_cancel_left]
                rw [hex] at d2
                rw [← hzs] at d1
                have q1 : (S xi).size ≤ 40 := by omega
                have q2 : xa + xd ≤ s.size := by omega
                clear hzs hex
                have hub2 : ud.block < wr.heap.size := by omega
                have e0 : ∀ o, (wr.alloc o).cell? (ud.add (k * 3)) = some (.int .i64 ((xa : Int) + grows lk)) := fun o => (World.cell?_alloc_lt wr o _ (by rw [blk_add]; omega)).trans d0
                have e1 : ∀ o, (wr.alloc o).cell? ⟨(ud.add (k * 3)).block, (ud.add (k * 3)).off + 1, none⟩ = some (.int .i64 ((S xi).size : Int)) := fun o => (World.cell?_alloc_lt wr o _ (by show (ud.add (k * 3)).block < _; rw [blk_add]; omega)).trans d1
                have e2 : ∀ o, (wr.alloc o).cell? ⟨(ud.add (k * 3)).block, (ud.add (k * 3)).off + 2, none⟩ = some (.string (s.extract xa (xa + xd))) := fun o => (World.cell?_alloc_lt wr o _ (by show (ud.add (k * 3)).block < _; rw [blk_add]; omega)).trans d2
                clear d0 d1 d2
                go_wp2_with fail
                have hbA : Below wr.heap.size wr (wr.alloc (.cells #[.int .i64 (xa : Int), .int .i64 (xd : Int), .string (S xi)] 73)) := (by repeat (first | exact Below.refl _ _ | assumption | refine Below.alloc ?_ (by first | exact Nat.le_refl _ | assumption | omega | (simp <;> omega)) _ | refine Below.setCell ?_ (by first | exact Nat.le_refl _ | assumption | omega | (simp <;> omega)) _ | refine Below.drew ?_ | refine below_drewN ?_ _))
                have HRA := Lib.hid (HRk.out.below (hbA.mono hbs))
                have e0 := e0 (.cells #[.int .i64 (xa : Int), .int .i64 (xd : Int), .string (S xi)] 73)
                have e1 := e1 (.cells #[.int .i64 (xa : Int), .int .i64 (xd : Int), .string (S xi)] 73)
                have e2 := e2 (.cells #[.int .i64 (xa : Int), .int .i64 (xd : Int), .string (S xi)] 73)
                have c0' : (wr.alloc (.cells #[.int .i64 (xa : Int), .int .i64 (xd : Int), .string (S xi)] 73)).cell? ⟨wr.heap.size, 0, none⟩ = some (.int .i64 (xa : Int)) := by simp
                have c1' : (wr.alloc (.cells #[.int .i64 (xa : Int), .int .i64 (xd : Int), .string (S xi)] 73)).cell? ⟨wr.heap.size, 1, none⟩ = some (.int .i64 (xd : Int)) := by simp
                have c3' : (wr.alloc (.cells #[.int .i64 (xa : Int), .int .i64 (xd : Int), .string (S xi)] 73)).cell? ⟨wr.heap.size, 2, none⟩ = some (.string (S xi)) := by simp
                have hsA := hbA.size
                have hB12 := bthen hb hbA
                have hb12 := bthen hb' hbA
                generalize (wr.alloc (.cells #[.int .i64 (xa : Int), .int .i64 (xd : Int), .string (S xi)] 73)) = wa at *
                have hsB := hB12.size
                have e0r := cell_regrown e0; have e1r := cell_regrown e1; have e2r := cell_regrown e2
                have c0r := cell_regrown c0'; have c1r := cell_regrown c1'; have c3r := cell_regrown c3'
                refine wp_region_quiet_below (by kernel_rfl) (by kernel_rfl) ?_
                repeat (go_big_quiet_step ((go_at_call 76; exact Calls.regrown_of (grows_any lk (some ad) k c w.heap.size _ (HRA.out.below ((below_regrown _ _ _).mono hsB)) (Nat.le_trans hsB (below_regrown _ _ _).size) (by omega) HSMk.out))))
                refine wpQuiet_nil ?_
                intro w13 hb130
                have hb13 := below_of_regrown hb130
                clear hb130
                go_wp2_with fail
                go_roundw
                case rel => exact ⟨k + 1, by omega, by go_num, bthen hB12 hb13, bthen hb12 hb13⟩
                case measure => simp [intOf]; omega
              · go_wp2_with fail
                go_ret
                exact ⟨rfl, hb⟩
        · have k1 : (edErr s.size l != 0) = true := by simpa using hES
          have HAP : Hid (apOut s l = S []) := by unfold Hid apOut; rw [if_neg hES]
          have HUE : Hid (unErr s l = edErr s.size l) := by unfold Hid unErr; rw [if_neg hES]
          have hv := HV0.out (by rw [HUE.out]; exact hES)
          subst hv
          have hnil : (S []).toList = [] := ByteArray.toList_mk []
          clear hES
          rw [HAP.out, HUE.out]
          go_wp2_with fail
          go_ret
          exact ⟨ret_bool (by simp), hB8⟩
      · have HP : Hid (plErr n l at_ = 0) := by unfold Hid plErr; rw [if_pos hE, if_neg (by omega)]
        have HO : Hid (plOut n l at_ = plc at_ 0 l) := by unfold Hid plOut; rw [HP.out, if_pos rfl]
        have HE := Lib.hid hE
        clear hE
        rw [HP.out, HO.out]
        go_wp2_with fail
        refine (edPlaceOf_any n at_ l A m c w.heap.size w6 (HR.out.below hB6) hB6.size hmc HE.out (by omega) (by omega)).mono ?_
        rintro e w7 ⟨rfl, hb7⟩
        have hB7 := bthen hB6 hb7
        have hb27 := bthen hb26 hb7
        clear hB6 hb26 hb7
        generalize plc at_ 0 l = pl at *
        obtain ⟨p1, p2⟩ := pl
        go_wp2_with fail
        refine (editsErr_any s.size l A m c w.heap.size w7 (HR.out.below hB7) hB7.size hm).mono ?_
        rintro e w8 ⟨rfl, hb8⟩
        have hB8 := bthen hB7 hb8
        have hb28 := bthen hb27 hb8
        clear hB7 hb27 hb8
        by_cases hES : edErr s.size l = 0
        · have k1 : (edErr s.size l != 0) = false := by rw [hES]; rfl
          have HAP : Hid (apOut s l = S (edDone (L s) l)) := by unfold Hid apOut; rw [if_pos hES]
          have HUE : Hid (unErr s l = if bigDel l = true then 2 else 0) := by unfold Hid unErr; rw [if_pos hES]
          have HES := Lib.hid hES
          have hsz := (edErr_zero.1 hES).2.1
          have hl20 : m ≤ 20 := by rw [← HL.out]; exact (edErr_zero.1 hES).2.2.1
          have HM : Hid (∀ x ∈ l, 0 ≤ x.at_ ∧ 0 ≤ x.del ∧ x.at_ + x.del ≤ s.size ∧ x.ins.length ≤ 40) := fun x hx => by
            obtain ⟨a, b, c, d, _⟩ := (edErr_zero.1 hES).2.2.2.1.mem x hx; exact ⟨a, b, c, d⟩
          have HSM := Lib.hid (edErr_small hES)
          clear hES
          go_wp2_with fail
          refine (edDone_any s l A m c w.heap.size w8 (HR.out.below hB8) hB8.size HES.out).mono ?_
          rintro e w9 ⟨rfl, hb9⟩
          have hB9 := bthen hB8 hb9
          have hb29 := bthen hb28 hb9
          clear hB8 hb28 hb9
          rw [HAP.out]
          have k2 : ((S (edDone (L s) l)).toList != (S (edDone (L s) l)).toList) = false := by simp
          have HDZ : Hid ((S (edDone (L s) l)).size = (edDone (L s) l).length) := S_size _
          have HUR : Hid ((∀ x ∈ l, x.del ≤ 40) → edErr (edDone (L s) l).length (undoL (L s) l) = 0) := fun h => undo_right (by rw [L_len]; exact HES.out) h
          generalize edDone (L s) l = dn at *
          go_wp2_with fail
          refine (edBig_any l A m c w.heap.size w9 (HR.out.below hB9) hB9.size hm).mono ?_
          rintro e w10 ⟨rfl, hb10⟩
          have hB10 := bthen hB9 hb10
          have hb210 := bthen hb29 hb10
          clear hB9 hb29 hb10
          by_cases hbig : bigDel l = true
          · have HU2 : Hid (unErr s l = 2) := by unfold Hid; rw [HUE.out, if_pos hbig]
            have hv := HV0.out (by rw [HU2.out]; decide)
            subst hv
            rw [HU2.out]
            go_wp2_with fail
            go_ret
            exact ⟨ret_bool (by simp), hB10⟩
          · have hbig' : bigDel l = false := by simpa using hbig
            have HU0 : Hid (unErr s l = 0) := by unfold Hid; rw [HUE.out, if_neg hbig]
            have hown := HV1.out HU0.out
            obtain ⟨A2, c2, rfl, hn2, hm2, hrd2⟩ := own_form hown
            have HU := Lib.hid (hrd2.below hb210)
            have hul : (undoL (L s) l).length = m := by unfold undoL; rw [undoFrom_length, HL.out]
            have HUL := Lib.hid hul
            clear hown hrd2 hbig hul
            rw [HU0.out]
            have HEU := Lib.hid (HUR.out (fun x hx => by
              have := List.any_eq_false.1 hbig' x hx
              simp at this; omega))
            have k3 : (edErr (S dn).size (undoL (L s) l) != 0) = false := by rw [HDZ.out, HEU.out]; rfl
            clear HUR
            go_wp2_with fail
            refine (editsErr_any (S dn).size (undoL (L s) l) A2 m c2 w2.heap.size w10 HU.out hb210.size hm).mono ?_
            rintro e w11 ⟨rfl, hb11⟩
            have hB11 := bthen hB10 hb11
            have hb211 := bthen hb210 hb11
            have HU1 := Lib.hid (HU.out.below (hb11.mono hb210.size))
            clear HU hB10 hb210 hb11
            go_wp2_with fail
            go_loopw [151] (fun i wr => ∃ k : Nat, k ≤ m ∧ i = .int .i64 k ∧ Below w.heap.size w wr ∧ Below w11.heap.size w11 wr) (fun i _ => m - (intOf i).toNat)
            case atStart => exact ⟨0, Nat.zero_le _, rfl, hB11, Below.refl _ _⟩
            case round =>
              obtain ⟨k, hk, rfl, hb, hb'⟩ := hrel
              have hbs := hb.size
              have hbs' := hb'.size
              by_cases hlt : k < m
              · have HRb := Lib.hid (HR.out.below hb)
                have hz211 := hb211.size
                have HUb := Lib.hid (HU1.out.below (hb'.mono hz211))
                obtain ⟨ad, hl, rfl, hab, c0, c1, c2'⟩ := HRb.out.at_ed hlt
                obtain ⟨ud, hul, rfl, hub, d0, d1, d2⟩ := HUb.out.at_ed hlt
                obtain ⟨_, hug⟩ := undoL_get (s := s) hl
                rw [hug] at d0 d1 d2
                clear hug
                obtain ⟨b0, b1, b2, b3⟩ := HM.out l[k] (List.getElem_mem hl)
                have hgb := (HSM.out.take k).grows
                have hkl : (l.take k).length ≤ 20 := by rw [List.length_take]; omega
                obtain ⟨hg0, hg1⟩ := hgb
                have hg2 : -4000 ≤ grows (l.take k) := by omega
                have hg3 : grows (l.take k) ≤ 800 := by omega
                clear hg0 hg1
                have HSMk := Lib.hid (HSM.out.take k)
                have HRk := Lib.hid (HRb.out.take_ed hk)
                have hzs : (S l[k].ins).size = l[k].ins.length := S_size _
                generalize l.take k = lk at *
                generalize l[k] = x at *
                obtain ⟨xa, xd, xi⟩ := x
                simp only at c0 c1 c2' b0 b1 b2 b3 d0 d1 d2 hzs
                obtain ⟨xa, rfl⟩ := Int.eq_ofNat_of_zero_le b0
                obtain ⟨xd, rfl⟩ := Int.eq_ofNat_of_zero_le b1
                have hex : S (((L s).drop (xa : Int).toNat).take (xd : Int).toNat) = s.extract xa (xa + xd) := by
                  rw [extract_S, Int.toNat_natCast, Int.toNat_natCast, Nat.add_sub_cancel_left]
                rw [hex] at d2
                rw [← hzs] at d1
                have q1 : (S xi).size ≤ 40 := by omega
                have q2 : xa + xd ≤ s.size := by omega
                clear hzs hex
                have hub2 : ud.block < wr.heap.size := by omega
                have e0 : ∀ o, (wr.alloc o).cell? (ud.add (k * 3)) = some (.int .i64 ((xa : Int) + grows lk)) := fun o => (World.cell?_alloc_lt wr o _ (by rw [blk_add]; omega)).trans d0
                have e1 : ∀ o, (wr.alloc o).cell? ⟨(ud.add (k * 3)).block, (ud.add (k * 3)).off + 1, none⟩ = some (.int .i64 ((S xi).size : Int)) := fun o => (World.cell?_alloc_lt wr o _ (by show (ud.add (k * 3)).block < _; rw [blk_add]; omega)).trans d1
                have e2 : ∀ o, (wr.alloc o).cell? ⟨(ud.add (k * 3)).block, (ud.add (k * 3)).off + 2, none⟩ = some (.string (s.extract xa (xa + xd))) := fun o => (World.cell?_alloc_lt wr o _ (by show (ud.add (k * 3)).block < _; rw [blk_add]; omega)).trans d2
                clear d0 d1 d2
                go_wp2_with fail
                have hbA : Below wr.heap.size wr (wr.alloc (.cells #[.int .i64 (xa : Int), .int .i64 (xd : Int), .string (S xi)] 73)) := (by repeat (first | exact Below.refl _ _ | assumption | refine Below.alloc ?_ (by first | exact Nat.le_refl _ | assumption | omega | (simp <;> omega)) _ | refine Below.setCell ?_ (by first | exact Nat.le_refl _ | assumption | omega | (simp <;> omega)) _ | refine Below.drew ?_ | refine below_drewN ?_ _))
                have HRA := Lib.hid (HRk.out.below (hbA.mono hbs))
                have e0 := e0 (.cells #[.int .i64 (xa : Int), .int .i64 (xd : Int), .string (S xi)] 73)
                have e1 := e1 (.cells #[.int .i64 (xa : Int), .int .i64 (xd : Int), .string (S xi)] 73)
                have e2 := e2 (.cells #[.int .i64 (xa : Int), .int .i64 (xd : Int), .string (S xi)] 73)
                have c0' : (wr.alloc (.cells #[.int .i64 (xa : Int), .int .i64 (xd : Int), .string (S xi)] 73)).cell? ⟨wr.heap.size, 0, none⟩ = some (.int .i64 (xa : Int)) := by simp
                have c1' : (wr.alloc (.cells #[.int .i64 (xa : Int), .int .i64 (xd : Int), .string (S xi)] 73)).cell? ⟨wr.heap.size, 1, none⟩ = some (.int .i64 (xd : Int)) := by simp
                have c3' : (wr.alloc (.cells #[.int .i64 (xa : Int), .int .i64 (xd : Int), .string (S xi)] 73)).cell? ⟨wr.heap.size, 2, none⟩ = some (.string (S xi)) := by simp
                have hsA := hbA.size
                have hB12 := bthen hb hbA
                have hb12 := bthen hb' hbA
                generalize (wr.alloc (.cells #[.int .i64 (xa : Int), .int .i64 (xd : Int), .string (S xi)] 73)) = wa at *
                have hsB := hB12.size
                have e0r := cell_regrown e0; have e1r := cell_regrown e1; have e2r := cell_regrown e2
                have c0r := cell_regrown c0'; have c1r := cell_regrown c1'; have c3r := cell_regrown c3'
                refine wp_region_quiet_below (by kernel_rfl) (by kernel_rfl) ?_
                repeat (go_big_quiet_step ((go_at_call 76; exact Calls.regrown_of (grows_any lk (some ad) k c w.heap.size _ (HRA.out.below ((below_regrown _ _ _).mono hsB)) (Nat.le_trans hsB (below_regrown _ _ _).size) (by omega) HSMk.out))))
                refine wpQuiet_nil ?_
                intro w13 hb130
                have hb13 := below_of_regrown hb130
                clear hb130
                go_wp2_with fail
                go_roundw
                case rel => exact ⟨k + 1, by omega, by go_num, bthen hB12 hb13, bthen hb12 hb13⟩
                case measure => simp [intOf]; omega
              · go_wp2_with fail
                go_ret
                exact ⟨rfl, hb⟩
        · have k1 : (edErr s.size l != 0) = true := by simpa using hES
          have HAP : Hid (apOut s l = S []) := by unfold Hid apOut; rw [if_neg hES]
          have HUE : Hid (unErr s l = edErr s.size l) := by unfold Hid unErr; rw [if_neg hES]
          have hv := HV0.out (by rw [HUE.out]; exact hES)
          subst hv
          have hnil : (S []).toList = [] := ByteArray.toList_mk []
          clear hES
          rw [HAP.out, HUE.out]
          go_wp2_with fail
          go_ret
          exact ⟨ret_bool (by simp), hB8⟩
  · have g1 : (edErr n l == 0) = false := by simpa using hE
    have g2 : (edErr n l != 0) = true := by simpa using hE
    have HP : Hid (plErr n l at_ = edErr n l) := by unfold Hid plErr; rw [if_neg hE]
    have HO : Hid (plOut n l at_ = (0, false)) := by unfold Hid plOut; rw [HP.out, if_neg hE]
    clear hE
    rw [HP.out, HO.out]
    have hB7 := hB6; have hb27 := hb26
    clear hB6 hb26
    obtain ⟨w7, hw7⟩ : ∃ x, x = w6 := ⟨_, rfl⟩
    subst hw7
    go_wp2_with fail
    refine (editsErr_any s.size l A m c w.heap.size w7 (HR.out.below hB7) hB7.size hm).mono ?_
    rintro e w8 ⟨rfl, hb8⟩
    have hB8 := bthen hB7 hb8
    have hb28 := bthen hb27 hb8
    clear hB7 hb27 hb8
    by_cases hES : edErr s.size l = 0
    · have k1 : (edErr s.size l != 0) = false := by rw [hES]; rfl
      have HAP : Hid (apOut s l = S (edDone (L s) l)) := by unfold Hid apOut; rw [if_pos hES]
      have HUE : Hid (unErr s l = if bigDel l = true then 2 else 0) := by unfold Hid unErr; rw [if_pos hES]
      have HES := Lib.hid hES
      have hsz := (edErr_zero.1 hES).2.1
      have hl20 : m ≤ 20 := by rw [← HL.out]; exact (edErr_zero.1 hES).2.2.1
      have HM : Hid (∀ x ∈ l, 0 ≤ x.at_ ∧ 0 ≤ x.del ∧ x.at_ + x.del ≤ s.size ∧ x.ins.length ≤ 40) := fun x hx => by
        obtain ⟨a, b, c, d, _⟩ := (edErr_zero.1 hES).2.2.2.1.mem x hx; exact ⟨a, b, c, d⟩
      have HSM := Lib.hid (edErr_small hES)
      clear hES
      go_wp2_with fail
      refine (edDone_any s l A m c w.heap.size w8 (HR.out.below hB8) hB8.size HES.out).mono ?_
      rintro e w9 ⟨rfl, hb9⟩
      have hB9 := bthen hB8 hb9
      have hb29 := bthen hb28 hb9
      clear hB8 hb28 hb9
      rw [HAP.out]
      have k2 : ((S (edDone (L s) l)).toList != (S (edDone (L s) l)).toList) = false := by simp
      have HDZ : Hid ((S (edDone (L s) l)).size = (edDone (L s) l).length) := S_size _
      have HUR : Hid ((∀ x ∈ l, x.del ≤ 40) → edErr (edDone (L s) l).length (undoL (L s) l) = 0) := fun h => undo_right (by rw [L_len]; exact HES.out) h
      generalize edDone (L s) l = dn at *
      go_wp2_with fail
      refine (edBig_any l A m c w.heap.size w9 (HR.out.below hB9) hB9.size hm).mono ?_
      rintro e w10 ⟨rfl, hb10⟩
      have hB10 := bthen hB9 hb10
      have hb210 := bthen hb29 hb10
      clear hB9 hb29 hb10
      by_cases hbig : bigDel l = true
      · have HU2 : Hid (unErr s l = 2) := by unfold Hid; rw [HUE.out, if_pos hbig]
        have hv := HV0.out (by rw [HU2.out]; decide)
        subst hv
        rw [HU2.out]
        go_wp2_with fail
        go_ret
        exact ⟨ret_bool (by simp), hB10⟩
      · have hbig' : bigDel l = false := by simpa using hbig
        have HU0 : Hid (unErr s l = 0) := by unfold Hid; rw [HUE.out, if_neg hbig]
        have hown := HV1.out HU0.out
        obtain ⟨A2, c2, rfl, hn2, hm2, hrd2⟩ := own_form hown
        have HU := Lib.hid (hrd2.below hb210)
        have hul : (undoL (L s) l).length = m := by unfold undoL; rw [undoFrom_length, HL.out]
        have HUL := Lib.hid hul
        clear hown hrd2 hbig hul
        rw [HU0.out]
        have HEU := Lib.hid (HUR.out (fun x hx => by
          have := List.any_eq_false.1 hbig' x hx
          simp at this; omega))
        have k3 : (edErr (S dn).size (undoL (L s) l) != 0) = false := by rw [HDZ.out, HEU.out]; rfl
        clear HUR
        go_wp2_with fail
        refine (editsErr_any (S dn).size (undoL (L s) l) A2 m c2 w2.heap.size w10 HU.out hb210.size hm).mono ?_
        rintro e w11 ⟨rfl, hb11⟩
        have hB11 := bthen hB10 hb11
        have hb211 := bthen hb210 hb11
        have HU1 := Lib.hid (HU.out.below (hb11.mono hb210.size))
        clear HU hB10 hb210 hb11
        go_wp2_with fail
        go_loopw [151] (fun i wr => ∃ k : Nat, k ≤ m ∧ i = .int .i64 k ∧ Below w.heap.size w wr ∧ Below w11.heap.size w11 wr) (fun i _ => m - (intOf i).toNat)
        case atStart => exact ⟨0, Nat.zero_le _, rfl, hB11, Below.refl _ _⟩
        case round =>
          obtain ⟨k, hk, rfl, hb, hb'⟩ := hrel
          have hbs := hb.size
          have hbs' := hb'.size
          by_cases hlt : k < m
          · have HRb := Lib.hid (HR.out.below hb)
            have hz211 := hb211.size
            have HUb := Lib.hid (HU1.out.below (hb'.mono hz211))
            obtain ⟨ad, hl, rfl, hab, c0, c1, c2'⟩ := HRb.out.at_ed hlt
            obtain ⟨ud, hul, rfl, hub, d0, d1, d2⟩ := HUb.out.at_ed hlt
            obtain ⟨_, hug⟩ := undoL_get (s := s) hl
            rw [hug] at d0 d1 d2
            clear hug
            obtain ⟨b0, b1, b2, b3⟩ := HM.out l[k] (List.getElem_mem hl)
            have hgb := (HSM.out.take k).grows
            have hkl : (l.take k).length ≤ 20 := by rw [List.length_take]; omega
            obtain ⟨hg0, hg1⟩ := hgb
            have hg2 : -4000 ≤ grows (l.take k) := by omega
            have hg3 : grows (l.take k) ≤ 800 := by omega
            clear hg0 hg1
            have HSMk := Lib.hid (HSM.out.take k)
            have HRk := Lib.hid (HRb.out.take_ed hk)
            have hzs : (S l[k].ins).size = l[k].ins.length := S_size _
            generalize l.take k = lk at *
            generalize l[k] = x at *
            obtain ⟨xa, xd, xi⟩ := x
            simp only at c0 c1 c2' b0 b1 b2 b3 d0 d1 d2 hzs
            obtain ⟨xa, rfl⟩ := Int.eq_ofNat_of_zero_le b0
            obtain ⟨xd, rfl⟩ := Int.eq_ofNat_of_zero_le b1
            have hex : S (((L s).drop (xa : Int).toNat).take (xd : Int).toNat) = s.extract xa (xa + xd) := by
              rw [extract_S, Int.toNat_natCast, Int.toNat_natCast, Nat.add_sub_cancel_left]
            rw [hex] at d2
            rw [← hzs] at d1
            have q1 : (S xi).size ≤ 40 := by omega
            have q2 : xa + xd ≤ s.size := by omega
            clear hzs hex
            have hub2 : ud.block < wr.heap.size := by omega
            have e0 : ∀ o, (wr.alloc o).cell? (ud.add (k * 3)) = some (.int .i64 ((xa : Int) + grows lk)) := fun o => (World.cell?_alloc_lt wr o _ (by rw [blk_add]; omega)).trans d0
            have e1 : ∀ o, (wr.alloc o).cell? ⟨(ud.add (k * 3)).block, (ud.add (k * 3)).off + 1, none⟩ = some (.int .i64 ((S xi).size : Int)) := fun o => (World.cell?_alloc_lt wr o _ (by show (ud.add (k * 3)).block < _; rw [blk_add]; omega)).trans d1
            have e2 : ∀ o, (wr.alloc o).cell? ⟨(ud.add (k * 3)).block, (ud.add (k * 3)).off + 2, none⟩ = some (.string (s.extract xa (xa + xd))) := fun o => (World.cell?_alloc_lt wr o _ (by show (ud.add (k * 3)).block < _; rw [blk_add]; omega)).trans d2
            clear d0 d1 d2
            go_wp2_with fail
            have hbA : Below wr.heap.size wr (wr.alloc (.cells #[.int .i64 (xa : Int), .int .i64 (xd : Int), .string (S xi)] 73)) := (by repeat (first | exact Below.refl _ _ | assumption | refine Below.alloc ?_ (by first | exact Nat.le_refl _ | assumption | omega | (simp <;> omega)) _ | refine Below.setCell ?_ (by first | exact Nat.le_refl _ | assumption | omega | (simp <;> omega)) _ | refine Below.drew ?_ | refine below_drewN ?_ _))
            have HRA := Lib.hid (HRk.out.below (hbA.mono hbs))
            have e0 := e0 (.cells #[.int .i64 (xa : Int), .int .i64 (xd : Int), .string (S xi)] 73)
            have e1 := e1 (.cells #[.int .i64 (xa : Int), .int .i64 (xd : Int), .string (S xi)] 73)
            have e2 := e2 (.cells #[.int .i64 (xa : Int), .int .i64 (xd : Int), .string (S xi)] 73)
            have c0' : (wr.alloc (.cells #[.int .i64 (xa : Int), .int .i64 (xd : Int), .string (S xi)] 73)).cell? ⟨wr.heap.size, 0, none⟩ = some (.int .i64 (xa : Int)) := by simp
            have c1' : (wr.alloc (.cells #[.int .i64 (xa : Int), .int .i64 (xd : Int), .string (S xi)] 73)).cell? ⟨wr.heap.size, 1, none⟩ = some (.int .i64 (xd : Int)) := by simp
            have c3' : (wr.alloc (.cells #[.int .i64 (xa : Int), .int .i64 (xd : Int), .string (S xi)] 73)).cell? ⟨wr.heap.size, 2, none⟩ = some (.string (S xi)) := by simp
            have hsA := hbA.size
            have hB12 := bthen hb hbA
            have hb12 := bthen hb' hbA
            generalize (wr.alloc (.cells #[.int .i64 (xa : Int), .int .i64 (xd : Int), .string (S xi)] 73)) = wa at *
            have hsB := hB12.size
            have e0r := cell_regrown e0; have e1r := cell_regrown e1; have e2r := cell_regrown e2
            have c0r := cell_regrown c0'; have c1r := cell_regrown c1'; have c3r := cell_regrown c3'
            refine wp_region_quiet_below (by kernel_rfl) (by kernel_rfl) ?_
            repeat (go_big_quiet_step ((go_at_call 76; exact Calls.regrown_of (grows_any lk (some ad) k c w.heap.size _ (HRA.out.below ((below_regrown _ _ _).mono hsB)) (Nat.le_trans hsB (below_regrown _ _ _).size) (by omega) HSMk.out))))
            refine wpQuiet_nil ?_
            intro w13 hb130
            have hb13 := below_of_regrown hb130
            clear hb130
            go_wp2_with fail
            go_roundw
            case rel => exact ⟨k + 1, by omega, by go_num, bthen hB12 hb13, bthen hb12 hb13⟩
            case measure => simp [intOf]; omega
          · go_wp2_with fail
            go_ret
            exact ⟨rfl, hb⟩
    · have k1 : (edErr s.size l != 0) = true := by simpa using hES
      have HAP : Hid (apOut s l = S []) := by unfold Hid apOut; rw [if_neg hES]
      have HUE : Hid (unErr s l = edErr s.size l) := by unfold Hid unErr; rw [if_neg hES]
      have hv := HV0.out (by rw [HUE.out]; exact hES)
      subst hv
      have hnil : (S []).toList = [] := ByteArray.toList_mk []
      clear hES
      rw [HAP.out, HUE.out]
      go_wp2_with fail
      go_ret
      exact ⟨ret_bool (by simp), hB8⟩
end Go.Proofs.Ythnedhfjochfnaa
