/- The law UndoPlays, walked. -/
import Derived.Test.YthnedhfjochfnaaUndoK
import Derived.Test.YthnedhfjochfnaaOpenMv
import Derived.Test.YthnedhfjochfnaaLogT
namespace Go.Proofs.Ythnedhfjochfnaa
open Go.RowKit
theorem blk_chg {w w' : World} {g h : Nat} {t : TypeId} {cs : Array Value} {vB vO : Value} (hb : Blk w h t cs) (hc : Chg w w' (EdK g vB vO)) (h1 : g < h) (h2 : ∀ k, vB.ownBlock = some k → k < h) (h3 : ∀ k, vO.ownBlock = some k → k < h) : Blk w' h t cs :=
  (hc.block h hb.lt (fun e => by
    rcases e with e | e | e
    · omega
    · have := h2 _ e; omega
    · have := h3 _ e; omega)).trans hb
set_option maxRecDepth 100000 in
set_option maxHeartbeats 16000000 in
theorem undoPlays_any (t : ByteArray) (l : List Mv) (A : Option Addr) (n c : Nat) (w : World) (hr : Rd w w.heap.size 2 A n (mvCells l)) (hn : n ≤ 9223372036854775807) (hK : ∀ x ∈ l, MvOk w x) :
    Calls Try.prog 12 #[.string t, .slice A n c] w fun e w' => e = .returned (.bool true) ∧ Below w.heap.size w w' := by
  obtain ⟨i0, hi0, hz0, hz1, hz2⟩ := info_parts info_st
  have HRR := Lib.hid hr; clear hr
  have HK := Lib.hid hK; clear hK
  rcases Nat.lt_or_ge 200 t.size with ht | ht
  · have gt : decide ((200 : Int) < (t.size : Int)) = true := decide_eq_true (by omega)
    go_enter Try.func12, Try.ntmps12
    go_wp2_with fail
    refine (undoNew_large t ht w).mono ?_
    rintro e w1 ⟨rfl, rfl⟩
    go_wp2_with fail
    go_ret
    exact ⟨rfl, Below.refl _ _⟩
  have gt : decide ((200 : Int) < (t.size : Int)) = false := decide_eq_false (by omega)
  go_enter Try.func12, Try.ntmps12
  go_wp2_with fail
  refine (undoNew_any t ht w).mono ?_
  rintro e w1 ⟨rfl, hE1, hb1⟩
  have HE1 := Lib.hid hE1
  clear hE1
  have hz1' := HE1.out.blk.lt
  go_wp2_with fail
  refine (edText_any w.heap.size w.heap.size _ _ _ _ HE1.out).mono ?_
  rintro e w2 ⟨rfl, hb2⟩
  rw [show S (L t) = t from rfl]
  have HL0 : Hid (LawSt w2 w.heap.size w.heap.size ⟨L t, [], []⟩ (.slice none 0 0) (.slice none 0 0) [] (.slice none 0 0) [] (.slice none 0 0)) :=
    ⟨HE1.out.below hb2, OwnO.nil_, OwnO.nil_, Apart.none_left _, Apart.none_left _, Apart.none_left _, Apart.none_left _, Apart.none_left _⟩
  have hb0 := bthen hb1 hb2
  have HOK0 : Hid (EsOk ⟨L t, [], []⟩) := ⟨by show (L t).length ≤ 200; rw [L_len]; exact ht, fun x hx => absurd hx (by simp), fun x hx => absurd hx (by simp), by simp⟩
  clear HE1 hb1 hb2 hz1'
  go_wp2_with fail
  go_loopw [7, 8, 9, 47] (fun tx b o i wr => ∃ (k : Nat) (s : Es) (vB vO : Value), k ≤ n ∧ i = .int .i64 k ∧ tx = .string (S s.text) ∧ EsOk s ∧ LawSt wr w.heap.size w.heap.size s vB vO s.back b s.onward o ∧ Below w.heap.size w wr)
    (fun _ _ _ i _ => n - (intOf i).toNat)
  case atStart => exact ⟨0, ⟨L t, [], []⟩, _, _, Nat.zero_le _, rfl, rfl, HOK0.out, HL0.out, hb0⟩
  case round =>
    obtain ⟨k, s, vB, vO, hk, rfl, rfl, hok, hL, hb⟩ := hrel
    have HOK := Lib.hid hok
    have hbs := hb.size
    clear HL0 hb0 HOK0 hok
    by_cases hlt : k < n
    · obtain ⟨ad, hl, rfl, hab, z0, z1⟩ := (HRR.out.below hb).at_mv hlt
      obtain ⟨⟨hk0, hk1⟩, hxc, hxm, hrm⟩ := HK.out l[k] (List.getElem_mem hl)
      have HXL := Lib.hid (Rd.rec_len ed_len (by omega) hrm)
      have HRM := Lib.hid hrm
      clear hrm
      generalize l[k] = x at *
      obtain ⟨xk, xA, xm, xc, xl⟩ := x
      simp only at z0 z1 hk0 hk1 hxc hxm
      have HXL' : Hid (xl.length = xm) := HXL
      have HRM' : Hid (Rd w w.heap.size 3 xA xm (edCells xl)) := HRM
      clear HXL HRM
      have HXL := HXL'
      have HRM := HRM'
      clear HXL' HRM'
      obtain ⟨st, sb, so⟩ := s
      simp only at hL
      obtain ⟨Ab, cb, rfl, hncb, hcmb, _⟩ := hL.b.form
      obtain ⟨Ao, co, rfl, hnco, hcmo, _⟩ := hL.o.form
      have HL := Lib.hid hL
      clear hL
      by_cases hm : xk % 3 = 0
      · by_cases hde : doE ⟨st, sb, so⟩ xl = 0
        · by_cases h30 : 30 < sb.length + 1
          · have g0 : ((xk % 3) == 0) = true := by rw [hm]; rfl
            clear hm
            have he30 : sb.length = 30 := by have := HOK.out.n; simp only at this; omega
            rw [he30] at HL hncb ⊢
            have E30 := Lib.hid he30
            clear h30
            have HDS : Hid (doS ⟨st, sb, so⟩ xl = ⟨edDone st xl, (sb ++ [st]).drop (sb.length + 1 - 30), []⟩) := by unfold Hid doS; rw [if_pos hde]
            have HOKD : Hid (EsOk (doS ⟨st, sb, so⟩ xl)) := HOK.out.do_ xl
            have hnn := HOK.out.n
            have heL : edErr st.length xl = 0 ∧ ¬ xm = 0 := by
              unfold doE at hde
              by_cases he : edErr st.length xl = 0
              · rw [if_pos he] at hde
                refine ⟨he, fun hl => ?_⟩
                rw [if_pos (by have := HXL.out; omega)] at hde; cases hde
              · rw [if_neg he] at hde; exact absurd hde he
            obtain ⟨he, hxm0⟩ := heL
            have HEE : Hid (edErr (S st).size xl = 0) := by unfold Hid; rw [S_size]; exact he
            clear he
            have HDE := Lib.hid hde
            clear hde
            have g2 : ((xm : Int) == 0) = false := by rw [beq_eq_false_iff_ne]; omega
            simp only at hnn
            rw [E30.out] at hnn
            clear he30
            have HA0 : Hid (Blk (wr.alloc (.cells #[.int .i64 xk, .slice xA xm xc] 102)) wr.heap.size 102 #[.int .i64 xk, .slice xA xm xc]) := Blk.new_ _ _ _
            have hbA : Below wr.heap.size wr (wr.alloc (.cells #[.int .i64 xk, .slice xA xm xc] 102)) := (by repeat (first | exact Below.refl _ _ | assumption | refine Below.alloc ?_ (by first | exact Nat.le_refl _ | assumption | omega | (simp <;> omega)) _ | refine Below.setCell ?_ (by first | exact Nat.le_refl _ | assumption | omega | (simp <;> omega)) _ | refine Below.drew ?_ | refine below_drewN ?_ _))
            have hgg : w.heap.size < wr.heap.size := HL.out.ed.blk.lt
            have HNB : Hid (∀ k, vB.ownBlock = some k → k < wr.heap.size) := fun k hk => (HL.out.ed.b.lt k hk).2
            have HNO : Hid (∀ k, vO.ownBlock = some k → k < wr.heap.size) := fun k hk => (HL.out.ed.o.lt k hk).2
            go_wp2_with fail
            refine (rest3_any xk hk0 hk1 _).mono ?_
            rintro e w2 ⟨rfl, hb2⟩
            have hb2' := bthen hbA hb2
            have HL2 : Hid (LawSt w2 w.heap.size w.heap.size ⟨st, sb, so⟩ vB vO sb (.slice Ab 30 cb) so (.slice Ao so.length co)) := HL.out.below hb2'
            have HA2 : Hid (Blk w2 wr.heap.size 102 #[.int .i64 xk, .slice xA xm xc]) := HA0.out.below' hb2
            have hB2 := bthen hb hb2'
            have hsw2 := hB2.size
            generalize wr.heap.size = ga at *
            clear hb2' hbA hb2 HA0 HL hb z0 z1
            have q0 := Blk.cell0 HA2.out; have q1 := Blk.cell1 HA2.out
            go_wp2_with fail
            refine (edDoS w.heap.size w.heap.size ⟨st, sb, so⟩ vB vO w2 HL2.out.ed hB2.size HOK.out xl xA xm xc w.heap.size (HRM.out.below hB2) hB2.size hxm HDE.out).mono ?_
            rintro e w3 ⟨rfl, vB3, vO3, hE3, hC3, fB3, fO3⟩
            have HL3 := Lib.hid (HL2.out.step hE3 hC3 fB3 fO3)
            rw [HDS.out] at HL3 HOKD
            have HA3 := Lib.hid (blk_chg HA2.out hC3 hgg HNB.out HNO.out)
            have hB3 := hB2.trans (HL2.out.bel hC3 hB2.size)
            clear HL2 HA2 hB2 hE3 hC3 fB3 fO3 q0 q1
            have q0 := Blk.cell0 HA3.out; have q1 := Blk.cell1 HA3.out
            have hsw3 := hB3.size
            go_wp2_with fail
            refine (editsErr_any ((S st).size : Int) xl xA xm xc w.heap.size w3 (HRM.out.below hB3) hB3.size hxm).mono ?_
            rintro e w4 ⟨rfl, hb4⟩
            have HL4 := Lib.hid (HL3.out.below hb4)
            have HA4 := Lib.hid (HA3.out.below' hb4)
            have hB4 := bthen hB3 hb4
            clear HL3 HA3 hB3 hb4 q0 q1
            have q0 := Blk.cell0 HA4.out; have q1 := Blk.cell1 HA4.out
            have hsw4 := hB4.size
            rw [HEE.out]
            have hO1 : ∀ o, OwnO (w4.alloc o) w.heap.size 9 1 (.slice Ab 30 cb) 30 (strCells sb) := fun o => (by have h1 := HL4.out.b; rw [E30.out] at h1; exact h1.below (by repeat (first | exact Below.refl _ _ | assumption | refine Below.alloc ?_ (by first | exact Nat.le_refl _ | assumption | omega | (simp <;> omega)) _ | refine Below.setCell ?_ (by first | exact Nat.le_refl _ | assumption | omega | (simp <;> omega)) _ | refine Below.drew ?_ | refine below_drewN ?_ _)))
            have hnw : ∀ j u, [Value.string (S st)][j]? = some u → (w4.alloc (.cells #[.string (S st)] 9)).cell? (Addr.add ⟨w4.heap.size, 0, none⟩ j) = some u := fun j u hj => cells_new w4 #[.string (S st)] 9 j u hj
            have HL4' : Hid (LawSt (w4.alloc (.cells #[.string (S st)] 9)) w.heap.size w.heap.size ⟨edDone st xl, (sb ++ [st]).drop (sb.length + 1 - 30), []⟩ vB3 vO3 sb (.slice Ab 30 cb) so (.slice Ao so.length co)) := HL4.out.below (by repeat (first | exact Below.refl _ _ | assumption | refine Below.alloc ?_ (by first | exact Nat.le_refl _ | assumption | omega | (simp <;> omega)) _ | refine Below.setCell ?_ (by first | exact Nat.le_refl _ | assumption | omega | (simp <;> omega)) _ | refine Below.drew ?_ | refine below_drewN ?_ _))
            have HA4' : Hid (Blk (w4.alloc (.cells #[.string (S st)] 9)) ga 102 #[.int .i64 xk, .slice xA xm xc]) := HA4.out.alloc _
            have hB4' : Below w.heap.size w (w4.alloc (.cells #[.string (S st)] 9)) := (by repeat (first | exact Below.refl _ _ | assumption | refine Below.alloc ?_ (by first | exact Nat.le_refl _ | assumption | omega | (simp <;> omega)) _ | refine Below.setCell ?_ (by first | exact Nat.le_refl _ | assumption | omega | (simp <;> omega)) _ | refine Below.drew ?_ | refine below_drewN ?_ _))
            have hgn := ne_some (HL4.out.b.ne_blk HA4.out (by decide))
            go_wp2_with (at_builtin; go_must (refine wpList_appO rfl _ _ _ rfl w.heap.size 9 i0 _ 1 16 Try.underlying33 hi0 hz0 hz1 hz2 rfl (by omega) _ 30 (strCells sb) rfl (hO1 _) ⟨w4.heap.size, 0, none⟩ 1 1 [.string (S st)] rfl rfl hnw (by simp [Value.oneCell']) (by omega) (by omega) (by simp; omega) ?_); intro v6 w6 hown6 hg6 hb6 ha6; obtain ⟨A6, c6, rfl, hnc6, hcm6, hrd6⟩ := OwnO.form hown6; obtain ⟨ad6, rfl, hab6, _⟩ := hrd6.2 (by omega); have q1 := Blk.cell1 (HA4'.out.grown hg6 hgn))
            have HL6 := Lib.hid ((HL4'.out.apb (x := st) hg6 (by rw [E30.out]; first | exact hown6 | simpa using hown6) ha6).nilo)
            have HA6 := Lib.hid (HA4'.out.grown hg6 hgn)
            have hB6 := Lib.hid (hB4'.trans hb6)
            clear HL4' HA4' hB4' hb6 hg6 ha6 hown6 hgn hO1 hnw HL4 HA4 hB4 hrd6 hab6
            have hsw6 := hB6.out.size
            clear q0 q1
            have e30 : sb.length + 1 - 30 = 1 := by rw [E30.out]
            rw [e30] at HL6 HOKD
            have HL6' := Lib.hid (HL6.out.newb (l' := (sb ++ [st]).drop 1) (v6 := .slice (some (ad6.add 1)) 30 (c6 - 1)) (by
              have h1 := back_own (k := 1) HL6.out.b (by rw [List.length_append, E30.out]; rfl) (by omega) (by simp)
              rw [if_neg (by omega)] at h1
              exact h1) (by simp [Value.ownBlock, blk_add]))
            have HLN : Hid (((sb ++ [st]).drop 1).length = 30) := by unfold Hid; simp [E30.out]
            generalize (sb ++ [st]).drop 1 = sb7 at *
            clear HL6
            refine (edDone_any (S st) xl xA xm xc w.heap.size w6 (HRM.out.below hB6.out) hB6.out.size HEE.out).mono ?_
            rintro e w7 ⟨rfl, hb7⟩
            rw [L_S]
            have HL7 : Hid (LawSt w7 w.heap.size w.heap.size ⟨edDone st xl, sb7, []⟩ vB3 vO3 sb7 (.slice (some (ad6.add 1)) 30 (c6 - 1)) [] (.slice none 0 0)) := HL6'.out.below hb7
            have hB7 : Below w.heap.size w w7 := bthen hB6.out hb7
            have HOK7 : Hid (EsOk ⟨edDone st xl, sb7, []⟩) := HOKD.out
            have HNB7 : Hid ((sb7 : List (List UInt8)).length = 30) := HLN.out
            have HNO7 : Hid (([] : List (List UInt8)).length = 0) := rfl
            clear HL6' HOKD hB6 HA6 hb7
            generalize edDone st xl = tx7 at *
            have hbs7 := hB7.size
            have HOKK := HOK7
            go_wp2_with fail
            refine (edSteps_any w.heap.size w.heap.size _ _ _ _ HL7.out.ed).mono ?_
            rintro e w8 ⟨rfl, hb8⟩
            have HL8 := Lib.hid (HL7.out.below hb8)
            have hB8 := bthen hB7 hb8
            clear HL7 hB7 hb8
            simp only
            try rw [HNB7.out]
            try rw [HNO7.out]
            go_wp2_with fail
            refine (edText_any w.heap.size w.heap.size _ _ _ _ HL8.out.ed).mono ?_
            rintro e w9 ⟨rfl, hb9⟩
            have HL9 := Lib.hid (HL8.out.below hb9)
            have hB9 := bthen hB8 hb9
            clear HL8 hB8 hb9
            go_wp2_with fail
            go_roundw
            case rel => exact ⟨k + 1, ⟨tx7, sb7, []⟩, vB3, vO3, by omega, by go_num, rfl, HOK7.out, HL9.out, hB9⟩
            case measure => simp [intOf]; omega
          · have g0 : ((xk % 3) == 0) = true := by rw [hm]; rfl
            clear hm
            have HDS : Hid (doS ⟨st, sb, so⟩ xl = ⟨edDone st xl, (sb ++ [st]).drop (sb.length + 1 - 30), []⟩) := by unfold Hid doS; rw [if_pos hde]
            have HOKD : Hid (EsOk (doS ⟨st, sb, so⟩ xl)) := HOK.out.do_ xl
            have hnn := HOK.out.n
            have heL : edErr st.length xl = 0 ∧ ¬ xm = 0 := by
              unfold doE at hde
              by_cases he : edErr st.length xl = 0
              · rw [if_pos he] at hde
                refine ⟨he, fun hl => ?_⟩
                rw [if_pos (by have := HXL.out; omega)] at hde; cases hde
              · rw [if_neg he] at hde; exact absurd hde he
            obtain ⟨he, hxm0⟩ := heL
            have HEE : Hid (edErr (S st).size xl = 0) := by unfold Hid; rw [S_size]; exact he
            clear he
            have HDE := Lib.hid hde
            clear hde
            have g2 : ((xm : Int) == 0) = false := by rw [beq_eq_false_iff_ne]; omega
            simp only at hnn
            have HA0 : Hid (Blk (wr.alloc (.cells #[.int .i64 xk, .slice xA xm xc] 102)) wr.heap.size 102 #[.int .i64 xk, .slice xA xm xc]) := Blk.new_ _ _ _
            have hbA : Below wr.heap.size wr (wr.alloc (.cells #[.int .i64 xk, .slice xA xm xc] 102)) := (by repeat (first | exact Below.refl _ _ | assumption | refine Below.alloc ?_ (by first | exact Nat.le_refl _ | assumption | omega | (simp <;> omega)) _ | refine Below.setCell ?_ (by first | exact Nat.le_refl _ | assumption | omega | (simp <;> omega)) _ | refine Below.drew ?_ | refine below_drewN ?_ _))
            have hgg : w.heap.size < wr.heap.size := HL.out.ed.blk.lt
            have HNB : Hid (∀ k, vB.ownBlock = some k → k < wr.heap.size) := fun k hk => (HL.out.ed.b.lt k hk).2
            have HNO : Hid (∀ k, vO.ownBlock = some k → k < wr.heap.size) := fun k hk => (HL.out.ed.o.lt k hk).2
            go_wp2_with fail
            refine (rest3_any xk hk0 hk1 _).mono ?_
            rintro e w2 ⟨rfl, hb2⟩
            have hb2' := bthen hbA hb2
            have HL2 : Hid (LawSt w2 w.heap.size w.heap.size ⟨st, sb, so⟩ vB vO sb (.slice Ab sb.length cb) so (.slice Ao so.length co)) := HL.out.below hb2'
            have HA2 : Hid (Blk w2 wr.heap.size 102 #[.int .i64 xk, .slice xA xm xc]) := HA0.out.below' hb2
            have hB2 := bthen hb hb2'
            have hsw2 := hB2.size
            generalize wr.heap.size = ga at *
            clear hb2' hbA hb2 HA0 HL hb z0 z1
            have q0 := Blk.cell0 HA2.out; have q1 := Blk.cell1 HA2.out
            go_wp2_with fail
            refine (edDoS w.heap.size w.heap.size ⟨st, sb, so⟩ vB vO w2 HL2.out.ed hB2.size HOK.out xl xA xm xc w.heap.size (HRM.out.below hB2) hB2.size hxm HDE.out).mono ?_
            rintro e w3 ⟨rfl, vB3, vO3, hE3, hC3, fB3, fO3⟩
            have HL3 := Lib.hid (HL2.out.step hE3 hC3 fB3 fO3)
            rw [HDS.out] at HL3 HOKD
            have HA3 := Lib.hid (blk_chg HA2.out hC3 hgg HNB.out HNO.out)
            have hB3 := hB2.trans (HL2.out.bel hC3 hB2.size)
            clear HL2 HA2 hB2 hE3 hC3 fB3 fO3 q0 q1
            have q0 := Blk.cell0 HA3.out; have q1 := Blk.cell1 HA3.out
            have hsw3 := hB3.size
            go_wp2_with fail
            refine (editsErr_any ((S st).size : Int) xl xA xm xc w.heap.size w3 (HRM.out.below hB3) hB3.size hxm).mono ?_
            rintro e w4 ⟨rfl, hb4⟩
            have HL4 := Lib.hid (HL3.out.below hb4)
            have HA4 := Lib.hid (HA3.out.below' hb4)
            have hB4 := bthen hB3 hb4
            clear HL3 HA3 hB3 hb4 q0 q1
            have q0 := Blk.cell0 HA4.out; have q1 := Blk.cell1 HA4.out
            have hsw4 := hB4.size
            rw [HEE.out]
            have hO1 : ∀ o, OwnO (w4.alloc o) w.heap.size 9 1 (.slice Ab sb.length cb) sb.length (strCells sb) := fun o => HL4.out.b.below (by repeat (first | exact Below.refl _ _ | assumption | refine Below.alloc ?_ (by first | exact Nat.le_refl _ | assumption | omega | (simp <;> omega)) _ | refine Below.setCell ?_ (by first | exact Nat.le_refl _ | assumption | omega | (simp <;> omega)) _ | refine Below.drew ?_ | refine below_drewN ?_ _))
            have hnw : ∀ j u, [Value.string (S st)][j]? = some u → (w4.alloc (.cells #[.string (S st)] 9)).cell? (Addr.add ⟨w4.heap.size, 0, none⟩ j) = some u := fun j u hj => cells_new w4 #[.string (S st)] 9 j u hj
            have HL4' : Hid (LawSt (w4.alloc (.cells #[.string (S st)] 9)) w.heap.size w.heap.size ⟨edDone st xl, (sb ++ [st]).drop (sb.length + 1 - 30), []⟩ vB3 vO3 sb (.slice Ab sb.length cb) so (.slice Ao so.length co)) := HL4.out.below (by repeat (first | exact Below.refl _ _ | assumption | refine Below.alloc ?_ (by first | exact Nat.le_refl _ | assumption | omega | (simp <;> omega)) _ | refine Below.setCell ?_ (by first | exact Nat.le_refl _ | assumption | omega | (simp <;> omega)) _ | refine Below.drew ?_ | refine below_drewN ?_ _))
            have HA4' : Hid (Blk (w4.alloc (.cells #[.string (S st)] 9)) ga 102 #[.int .i64 xk, .slice xA xm xc]) := HA4.out.alloc _
            have hB4' : Below w.heap.size w (w4.alloc (.cells #[.string (S st)] 9)) := (by repeat (first | exact Below.refl _ _ | assumption | refine Below.alloc ?_ (by first | exact Nat.le_refl _ | assumption | omega | (simp <;> omega)) _ | refine Below.setCell ?_ (by first | exact Nat.le_refl _ | assumption | omega | (simp <;> omega)) _ | refine Below.drew ?_ | refine below_drewN ?_ _))
            have hgn := ne_some (HL4.out.b.ne_blk HA4.out (by decide))
            go_wp2_with (at_builtin; go_must (refine wpList_appO rfl _ _ _ rfl w.heap.size 9 i0 _ 1 16 Try.underlying33 hi0 hz0 hz1 hz2 rfl (by omega) _ sb.length (strCells sb) rfl (hO1 _) ⟨w4.heap.size, 0, none⟩ 1 1 [.string (S st)] rfl rfl hnw (by simp [Value.oneCell']) (by omega) (by omega) (by simp; omega) ?_); intro v6 w6 hown6 hg6 hb6 ha6; obtain ⟨A6, c6, rfl, hnc6, hcm6, hrd6⟩ := OwnO.form hown6; obtain ⟨ad6, rfl, hab6, _⟩ := hrd6.2 (by omega); have q1 := Blk.cell1 (HA4'.out.grown hg6 hgn))
            have HL6 := Lib.hid ((HL4'.out.apb (x := st) hg6 (by first | exact hown6 | simpa using hown6) ha6).nilo)
            have HA6 := Lib.hid (HA4'.out.grown hg6 hgn)
            have hB6 := Lib.hid (hB4'.trans hb6)
            clear HL4' HA4' hB4' hb6 hg6 ha6 hown6 hgn hO1 hnw HL4 HA4 hB4 hrd6 hab6
            have hsw6 := hB6.out.size
            clear q0 q1
            have e30 : sb.length + 1 - 30 = 0 := by omega
            rw [e30, List.drop_zero] at HL6 HOKD
            have HL6' := HL6
            have HLN : Hid ((sb ++ [st]).length = sb.length + 1) := by unfold Hid; simp
            generalize sb ++ [st] = sb7 at *
            clear HL6
            refine (edDone_any (S st) xl xA xm xc w.heap.size w6 (HRM.out.below hB6.out) hB6.out.size HEE.out).mono ?_
            rintro e w7 ⟨rfl, hb7⟩
            rw [L_S]
            have HL7 : Hid (LawSt w7 w.heap.size w.heap.size ⟨edDone st xl, sb7, []⟩ vB3 vO3 sb7 (.slice (some ad6) (sb.length + 1) c6) [] (.slice none 0 0)) := HL6'.out.below hb7
            have hB7 : Below w.heap.size w w7 := bthen hB6.out hb7
            have HOK7 : Hid (EsOk ⟨edDone st xl, sb7, []⟩) := HOKD.out
            have HNB7 : Hid ((sb7 : List (List UInt8)).length = sb.length + 1) := HLN.out
            have HNO7 : Hid (([] : List (List UInt8)).length = 0) := rfl
            clear HL6' HOKD hB6 HA6 hb7
            generalize edDone st xl = tx7 at *
            have hbs7 := hB7.size
            have HOKK := HOK7
            go_wp2_with fail
            refine (edSteps_any w.heap.size w.heap.size _ _ _ _ HL7.out.ed).mono ?_
            rintro e w8 ⟨rfl, hb8⟩
            have HL8 := Lib.hid (HL7.out.below hb8)
            have hB8 := bthen hB7 hb8
            clear HL7 hB7 hb8
            simp only
            try rw [HNB7.out]
            try rw [HNO7.out]
            go_wp2_with fail
            refine (edText_any w.heap.size w.heap.size _ _ _ _ HL8.out.ed).mono ?_
            rintro e w9 ⟨rfl, hb9⟩
            have HL9 := Lib.hid (HL8.out.below hb9)
            have hB9 := bthen hB8 hb9
            clear HL8 hB8 hb9
            go_wp2_with fail
            go_roundw
            case rel => exact ⟨k + 1, ⟨tx7, sb7, []⟩, vB3, vO3, by omega, by go_num, rfl, HOK7.out, HL9.out, hB9⟩
            case measure => simp [intOf]; omega
        · have g0 : ((xk % 3) == 0) = true := by rw [hm]; rfl
          clear hm
          have HA0 : Hid (Blk (wr.alloc (.cells #[.int .i64 xk, .slice xA xm xc] 102)) wr.heap.size 102 #[.int .i64 xk, .slice xA xm xc]) := Blk.new_ _ _ _
          have hbA : Below wr.heap.size wr (wr.alloc (.cells #[.int .i64 xk, .slice xA xm xc] 102)) := (by repeat (first | exact Below.refl _ _ | assumption | refine Below.alloc ?_ (by first | exact Nat.le_refl _ | assumption | omega | (simp <;> omega)) _ | refine Below.setCell ?_ (by first | exact Nat.le_refl _ | assumption | omega | (simp <;> omega)) _ | refine Below.drew ?_ | refine below_drewN ?_ _))
          have hgg : w.heap.size < wr.heap.size := HL.out.ed.blk.lt
          have HNB : Hid (∀ k, vB.ownBlock = some k → k < wr.heap.size) := fun k hk => (HL.out.ed.b.lt k hk).2
          have HNO : Hid (∀ k, vO.ownBlock = some k → k < wr.heap.size) := fun k hk => (HL.out.ed.o.lt k hk).2
          go_wp2_with fail
          refine (rest3_any xk hk0 hk1 _).mono ?_
          rintro e w2 ⟨rfl, hb2⟩
          have hb2' := bthen hbA hb2
          have HL2 : Hid (LawSt w2 w.heap.size w.heap.size ⟨st, sb, so⟩ vB vO sb (.slice Ab sb.length cb) so (.slice Ao so.length co)) := HL.out.below hb2'
          have HA2 : Hid (Blk w2 wr.heap.size 102 #[.int .i64 xk, .slice xA xm xc]) := HA0.out.below' hb2
          have hB2 := bthen hb hb2'
          have hsw2 := hB2.size
          generalize wr.heap.size = ga at *
          clear hb2' hbA hb2 HA0 HL hb z0 z1
          have q0 := Blk.cell0 HA2.out; have q1 := Blk.cell1 HA2.out
          go_wp2_with fail
          refine (edDo_bad w.heap.size w.heap.size ⟨st, sb, so⟩ vB vO w2 HL2.out.ed xl xA xm xc w.heap.size (HRM.out.below hB2) hB2.size hxm (HOK.out).t hde).mono ?_
          rintro e w3 ⟨rfl, hb3⟩
          have HL3 := Lib.hid (HL2.out.below hb3)
          have HA3 := Lib.hid (HA2.out.below' hb3)
          have hB3 := bthen hB2 hb3
          clear HL2 HA2 hB2 hb3 q0 q1
          have q0 := Blk.cell0 HA3.out; have q1 := Blk.cell1 HA3.out
          have hsw3 := hB3.size
          go_wp2_with fail
          refine (editsErr_any ((S st).size : Int) xl xA xm xc w.heap.size w3 (HRM.out.below hB3) hB3.size hxm).mono ?_
          rintro e w4 ⟨rfl, hb4⟩
          have HL4 := Lib.hid (HL3.out.below hb4)
          have HA4 := Lib.hid (HA3.out.below' hb4)
          have hB4 := bthen hB3 hb4
          clear HL3 HA3 hB3 hb4 q0 q1
          have q0 := Blk.cell0 HA4.out; have q1 := Blk.cell1 HA4.out
          have hsw4 := hB4.size
          rw [S_size]
          by_cases he : edErr st.length xl = 0
          · have h5 : doE ⟨st, sb, so⟩ xl = 5 ∧ xm = 0 := by
              unfold doE at hde ⊢
              rw [if_pos he] at hde ⊢
              by_cases hl : xl.length = 0
              · rw [if_pos hl]; exact ⟨rfl, by have := HXL.out; omega⟩
              · rw [if_neg hl] at hde; exact absurd rfl hde
            have g2 : ((xm : Int) == 0) = true := by rw [h5.2]; rfl
            rw [h5.1, he]
            clear he hde h5
            go_wp2_with fail
            have HL7 : Hid (LawSt w4 w.heap.size w.heap.size ⟨st, sb, so⟩ vB vO sb (.slice Ab sb.length cb) so (.slice Ao so.length co)) := HL4.out
            have hB7 : Below w.heap.size w w4 := hB4
            have HOK7 : Hid (EsOk ⟨st, sb, so⟩) := HOK.out
            have HNB7 : Hid ((sb : List (List UInt8)).length = sb.length) := rfl
            have HNO7 : Hid ((so : List (List UInt8)).length = so.length) := rfl
            clear HL4 hB4 HA4 q0 q1
            have hbs7 := hB7.size
            have HOKK := HOK7
            go_wp2_with fail
            refine (edSteps_any w.heap.size w.heap.size _ _ _ _ HL7.out.ed).mono ?_
            rintro e w8 ⟨rfl, hb8⟩
            have HL8 := Lib.hid (HL7.out.below hb8)
            have hB8 := bthen hB7 hb8
            clear HL7 hB7 hb8
            simp only
            try rw [HNB7.out]
            try rw [HNO7.out]
            go_wp2_with fail
            refine (edText_any w.heap.size w.heap.size _ _ _ _ HL8.out.ed).mono ?_
            rintro e w9 ⟨rfl, hb9⟩
            have HL9 := Lib.hid (HL8.out.below hb9)
            have hB9 := bthen hB8 hb9
            clear HL8 hB8 hb9
            go_wp2_with fail
            go_roundw
            case rel => exact ⟨k + 1, ⟨st, sb, so⟩, vB, vO, by omega, by go_num, rfl, HOK7.out, HL9.out, hB9⟩
            case measure => simp [intOf]; omega
          · have h5 : doE ⟨st, sb, so⟩ xl = edErr st.length xl := by unfold doE; rw [if_neg he]
            have g2 : (edErr st.length xl == 0) = false := by rw [beq_eq_false_iff_ne]; exact he
            rw [h5]
            clear he hde h5
            generalize edErr st.length xl = ee at *
            go_wp2_with fail
            have HL7 : Hid (LawSt w4 w.heap.size w.heap.size ⟨st, sb, so⟩ vB vO sb (.slice Ab sb.length cb) so (.slice Ao so.length co)) := HL4.out
            have hB7 : Below w.heap.size w w4 := hB4
            have HOK7 : Hid (EsOk ⟨st, sb, so⟩) := HOK.out
            have HNB7 : Hid ((sb : List (List UInt8)).length = sb.length) := rfl
            have HNO7 : Hid ((so : List (List UInt8)).length = so.length) := rfl
            clear HL4 hB4 HA4 q0 q1
            have hbs7 := hB7.size
            have HOKK := HOK7
            go_wp2_with fail
            refine (edSteps_any w.heap.size w.heap.size _ _ _ _ HL7.out.ed).mono ?_
            rintro e w8 ⟨rfl, hb8⟩
            have HL8 := Lib.hid (HL7.out.below hb8)
            have hB8 := bthen hB7 hb8
            clear HL7 hB7 hb8
            simp only
            try rw [HNB7.out]
            try rw [HNO7.out]
            go_wp2_with fail
            refine (edText_any w.heap.size w.heap.size _ _ _ _ HL8.out.ed).mono ?_
            rintro e w9 ⟨rfl, hb9⟩
            have HL9 := Lib.hid (HL8.out.below hb9)
            have hB9 := bthen hB8 hb9
            clear HL8 hB8 hb9
            go_wp2_with fail
            go_roundw
            case rel => exact ⟨k + 1, ⟨st, sb, so⟩, vB, vO, by omega, by go_num, rfl, HOK7.out, HL9.out, hB9⟩
            case measure => simp [intOf]; omega
      · have hm0 := hm
        clear hm
        by_cases hm : xk % 3 = 1
        · clear hm0
          by_cases hu : sb.length = 0
          · have g0 : ((xk % 3) == 0) = false := by rw [hm]; rfl
            have g1 : ((xk % 3) == 1) = true := by rw [hm]; rfl
            clear hm
            obtain rfl : sb = [] := List.eq_nil_of_length_eq_zero hu
            rw [show ([] : List (List UInt8)).length = 0 from rfl] at HL
            have HA0 : Hid (Blk (wr.alloc (.cells #[.int .i64 xk, .slice xA xm xc] 102)) wr.heap.size 102 #[.int .i64 xk, .slice xA xm xc]) := Blk.new_ _ _ _
            have hbA : Below wr.heap.size wr (wr.alloc (.cells #[.int .i64 xk, .slice xA xm xc] 102)) := (by repeat (first | exact Below.refl _ _ | assumption | refine Below.alloc ?_ (by first | exact Nat.le_refl _ | assumption | omega | (simp <;> omega)) _ | refine Below.setCell ?_ (by first | exact Nat.le_refl _ | assumption | omega | (simp <;> omega)) _ | refine Below.drew ?_ | refine below_drewN ?_ _))
            have hgg : w.heap.size < wr.heap.size := HL.out.ed.blk.lt
            have HNB : Hid (∀ k, vB.ownBlock = some k → k < wr.heap.size) := fun k hk => (HL.out.ed.b.lt k hk).2
            have HNO : Hid (∀ k, vO.ownBlock = some k → k < wr.heap.size) := fun k hk => (HL.out.ed.o.lt k hk).2
            go_wp2_with fail
            refine (rest3_any xk hk0 hk1 _).mono ?_
            rintro e w2 ⟨rfl, hb2⟩
            have hb2' := bthen hbA hb2
            have HL2 : Hid (LawSt w2 w.heap.size w.heap.size ⟨st, [], so⟩ vB vO [] (.slice Ab 0 cb) so (.slice Ao so.length co)) := HL.out.below hb2'
            have HA2 : Hid (Blk w2 wr.heap.size 102 #[.int .i64 xk, .slice xA xm xc]) := HA0.out.below' hb2
            have hB2 := bthen hb hb2'
            have hsw2 := hB2.size
            generalize wr.heap.size = ga at *
            clear hb2' hbA hb2 HA0 HL hb z0 z1
            have q0 := Blk.cell0 HA2.out; have q1 := Blk.cell1 HA2.out
            go_wp2_with fail
            refine (edUndo4 w.heap.size w.heap.size ⟨st, [], so⟩ vB vO w2 HL2.out.ed hu).mono ?_
            rintro e w3 ⟨rfl, hb3⟩
            clear hu
            have HL7 : Hid (LawSt w3 w.heap.size w.heap.size ⟨st, [], so⟩ vB vO [] (.slice Ab 0 cb) so (.slice Ao so.length co)) := HL2.out.below hb3
            have hB7 : Below w.heap.size w w3 := bthen hB2 hb3
            have HOK7 : Hid (EsOk ⟨st, [], so⟩) := HOK.out
            have HNB7 : Hid (([] : List (List UInt8)).length = 0) := rfl
            have HNO7 : Hid ((so : List (List UInt8)).length = so.length) := rfl
            clear HL2 hB2 HA2 q0 q1 hb3
            have hbs7 := hB7.size
            have HOKK := HOK7
            go_wp2_with fail
            refine (edSteps_any w.heap.size w.heap.size _ _ _ _ HL7.out.ed).mono ?_
            rintro e w8 ⟨rfl, hb8⟩
            have HL8 := Lib.hid (HL7.out.below hb8)
            have hB8 := bthen hB7 hb8
            clear HL7 hB7 hb8
            simp only
            try rw [HNB7.out]
            try rw [HNO7.out]
            go_wp2_with fail
            refine (edText_any w.heap.size w.heap.size _ _ _ _ HL8.out.ed).mono ?_
            rintro e w9 ⟨rfl, hb9⟩
            have HL9 := Lib.hid (HL8.out.below hb9)
            have hB9 := bthen hB8 hb9
            clear HL8 hB8 hb9
            go_wp2_with fail
            go_roundw
            case rel => exact ⟨k + 1, ⟨st, [], so⟩, vB, vO, by omega, by go_num, rfl, HOK7.out, HL9.out, hB9⟩
            case measure => simp [intOf]; omega
          · have g0 : ((xk % 3) == 0) = false := by rw [hm]; rfl
            have g1 : ((xk % 3) == 1) = true := by rw [hm]; rfl
            clear hm
            obtain ⟨n1, hlen⟩ : ∃ n1, sb.length = n1 + 1 := ⟨sb.length - 1, by omega⟩
            have hnn := HOK.out.n
            simp only at hnn
            have HOKD : Hid (EsOk (undoS ⟨st, sb, so⟩)) := HOK.out.undo
            have HU : Hid (undoS ⟨st, sb, so⟩ = ⟨sb.getD n1 [], sb.take n1, so ++ [st]⟩) := by
              unfold Hid undoS; simp only [hlen]; rfl
            rw [hlen] at HL ⊢
            try rw [hlen] at hncb
            try rw [hlen] at hnco
            rw [hlen] at hnn
            clear hu
            have HLEN := Lib.hid hlen
            clear hlen
            rw [HU.out] at HOKD
            have e1 : (((n1 + 1 : Nat) : Int) == 0) = false := by rw [beq_eq_false_iff_ne]; omega
            have HA0 : Hid (Blk (wr.alloc (.cells #[.int .i64 xk, .slice xA xm xc] 102)) wr.heap.size 102 #[.int .i64 xk, .slice xA xm xc]) := Blk.new_ _ _ _
            have hbA : Below wr.heap.size wr (wr.alloc (.cells #[.int .i64 xk, .slice xA xm xc] 102)) := (by repeat (first | exact Below.refl _ _ | assumption | refine Below.alloc ?_ (by first | exact Nat.le_refl _ | assumption | omega | (simp <;> omega)) _ | refine Below.setCell ?_ (by first | exact Nat.le_refl _ | assumption | omega | (simp <;> omega)) _ | refine Below.drew ?_ | refine below_drewN ?_ _))
            have hgg : w.heap.size < wr.heap.size := HL.out.ed.blk.lt
            have HNB : Hid (∀ k, vB.ownBlock = some k → k < wr.heap.size) := fun k hk => (HL.out.ed.b.lt k hk).2
            have HNO : Hid (∀ k, vO.ownBlock = some k → k < wr.heap.size) := fun k hk => (HL.out.ed.o.lt k hk).2
            go_wp2_with fail
            refine (rest3_any xk hk0 hk1 _).mono ?_
            rintro e w2 ⟨rfl, hb2⟩
            have hb2' := bthen hbA hb2
            have HL2 : Hid (LawSt w2 w.heap.size w.heap.size ⟨st, sb, so⟩ vB vO sb (.slice Ab (n1 + 1) cb) so (.slice Ao so.length co)) := HL.out.below hb2'
            have HA2 : Hid (Blk w2 wr.heap.size 102 #[.int .i64 xk, .slice xA xm xc]) := HA0.out.below' hb2
            have hB2 := bthen hb hb2'
            have hsw2 := hB2.size
            generalize wr.heap.size = ga at *
            clear hb2' hbA hb2 HA0 HL hb z0 z1
            have q0 := Blk.cell0 HA2.out; have q1 := Blk.cell1 HA2.out
            go_wp2_with fail
            refine (edUndoS w.heap.size w.heap.size ⟨st, sb, so⟩ vB vO w2 HL2.out.ed (by show 0 < sb.length; rw [HLEN.out]; omega) hB2.size (by have := HOK.out.n; simp only at this ⊢; omega)).mono ?_
            rintro e w3 ⟨rfl, vB3, vO3, hE3, hC3, fB3, fO3⟩
            have HL3 := Lib.hid (HL2.out.step hE3 hC3 fB3 fO3)
            rw [HU.out] at HL3
            have hB3 := hB2.trans (HL2.out.bel hC3 hB2.size)
            clear HL2 HA2 hB2 hE3 hC3 fB3 fO3 q0 q1
            have hsw3 := hB3.size
            obtain ⟨ad6, hadd, hab6, hcl⟩ := own_cell (k := n1) HL3.out.b (by rw [HLEN.out]; omega)
            obtain rfl := hadd
            generalize hTG : sb.getD n1 [] = T at *
            have HTG0 := Lib.hid hTG
            clear hTG
            generalize hTT : S T = TT at *
            have HTG : Hid (S (sb.getD n1 []) = TT) := by unfold Hid; rw [HTG0.out]; exact hTT
            clear HTG0
            have HTT := Lib.hid hTT
            clear hTT
            have HCL := Lib.hid hcl
            have HO3 := Lib.hid HL3.out.o
            have kc0 : (w3.alloc (.cells #[.string (S st)] 9)).cell? (ad6.add n1) = some (.string TT) := (World.cell?_alloc_lt w3 _ _ (by rw [blk_add]; exact hab6)).trans hcl
            go_wp2_with fail
            obtain ⟨F1, hFd⟩ : ∃ F : World → Prop, F = fun w' => w'.cell? (ad6.add n1) = some (.string TT) := ⟨_, rfl⟩
            have HF1 := Lib.hid hFd
            clear hFd
            have hcell10 : ∀ p' : Wof F1, p'.w.cell? (ad6.add n1) = some (.string TT) := fun ⟨x, hx⟩ => by rw [HF1.out] at hx; exact hx
            refine wp_region_schedF [(0, true), (1, true), (4, true), (5, true), (6, true), (7, true), (8, true), (9, true), (10, true), (11, true), (12, true), (2, false), (3, false), (13, true), (14, true), (15, true)] F1 (by kernel_rfl) (by kernel_rfl) rfl (fun _ _ _ _ _ h => h) (by kernel_rfl) (by rw [HF1.out]; first | trivial | (repeat' apply And.intro) <;> assumption | (simp; done) | (simp [*]; done)) (by rw [HF1.out]; exact fun h => h) ?_
            intro hne1
            simp only [opersOf, List.getElem?_toArray, List.getElem?_cons_succ, List.getElem?_cons_zero]
            repeat (first | (refine wpSched_want rfl ?_; intro K hK; go_big_quiet_op; go_big_quiet_on) | (refine wpSched_skip rfl ?_; simp only [Act.put, List.setIfInBounds_toArray, List.set_cons_zero, List.set_cons_succ]))
            refine wpSched_other ?_
            go_wp2_with fail
            refine sched_back (by rw [HF1.out]; first | trivial | (repeat' apply And.intro) <;> assumption | (simp; done) | (go_simp; done) | (simp [*]; done)) ?_
            repeat (first | (refine wpSched_want rfl ?_; intro K hK; go_big_quiet_op; go_big_quiet_on) | (refine wpSched_skip rfl ?_; simp only [Act.put, List.setIfInBounds_toArray, List.set_cons_zero, List.set_cons_succ]))
            refine wpSched_other ?_
            have hO1 : ∀ o, OwnO (w3.alloc o).drew w.heap.size 9 1 (.slice Ao so.length co) so.length (strCells so) := fun o => HO3.out.below (by repeat (first | exact Below.refl _ _ | assumption | refine Below.alloc ?_ (by first | exact Nat.le_refl _ | assumption | omega | (simp <;> omega)) _ | refine Below.setCell ?_ (by first | exact Nat.le_refl _ | assumption | omega | (simp <;> omega)) _ | refine Below.drew ?_ | refine below_drewN ?_ _))
            have hnw : ∀ j u, [Value.string (S st)][j]? = some u → ((w3.alloc (.cells #[.string (S st)] 9)).drew).cell? (Addr.add ⟨w3.heap.size, 0, none⟩ j) = some u := fun j u hj => cells_new w3 #[.string (S st)] 9 j u hj
            have HL3' : Hid (LawSt (w3.alloc (.cells #[.string (S st)] 9)).drew w.heap.size w.heap.size ⟨T, sb.take n1, so ++ [st]⟩ vB3 vO3 sb (.slice (some ad6) (n1 + 1) cb) so (.slice Ao so.length co)) := HL3.out.below (by repeat (first | exact Below.refl _ _ | assumption | refine Below.alloc ?_ (by first | exact Nat.le_refl _ | assumption | omega | (simp <;> omega)) _ | refine Below.setCell ?_ (by first | exact Nat.le_refl _ | assumption | omega | (simp <;> omega)) _ | refine Below.drew ?_ | refine below_drewN ?_ _))
            have hB3' : Below w.heap.size w (w3.alloc (.cells #[.string (S st)] 9)).drew := (by repeat (first | exact Below.refl _ _ | assumption | refine Below.alloc ?_ (by first | exact Nat.le_refl _ | assumption | omega | (simp <;> omega)) _ | refine Below.setCell ?_ (by first | exact Nat.le_refl _ | assumption | omega | (simp <;> omega)) _ | refine Below.drew ?_ | refine below_drewN ?_ _))
            go_wp2_with (at_builtin; go_must (refine wpList_appO rfl _ _ _ rfl w.heap.size 9 i0 _ 1 16 Try.underlying33 hi0 hz0 hz1 hz2 rfl (by omega) _ so.length (strCells so) rfl (hO1 _) ⟨w3.heap.size, 0, none⟩ 1 1 [.string (S st)] rfl rfl hnw (by simp [Value.oneCell']) (by omega) (by omega) (by simp; omega) ?_); intro v6 w6 hown6 hg6 hb6 ha6; obtain ⟨A6, c6, rfl, hnc6, hcm6, hrd6⟩ := OwnO.form hown6)
            have HL6 := Lib.hid (HL3'.out.apo (x := st) hg6 (by first | exact hown6 | simpa using hown6) ha6)
            have hB6 := Lib.hid (hB3'.trans hb6)
            have k1 : w6.cell? (ad6.add n1) = some (.string TT) := by
              obtain ⟨ad7, hadd, _, hcl7⟩ := own_cell (k := n1) HL6.out.b (by rw [HLEN.out]; omega)
              cases hadd
              exact HTG.out ▸ hcl7
            refine sched_back (by rw [HF1.out]; exact k1) ?_
            repeat (first | (refine wpSched_want rfl ?_; intro K hK; go_big_quiet_op; go_big_quiet_on) | (refine wpSched_skip rfl ?_; simp only [Act.put, List.setIfInBounds_toArray, List.set_cons_zero, List.set_cons_succ]))
            refine wpSched_nil ?_
            have HL6' := Lib.hid (HL6.out.newb (l' := sb.take n1) (v6 := .slice (some ad6) n1 cb) (cut_own HL6.out.b (by rw [HLEN.out]) (by omega) (by simp)) rfl)
            clear HF1 hcell10 hne1 k1 hcl hO1 hnw HL3 HL3' hB3' hB3 hown6 hg6 hb6 ha6 HCL HO3 HL6 hrd6
            have hsw6 := hB6.out.size
            rw [← HTT.out]
            have HLN1 : Hid ((sb.take n1).length = n1) := by unfold Hid; rw [List.length_take, HLEN.out]; omega
            have HLN2 : Hid ((so ++ [st]).length = so.length + 1) := by unfold Hid; simp
            generalize sb.take n1 = bg7 at *
            generalize so ++ [st] = ot7 at *
            have HL7 : Hid (LawSt w6 w.heap.size w.heap.size ⟨T, bg7, ot7⟩ vB3 vO3 bg7 (.slice (some ad6) n1 cb) ot7 (.slice A6 (so.length + 1) c6)) := HL6'.out
            have hB7 : Below w.heap.size w w6 := hB6.out
            have HOK7 : Hid (EsOk ⟨T, bg7, ot7⟩) := HOKD.out
            have HNB7 : Hid ((bg7 : List (List UInt8)).length = n1) := HLN1.out
            have HNO7 : Hid ((ot7 : List (List UInt8)).length = so.length + 1) := HLN2.out
            clear HL6' hB6 HOKD
            have hbs7 := hB7.size
            have HOKK := HOK7
            go_wp2_with fail
            refine (edSteps_any w.heap.size w.heap.size _ _ _ _ HL7.out.ed).mono ?_
            rintro e w8 ⟨rfl, hb8⟩
            have HL8 := Lib.hid (HL7.out.below hb8)
            have hB8 := bthen hB7 hb8
            clear HL7 hB7 hb8
            simp only
            try rw [HNB7.out]
            try rw [HNO7.out]
            go_wp2_with fail
            refine (edText_any w.heap.size w.heap.size _ _ _ _ HL8.out.ed).mono ?_
            rintro e w9 ⟨rfl, hb9⟩
            have HL9 := Lib.hid (HL8.out.below hb9)
            have hB9 := bthen hB8 hb9
            clear HL8 hB8 hb9
            go_wp2_with fail
            go_roundw
            case rel => exact ⟨k + 1, ⟨T, bg7, ot7⟩, vB3, vO3, by omega, by go_num, rfl, HOK7.out, HL9.out, hB9⟩
            case measure => simp [intOf]; omega
        · have hm1 := hm
          clear hm
          by_cases hu : so.length = 0
          · have g0 : ((xk % 3) == 0) = false := by simpa using hm0
            have g1 : ((xk % 3) == 1) = false := by simpa using hm1
            clear hm0 hm1
            obtain rfl : so = [] := List.eq_nil_of_length_eq_zero hu
            rw [show ([] : List (List UInt8)).length = 0 from rfl] at HL
            have HA0 : Hid (Blk (wr.alloc (.cells #[.int .i64 xk, .slice xA xm xc] 102)) wr.heap.size 102 #[.int .i64 xk, .slice xA xm xc]) := Blk.new_ _ _ _
            have hbA : Below wr.heap.size wr (wr.alloc (.cells #[.int .i64 xk, .slice xA xm xc] 102)) := (by repeat (first | exact Below.refl _ _ | assumption | refine Below.alloc ?_ (by first | exact Nat.le_refl _ | assumption | omega | (simp <;> omega)) _ | refine Below.setCell ?_ (by first | exact Nat.le_refl _ | assumption | omega | (simp <;> omega)) _ | refine Below.drew ?_ | refine below_drewN ?_ _))
            have hgg : w.heap.size < wr.heap.size := HL.out.ed.blk.lt
            have HNB : Hid (∀ k, vB.ownBlock = some k → k < wr.heap.size) := fun k hk => (HL.out.ed.b.lt k hk).2
            have HNO : Hid (∀ k, vO.ownBlock = some k → k < wr.heap.size) := fun k hk => (HL.out.ed.o.lt k hk).2
            go_wp2_with fail
            refine (rest3_any xk hk0 hk1 _).mono ?_
            rintro e w2 ⟨rfl, hb2⟩
            have hb2' := bthen hbA hb2
            have HL2 : Hid (LawSt w2 w.heap.size w.heap.size ⟨st, sb, []⟩ vB vO sb (.slice Ab sb.length cb) [] (.slice Ao 0 co)) := HL.out.below hb2'
            have HA2 : Hid (Blk w2 wr.heap.size 102 #[.int .i64 xk, .slice xA xm xc]) := HA0.out.below' hb2
            have hB2 := bthen hb hb2'
            have hsw2 := hB2.size
            generalize wr.heap.size = ga at *
            clear hb2' hbA hb2 HA0 HL hb z0 z1
            have q0 := Blk.cell0 HA2.out; have q1 := Blk.cell1 HA2.out
            go_wp2_with fail
            refine (edRedo4 w.heap.size w.heap.size ⟨st, sb, []⟩ vB vO w2 HL2.out.ed hu).mono ?_
            rintro e w3 ⟨rfl, hb3⟩
            clear hu
            have HL7 : Hid (LawSt w3 w.heap.size w.heap.size ⟨st, sb, []⟩ vB vO sb (.slice Ab sb.length cb) [] (.slice Ao 0 co)) := HL2.out.below hb3
            have hB7 : Below w.heap.size w w3 := bthen hB2 hb3
            have HOK7 : Hid (EsOk ⟨st, sb, []⟩) := HOK.out
            have HNB7 : Hid ((sb : List (List UInt8)).length = sb.length) := rfl
            have HNO7 : Hid (([] : List (List UInt8)).length = 0) := rfl
            clear HL2 hB2 HA2 q0 q1 hb3
            have hbs7 := hB7.size
            have HOKK := HOK7
            go_wp2_with fail
            refine (edSteps_any w.heap.size w.heap.size _ _ _ _ HL7.out.ed).mono ?_
            rintro e w8 ⟨rfl, hb8⟩
            have HL8 := Lib.hid (HL7.out.below hb8)
            have hB8 := bthen hB7 hb8
            clear HL7 hB7 hb8
            simp only
            try rw [HNB7.out]
            try rw [HNO7.out]
            go_wp2_with fail
            refine (edText_any w.heap.size w.heap.size _ _ _ _ HL8.out.ed).mono ?_
            rintro e w9 ⟨rfl, hb9⟩
            have HL9 := Lib.hid (HL8.out.below hb9)
            have hB9 := bthen hB8 hb9
            clear HL8 hB8 hb9
            go_wp2_with fail
            go_roundw
            case rel => exact ⟨k + 1, ⟨st, sb, []⟩, vB, vO, by omega, by go_num, rfl, HOK7.out, HL9.out, hB9⟩
            case measure => simp [intOf]; omega
          · have g0 : ((xk % 3) == 0) = false := by simpa using hm0
            have g1 : ((xk % 3) == 1) = false := by simpa using hm1
            clear hm0 hm1
            obtain ⟨n1, hlen⟩ : ∃ n1, so.length = n1 + 1 := ⟨so.length - 1, by omega⟩
            have hnn := HOK.out.n
            simp only at hnn
            have HOKD : Hid (EsOk (redoS ⟨st, sb, so⟩)) := HOK.out.redo
            have HU : Hid (redoS ⟨st, sb, so⟩ = ⟨so.getD n1 [], sb ++ [st], so.take n1⟩) := by
              unfold Hid redoS; simp only [hlen]; rfl
            rw [hlen] at HL ⊢
            try rw [hlen] at hncb
            try rw [hlen] at hnco
            rw [hlen] at hnn
            clear hu
            have HLEN := Lib.hid hlen
            clear hlen
            rw [HU.out] at HOKD
            have e1 : (((n1 + 1 : Nat) : Int) == 0) = false := by rw [beq_eq_false_iff_ne]; omega
            have HA0 : Hid (Blk (wr.alloc (.cells #[.int .i64 xk, .slice xA xm xc] 102)) wr.heap.size 102 #[.int .i64 xk, .slice xA xm xc]) := Blk.new_ _ _ _
            have hbA : Below wr.heap.size wr (wr.alloc (.cells #[.int .i64 xk, .slice xA xm xc] 102)) := (by repeat (first | exact Below.refl _ _ | assumption | refine Below.alloc ?_ (by first | exact Nat.le_refl _ | assumption | omega | (simp <;> omega)) _ | refine Below.setCell ?_ (by first | exact Nat.le_refl _ | assumption | omega | (simp <;> omega)) _ | refine Below.drew ?_ | refine below_drewN ?_ _))
            have hgg : w.heap.size < wr.heap.size := HL.out.ed.blk.lt
            have HNB : Hid (∀ k, vB.ownBlock = some k → k < wr.heap.size) := fun k hk => (HL.out.ed.b.lt k hk).2
            have HNO : Hid (∀ k, vO.ownBlock = some k → k < wr.heap.size) := fun k hk => (HL.out.ed.o.lt k hk).2
            go_wp2_with fail
            refine (rest3_any xk hk0 hk1 _).mono ?_
            rintro e w2 ⟨rfl, hb2⟩
            have hb2' := bthen hbA hb2
            have HL2 : Hid (LawSt w2 w.heap.size w.heap.size ⟨st, sb, so⟩ vB vO sb (.slice Ab sb.length cb) so (.slice Ao (n1 + 1) co)) := HL.out.below hb2'
            have HA2 : Hid (Blk w2 wr.heap.size 102 #[.int .i64 xk, .slice xA xm xc]) := HA0.out.below' hb2
            have hB2 := bthen hb hb2'
            have hsw2 := hB2.size
            generalize wr.heap.size = ga at *
            clear hb2' hbA hb2 HA0 HL hb z0 z1
            have q0 := Blk.cell0 HA2.out; have q1 := Blk.cell1 HA2.out
            go_wp2_with fail
            refine (edRedoS w.heap.size w.heap.size ⟨st, sb, so⟩ vB vO w2 HL2.out.ed (by show 0 < so.length; rw [HLEN.out]; omega) hB2.size (by have := HOK.out.n; simp only at this ⊢; omega)).mono ?_
            rintro e w3 ⟨rfl, vB3, vO3, hE3, hC3, fB3, fO3⟩
            have HL3 := Lib.hid (HL2.out.step hE3 hC3 fB3 fO3)
            rw [HU.out] at HL3
            have hB3 := hB2.trans (HL2.out.bel hC3 hB2.size)
            clear HL2 HA2 hB2 hE3 hC3 fB3 fO3 q0 q1
            have hsw3 := hB3.size
            obtain ⟨ad6, hadd, hab6, hcl⟩ := own_cell (k := n1) HL3.out.o (by rw [HLEN.out]; omega)
            obtain rfl := hadd
            generalize hTG : so.getD n1 [] = T at *
            have HTG0 := Lib.hid hTG
            clear hTG
            generalize hTT : S T = TT at *
            have HTG : Hid (S (so.getD n1 []) = TT) := by unfold Hid; rw [HTG0.out]; exact hTT
            clear HTG0
            have HTT := Lib.hid hTT
            clear hTT
            have HCL := Lib.hid hcl
            have HO3 := Lib.hid HL3.out.b
            have kc0 : (w3.alloc (.cells #[.string (S st)] 9)).cell? (ad6.add n1) = some (.string TT) := (World.cell?_alloc_lt w3 _ _ (by rw [blk_add]; exact hab6)).trans hcl
            go_wp2_with fail
            obtain ⟨F1, hFd⟩ : ∃ F : World → Prop, F = fun w' => w'.cell? (ad6.add n1) = some (.string TT) := ⟨_, rfl⟩
            have HF1 := Lib.hid hFd
            clear hFd
            have hcell10 : ∀ p' : Wof F1, p'.w.cell? (ad6.add n1) = some (.string TT) := fun ⟨x, hx⟩ => by rw [HF1.out] at hx; exact hx
            refine wp_region_schedF [(0, true), (1, true), (4, true), (5, true), (6, true), (7, true), (8, true), (9, true), (10, true), (11, true), (12, true), (2, false), (3, false), (13, true), (14, true), (15, true)] F1 (by kernel_rfl) (by kernel_rfl) rfl (fun _ _ _ _ _ h => h) (by kernel_rfl) (by rw [HF1.out]; first | trivial | (repeat' apply And.intro) <;> assumption | (simp; done) | (simp [*]; done)) (by rw [HF1.out]; exact fun h => h) ?_
            intro hne1
            simp only [opersOf, List.getElem?_toArray, List.getElem?_cons_succ, List.getElem?_cons_zero]
            repeat (first | (refine wpSched_want rfl ?_; intro K hK; go_big_quiet_op; go_big_quiet_on) | (refine wpSched_skip rfl ?_; simp only [Act.put, List.setIfInBounds_toArray, List.set_cons_zero, List.set_cons_succ]))
            refine wpSched_other ?_
            go_wp2_with fail
            refine sched_back (by rw [HF1.out]; first | trivial | (repeat' apply And.intro) <;> assumption | (simp; done) | (go_simp; done) | (simp [*]; done)) ?_
            repeat (first | (refine wpSched_want rfl ?_; intro K hK; go_big_quiet_op; go_big_quiet_on) | (refine wpSched_skip rfl ?_; simp only [Act.put, List.setIfInBounds_toArray, List.set_cons_zero, List.set_cons_succ]))
            refine wpSched_other ?_
            have hO1 : ∀ o, OwnO (w3.alloc o).drew w.heap.size 9 1 (.slice Ab sb.length cb) sb.length (strCells sb) := fun o => HO3.out.below (by repeat (first | exact Below.refl _ _ | assumption | refine Below.alloc ?_ (by first | exact Nat.le_refl _ | assumption | omega | (simp <;> omega)) _ | refine Below.setCell ?_ (by first | exact Nat.le_refl _ | assumption | omega | (simp <;> omega)) _ | refine Below.drew ?_ | refine below_drewN ?_ _))
            have hnw : ∀ j u, [Value.string (S st)][j]? = some u → ((w3.alloc (.cells #[.string (S st)] 9)).drew).cell? (Addr.add ⟨w3.heap.size, 0, none⟩ j) = some u := fun j u hj => cells_new w3 #[.string (S st)] 9 j u hj
            have HL3' : Hid (LawSt (w3.alloc (.cells #[.string (S st)] 9)).drew w.heap.size w.heap.size ⟨T, sb ++ [st], so.take n1⟩ vB3 vO3 sb (.slice Ab sb.length cb) so (.slice (some ad6) (n1 + 1) co)) := HL3.out.below (by repeat (first | exact Below.refl _ _ | assumption | refine Below.alloc ?_ (by first | exact Nat.le_refl _ | assumption | omega | (simp <;> omega)) _ | refine Below.setCell ?_ (by first | exact Nat.le_refl _ | assumption | omega | (simp <;> omega)) _ | refine Below.drew ?_ | refine below_drewN ?_ _))
            have hB3' : Below w.heap.size w (w3.alloc (.cells #[.string (S st)] 9)).drew := (by repeat (first | exact Below.refl _ _ | assumption | refine Below.alloc ?_ (by first | exact Nat.le_refl _ | assumption | omega | (simp <;> omega)) _ | refine Below.setCell ?_ (by first | exact Nat.le_refl _ | assumption | omega | (simp <;> omega)) _ | refine Below.drew ?_ | refine below_drewN ?_ _))
            go_wp2_with (at_builtin; go_must (refine wpList_appO rfl _ _ _ rfl w.heap.size 9 i0 _ 1 16 Try.underlying33 hi0 hz0 hz1 hz2 rfl (by omega) _ sb.length (strCells sb) rfl (hO1 _) ⟨w3.heap.size, 0, none⟩ 1 1 [.string (S st)] rfl rfl hnw (by simp [Value.oneCell']) (by omega) (by omega) (by simp; omega) ?_); intro v6 w6 hown6 hg6 hb6 ha6; obtain ⟨A6, c6, rfl, hnc6, hcm6, hrd6⟩ := OwnO.form hown6)
            have HL6 := Lib.hid (HL3'.out.apb (x := st) hg6 (by first | exact hown6 | simpa using hown6) ha6)
            have hB6 := Lib.hid (hB3'.trans hb6)
            have k1 : w6.cell? (ad6.add n1) = some (.string TT) := by
              obtain ⟨ad7, hadd, _, hcl7⟩ := own_cell (k := n1) HL6.out.o (by rw [HLEN.out]; omega)
              cases hadd
              exact HTG.out ▸ hcl7
            refine sched_back (by rw [HF1.out]; exact k1) ?_
            repeat (first | (refine wpSched_want rfl ?_; intro K hK; go_big_quiet_op; go_big_quiet_on) | (refine wpSched_skip rfl ?_; simp only [Act.put, List.setIfInBounds_toArray, List.set_cons_zero, List.set_cons_succ]))
            refine wpSched_nil ?_
            have HL6' := Lib.hid (HL6.out.newo (l' := so.take n1) (v6 := .slice (some ad6) n1 co) (cut_own HL6.out.o (by rw [HLEN.out]) (by omega) (by simp)) rfl)
            clear HF1 hcell10 hne1 k1 hcl hO1 hnw HL3 HL3' hB3' hB3 hown6 hg6 hb6 ha6 HCL HO3 HL6 hrd6
            have hsw6 := hB6.out.size
            rw [← HTT.out]
            have HLN1 : Hid ((so.take n1).length = n1) := by unfold Hid; rw [List.length_take, HLEN.out]; omega
            have HLN2 : Hid ((sb ++ [st]).length = sb.length + 1) := by unfold Hid; simp
            generalize so.take n1 = bg7 at *
            generalize sb ++ [st] = ot7 at *
            have HL7 : Hid (LawSt w6 w.heap.size w.heap.size ⟨T, ot7, bg7⟩ vB3 vO3 ot7 (.slice A6 (sb.length + 1) c6) bg7 (.slice (some ad6) n1 co)) := HL6'.out
            have hB7 : Below w.heap.size w w6 := hB6.out
            have HOK7 : Hid (EsOk ⟨T, ot7, bg7⟩) := HOKD.out
            have HNB7 : Hid ((ot7 : List (List UInt8)).length = sb.length + 1) := HLN2.out
            have HNO7 : Hid ((bg7 : List (List UInt8)).length = n1) := HLN1.out
            clear HL6' hB6 HOKD
            have hbs7 := hB7.size
            have HOKK := HOK7
            go_wp2_with fail
            refine (edSteps_any w.heap.size w.heap.size _ _ _ _ HL7.out.ed).mono ?_
            rintro e w8 ⟨rfl, hb8⟩
            have HL8 := Lib.hid (HL7.out.below hb8)
            have hB8 := bthen hB7 hb8
            clear HL7 hB7 hb8
            simp only
            try rw [HNB7.out]
            try rw [HNO7.out]
            go_wp2_with fail
            refine (edText_any w.heap.size w.heap.size _ _ _ _ HL8.out.ed).mono ?_
            rintro e w9 ⟨rfl, hb9⟩
            have HL9 := Lib.hid (HL8.out.below hb9)
            have hB9 := bthen hB8 hb9
            clear HL8 hB8 hb9
            go_wp2_with fail
            go_roundw
            case rel => exact ⟨k + 1, ⟨T, ot7, bg7⟩, vB3, vO3, by omega, by go_num, rfl, HOK7.out, HL9.out, hB9⟩
            case measure => simp [intOf]; omega
    · go_wp2_with fail
      go_ret
      exact ⟨rfl, hb⟩
end Go.Proofs.Ythnedhfjochfnaa
