/- The law TopCode, walked. How arguments are opened to plain data (slices of any element as lists of cells), and how a law's row is closed from: the call returns true and nothing that was there has turned. -/
import Derived.Test.YtncakjchaniheaaDoorPk21
import Derived.Test.YtncakjchaniheaaDoorPk01
import Derived.ProofKit
import Derived.OpenShut
import Derived.SizedLaws
import Derived.Deep.Slices
import Derived.Deep.Fields
import Derived.Lib.SmallJoins
namespace Go.Proofs.YtncakjchaniheaaDoor
open Go.RowKit
set_option maxRecDepth 100000 in
set_option maxHeartbeats 4000000 in
theorem topCodeBig_any (s : ByteArray) (hs : 200 < s.size) (w : World) :
    Calls Tryd.prog 3 #[.string s] w fun e w' => e = .returned (.bool true) ∧ Below w.heap.size w w' := by
  have HWK := Lib.hid works_any
  have HP := Lib.hid (fun W => turnPutBig_any s hs W)
  have HF := Lib.hid (fun W => frontPut_any ⟨#[]⟩ W)
  have hE : longErr (⟨#[]⟩ : ByteArray).size = 0 := rfl
  rw [hE] at HF
  clear hE
  go_enter Tryd.func3, Tryd.ntmps3
  go_wp2_with fail
  refine (HP.out _).mono ?_
  rintro e w1 ⟨rfl, hb1⟩
  go_wp2_with fail
  refine (HF.out _).mono ?_
  rintro e w2 ⟨v, rfl, _, hb2⟩
  have hb2' := bthen hb1 hb2
  go_wp2_with fail
  refine (HWK.out _).mono ?_
  rintro e w3 ⟨rfl, hb3⟩
  have hb3' := bthen hb2' hb3
  go_wp2_with fail
  refine (HWK.out _).mono ?_
  rintro e w4 ⟨rfl, hb4⟩
  go_wp2_with fail
  go_ret
  exact ⟨rfl, bthen hb3' hb4⟩
set_option maxRecDepth 100000 in
set_option maxHeartbeats 16000000 in
theorem topCode_any (s : ByteArray) (w : World) :
    Calls Tryd.prog 3 #[.string s] w fun e w' => e = .returned (.bool true) ∧ Below w.heap.size w w' := by
  by_cases hs : 200 < s.size
  · exact topCodeBig_any s hs w
  have hs2 : s.size ≤ 200 := by omega
  obtain ⟨i0, hi0, hz0, hz1, hz2⟩ := info_parts info_int
  have HWK := Lib.hid works_any
  have HLS := Lib.hid (L_len s)
  have HP := Lib.hid (fun W => turnPut_any s hs2 W)
  obtain ⟨T, hT⟩ : ∃ T, T = S (turnL (L s)) := ⟨_, rfl⟩
  have hTz : T.size = s.size := by rw [hT, S_size, turnL_len, HLS.out]
  have hTL : L T = turnL (L s) := by rw [hT, L_S]
  rw [Hid, ← hT] at HP
  have HP := Lib.hid HP
  have HTL := Lib.hid hTL
  have hT2 : T.size ≤ 200 := by omega
  have HF := Lib.hid (fun W => frontPut_any T W)
  have hE : longErr T.size = 0 := by unfold longErr; rw [if_neg (by omega)]
  rw [Hid, hE] at HF
  have HF := Lib.hid HF
  obtain ⟨l, hl⟩ : ∃ l, l = putV T := ⟨_, rfl⟩
  rw [Hid, ← hl] at HF
  have HF := Lib.hid HF
  have HGP : Hid (getE l = 0 ∧ getV l = L T ∧ l.length = T.size) := by rw [Hid, hl]; exact get_put hT2
  have hln : l.length ≤ 200 := by rw [HGP.out.2.2]; exact hT2
  obtain ⟨at_, hat⟩ : ∃ at_, at_ = turnAt (L s) := ⟨_, rfl⟩
  have hat2 : at_ ≤ 200 := by
    rw [hat]
    by_cases h : L s = []
    · rw [h]; exact Nat.zero_le _
    · have := (turnAt_lt h).1; rw [HLS.out] at this; omega
  have HTG := Lib.hid (tg_turn (s := L s) (by rw [HLS.out]; exact hs2))
  rw [Hid, ← hat, ← HTL.out] at HTG
  rw [Hid, ← hat] at HP
  have HP := Lib.hid HP; have HTG := Lib.hid HTG
  clear hT hTz hTL hl hE hs hat
  go_enter Tryd.func3, Tryd.ntmps3
  go_wp2_with fail
  refine (HP.out _).mono ?_
  rintro e w1 ⟨rfl, hb1⟩
  go_wp2_with fail
  refine (HF.out _).mono ?_
  rintro e w2 ⟨vl, rfl, hown2, hb2⟩
  have hO2 := (OwnO.of_own hown2).lowN hb1.size
  have HB2 := bthen hb1 hb2
  obtain ⟨Al, cl, hvl, _, _, _⟩ := hO2.form
  have HR2 : Hid (Rw4 w2 w.heap.size vl l (.slice none 0 0) [] (.slice none 0 0) [] (.slice none 0 0) []) :=
    ⟨hO2, OwnO.nil_, OwnO.nil_, OwnO.nil_, (Apart.none_left _).comm, (Apart.none_left _).comm, (Apart.none_left _).comm, Apart.none_left _, Apart.none_left _, Apart.none_left _⟩
  clear hO2 hown2 hb1 hb2
  subst hvl
  go_wp2_with fail
  refine (HWK.out _).mono ?_
  rintro e w3 ⟨rfl, hb3⟩
  have HR3 := Lib.hid (HR2.out.below hb3)
  have HB3 := bthen HB2 hb3
  clear HR2 HB2 hb3 HP HF HWK
  go_wp2_with fail
  go_loopw [8, 9, 10, 55] (fun v1 v2 v3 iv wr => ∃ (t : Nat) (sg : List Int) (wt tx : List Nat), iv = .int .i64 (t : Int) ∧ t ≤ l.length ∧ sg.length ≤ t ∧ wt.length ≤ t ∧ tx.length ≤ t ∧ Hid (tx.length = t) ∧ Hid (CoAt l t sg wt tx) ∧ Rw4 wr w.heap.size (.slice Al l.length cl) l v1 sg v2 (natI wt) v3 (natI tx) ∧ Below w.heap.size w wr) (fun _ _ _ iv _ => l.length - (intOf iv).toNat)
  case atStart => exact ⟨0, [], [], [], rfl, Nat.zero_le _, Nat.le_refl _, Nat.le_refl _, Nat.le_refl _, rfl, CoAt.start l, HR3.out, HB3⟩
  case round =>
    clear HR3 HB3
    obtain ⟨t, sg, wt, tx, rfl, ht, hsg, hwt, htx, HTX, HCO, hrw, hb⟩ := hrel
    have hbs := hb.size
    have HR := Lib.hid hrw
    clear hrw
    obtain ⟨A1, c1, hv1, _, _, _⟩ := HR.out.o1.form
    obtain ⟨A2, c2, hv2, _, _, _⟩ := HR.out.o2.form
    obtain ⟨A3, c3, hv3, _, _, _⟩ := HR.out.o3.form
    rw [natI_len] at hv2 hv3
    have hv1' := hv1.symm; have hv2' := hv2.symm; have hv3' := hv3.symm
    clear hv1 hv2 hv3
    subst hv1'; subst hv2'; subst hv3'
    by_cases hlt : t < l.length
    · have g1 : decide ((t : Int) < (l.length : Int)) = true := decide_eq_true (by omega)
      have g1' : decide (t < l.length) = true := decide_eq_true hlt
      obtain ⟨A', c', hv, _, _, hr0⟩ := HR.out.o0.form
      cases hv
      obtain ⟨ad, rfl, -, c0⟩ := intCell hr0 hlt
      obtain ⟨A', c', hv, _, _, hr1⟩ := HR.out.o1.form
      cases hv
      obtain ⟨x, hx⟩ : ∃ x, x = l.getD t 0 := ⟨_, rfl⟩
      rw [← hx] at c0
      have HX := Lib.hid hx
      have HI := Lib.hid (idxInt_any sg x A1 sg.length c1 _ wr hr1 (by omega))
      clear hr0 hr1 hx
      go_wp2_with fail
      refine HI.out.mono ?_
      rintro e w5 ⟨i, rfl, hi, rfl⟩
      clear HI c0
      rcases hi with rfl | ⟨k, rfl, hk, hkx⟩
      · have HWL := Lib.hid HCO.out.len
        have hq1 : sg.length ≤ wt.length := by have := HWL.out; omega
        have HCN := Lib.hid (HCO.out.fresh hlt)
        rw [Hid, ← HX.out] at HCN
        have HCN := Lib.hid HCN
        have HTX1 : Hid ((tx ++ [sg.length]).length = t + 1) := by rw [Hid, List.length_append, HTX.out]; rfl
        have HRa := Lib.hid (HR.out.below ((Below.refl _ _).alloc (Nat.le_refl _) (.cells #[.int .i64 x] 3)))
        have hbA : Below w.heap.size w (w5.alloc (.cells #[.int .i64 x] 3)) := bthen hb ((Below.refl _ _).alloc (Nat.le_refl _) _)
        have hsA := hbA.size
        have hO1 := HRa.out.o1
        have tok1 : True := trivial
        have tok2 : True := trivial
        clear HR HX HCO
        go_wp2_with (first
          | (at_builtin; have _t := tok1
             go_must (refine wpList_appO rfl _ _ _ rfl w.heap.size 3 i0 _ 1 8 Tryd.underlying25 hi0 hz0 hz1 hz2 rfl (by omega) _ sg.length (ints sg) rfl hO1 ⟨_, 0, none⟩ 1 1 [.int .i64 x] rfl rfl (cell_one_new _ _ _) (by simp [Value.oneCell']) (by omega) (by omega) hsA ?_)
             intro v6 w6 hown6 hg6 hb6 ha6
             obtain ⟨A6, c6, rfl, _, _, _⟩ := OwnO.form hown6
             have HRb := Lib.hid ((HRa.out.app1 rfl hg6 hown6 ha6).below ((Below.refl _ _).alloc (Nat.le_refl _) (.cells #[.int .i64 0] 3)))
             have hbB : Below w.heap.size w (w6.alloc (.cells #[.int .i64 0] 3)) := bthen (hbA.trans hb6) ((Below.refl _ _).alloc (Nat.le_refl _) _)
             have hsB := hbB.size
             have hO2 : OwnO (w6.alloc (.cells #[.int .i64 0] 3)) w.heap.size 3 1 (.slice A2 wt.length c2) wt.length (ints (natI wt)) := (by have h9 := HRb.out.o2; unfold Own1 at h9; rw [natI_len] at h9; exact h9)
             clear tok1 hown6 hg6 ha6 hb6 HRa hbA hsA hO1)
          | (at_builtin; have _t := tok2
             go_must (refine wpList_appO rfl _ _ _ rfl w.heap.size 3 i0 _ 1 8 Tryd.underlying25 hi0 hz0 hz1 hz2 rfl (by omega) _ wt.length (ints (natI wt)) rfl hO2 ⟨_, 0, none⟩ 1 1 [.int .i64 0] rfl rfl (cell_one_new _ _ _) (by simp [Value.oneCell']) (by omega) (by omega) hsB ?_)
             intro v7 w7 hown7 hg7 hb7 ha7
             obtain ⟨A7, c7, rfl, _, _, hr7⟩ := OwnO.form hown7
             obtain ⟨ad7, rfl, _, _⟩ := hr7.2 (by omega)
             clear hr7
             obtain ⟨hcell7, hfz7, hR8, hg8, hbk8⟩ := fresh_weight (q := sg.length) HWL.out.symm HRb.out hg7 hown7 ha7
             have hB8 : Below w.heap.size w (w7.setCell (ad7.add sg.length) (.int .i64 1)) := (hbB.trans hb7).grown hg8 (hbB.trans hb7).size (fun q hq => by cases hq; exact hbk8)
             have HRc := Lib.hid (hR8.below ((Below.refl _ _).alloc (Nat.le_refl _) (.cells #[.int .i64 (sg.length : Int)] 3)))
             have hbC : Below w.heap.size w ((w7.setCell (ad7.add sg.length) (.int .i64 1)).alloc (.cells #[.int .i64 (sg.length : Int)] 3)) := bthen hB8 ((Below.refl _ _).alloc (Nat.le_refl _) _)
             have hsC := hbC.size
             have hO3 : OwnO ((w7.setCell (ad7.add sg.length) (.int .i64 1)).alloc (.cells #[.int .i64 (sg.length : Int)] 3)) w.heap.size 3 1 (.slice A3 tx.length c3) tx.length (ints (natI tx)) := (by have h9 := HRc.out.o3; unfold Own1 at h9; rw [natI_len] at h9; exact h9)
             have hnw : ∀ j u, [Value.int .i64 (sg.length : Int)][j]? = some u → ((w7.setCell (ad7.add sg.length) (.int .i64 1)).alloc (.cells #[.int .i64 (sg.length : Int)] 3)).cell? (Addr.add ⟨w7.heap.size, 0, none⟩ j) = some u := (fun j u hj => by
               have h9 := cells_new (w7.setCell (ad7.add sg.length) (.int .i64 1)) #[.int .i64 (sg.length : Int)] 3 j u hj
               rw [show (w7.setCell (ad7.add sg.length) (.int .i64 1)).heap.size = w7.heap.size by simp] at h9
               exact h9)
             clear tok2 hown7 hg7 ha7 hb7 HRb hbB hsB hO2 hR8 hg8 hbk8 hB8)
          | (at_builtin
             go_must (refine wpList_appO rfl _ _ _ rfl w.heap.size 3 i0 _ 1 8 Tryd.underlying25 hi0 hz0 hz1 hz2 rfl (by omega) _ tx.length (ints (natI tx)) rfl hO3 ⟨_, 0, none⟩ 1 1 [.int .i64 (sg.length : Int)] rfl rfl hnw (by simp [Value.oneCell']) (by omega) (by omega) hsC ?_)
             intro v8 w8 hown8 hg8 hb8 ha8))
        have HR9 := Lib.hid (HRc.out.app3 (natI_len tx).symm hg8 hown8 ha8)
        rw [Hid, ← natI_snoc] at HR9
        have hB9 := hbC.trans hb8
        go_roundw
        case rel => exact ⟨t + 1, sg ++ [x], wt ++ [1], tx ++ [sg.length], by go_num, by omega, by rw [List.length_append]; exact Nat.succ_le_succ hsg, by rw [List.length_append]; exact Nat.succ_le_succ hwt, by rw [List.length_append]; exact Nat.succ_le_succ htx, HTX1, HCN.out, HR9, hB9⟩
        case measure => simp [intOf]; omega
      · have HKX := Lib.hid hkx
        clear hkx
        have hwl := HCO.out.len
        have hkw : k < wt.length := by omega
        have HWL := Lib.hid hwl
        clear hwl
        obtain ⟨A', c', hv, _, _, hr2⟩ := HR.out.o2.form
        rw [natI_len] at hv
        cases hv
        obtain ⟨ad2, rfl, -, -⟩ := intCell (k := k) (by rw [natI_len] at hr2; exact hr2) hkw
        clear hr2
        have hO2 := HR.out.o2
        have hcw := own1_at (l := natI wt) (n := wt.length) (by have h9 := hO2; unfold Own1 at h9; rw [natI_len] at h9; exact h9) hkw
        rw [natI_at _ hkw] at hcw
        have hwk : wt.getD k 0 ≤ 200 := by
          have h9 := HCO.out.w (wt.getD k 0) (by rw [List.getD_eq_getElem?_getD, List.getElem?_eq_getElem hkw]; exact List.getElem_mem _)
          omega
        have HR9 : Hid (Rw4 (w5.setCell (ad2.add k) (.int .i64 (((wt.getD k 0 : Nat) : Int) + 1))) w.heap.size (.slice (some ad) l.length cl) l (.slice A1 sg.length c1) sg (.slice (some ad2) wt.length c2) (natI (wt.set k (wt.getD k 0 + 1))) (.slice A3 tx.length c3) (natI tx) ∧ w5.frozen? (ad2.add k) = false ∧ w5.grownBy (w5.setCell (ad2.add k) (.int .i64 (((wt.getD k 0 : Nat) : Int) + 1))) (some ad2.block)) := by
          have h9 := HR.out
          have e9 : (Value.slice (some ad2) wt.length c2) = .slice (some ad2) (natI wt).length c2 := by rw [natI_len]
          rw [e9] at h9 ⊢
          have h8 := h9.set2 (j := k) (by rw [natI_len]; exact hkw) (((wt.getD k 0 : Nat) : Int) + 1)
          rw [natI_set]
          have e8 : (((wt.getD k 0 + 1 : Nat)) : Int) = ((wt.getD k 0 : Nat) : Int) + 1 := by omega
          rw [e8]
          exact h8
        have hfz := HR9.out.2.1
        have hO3 := HR9.out.1.o3
        have HCN := Lib.hid (HCO.out.again hlt hk (by rw [HKX.out, HX.out]))
        have hbW : Below w.heap.size w (w5.setCell (ad2.add k) (.int .i64 (((wt.getD k 0 : Nat) : Int) + 1))) := hb.grown HR9.out.2.2 hbs (fun q hq => by cases hq; exact (hO2.lt _ rfl).1)
        have HBW := Lib.hid hbW
        have hO3' : OwnO ((w5.setCell (ad2.add k) (.int .i64 (((wt.getD k 0 : Nat) : Int) + 1))).alloc (.cells #[.int .i64 (k : Int)] 3)) w.heap.size 3 1 (.slice A3 tx.length c3) tx.length (ints (natI tx)) := by
          have h9 := hO3.below ((Below.refl _ _).alloc (Nat.le_refl _) (.cells #[.int .i64 (k : Int)] 3))
          rw [natI_len] at h9
          exact h9
        have HRA := Lib.hid (HR9.out.1.below ((Below.refl _ _).alloc (Nat.le_refl _) (.cells #[.int .i64 (k : Int)] 3)))
        have hbA : Below w.heap.size w ((w5.setCell (ad2.add k) (.int .i64 (((wt.getD k 0 : Nat) : Int) + 1))).alloc (.cells #[.int .i64 (k : Int)] 3)) := bthen hbW ((Below.refl _ _).alloc (Nat.le_refl _) _)
        have hbsA := hbA.size
        have HTX1 : Hid ((tx ++ [k]).length = t + 1) := by rw [Hid, List.length_append, HTX.out]; rfl
        clear hO2 hO3 HR HR9 HCO HKX HX hbW
        generalize wt.getD k 0 = wk at *
        have hnw : ∀ j u, [Value.int .i64 (k : Int)][j]? = some u → ((w5.setCell (ad2.add k) (.int .i64 ((wk : Int) + 1))).alloc (.cells #[.int .i64 (k : Int)] 3)).cell? (Addr.add ⟨w5.heap.size, 0, none⟩ j) = some u := fun j u hj => by
          have h9 := cells_new (w5.setCell (ad2.add k) (.int .i64 ((wk : Int) + 1))) #[.int .i64 (k : Int)] 3 j u hj
          rw [show (w5.setCell (ad2.add k) (.int .i64 ((wk : Int) + 1))).heap.size = w5.heap.size by simp] at h9
          exact h9
        go_wp2_with (at_builtin; go_must (refine wpList_appO rfl _ _ _ rfl w.heap.size 3 i0 _ 1 8 Tryd.underlying25 hi0 hz0 hz1 hz2 rfl (by omega) _ tx.length (ints (natI tx)) rfl hO3' ⟨_, 0, none⟩ 1 1 [.int .i64 (k : Int)] rfl rfl hnw (by simp [Value.oneCell']) (by omega) (by omega) hbsA ?_); intro v6 w6 hown6 hg6 hb6 ha6)
        have HR6 := Lib.hid (HRA.out.app3 (by rw [natI_len]) hg6 hown6 ha6)
        rw [Hid, ← natI_snoc] at HR6
        have hB6 := hbA.trans hb6
        go_roundw
        case rel => exact ⟨t + 1, sg, wt.set k (wk + 1), tx ++ [k], by go_num, by omega, by omega, by rw [List.length_set]; omega, by rw [List.length_append]; exact Nat.succ_le_succ htx, HTX1, HCN.out, HR6, hB6⟩
        case measure => simp [intOf]; omega
    · obtain rfl : t = l.length := by omega
      have g1 : decide ((l.length : Int) < (l.length : Int)) = false := decide_eq_false (by omega)
      have g1' : decide (l.length < l.length) = false := decide_eq_false hlt
      have HWL := Lib.hid HCO.out.len
      obtain ⟨A', c', hv, _, _, hr2⟩ := HR.out.o2.form
      rw [natI_len] at hv hr2
      cases hv
      by_cases h12 : 12 < sg.length
      · have g2 : decide ((12 : Int) < (sg.length : Int)) = true := decide_eq_true (by omega)
        have g2' : decide (12 < sg.length) = true := decide_eq_true h12
        have hw2 := HCO.out.bad h12
        have HM := makeErr_any (intN wt) A2 wt.length c2 _ wr hr2 (by omega) (by rw [hw2]; decide)
        rw [hw2] at HM
        have HM := Lib.hid HM
        clear HR HCO hr2 hw2
        go_wp2_with fail
        refine HM.out.mono ?_
        rintro e w5 ⟨rfl, rfl⟩
        go_wp2_with fail
        go_ret
        exact ⟨rfl, hb⟩
      have g2 : decide ((12 : Int) < (sg.length : Int)) = false := decide_eq_false (by omega)
      have g2' : decide (12 < sg.length) = false := decide_eq_false h12
      have hw12 : wt.length ≤ 12 := by have := HWL.out; omega
      have HM := Lib.hid (make_any wt A2 wt.length c2 _ wr hr2 (Nat.le_refl _) (HCO.out.fine hln (by omega)) hw12)
      obtain ⟨_, q2, q3, q4⟩ := lensOf_err (ws := wt) hw12
      generalize lensOf wt = ns at *
      have HCR := Lib.hid (codes_right q2 q4 (by omega))
      have HCF := Lib.hid (codes_front q2 q4)
      have HCLN : Hid (∀ i, i < (codesL ns).length → 1 ≤ ((codesL ns).getD i []).length ∧ ((codesL ns).getD i []).length ≤ 12) := fun i hi => codes_len q2 (by rw [codesL_len'] at hi; exact hi)
      have HWN : Hid ((codesL ns).length = wt.length) := by rw [Hid, codesL_len', q3]
      have HMX : Hid (∀ x ∈ codesL ns, x.length ≤ maxLen) := fun x hx => by
        obtain ⟨i, hi, rfl⟩ := List.getElem_of_mem hx
        have h9 := (HCLN.out i hi).2
        rw [List.getD_eq_getElem?_getD, List.getElem?_eq_getElem hi] at h9
        simp only [Option.getD_some] at h9
        unfold maxLen; omega
      clear q2 q3 q4 hr2
      generalize codesL ns = lw at *
      have HBAD : Hid ((natI tx).any (bad lw.length) = false) := by
        unfold Hid
        rw [List.any_eq_false]
        intro x hx
        unfold natI at hx
        obtain ⟨k, hk, rfl⟩ := List.mem_map.1 hx
        have h9 := HCO.out.lt k hk
        have := HWN.out; have := HWL.out
        unfold bad
        rw [decide_eq_true_iff]
        omega
      have HPE : Hid (packErr lw (natI tx) = 0) := by
        unfold Hid packErr putErr
        rw [if_pos HCR.out, if_neg (by rw [natI_len]; omega), HBAD.out]; rfl
      have HPO : Hid (packOut lw (natI tx) = joinI lw (natI tx)) := packOut_ok HPE.out
      have HJL : Hid ((joinI lw (natI tx)).length ≤ 2400) := by
        have h9 := joinI_len (l := lw) (fun i hi => (HCLN.out i hi).2) (natI tx)
        rw [natI_len] at h9
        unfold Hid; omega
      go_wp2_with fail
      refine HM.out.mono ?_
      rintro e w5 ⟨vw, rfl, hown5, hb5⟩
      obtain ⟨Aw, cw, rfl, hncw, _, hrw⟩ := own_form hown5
      have HRW := Lib.hid hrw
      have hR5 := HR.out.below hb5
      have HR5 := Lib.hid hR5
      have hB5 := bthen hb hb5
      obtain ⟨A', c', hv, _, _, hr3⟩ := hR5.o3.form
      rw [natI_len] at hv
      cases hv
      have HPP := packPut_any Aw wt.length cw _ lw A3 tx.length c3 _ (natI tx) w5 hrw (Nat.le_refl _) (by rw [natI_len] at hr3; exact hr3) (Nat.le_refl _) hncw HMX.out
      rw [HPE.out, HPO.out] at HPP
      have HPP := Lib.hid HPP
      clear HM HR hown5 hrw hR5 hr3 hb hb5
      generalize hbt : joinI lw (natI tx) = bits at *
      have HBT := Lib.hid hbt
      clear hbt
      go_wp2_with fail
      refine HPP.out.mono ?_
      rintro e w6 ⟨rfl, hb6⟩
      have HR6 := Lib.hid (HR5.out.below hb6)
      have hB6 := bthen hB5 hb6
      have HPG := Lib.hid (packGet_any Aw wt.length cw _ lw (S bits) w6 (HRW.out.below hb6) hncw hb6.size HMX.out HCR.out (frontB_t HCF.out) (by rw [S_size]; have := HJL.out; omega))
      clear HPP HR5 hB5 hb6
      go_wp2_with fail
      refine HPG.out.mono ?_
      rintro e w7 ⟨hans, hb7⟩
      have HR7 := Lib.hid (HR6.out.below hb7)
      have hB7 := bthen hB6 hb7
      clear HPG HR6 hB6 hb7
      have hkey : ∃ v, e = .returned (.tuple #[v, .int .i64 0]) ∧ w7.ownsRow w6.heap.size 3 1 v l.length (ints (natI tx)) := by
        rcases hans with ⟨v, ks, rfl, hown, hj, hbk⟩ | ⟨rfl, ks, r, hj, hbk, hst⟩
        · rw [L_S] at hj
          have h9 := join_one HCF.out (fun i hi => (HCLN.out i hi).1) ks (natI tx) [] (by rw [HWN.out]; exact hbk) HBAD.out (.inl rfl) (by rw [List.append_nil, HBT.out]; exact hj.symm)
          obtain ⟨rfl, _⟩ := h9
          refine ⟨v, rfl, ?_⟩
          rw [natI_len, HTX.out] at hown
          exact hown
        · rw [L_S] at hj
          have h9 := join_one HCF.out (fun i hi => (HCLN.out i hi).1) ks (natI tx) r (by rw [HWN.out]; exact hbk) HBAD.out (.inr hst) (by rw [HBT.out]; exact hj)
          exact absurd h9.2 hst.1
      obtain ⟨vk, rfl, hown7⟩ := hkey
      obtain ⟨Ak, ck, rfl, _, _, hrk⟩ := own_form hown7
      have HRK := Lib.hid hrk
      clear hans hown7 hrk HRW
      have HGD3 : Hid (∀ W : World, Calls Tryd.prog 11 #[.slice (some ⟨W.heap.size, 0, none⟩) 3 3] (W.alloc (.cells #[.int .i64 0, .int .i64 0, .int .i64 0] 22)) fun e w' => e = .returned (.bool true) ∧ Below (W.alloc (.cells #[.int .i64 0, .int .i64 0, .int .i64 0] 22)).heap.size (W.alloc (.cells #[.int .i64 0, .int .i64 0, .int .i64 0] 22)) w') := fun W =>
        good_any (some ⟨W.heap.size, 0, none⟩) 3 3 (W.heap.size + 1) (W.alloc (.cells #[.int .i64 0, .int .i64 0, .int .i64 0] 22)) (Rd.new_ (size := 1) W _ _ (Nat.lt_succ_self _) rfl) (by simp) (by decide)
      have y1 : ((l.length : Int) != (l.length : Int)) = false := bne_self_eq_false' _
      go_wp2_with fail
      refine (HGD3.out _).mono ?_
      rintro e w8 ⟨rfl, hb8⟩
      have hb8' : Below w7.heap.size w7 w8 := bthen ((Below.refl _ _).alloc (Nat.le_refl _) (.cells #[.int .i64 0, .int .i64 0, .int .i64 0] 22)) hb8
      have HR8 := Lib.hid (HR7.out.below hb8')
      have HRK8 := Lib.hid (HRK.out.below hb8')
      have hs78 := hb8'.size
      have HB8 := bthen hB7 hb8'
      obtain ⟨A', c', hv, _, _, hrs⟩ := HR8.out.o1.form
      cases hv
      have HRS := Lib.hid hrs
      clear HR7 hB7 hb8 hb8' HRK hrs HGD3 HBT HPE HPO HJL HBAD HCR HCF HCLN HWN HMX
      go_wp2_with fail
      go_loopw [20, 121] (fun bv iv wq => ∃ i : Nat, iv = .int .i64 (i : Int) ∧ i ≤ l.length ∧ OwnO wq w8.heap.size 3 1 bv i (ints (l.take i)) ∧ Below w8.heap.size w8 wq) (fun _ iv _ => l.length - (intOf iv).toNat)
      case atStart => exact ⟨0, rfl, Nat.zero_le _, OwnO.nil_, Below.refl _ _⟩
      case round =>
        obtain ⟨i, rfl, hi, hown, hbq⟩ := hrel
        have hqs := hbq.size
        by_cases hlt2 : i < l.length
        · have g3 : decide ((i : Int) < (l.length : Int)) = true := decide_eq_true (by omega)
          have g3' : decide (i < l.length) = true := decide_eq_true hlt2
          obtain ⟨hcx, hck⟩ := HCO.out.at_ hlt2 HTX.out
          obtain ⟨adk, rfl, -, c0⟩ := intCell ((HRK8.out.more hs78).below hbq) hlt2
          rw [natI_at _ (by rw [HTX.out]; exact hlt2)] at c0
          obtain ⟨k, hk⟩ : ∃ k, k = tx.getD i 0 := ⟨_, rfl⟩
          rw [← hk] at c0 hcx hck
          obtain ⟨ads, rfl, -, c4⟩ := intCell (HRS.out.below hbq) hck
          rw [hcx] at c4
          have HAP : Hid (ints (l.take i) ++ [.int .i64 (l.getD i 0)] = ints (l.take (i + 1))) := by
            rw [Hid, List.take_succ_eq_append_getElem hlt2, ints_cat, List.getD_eq_getElem?_getD, List.getElem?_eq_getElem hlt2]; rfl
          have g4 : decide ((sg.length : Int) ≤ (k : Int)) = false := decide_eq_false (by omega)
          have g4' : decide (sg.length ≤ k) = false := decide_eq_false (by omega)
          have hO := hown.below ((Below.refl _ _).alloc (Nat.le_refl _) (.cells #[.int .i64 (l.getD i 0)] 3))
          have hbA : Below w8.heap.size w8 (wr.alloc (.cells #[.int .i64 (l.getD i 0)] 3)) := bthen hbq ((Below.refl _ _).alloc (Nat.le_refl _) _)
          clear hk hcx
          generalize l.getD i 0 = x at *
          go_wp2_with (at_builtin; go_must (refine wpList_appO rfl _ _ _ rfl w8.heap.size 3 i0 _ 1 8 Tryd.underlying25 hi0 hz0 hz1 hz2 rfl (by omega) _ i (ints (l.take i)) rfl hO ⟨_, 0, none⟩ 1 1 [.int .i64 x] rfl rfl (cell_one_new _ _ _) (by simp [Value.oneCell']) (by omega) (by omega) hbA.size ?_); intro v9 w9 hown9 hg9 hb9 ha9)
          rw [HAP.out] at hown9
          have hB9 := hbA.trans hb9
          go_roundw
          case rel => exact ⟨i + 1, by go_num, by omega, hown9, hB9⟩
          case measure => simp [intOf]; omega
        · obtain rfl : i = l.length := by omega
          have g3 : decide ((l.length : Int) < (l.length : Int)) = false := decide_eq_false (by omega)
          rw [List.take_length] at hown
          obtain ⟨Ab, cb, rfl, _, _, hrb⟩ := hown.form
          have HFG := frontGet_any l Ab l.length cb _ hrb (by omega)
          rw [HGP.out.1, HGP.out.2.1, S_L] at HFG
          have HFG := Lib.hid HFG
          have HTGC := Lib.hid (fun W => turnGet_any T (at_ : Int) ⟨by omega, by omega⟩ W)
          rw [Hid, HTG.out.1, HTG.out.2, S_L] at HTGC
          have HTGC := Lib.hid HTGC
          have hBq := bthen HB8 hbq
          have HGD2 : Hid (∀ W : World, Calls Tryd.prog 11 #[.slice (some ⟨W.heap.size, 0, none⟩) 2 2] (W.alloc (.cells #[.int .i64 0, .int .i64 0] 22)) fun e w' => e = .returned (.bool true) ∧ Below (W.alloc (.cells #[.int .i64 0, .int .i64 0] 22)).heap.size (W.alloc (.cells #[.int .i64 0, .int .i64 0] 22)) w') := fun W =>
            good_any (some ⟨W.heap.size, 0, none⟩) 2 2 (W.heap.size + 1) (W.alloc (.cells #[.int .i64 0, .int .i64 0] 22)) (Rd.new_ (size := 1) W _ _ (Nat.lt_succ_self _) rfl) (by simp) (by decide)
          have y5 : (s.toList == s.toList) = true := beq_self_eq_true _
          clear hown hrb HRS HRK8 HR8 HCO HTX HB8 hbq
          go_wp2_with fail
          refine HFG.out.mono ?_
          rintro e w10 ⟨rfl, hb10⟩
          go_wp2_with fail
          refine (HTGC.out _).mono ?_
          rintro e w11 ⟨rfl, hb11⟩
          have hB11 := bthen (bthen hBq hb10) hb11
          go_wp2_with fail
          refine (HGD2.out _).mono ?_
          rintro e w12 ⟨rfl, hb12⟩
          have hB12 := bthen hB11 (bthen ((Below.refl _ _).alloc (Nat.le_refl _) (.cells #[.int .i64 0, .int .i64 0] 22)) hb12)
          go_wp2_with fail
          go_ret
          exact ⟨rfl, hB12⟩
end Go.Proofs.YtncakjchaniheaaDoor
namespace Go.Proofs.YtncakjchaniheaaDoor
open Go.ChangeShapes Go.WideShapes Go.ChangeAt Go.RowKit Go.Deep
open Go.ChangeMaps (open_string)

section
variable {H : Type} {enc : TypeId × Value → H} {P : Program} {W : World}

theorem reach_le : reachBytes ≤ 140737488351232 := by decide
/-- A slice, as a list of what its elements decode to. -/
theorem open_rd {α : Type} [Inhabited α] {size : Nat} {ec : α → List Value} {Q : α → Prop} {t e : TypeId} (ht : P.underlying t = some (.slice e)) (hC : P.cellsOf e = size) (hpos : 0 < size)
    (hec : ∀ x, (ec x).length = size)
    (hdec : ∀ fuel cs y, cs.length = size → DataW.trod enc P W 0 (fun _ => true) true fuel e cs = some y → ∃ x, cs = ec x ∧ Q x)
    {fuel : Nat} {cs : List Value} {y : DataW H × List MemPlace} (h : DataW.trod enc P W 0 (fun _ => true) true fuel t cs = some y) :
    ∃ (A : Option Addr) (n c : Nat) (l : List α), cs = [.slice A n c] ∧ n ≤ c ∧ c ≤ maxLen ∧ l.length = n ∧ Rd W W.heap.size size A n (l.flatMap ec) ∧ (∀ x ∈ l, Q x) ∧
      ((y.1 = .nil ∧ c = 0) ∨ ∃ el sp, y.1 = .slice el sp ∧ el.length + sp.length = c) := by
  rcases open_slice ht h with ⟨rfl, rfl⟩ | ⟨a, len, cap, m, n, D, Pl, rfl, hb, hl, hm, hmm, rfl, hi⟩
  · exact ⟨none, 0, 0, [], rfl, Nat.le_refl _, Nat.zero_le _, rfl, Rd.nil_, by simp, .inl ⟨rfl, rfl⟩⟩
  · have hm' : m = cap := by simpa using hmm
    subst hm'
    have key : ∀ i, i < m → ∃ x, Q x ∧ ∀ j u, (ec x)[j]? = some u → W.cell? (a.add (i * size + j)) = some u := by
      intro i him
      obtain ⟨cs', hc, ht'⟩ := hi i him
      rw [hC] at hc
      obtain ⟨_, hcl, hat⟩ := World.cells?_some hc
      obtain ⟨x, rfl, hq⟩ := hdec n cs' _ hcl ht'
      refine ⟨x, hq, fun j u hu => ?_⟩
      have hj : j < size := by rw [← hec x]; exact (List.getElem?_eq_some_iff.1 hu).1
      rw [← add_add, hat j hj, hu]
    have hx : ∀ i : Nat, ∃ x, i < m → (Q x ∧ ∀ j u, (ec x)[j]? = some u → W.cell? (a.add (i * size + j)) = some u) := by
      intro i
      by_cases him : i < m
      · obtain ⟨x, hx⟩ := key i him
        exact ⟨x, fun _ => hx⟩
      · exact ⟨default, fun h => absurd h him⟩
    have hch : ∃ f : Nat → α, ∀ i, i < m → (Q (f i) ∧ ∀ j u, (ec (f i))[j]? = some u → W.cell? (a.add (i * size + j)) = some u) := ⟨fun i => Classical.choose (hx i), fun i => Classical.choose_spec (hx i)⟩
    obtain ⟨f, hf⟩ := hch
    refine ⟨some a, len, m, (List.range len).map f, rfl, hl, hm, by simp, ⟨?_, fun hn => ⟨a, rfl, ?_, ?_⟩⟩, ?_, .inr ⟨_, _, rfl, by simp; omega⟩⟩
    · rw [List.length_flatMap]
      have : (List.map (fun a => (ec a).length) (List.map f (List.range len))) = List.replicate len size := by
        rw [List.map_map]
        apply List.ext_getElem
        · simp
        · intro i h1 h2; simp [hec]
      rw [this]; simp
    · have h1 := (hf 0 (by omega)).2 0 ((ec (f 0))[0]'(by rw [hec]; exact hpos)) (List.getElem?_eq_getElem _)
      have := World.block_lt_of_cell? _ _ h1
      simpa [blk_add] using this
    · have gen : ∀ (k : Nat) (j : Nat) (u : Value), k ≤ m → (((List.range k).map f).flatMap ec)[j]? = some u → W.cell? (a.add j) = some u := by
        intro k
        induction k with
        | zero => intro j u _ hu; simp at hu
        | succ k ih =>
          intro j u hk hu
          rw [List.range_succ, List.map_append, List.flatMap_append, List.getElem?_append] at hu
          have hlen : (((List.range k).map f).flatMap ec).length = k * size := by
            rw [List.length_flatMap]
            have : (List.map (fun a => (ec a).length) (List.map f (List.range k))) = List.replicate k size := by
              rw [List.map_map]
              apply List.ext_getElem
              · simp
              · intro i h1 h2; simp [hec]
            rw [this]; simp
          split at hu
          · exact ih j u (by omega) hu
          · rename_i hge
            rw [hlen] at hu hge
            have := (hf k (by omega)).2 (j - k * size) u (by simpa using hu)
            rwa [show k * size + (j - k * size) = j by omega] at this
      exact fun j u hu => gen len j u hl hu
    · intro x hx
      simp only [List.mem_map, List.mem_range] at hx
      obtain ⟨i, hi', rfl⟩ := hx
      exact (hf i (by omega)).1

/-- A struct of one-cell fields: each field's cell reads by the field's own type. -/
theorem open_fields {e : TypeId} {fs : Array Field} (he : P.underlying e = some (.struct fs)) (hone : oneCellFields P fs = true) {fuel : Nat} {cs : List Value} {y : DataW H × List MemPlace}
    (h : DataW.trod enc P W 0 (fun _ => true) true fuel e cs = some y) (hlen : cs.length = fs.size) :
    ∃ n, ∀ (j : Nat) (f : Field) , fs[j]? = some f → ∃ v x, cs[j]? = some v ∧ DataW.trod enc P W 0 (fun _ => true) true n f.type [v] = some x := by
  obtain ⟨ys, n', hn', hy, hl, hyl, hf⟩ := DataW.trod_struct he h
  refine ⟨n', fun j f hj => ?_⟩
  obtain ⟨ho, hk⟩ := hone_of hone j f hj
  have hjl : j < fs.size := (Array.getElem?_eq_some_iff.1 hj).1
  have h1 := hf j f hj
  rw [ho, hk] at h1
  have hone' : (cs.drop j).take 1 = [cs[j]'(by omega)] := by
    rw [List.drop_eq_getElem_cons (by omega)]
    rfl
  rw [hone'] at h1
  have hys : ys[j]? = some (ys[j]'(by omega)) := List.getElem?_eq_getElem (by omega)
  exact ⟨_, _, List.getElem?_eq_getElem (by omega), h1.trans hys⟩

theorem dec_int {e : TypeId} {k : IntKind} (he : P.underlying e = some (.int k)) : ∀ fuel cs y, DataW.trod enc P W 0 (fun _ => true) true fuel e cs = some y → ∃ x : Int, cs = [.int k x] ∧ (Lit.int k x).wf = true := by
  intro fuel cs y h
  obtain ⟨x, h1, _, h2⟩ := DataW.trod_int he h
  exact ⟨x, h1, h2⟩
theorem dec_str {e : TypeId} (he : P.underlying e = some .string) : ∀ fuel cs y, DataW.trod enc P W 0 (fun _ => true) true fuel e cs = some y → ∃ x : ByteArray, cs = [.string x] ∧ x.size ≤ maxLen := by
  intro fuel cs y h
  obtain ⟨x, h1, _, h2⟩ := DataW.trod_string he h
  exact ⟨x, h1, h2⟩

theorem trodAll_below (hl : laidOutB P = true) {W' : World} (hb : Below W.heap.size W W') : ∀ (ts : List TypeId) (vs : List Value) (ds : List (DataW H)) (ps : List MemPlace),
    (∀ t ∈ ts, P.readableRec t = true ∧ t < P.types.size) → (∀ x ∈ ps, x.block < W.heap.size) → DataW.TrodAll enc P W 0 (fun _ => true) true ts vs ds ps →
    DataW.TrodAll enc P W' 0 (fun b => decide (b < W.heap.size)) true ts vs ds ps
  | [], [], [], _, _, _, h => h
  | t :: ts, v :: vs, d :: ds, ps, hr, hp, h => by
    obtain ⟨p, q, h1, h2, rfl⟩ := h
    exact ⟨p, q, Below.trod hl (hr t (by simp)).1 (hr t (by simp)).2 h1 hb (fun x hx => hp x (by simp [hx])), trodAll_below hl hb ts vs ds q (fun t ht => hr t (by simp [ht])) (fun x hx => hp x (by simp [hx])) h2, rfl⟩
  | [], _ :: _, _, _, _, _, h => by cases h
  | [], [], _ :: _, _, _, _, h => by cases h
  | _ :: _, [], _, _, _, _, h => by cases h
  | _ :: _, _ :: _, [], _, _, _, h => by cases h

/-- A law's row, closed. -/
theorem law_close {f : Func} {s : ChangeSpec} {W' : World} {args : Array Value} {ds : List (DataW H)} {before : List MemPlace} {tb : TypeId}
    (hW : DataW.Whole enc P f.params.toList s.vars false W args.toList ds [] before) (hs : s.vars = []) (hfn : s.fn H (ds ++ []) = { results := [.lit (.bool true)], args := ds })
    (hres : f.resultTypes = #[tb]) (hu : P.underlying tb = some .bool) (hl : laidOutB P = true) (hr : ∀ t ∈ f.params.toList, P.readableRec t = true ∧ t < P.types.size)
    (hb : Below W.heap.size W W') : s.post enc P f false true false false W args (.bool true) W' := by
  have hlt := hW.lt
  have hW' := hW
  obtain ⟨p, q, hA, hV, rfl, _, _⟩ := hW
  rw [hs] at hV
  obtain ⟨_, rfl⟩ := trodVars_none hV
  simp only [List.append_nil] at hW' hlt
  refine ⟨ds, [], p, [], p, [], hW', ?_, ?_, ?_, ?_, fun h => by cases h⟩
  · rw [hfn, hres]
    exact trodAll_mk1 (shut_bool hu true)
  · rw [hfn]
    exact trodAll_below hl hb _ _ _ _ hr hlt hA
  · rw [hfn, hs]
    rfl
  · exact hb.frame _
end
end Go.Proofs.YtncakjchaniheaaDoor
