/- The law TopKept, walked. How arguments are opened to plain data (slices of any element as lists of cells), and how a law's row is closed from: the call returns true and nothing that was there has turned. Phrases, as plain functions. No program in sight. -/
import Derived.Test.YtmikckhihfcooaaDoorPk27
import Derived.Test.YtmikckhihfcooaaDoorPk28
import Derived.Test.YtmikckhihfcooaaDoorPk29
import Derived.Test.YtmikckhihfcooaaDoorPk26
import Derived.Test.YtmikckhihfcooaaDoorPk01
import Derived.ProofKit
import Derived.OpenShut
import Derived.SizedLaws
import Derived.Deep.Slices
import Derived.Deep.Fields
import Derived.Lib.SmallJoins
namespace Go.Proofs.YtmikckhihfcooaaDoor
open Go.RowKit
theorem infoScs : (Tryd.prog.info? 22).map (fun i => (i.zero, i.size, i.bytes)) = some (some (.slice none 0 0), 1, 24) := by kernel_rfl
theorem below_oneK {w : World} (o : Obj) : Below w.heap.size w (w.alloc o) := (Below.refl _ _).alloc (Nat.le_refl _) _
/-- What is so of all of them, in plain words. -/
structure KpOk (s tx d : ByteArray) (sf : Nat) (es : Es) (p : Parts) (dn : List Dn) : Prop where
  lf : LfOk tx d sf
  eo : EsOk es
  et : es.text = L tx
  rp : RopeOk p
  rt : p.flatten = L tx
  at_ : ∃ cs wh, KeptAt (L s) (L tx) (dnScs dn) cs wh
theorem KpOk.start {s : ByteArray} (hs : s.size ≤ 200) : KpOk s s (newD s) (newD s).size ⟨L s, [], []⟩ (ofP (L s) 7) [] := by
  obtain ⟨_, h1, h2⟩ := of_seven (s := L s) (by rw [L_len]; exact hs)
  exact ⟨LfOk.new_ hs, ⟨by show (L s).length ≤ 200; rw [L_len]; exact hs, fun x hx => absurd hx (by simp), fun x hx => absurd hx (by simp), by simp⟩, rfl, h1, h2, _, _, KeptAt.start (by rw [L_len]; exact hs)⟩
theorem KpOk.sz {s tx d : ByteArray} {sf : Nat} {es : Es} {p : Parts} {dn : List Dn} (h : KpOk s tx d sf es p dn) : tx.size ≤ 200 := h.lf.text
/-- A right edit: what all of them come to. -/
theorem KpOk.step {s tx d : ByteArray} {sf : Nat} {es : Es} {p p' : Parts} {dn : List Dn} (h : KpOk s tx d sf es p dn) {x : Ed} (k : Nat) (he : edErr tx.size [x] = 0) (ha : appErr d (recE (S (wrL [x]))) = 0) (hp : RopeOk p' ∧ p'.flatten = edDone (L tx) [x]) :
    KpOk s (lfT tx d [x]) (lfD tx d [x]) sf (doS es [x]) p' (dn ++ [(k, x)]) ∧ lfT tx d [x] = S (edDone (L tx) [x]) := by
  have h0 : lfE tx d [x] = 0 := by unfold lfE; rw [if_pos he]; exact ha
  have hT : lfT tx d [x] = S (edDone (L tx) [x]) := by unfold lfT; rw [if_pos h0]
  have hD : lfD tx d [x] = appD d (recE (S (wrL [x]))) := by unfold lfD; rw [if_pos h0]
  have hde : doE es [x] = 0 := by
    unfold doE
    rw [h.et, L_len, if_pos he, if_neg (by simp)]
  have heL : edErr (L tx).length [x] = 0 := by rw [L_len]; exact he
  refine ⟨⟨by rw [hT, hD]; exact h.lf.edit he ha, h.eo.do_ [x], ?_, hp.1, by rw [hT, L_S]; exact hp.2, ?_⟩, hT⟩
  · unfold doS
    rw [if_pos hde, hT, L_S, h.et]
  · obtain ⟨cs, wh, hk⟩ := h.at_
    have h9 := hk.step (dnSc (k, x)) heL
    have h8 : KeptAt (L s) (L (lfT tx d [x])) (dnScs (dn ++ [(k, x)])) (tApply cs 0 (dnSc (k, x)).l) (wh.map (wOne (dnSc (k, x)).l)) := by
      rw [hT, L_S]
      unfold dnScs
      rw [List.map_append]
      exact h9
    exact ⟨_, _, h8⟩
theorem KpOk.rope {s tx d : ByteArray} {sf : Nat} {es : Es} {p : Parts} {dn : List Dn} (h : KpOk s tx d sf es p dn) {x : Ed} (he : edErr tx.size [x] = 0) :
    (ropeEdE p x = 0 ∨ ropeEdE p x = 11) ∧ (ropeEdE p x = 0 → RopeOk (ropeEdP p x) ∧ (ropeEdP p x).flatten = edDone (L tx) [x]) := by
  have ht : tot p = tx.size := by unfold tot; rw [h.rt, L_len]
  have := rope_one h.rp (x := x) (by rw [ht]; exact he)
  rw [h.rt] at this
  exact this
theorem KpOk.fin {s tx d : ByteArray} {sf : Nat} {es : Es} {p : Parts} {dn : List Dn} (h : KpOk s tx d sf es p dn) (hs : s.size ≤ 200) :
    (manyErr (s.size : Int) (dnScs dn) ≠ 0 → manyErr (s.size : Int) (dnScs dn) = 2) ∧ (manyErr (s.size : Int) (dnScs dn) = 0 → edErr (s.size : Int) (manyOut (s.size : Int) (dnScs dn)) = 0 ∧ apOut s (manyOut (s.size : Int) (dnScs dn)) = tx) := by
  obtain ⟨cs, wh, hk⟩ := h.at_
  have := hk.fin (by rw [L_len]; exact hs)
  rw [L_len] at this
  refine ⟨this.1, fun h0 => ?_⟩
  obtain ⟨h1, h2⟩ := this.2 h0
  refine ⟨h1, ?_⟩
  unfold apOut
  rw [if_pos h1, h2, S_L]
theorem kept_crash {tx d : ByteArray} {sf : Nat} (h : LfOk tx d sf) : craErr d d.size 0 = 0 ∧ cfLT tx d d.size 0 = tx ∧ craD d d.size 0 = d ∧ craF d d.size 0 = d.size := by
  obtain ⟨h0, h1, h2⟩ := cra_whole h.save
  refine ⟨h0, ?_, h1, h2⟩
  unfold cfLT
  rw [if_pos h0, h1]
  exact h.reads.1
set_option maxRecDepth 100000 in
set_option maxHeartbeats 4000000 in
theorem topKeptBig_any (s : ByteArray) (A : Option Addr) (n c : Nat) (w : World) (hs : 200 < s.size) (hz : s.size ≤ 9223372036854775807) :
    Calls Tryd.prog 3 #[.string s, .slice A n c] w fun e w' => e = .returned (.bool true) ∧ Below w.heap.size w w' := by
  have HOF := Lib.hid (fun W => ropeOf_any s 7 hz (by omega) (by omega) W)
  have hE : ofE (L s) 7 = 2 := by unfold ofE; rw [L_len, if_pos hs]
  rw [hE] at HOF
  have HWK := Lib.hid works_any
  have g1 : decide ((200 : Int) < (s.size : Int)) = true := decide_eq_true (by omega)
  have HGD : Hid (∀ W : World, Calls Tryd.prog 8 #[.slice (some ⟨W.heap.size, 0, none⟩) 3 3] (W.alloc (.cells #[.int .i64 2, .int .i64 2, .int .i64 2] 24)) fun e w' => e = .returned (.bool false) ∧ Below (W.alloc (.cells #[.int .i64 2, .int .i64 2, .int .i64 2] 24)).heap.size (W.alloc (.cells #[.int .i64 2, .int .i64 2, .int .i64 2] 24)) w') := fun W =>
    goodBad_any (some ⟨W.heap.size, 0, none⟩) 3 (W.heap.size + 1) (W.alloc (.cells #[.int .i64 2, .int .i64 2, .int .i64 2] 24)) (Rd.new_ (size := 1) W _ _ (Nat.lt_succ_self _) rfl) (by simp)
  clear hE
  go_enter Tryd.func3, Tryd.ntmps3
  go_wp2_with fail
  refine (lfNewBig_any s _ hs).mono ?_
  rintro e w1 ⟨rfl, hb1⟩
  go_wp2_with fail
  refine (undoNew_large s hs w1).mono ?_
  rintro e w2 ⟨rfl, rfl⟩
  go_wp2_with fail
  refine (HOF.out _).mono ?_
  rintro e w3 ⟨v3, rfl, hown3, hb3⟩
  obtain ⟨A3, c3, rfl, _, _, _⟩ := own_form hown3
  generalize (ofP (L s) 7).length = n3 at *
  have hb3' := bthen hb1 (bthen hb3 (below_oneK (.cells #[.slice A3 n3 c3] 32)))
  clear hb1 hb3 hown3
  go_wp2_with fail
  generalize (w3.alloc (.cells #[.slice A3 n3 c3] 32)) = w4 at *
  refine (HWK.out _).mono ?_
  rintro e w5 ⟨rfl, hb5⟩
  go_wp2_with fail
  refine (HGD.out _).mono ?_
  rintro e w6 ⟨rfl, hb6⟩
  have hb6' := bthen hb3' (bthen hb5 (bthen (below_oneK (.cells #[.int .i64 2, .int .i64 2, .int .i64 2] 24)) hb6))
  go_wp2_with fail
  refine (HWK.out _).mono ?_
  rintro e w7 ⟨rfl, hb7⟩
  go_wp2_with fail
  go_ret
  exact ⟨rfl, bthen hb6' hb7⟩
set_option maxRecDepth 100000 in
set_option maxHeartbeats 16000000 in
theorem topKept_any (s : ByteArray) (l : List Ed) (A : Option Addr) (n c : Nat) (w : World) (hr : Rd w w.heap.size 3 A n (edCells l)) (hn : n * 32 ≤ 140737488351232) (hz : s.size ≤ 9223372036854775807) (ht : TabI w) :
    Calls Tryd.prog 3 #[.string s, .slice A n c] w fun e w' => e = .returned (.bool true) ∧ Below w.heap.size w w' := by
  by_cases hs : 200 < s.size
  · exact topKeptBig_any s A n c w hs hz
  have hs2 : s.size ≤ 200 := by omega
  obtain ⟨i0, hi0, hz0, hz1, hz2⟩ := info_parts infoScs
  have HRR := Lib.hid hr; clear hr
  have HT : Hid (∀ W, Below w.heap.size w W → TabI W) := fun W hb => tabI_stays ht hb
  clear ht
  have HKP0 := Lib.hid (KpOk.start hs2)
  have HNW := Lib.hid (fun W => lfNew_any s W hs2)
  have HOF := Lib.hid (fun W => ropeOf_any s 7 hz (by omega) (by omega) W)
  have hE := (of_seven (s := L s) (by rw [L_len]; exact hs2)).1
  rw [Hid, hE] at HOF
  have HOF := Lib.hid HOF
  have HWK := Lib.hid works_any
  have HGD : Hid (∀ W : World, Calls Tryd.prog 8 #[.slice (some ⟨W.heap.size, 0, none⟩) 3 3] (W.alloc (.cells #[.int .i64 0, .int .i64 0, .int .i64 0] 24)) fun e w' => e = .returned (.bool true) ∧ Below (W.alloc (.cells #[.int .i64 0, .int .i64 0, .int .i64 0] 24)).heap.size (W.alloc (.cells #[.int .i64 0, .int .i64 0, .int .i64 0] 24)) w') := fun W =>
    good_any (some ⟨W.heap.size, 0, none⟩) 3 3 (W.heap.size + 1) (W.alloc (.cells #[.int .i64 0, .int .i64 0, .int .i64 0] 24)) (Rd.new_ (size := 1) W _ _ (Nat.lt_succ_self _) rfl) (by simp) (by decide)
  clear hE
  generalize newD s = d0 at *
  generalize hsf : d0.size = sf at *
  clear hsf
  go_enter Tryd.func3, Tryd.ntmps3
  go_wp2_with fail
  refine (HNW.out _).mono ?_
  rintro e w1 ⟨rfl, hL1, hb1⟩
  have HL1 := Lib.hid hL1
  clear hL1 HNW
  go_wp2_with fail
  refine (undoNew_any s hs2 w1).mono ?_
  rintro e w2 ⟨rfl, hE2, hb2⟩
  have HE2 := Lib.hid hE2
  clear hE2
  go_wp2_with fail
  refine (HOF.out _).mono ?_
  rintro e w3 ⟨v3, rfl, hown3, hb3⟩
  obtain ⟨A3, c3, rfl, hnc3, _, _⟩ := own_form hown3
  obtain ⟨w4, hw4⟩ : ∃ w4, w4 = w3.alloc (.cells #[.slice A3 (ofP (L s) 7).length c3] 32) := ⟨_, rfl⟩
  have hB3 := bthen hb1 (bthen hb2 hb3)
  have HK4 : Hid (KepSt w4 w.heap.size (w.heap.size + 1) w.heap.size s d0 sf w1.heap.size ⟨L s, [], []⟩ (.slice none 0 0) (.slice none 0 0) w3.heap.size (.slice A3 (ofP (L s) 7).length c3) (ofP (L s) 7) (.slice none 0 0) []) := by
    rw [Hid, hw4]
    have hbx := below_oneK (w := w3) (.cells #[.slice A3 (ofP (L s) 7).length c3] 32)
    refine ⟨((HL1.out.below hb2).below hb3).below hbx, Nat.le_succ _, Nat.le_refl _, ⟨((HE2.out.blk.below' hb3).below' hbx), hb1.size, OwnO.nil_, OwnO.nil_, Apart.none_left _⟩, Blk.new_ _ _ _, hB3.size,
      ((OwnO.of_own hown3).below hbx).lower (Nat.le_trans hb1.size hb2.size), (Apart.none_left _).comm, (Apart.none_left _).comm, OwnO.nil_, fun y hy => absurd hy (by simp)⟩
  have hB4 : Below w.heap.size w w4 := by rw [hw4]; exact bthen hB3 (below_oneK _)
  clear hown3 hb1 hb2 hb3 hB3 HL1 HE2 hnc3
  go_wp2_with fail
  rw [← hw4]
  clear hw4
  generalize (Value.slice A3 (ofP (L s) 7).length c3) = vr0 at *
  generalize w3.heap.size = gr at *
  generalize w1.heap.size = ge at *
  generalize ofP (L s) 7 = p0 at *
  refine (HWK.out _).mono ?_
  rintro e w5 ⟨rfl, hb5⟩
  have HK5 := Lib.hid (HK4.out.below hb5)
  have hB5 := bthen hB4 hb5
  clear HK4 hB4 hb5
  go_wp2_with fail
  refine (HGD.out _).mono ?_
  rintro e w6 ⟨rfl, hb6⟩
  have hb6' := bthen (below_oneK (w := w5) (.cells #[.int .i64 0, .int .i64 0, .int .i64 0] 24)) hb6
  have HK6 := Lib.hid (HK5.out.below hb6')
  have hB6 := bthen hB5 hb6'
  clear HK5 hB5 hb6 hb6' HGD HWK HOF
  obtain ⟨gl, hgl⟩ : ∃ gl, gl = w.heap.size := ⟨_, rfl⟩
  obtain ⟨g, hg⟩ : ∃ g, g = w.heap.size + 1 := ⟨_, rfl⟩
  rw [← hg]
  rw [Hid, ← hg] at HK6
  have HK6' : Hid (KepSt w6 w.heap.size g gl s d0 sf ge ⟨L s, [], []⟩ (.slice none 0 0) (.slice none 0 0) gr vr0 p0 (.slice none 0 0) []) := by rw [Hid, hgl]; exact HK6
  clear HK6 hg hgl
  go_wp2_with fail
  go_loopw [11, 67] (fun dv iv wr => ∃ (k : Nat) (tx d : ByteArray) (es : Es) (vB vO vr : Value) (p : Parts) (vd : Value) (dn : List Dn), k ≤ n ∧ iv = .int .i64 (k : Int) ∧ dv = vd ∧ KpOk s tx d sf es p dn ∧ KepSt wr w.heap.size g gl tx d sf ge es vB vO gr vr p vd dn ∧ dn.length ≤ k ∧ Below w.heap.size w wr) (fun _ iv _ => n - (intOf iv).toNat)
  case atStart => exact ⟨0, s, d0, ⟨L s, [], []⟩, _, _, vr0, p0, _, [], Nat.zero_le _, rfl, rfl, HKP0.out, HK6'.out, Nat.le_refl _, hB6⟩
  case round =>
    obtain ⟨k, tx, d, es, vB, vO, vr, p, vd, dn, hk, rfl, hvd, hkp, hst, hdk, hb⟩ := hrel
    have hvd' := hvd.symm
    clear hvd
    subst hvd'
    have HKP := Lib.hid hkp; have HK := Lib.hid hst
    clear hkp hst HKP0 HK6' hB6
    have hbs := hb.size
    by_cases hlt : k < n
    · obtain ⟨ad, hl, rfl, hab, x0, x1, x2⟩ := (HRR.out.below hb).at_ed hlt
      generalize l[k] = x at *
      obtain ⟨w2, hw2⟩ : ∃ w2, w2 = ((wr.alloc (.cells #[.int .i64 x.at_, .int .i64 x.del, .string (S x.ins)] 39)).alloc (.cells #[.int .i64 x.at_, .int .i64 x.del, .string (S x.ins)] 39)) := ⟨_, rfl⟩
      have hb2 : Below wr.heap.size wr w2 := by rw [hw2]; exact (by repeat (first | exact Below.refl _ _ | assumption | refine Below.alloc ?_ (by first | exact Nat.le_refl _ | assumption | omega | (simp <;> omega)) _ | refine Below.setCell ?_ (by first | exact Nat.le_refl _ | assumption | omega | (simp <;> omega)) _ | refine Below.drew ?_ | refine below_drewN ?_ _))
      have HX2 : Hid (OneAt w2 wr.heap.size x) := by rw [Hid, hw2]; exact (Blk.new_ _ _ _).alloc _
      have HO2 : Hid (OneAt w2 (wr.heap.size + 1) x) := by
        have h1 := Blk.new_ (wr.alloc (.cells #[.int .i64 x.at_, .int .i64 x.del, .string (S x.ins)] 39)) 39 #[.int .i64 x.at_, .int .i64 x.del, .string (S x.ins)]
        rw [World.size_alloc] at h1
        rw [Hid, hw2]; exact h1
      have HK2 := Lib.hid (HK.out.below hb2)
      have hB2 := bthen hb hb2
      have hs3 : wr.heap.size + 1 < w2.heap.size := Blk.lt HO2.out
      go_wp2_with fail
      rw [← hw2]
      clear hw2 hb2 HK hb x0 x1 x2
      generalize wr.heap.size = gx at *
      have HRX : Hid (Rd w2 w2.heap.size 3 (some ⟨gx + 1, 0, none⟩) 1 (edCells [x])) := Rd.of_heap (size := 3) (n := 1) HO2.out hs3 rfl
      have HE := Lib.hid (lfEdit_any g gl tx d sf [x] (some ⟨gx + 1, 0, none⟩) 1 1 w2.heap.size w2 HK2.out.lf HKP.out.lf HRX.out (Nat.le_refl _) (by omega) (HT.out w2 hB2))
      have hfx : gx ∉ [g, gl] := blk_off HX2.out HK2.out.lf (by decide) (by decide)
      have hfo : gx + 1 ∉ [g, gl] := blk_off HO2.out HK2.out.lf (by decide) (by decide)
      clear HRX
      by_cases he : edErr tx.size [x] = 0
      · by_cases ha : appErr d (recE (S (wrL [x]))) = 0
        · have hE1 : lfE tx d [x] = 0 := by unfold lfE; rw [if_pos he]; exact ha
          have hE2 : doE es [x] = 0 := by unfold doE; rw [HKP.out.et, L_len, if_pos he, if_neg (by simp)]
          rw [Hid, hE1] at HE
          have HE := Lib.hid HE
          have HST := Lib.hid (fun p' hp => (HKP.out.step (p' := p') (gx + 1) he ha hp).1)
          have HRO := Lib.hid (HKP.out.rope he)
          have HIE := Lib.hid (one_zero he)
          have HXZ := Lib.hid HKP.out.rp
          have HLT : Hid (L (lfT tx d [x]) = edDone (L tx) [x]) := by rw [Hid, (HKP.out.step (gx + 1) he ha (p' := edDone (L tx) [x] |> fun t => ofP t 7) (by have h7 := (of_seven (s := edDone (L tx) [x]) (edDone_len (by rw [L_len]; exact he))).2; exact h7)).2, L_S]
          have htz : (lfT tx d [x]).size ≤ 200 := (HKP.out.lf.edit' [x]).text
          clear he ha hE1
          generalize lfT tx d [x] = tx' at *
          generalize lfD tx d [x] = d' at *
          refine HE.out.mono ?_
          rintro e w3 ⟨rfl, hL3, hg3⟩
          have HK3 := Lib.hid (HK2.out.leaf hL3 hg3)
          have HX3 : Hid (OneAt w3 gx x) := Blk.gbs HX2.out hg3 hfx
          have HO3 : Hid (OneAt w3 (gx + 1) x) := Blk.gbs HO2.out hg3 hfo
          have hB3 := HK2.out.bel_leaf hB2 hg3
          have hs4 : gx + 1 < w3.heap.size := Blk.lt HO3.out
          clear HE HK2 HX2 HO2 hB2 hL3 hg3 hfx hfo hs3
          have HRX : Hid (Rd w3 w3.heap.size 3 (some ⟨gx + 1, 0, none⟩) 1 (edCells [x])) := Rd.of_heap (size := 3) (n := 1) HO3.out hs4 rfl
          have HD := Lib.hid (edDoS w.heap.size ge es vB vO w3 HK3.out.ed hB3.size HKP.out.eo [x] (some ⟨gx + 1, 0, none⟩) 1 1 w3.heap.size HRX.out (Nat.le_refl _) (by omega) hE2)
          clear HRX hE2
          go_wp2_with fail
          refine HD.out.mono ?_
          rintro e w4 ⟨rfl, vB', vO', hE4, hC4, fB4, fO4⟩
          have hnx : ¬ EdK ge vB vO gx := edK_off HX3.out HK3.out.ed (by decide) (by decide)
          have hno : ¬ EdK ge vB vO (gx + 1) := edK_off HO3.out HK3.out.ed (by decide) (by decide)
          have HK4 := Lib.hid (HK3.out.edit hE4 hC4 fB4 fO4)
          have HX4 : Hid (OneAt w4 gx x) := Blk.chg HX3.out hC4 hnx
          have HO4 : Hid (OneAt w4 (gx + 1) x) := Blk.chg HO3.out hC4 hno
          have hB4 := HK3.out.bel_ed hB3 hC4
          clear HD HK3 HX3 HO3 hB3 hE4 hC4 fB4 fO4 hnx hno
          generalize doS es [x] = es' at *
          obtain ⟨Ar, cr, hvr, hncr, _, hrdr⟩ := HK4.out.rp.form
          subst hvr
          have hp60 := HXZ.out.n
          have HPY := Lib.hid (fun y (hy : y ∈ p) => (show y.length ≤ 9223372036854775807 by
            have h1 := HXZ.out.t
            unfold tot at h1
            have h2 := (List.sublist_flatten_of_mem hy).length_le
            omega))
          obtain ⟨ia, ib, ic, ie, ig, ih⟩ := HIE.out
          have htx := HKP.out.sz
          have HRE := Lib.hid (ropeEdit_any p Ar p.length cr w4.heap.size x w4 hrdr (Nat.le_refl _) (by omega) hncr HPY.out ⟨by omega, by omega⟩ ⟨by omega, by omega⟩ (by omega))
          have c0r := Blk.cell0 HK4.out.box
          have c0x := Blk.cell0 HX4.out; have c1x := Blk.cell1 HX4.out; have c2x := Blk.cell2 HX4.out
          clear hrdr HPY ia ib ic ie ig ih
          go_wp2_with fail
          refine HRE.out.mono ?_
          rintro e w5 ⟨v5, rfl, hown5, hb5⟩
          clear HRE c0r c0x c1x c2x
          obtain ⟨Aq, cq, hv5, _, _, _⟩ := own_form hown5
          subst hv5
          have hB5 := bthen hB4 hb5
          have HK5 := Lib.hid (HK4.out.below hb5)
          have HO5 : Hid (OneAt w5 (gx + 1) x) := HO4.out.below' hb5
          have hs5 := hb5.size
          have ha1 : Apart (.slice Aq (ropeEdP p x).length cq) vB' := apart_later (OwnO.of_own hown5) HK4.out.ed.b (Nat.le_refl _)
          have ha2 : Apart (.slice Aq (ropeEdP p x).length cq) vO' := apart_later (OwnO.of_own hown5) HK4.out.ed.o (Nat.le_refl _)
          have HOWN := Lib.hid ((OwnO.of_own hown5).lower hB4.size)
          clear hown5 hb5 HK4 hB4 HX4 HO4
          by_cases hr0 : ropeEdE p x = 0
          · have HKP' := Lib.hid (HST.out _ (HRO.out.2 hr0))
            rw [hr0]
            clear HST HRO hr0
            generalize ropeEdP p x = p' at *
            obtain ⟨wq, hwq⟩ : ∃ wq, wq = w5.alloc (.cells #[.slice Aq p'.length cq] 32) := ⟨_, rfl⟩
            have hbq : Below w5.heap.size w5 wq := by rw [hwq]; exact below_oneK _
            have HKq := Lib.hid (HK5.out.below hbq)
            have HOq : Hid (OneAt wq (gx + 1) x) := HO5.out.below' hbq
            have HQ : Hid (Blk wq w5.heap.size 32 #[.slice Aq p'.length cq]) := by rw [Hid, hwq]; exact Blk.new_ _ _ _
            have HOW := Lib.hid (HOWN.out.below hbq)
            have HBq := bthen hB5 hbq
            clear HLT htz
            have HTV : Hid (S (textV p') = tx' ∧ ropeErr p' = 0) := by
              have h0 := ropeErr_zero.2 HKP'.out.rp
              refine ⟨?_, h0⟩
              unfold textV
              rw [if_pos h0, HKP'.out.rt, S_L]
            have hpn : p'.length ≤ 60 := HKP'.out.rp.n
            have HPZ := Lib.hid (fun y (hy : y ∈ p') => (show y.length ≤ 9223372036854775807 by
              have h1 := HKP'.out.rp.t
              unfold tot at h1
              have h2 := (List.sublist_flatten_of_mem hy).length_le
              omega))
            have c0q := Blk.cell0 HQ.out
            have c0r := Blk.cell0 HKq.out.box
            have f0r := HKq.out.box.frozen 0
            obtain ⟨w7, hw7⟩ : ∃ w7, w7 = ((wq.setCell ⟨gr, 0, none⟩ (.slice Aq p'.length cq)).alloc (.cells #[.slice (some ⟨gx + 1, 0, none⟩) 1 1] 22)) := ⟨_, rfl⟩
            have hngr : gx + 1 ≠ gr := HOq.out.ne_blk HKq.out.box (by decide)
            have HK7 : Hid (KepSt w7 w.heap.size g gl tx' d' sf ge es' vB' vO' gr (.slice Aq p'.length cq) p' vd dn) := by
              rw [Hid, hw7]
              exact (HKq.out.rope HOW.out ha1 ha2).below (by repeat (first | exact Below.refl _ _ | assumption | refine Below.alloc ?_ (by first | exact Nat.le_refl _ | assumption | omega | (simp <;> omega)) _ | refine Below.setCell ?_ (by first | exact Nat.le_refl _ | assumption | omega | (simp <;> omega)) _ | refine Below.drew ?_ | refine below_drewN ?_ _))
            have HO7 : Hid (OneAt w7 (gx + 1) x) := by
              rw [Hid, hw7]
              exact Blk.alloc (Blk.far HOq.out (p := ⟨gr, 0, none⟩) hngr _) _
            have hnw : ∀ j u, [Value.slice (some ⟨gx + 1, 0, none⟩) 1 1][j]? = some u → w7.cell? (Addr.add ⟨(wq.setCell ⟨gr, 0, none⟩ (.slice Aq p'.length cq)).heap.size, 0, none⟩ j) = some u := fun j u hj => by
              rw [hw7]; exact cells_new (wq.setCell ⟨gr, 0, none⟩ (.slice Aq p'.length cq)) #[.slice (some ⟨gx + 1, 0, none⟩) 1 1] 22 j u hj
            have hB7 : Below w.heap.size w w7 := by
              rw [hw7]
              exact bthen (HKq.out.bel_box HBq _) (below_oneK _)
            have hs7 := hB7.size
            rw [hw7] at hnw hs7
            rw [show (wq.setCell ⟨gr, 0, none⟩ (.slice Aq p'.length cq)).heap.size = (w5.heap.size + 1) by rw [hwq]; simp] at hnw
            have hO1 := HK7.out.dr
            rw [hw7] at hO1
            clear HKq HOq HQ HOW ha1 ha2 HBq
            subst hwq
            go_wp2_with (at_builtin; go_must (refine wpList_appO rfl _ _ _ rfl w.heap.size 22 i0 _ 1 24 Tryd.underlying37 hi0 hz0 hz1 hz2 rfl (by omega) _ dn.length (dnCells dn) rfl hO1 ⟨_, 0, none⟩ 1 1 [.slice (some ⟨gx + 1, 0, none⟩) 1 1] rfl rfl hnw (by simp [Value.oneCell']) (by omega) (by omega) (by omega) ?_); intro v8 w8 hown8 hg8 hb8 ha8; rw [← hw7] at hg8; have HK8 := Lib.hid (HK7.out.done_ hg8 hown8 HO7.out); have hB8 := HK7.out.bel_dn hB7 hg8; clear hown8 ha8 hb8 hO1 hnw c0q c0r f0r; have c0r := Blk.cell0 HK8.out.box)
            have hrp := HK8.out.rp
            obtain ⟨A9, c9, hv9, hnc9, hcm9, hrd9⟩ := hrp.form
            cases hv9
            have HRT := Lib.hid (ropeText_any p' Aq p'.length cq w8.heap.size w8 hrd9 (Nat.le_refl _) (by omega) hnc9 HPZ.out)
            rw [Hid, HTV.out.1, HTV.out.2] at HRT
            have HRT := Lib.hid HRT
            clear hrp hrd9 hg8 HK7 HO7 hB7 hw7 c0r HPZ HTV
            refine HRT.out.mono ?_
            rintro e w9 ⟨rfl, hb9⟩
            have HK9 := Lib.hid (HK8.out.below hb9)
            have hB9 := bthen hB8 hb9
            clear HK8 hB8 hb9 HRT
            have y1 : (tx'.toList == tx'.toList) = true := beq_self_eq_true _
            go_wp2_with fail
            refine (lfText_any g gl tx' d' sf w9 HK9.out.lf).mono ?_
            rintro e w10 ⟨rfl, hb10⟩
            have HK10 := Lib.hid (HK9.out.below hb10)
            have hB10 := bthen hB9 hb10
            clear HK9 hB9 hb10
            have HET : Hid (S es'.text = tx') := by rw [Hid, HKP'.out.et, S_L]
            have HETX := Lib.hid (edText_any w.heap.size ge es' vB' vO' w10 HK10.out.ed)
            rw [Hid, HET.out] at HETX
            have HETX := Lib.hid HETX
            go_wp2_with fail
            refine HETX.out.mono ?_
            rintro e w11 ⟨rfl, hb11⟩
            have HK11 := Lib.hid (HK10.out.below hb11)
            have hB11 := bthen hB10 hb11
            clear HK10 hB10 hb11 HETX HET
            go_wp2_with fail
            go_roundw
            case rel => exact ⟨k + 1, tx', d', es', vB', vO', _, p', _, dn ++ [(gx + 1, x)], by omega, by go_num, rfl, HKP'.out, HK11.out, by rw [List.length_append]; exact Nat.succ_le_succ hdk, hB11⟩
            case measure => simp [intOf]; omega
          · have h11 := HRO.out.1.resolve_left hr0
            rw [h11]
            have h7 := of_seven (s := L tx') (by rw [L_len]; exact htz)
            have HKP' := Lib.hid (HST.out (ofP (L tx') 7) ⟨h7.2.1, h7.2.2.trans HLT.out⟩)
            have HOF := Lib.hid (fun W => ropeOf_any tx' 7 (by omega) (by omega) (by omega) W)
            rw [Hid, h7.1] at HOF
            have HOF := Lib.hid HOF
            clear HST HRO hr0 h11 h7 HLT ha1 ha2 HOWN
            generalize (ropeEdP p x).length = n5 at *
            generalize ofP (L tx') 7 = p' at *
            obtain ⟨w6, hw6⟩ : ∃ w6, w6 = w5.alloc (.cells #[.slice Aq n5 cq] 32) := ⟨_, rfl⟩
            have hb6 : Below w5.heap.size w5 w6 := by rw [hw6]; exact below_oneK _
            have HK6 := Lib.hid (HK5.out.below hb6)
            have HQ6 : Hid (Blk w6 w5.heap.size 32 #[.slice Aq n5 cq]) := by rw [Hid, hw6]; exact Blk.new_ _ _ _
            go_wp2_with fail
            rw [← hw6]
            clear hw6
            refine (lfText_any g gl tx' d' sf w6 HK6.out.lf).mono ?_
            rintro e w7 ⟨rfl, hb7⟩
            have hb7' := bthen hb6 hb7
            have HK7 := Lib.hid (HK5.out.below hb7')
            have HQ7 : Hid (Blk w7 w5.heap.size 32 #[.slice Aq n5 cq]) := HQ6.out.below' hb7
            clear hb6 HK6 HQ6 hb7
            go_wp2_with fail
            refine (HOF.out _).mono ?_
            rintro e w8 ⟨v8, rfl, hown8, hb8⟩
            obtain ⟨Aq, cq, hv8, _, _, _⟩ := own_form hown8
            subst hv8
            have hb8' := bthen hb7' hb8
            have HQ8 : Hid (Blk w8 w5.heap.size 32 _) := HQ7.out.below' hb8
            have ha1 : Apart (.slice Aq p'.length cq) vB' := apart_later (OwnO.of_own hown8) HK7.out.ed.b (Nat.le_refl _)
            have ha2 : Apart (.slice Aq p'.length cq) vO' := apart_later (OwnO.of_own hown8) HK7.out.ed.o (Nat.le_refl _)
            have f0q := HQ8.out.frozen 0
            have cq0 := Blk.cell0 HQ8.out
            obtain ⟨wq, hwq⟩ : ∃ wq, wq = w8.setCell ⟨w5.heap.size, 0, none⟩ (.slice Aq p'.length cq) := ⟨_, rfl⟩
            have hbq : Below w5.heap.size w5 wq := by rw [hwq]; exact hb8'.setCell (p := ⟨w5.heap.size, 0, none⟩) (Nat.le_refl _) _
            have HKq := Lib.hid (HK5.out.below hbq)
            have HOq : Hid (OneAt wq (gx + 1) x) := HO5.out.below' hbq
            have HQ : Hid (Blk wq w5.heap.size 32 #[.slice Aq p'.length cq]) := by rw [Hid, hwq]; exact Blk.set_ HQ8.out 0 _
            have HOW : Hid (OwnO wq w.heap.size 9 1 (.slice Aq p'.length cq) p'.length (strCells p')) := by
              rw [Hid, hwq]
              have h9 := OwnO.of_own hown8
              exact (h9.far (h9.ne_blk HQ8.out (by decide)) _ _).lower (Nat.le_trans hB5.size hb7'.size)
            have HBq := bthen hB5 hbq
            clear HK7 HQ7 HQ8 hown8 hb8 hb8' hb7' HOF
            have HTV : Hid (S (textV p') = tx' ∧ ropeErr p' = 0) := by
              have h0 := ropeErr_zero.2 HKP'.out.rp
              refine ⟨?_, h0⟩
              unfold textV
              rw [if_pos h0, HKP'.out.rt, S_L]
            have hpn : p'.length ≤ 60 := HKP'.out.rp.n
            have HPZ := Lib.hid (fun y (hy : y ∈ p') => (show y.length ≤ 9223372036854775807 by
              have h1 := HKP'.out.rp.t
              unfold tot at h1
              have h2 := (List.sublist_flatten_of_mem hy).length_le
              omega))
            have c0q := Blk.cell0 HQ.out
            have c0r := Blk.cell0 HKq.out.box
            have f0r := HKq.out.box.frozen 0
            obtain ⟨w7, hw7⟩ : ∃ w7, w7 = ((wq.setCell ⟨gr, 0, none⟩ (.slice Aq p'.length cq)).alloc (.cells #[.slice (some ⟨gx + 1, 0, none⟩) 1 1] 22)) := ⟨_, rfl⟩
            have hngr : gx + 1 ≠ gr := HOq.out.ne_blk HKq.out.box (by decide)
            have HK7 : Hid (KepSt w7 w.heap.size g gl tx' d' sf ge es' vB' vO' gr (.slice Aq p'.length cq) p' vd dn) := by
              rw [Hid, hw7]
              exact (HKq.out.rope HOW.out ha1 ha2).below (by repeat (first | exact Below.refl _ _ | assumption | refine Below.alloc ?_ (by first | exact Nat.le_refl _ | assumption | omega | (simp <;> omega)) _ | refine Below.setCell ?_ (by first | exact Nat.le_refl _ | assumption | omega | (simp <;> omega)) _ | refine Below.drew ?_ | refine below_drewN ?_ _))
            have HO7 : Hid (OneAt w7 (gx + 1) x) := by
              rw [Hid, hw7]
              exact Blk.alloc (Blk.far HOq.out (p := ⟨gr, 0, none⟩) hngr _) _
            have hnw : ∀ j u, [Value.slice (some ⟨gx + 1, 0, none⟩) 1 1][j]? = some u → w7.cell? (Addr.add ⟨(wq.setCell ⟨gr, 0, none⟩ (.slice Aq p'.length cq)).heap.size, 0, none⟩ j) = some u := fun j u hj => by
              rw [hw7]; exact cells_new (wq.setCell ⟨gr, 0, none⟩ (.slice Aq p'.length cq)) #[.slice (some ⟨gx + 1, 0, none⟩) 1 1] 22 j u hj
            have hB7 : Below w.heap.size w w7 := by
              rw [hw7]
              exact bthen (HKq.out.bel_box HBq _) (below_oneK _)
            have hs7 := hB7.size
            rw [hw7] at hnw hs7
            rw [show (wq.setCell ⟨gr, 0, none⟩ (.slice Aq p'.length cq)).heap.size = (w8.heap.size) by rw [hwq]; simp] at hnw
            have hO1 := HK7.out.dr
            rw [hw7] at hO1
            clear HKq HOq HQ HOW ha1 ha2 HBq
            subst hwq
            go_wp2_with (at_builtin; go_must (refine wpList_appO rfl _ _ _ rfl w.heap.size 22 i0 _ 1 24 Tryd.underlying37 hi0 hz0 hz1 hz2 rfl (by omega) _ dn.length (dnCells dn) rfl hO1 ⟨_, 0, none⟩ 1 1 [.slice (some ⟨gx + 1, 0, none⟩) 1 1] rfl rfl hnw (by simp [Value.oneCell']) (by omega) (by omega) (by omega) ?_); intro v8 w8 hown8 hg8 hb8 ha8; rw [← hw7] at hg8; have HK8 := Lib.hid (HK7.out.done_ hg8 hown8 HO7.out); have hB8 := HK7.out.bel_dn hB7 hg8; clear hown8 ha8 hb8 hO1 hnw c0q c0r f0r; have c0r := Blk.cell0 HK8.out.box)
            have hrp := HK8.out.rp
            obtain ⟨A9, c9, hv9, hnc9, hcm9, hrd9⟩ := hrp.form
            cases hv9
            have HRT := Lib.hid (ropeText_any p' Aq p'.length cq w8.heap.size w8 hrd9 (Nat.le_refl _) (by omega) hnc9 HPZ.out)
            rw [Hid, HTV.out.1, HTV.out.2] at HRT
            have HRT := Lib.hid HRT
            clear hrp hrd9 hg8 HK7 HO7 hB7 hw7 c0r HPZ HTV
            refine HRT.out.mono ?_
            rintro e w9 ⟨rfl, hb9⟩
            have HK9 := Lib.hid (HK8.out.below hb9)
            have hB9 := bthen hB8 hb9
            clear HK8 hB8 hb9 HRT
            have y1 : (tx'.toList == tx'.toList) = true := beq_self_eq_true _
            go_wp2_with fail
            refine (lfText_any g gl tx' d' sf w9 HK9.out.lf).mono ?_
            rintro e w10 ⟨rfl, hb10⟩
            have HK10 := Lib.hid (HK9.out.below hb10)
            have hB10 := bthen hB9 hb10
            clear HK9 hB9 hb10
            have HET : Hid (S es'.text = tx') := by rw [Hid, HKP'.out.et, S_L]
            have HETX := Lib.hid (edText_any w.heap.size ge es' vB' vO' w10 HK10.out.ed)
            rw [Hid, HET.out] at HETX
            have HETX := Lib.hid HETX
            go_wp2_with fail
            refine HETX.out.mono ?_
            rintro e w11 ⟨rfl, hb11⟩
            have HK11 := Lib.hid (HK10.out.below hb11)
            have hB11 := bthen hB10 hb11
            clear HK10 hB10 hb11 HETX HET
            go_wp2_with fail
            go_roundw
            case rel => exact ⟨k + 1, tx', d', es', vB', vO', _, p', _, dn ++ [(gx + 1, x)], by omega, by go_num, rfl, HKP'.out, HK11.out, by rw [List.length_append]; exact Nat.succ_le_succ hdk, hB11⟩
            case measure => simp [intOf]; omega
        · have ha11 := (kept_rec he d).resolve_left ha
          have hE1 : lfE tx d [x] = 11 := by unfold lfE; rw [if_pos he]; exact ha11
          have hE3 : lfT tx d [x] = tx := by unfold lfT; rw [hE1]; rfl
          have hE4 : lfD tx d [x] = d := by unfold lfD; rw [hE1]; rfl
          have hE2 : doE es [x] = 0 := by unfold doE; rw [HKP.out.et, L_len, if_pos he, if_neg (by simp)]
          rw [Hid, hE1, hE3, hE4] at HE
          have HE := Lib.hid HE
          clear he ha ha11 hE1 hE3 hE4
          refine HE.out.mono ?_
          rintro e w3 ⟨rfl, hL3, hg3⟩
          have HK3 := Lib.hid (HK2.out.leaf hL3 hg3)
          have HO3 : Hid (OneAt w3 (gx + 1) x) := Blk.gbs HO2.out hg3 hfo
          have hB3 := HK2.out.bel_leaf hB2 hg3
          have hs4 : gx + 1 < w3.heap.size := Blk.lt HO3.out
          clear HE HK2 HX2 HO2 hB2 hL3 hg3 hfx hfo hs3
          have HRX : Hid (Rd w3 w3.heap.size 3 (some ⟨gx + 1, 0, none⟩) 1 (edCells [x])) := Rd.of_heap (size := 3) (n := 1) HO3.out hs4 rfl
          have HD := Lib.hid (edDoS w.heap.size ge es vB vO w3 HK3.out.ed hB3.size HKP.out.eo [x] (some ⟨gx + 1, 0, none⟩) 1 1 w3.heap.size HRX.out (Nat.le_refl _) (by omega) hE2)
          clear HRX hE2
          go_wp2_with fail
          refine HD.out.mono ?_
          rintro e w4 ⟨rfl, vB', vO', hE4, hC4, fB4, fO4⟩
          have HK := Lib.hid (HK3.out.edit hE4 hC4 fB4 fO4)
          have HB := HK3.out.bel_ed hB3 hC4
          clear HD HK3 HO3 hB3 hE4 hC4 fB4 fO4
          generalize doS es [x] = es' at *
          have HFN := Lib.hid (HKP.out.fin hs2)
          have HLF := Lib.hid HKP.out.lf
          go_wp2_with fail
          refine (lfText_any g gl tx d sf _ HK.out.lf).mono ?_
          rintro e wa ⟨rfl, hba⟩
          have HKa := Lib.hid (HK.out.below hba)
          have hBa := bthen HB hba
          clear HK HB hba HKP
          go_wp2_with fail
          refine (lfSave_any g gl tx d sf wa HKa.out.lf).mono ?_
          rintro e wb ⟨rfl, hLb, hgb⟩
          have HKb := Lib.hid (HKa.out.leaf hLb hgb)
          have hBb := HKa.out.bel_leaf hBa hgb
          have HCR := Lib.hid (lfCrash_any g gl tx d d.size 0 wb HKb.out.lf HLF.out.save)
          obtain ⟨q0, q1, q2, q3⟩ := kept_crash HLF.out
          rw [Hid, q0, q1, q2, q3] at HCR
          have HCR := Lib.hid HCR
          clear HKa hBa hLb hgb q0 q1 q2 q3
          go_wp2_with fail
          refine HCR.out.mono ?_
          rintro e wc ⟨rfl, hLc, hgc⟩
          have HKc := Lib.hid (HKb.out.leaf hLc hgc)
          have hBc := HKb.out.bel_leaf hBb hgc
          clear HKb hBb hLc hgc HCR
          have y1 : (tx.toList == tx.toList) = true := beq_self_eq_true _
          go_wp2_with fail
          refine (lfText_any g gl tx d d.size wc HKc.out.lf).mono ?_
          rintro e wd ⟨rfl, hbd⟩
          have HKd := Lib.hid (HKc.out.below hbd)
          have hBd := bthen hBc hbd
          clear HKc hBc hbd
          obtain ⟨Ad, cd, hvd, hrd, hsc⟩ := HKd.out.scs
          subst hvd
          have HTM := Lib.hid (trimMany_any (s.size : Int) (dnScs dn) Ad dn.length cd wd.heap.size wd hrd hsc (Nat.le_refl _) (by omega))
          clear hrd hsc HKd
          go_wp2_with fail
          refine HTM.out.mono ?_
          rintro e we ⟨ve, rfl, he0, he1, hbe⟩
          have hBe := bthen hBd hbe
          clear HTM
          by_cases hme : manyErr (s.size : Int) (dnScs dn) = 0
          · obtain ⟨r0, r1⟩ := HFN.out.2 hme
            have hown := he1 hme
            rw [hme]
            clear he0 he1 HFN hme
            have hlen20 : (manyOut (s.size : Int) (dnScs dn)).length ≤ 20 := (edErr_zero.1 r0).2.2.1
            generalize manyOut (s.size : Int) (dnScs dn) = mo at *
            obtain ⟨Ae, ce, rfl, hnce, hcme, hrde⟩ := own_form hown
            have HAP := Lib.hid (edApply_any s mo Ae mo.length ce we.heap.size we hrde (Nat.le_refl _) (by omega) (by omega))
            rw [Hid, r0, r1] at HAP
            have HAP := Lib.hid HAP
            clear hrde hown r0 r1
            go_wp2_with fail
            refine HAP.out.mono ?_
            rintro e wf ⟨rfl, hbf⟩
            go_wp2_with fail
            go_ret
            exact ⟨rfl, bthen hBe hbf⟩
          · obtain rfl := he0 hme
            have h2 := HFN.out.1 hme
            rw [h2]
            clear he0 he1 HFN hme h2
            go_wp2_with fail
            go_ret
            exact ⟨rfl, hBe⟩
      · have hE1 : lfE tx d [x] = edErr tx.size [x] := by unfold lfE; rw [if_neg he]
        have hE3 : lfT tx d [x] = tx := by unfold lfT; rw [hE1, if_neg he]
        have hE4 : lfD tx d [x] = d := by unfold lfD; rw [hE1, if_neg he]
        have hE2 : doE es [x] = edErr tx.size [x] := by unfold doE; rw [HKP.out.et, L_len, if_neg he]
        rw [Hid, hE1, hE3, hE4] at HE
        have HE := Lib.hid HE
        refine HE.out.mono ?_
        rintro e w3 ⟨rfl, hL3, hg3⟩
        have HK3 := Lib.hid (HK2.out.leaf hL3 hg3)
        have HO3 : Hid (OneAt w3 (gx + 1) x) := Blk.gbs HO2.out hg3 hfo
        have hB3 := HK2.out.bel_leaf hB2 hg3
        have hs4 : gx + 1 < w3.heap.size := Blk.lt HO3.out
        clear HE HK2 HX2 HO2 hB2 hL3 hg3 hfx hfo hs3
        have HRX : Hid (Rd w3 w3.heap.size 3 (some ⟨gx + 1, 0, none⟩) 1 (edCells [x])) := Rd.of_heap (size := 3) (n := 1) HO3.out hs4 rfl
        have HD := Lib.hid (edDo_bad w.heap.size ge es vB vO w3 HK3.out.ed [x] (some ⟨gx + 1, 0, none⟩) 1 1 w3.heap.size HRX.out (Nat.le_refl _) (by omega) HKP.out.eo.t (by rw [hE2]; exact he))
        rw [Hid, hE2] at HD
        have HD := Lib.hid HD
        clear HRX hE1 hE2 hE3 hE4 HO3
        generalize edErr tx.size [x] = ee at *
        have y0 : (ee != ee) = false := bne_self_eq_false' _
        have y1 : (ee != 0) = true := by rw [bne_iff_ne]; exact he
        have y2 : (ee == 0) = false := by rw [beq_eq_false_iff_ne]; exact he
        go_wp2_with fail
        refine HD.out.mono ?_
        rintro e w4 ⟨rfl, hb4⟩
        have HK4 := Lib.hid (HK3.out.below hb4)
        have hB4 := bthen hB3 hb4
        clear HD HK3 hB3 hb4
        by_cases h11 : ee = 11
        · have y3 : (ee == 11) = true := by rw [beq_iff_eq]; exact h11
          clear he h11
          go_wp2_with fail
          go_roundw
          case rel => exact ⟨k + 1, tx, d, es, vB, vO, vr, p, vd, dn, by omega, by go_num, rfl, HKP.out, HK4.out, by omega, hB4⟩
          case measure => simp [intOf]; omega
        · have y3 : (ee == 11) = false := by rw [beq_eq_false_iff_ne]; exact h11
          clear he h11
          go_wp2_with fail
          go_roundw
          case rel => exact ⟨k + 1, tx, d, es, vB, vO, vr, p, vd, dn, by omega, by go_num, rfl, HKP.out, HK4.out, by omega, hB4⟩
          case measure => simp [intOf]; omega
    · have HB := hb
      clear hb
      have HFN := Lib.hid (HKP.out.fin hs2)
      have HLF := Lib.hid HKP.out.lf
      go_wp2_with fail
      refine (lfText_any g gl tx d sf _ HK.out.lf).mono ?_
      rintro e wa ⟨rfl, hba⟩
      have HKa := Lib.hid (HK.out.below hba)
      have hBa := bthen HB hba
      clear HK HB hba HKP
      go_wp2_with fail
      refine (lfSave_any g gl tx d sf wa HKa.out.lf).mono ?_
      rintro e wb ⟨rfl, hLb, hgb⟩
      have HKb := Lib.hid (HKa.out.leaf hLb hgb)
      have hBb := HKa.out.bel_leaf hBa hgb
      have HCR := Lib.hid (lfCrash_any g gl tx d d.size 0 wb HKb.out.lf HLF.out.save)
      obtain ⟨q0, q1, q2, q3⟩ := kept_crash HLF.out
      rw [Hid, q0, q1, q2, q3] at HCR
      have HCR := Lib.hid HCR
      clear HKa hBa hLb hgb q0 q1 q2 q3
      go_wp2_with fail
      refine HCR.out.mono ?_
      rintro e wc ⟨rfl, hLc, hgc⟩
      have HKc := Lib.hid (HKb.out.leaf hLc hgc)
      have hBc := HKb.out.bel_leaf hBb hgc
      clear HKb hBb hLc hgc HCR
      have y1 : (tx.toList == tx.toList) = true := beq_self_eq_true _
      go_wp2_with fail
      refine (lfText_any g gl tx d d.size wc HKc.out.lf).mono ?_
      rintro e wd ⟨rfl, hbd⟩
      have HKd := Lib.hid (HKc.out.below hbd)
      have hBd := bthen hBc hbd
      clear HKc hBc hbd
      obtain ⟨Ad, cd, hvd, hrd, hsc⟩ := HKd.out.scs
      subst hvd
      have HTM := Lib.hid (trimMany_any (s.size : Int) (dnScs dn) Ad dn.length cd wd.heap.size wd hrd hsc (Nat.le_refl _) (by omega))
      clear hrd hsc HKd
      go_wp2_with fail
      refine HTM.out.mono ?_
      rintro e we ⟨ve, rfl, he0, he1, hbe⟩
      have hBe := bthen hBd hbe
      clear HTM
      by_cases hme : manyErr (s.size : Int) (dnScs dn) = 0
      · obtain ⟨r0, r1⟩ := HFN.out.2 hme
        have hown := he1 hme
        rw [hme]
        clear he0 he1 HFN hme
        have hlen20 : (manyOut (s.size : Int) (dnScs dn)).length ≤ 20 := (edErr_zero.1 r0).2.2.1
        generalize manyOut (s.size : Int) (dnScs dn) = mo at *
        obtain ⟨Ae, ce, rfl, hnce, hcme, hrde⟩ := own_form hown
        have HAP := Lib.hid (edApply_any s mo Ae mo.length ce we.heap.size we hrde (Nat.le_refl _) (by omega) (by omega))
        rw [Hid, r0, r1] at HAP
        have HAP := Lib.hid HAP
        clear hrde hown r0 r1
        go_wp2_with fail
        refine HAP.out.mono ?_
        rintro e wf ⟨rfl, hbf⟩
        go_wp2_with fail
        go_ret
        exact ⟨rfl, bthen hBe hbf⟩
      · obtain rfl := he0 hme
        have h2 := HFN.out.1 hme
        rw [h2]
        clear he0 he1 HFN hme h2
        go_wp2_with fail
        go_ret
        exact ⟨rfl, hBe⟩
end Go.Proofs.YtmikckhihfcooaaDoor
namespace Go.Proofs.YtmikckhihfcooaaDoor
open Go.ChangeShapes Go.WideShapes Go.ChangeAt Go.RowKit Go.Deep
open Go.ChangeMaps (open_string)

section
variable {H : Type} {enc : TypeId × Value → H} {P : Program} {W : World}

theorem reach_le : reachBytes ≤ 140737488351232 := by decide
/-- A slice, as a list of what its elements decode to. -/
theorem open_rd {α : Type} [Inhabited α] {size : Nat} {ec : α → List Value} {Q : α → Prop} {t e : TypeId} (ht : P.underlying t = some (.slice e)) (hC : P.cellsOf e = size) (hpos : 0 < size)
    (hec : ∀ x, (ec x).length = size)
    (hdec : ∀ fuel cs y, cs.length = size → DataW.trod enc P W 0 (fun _ => true) true fuel e cs = some y → ∃ x, cs = ec x ∧ Q x)
    {fuel : Nat} {cs : List Value} {y : DataW H × List MemPlace} (h : DataW.trod enc P W 0 (fun _ => true) true fuel t cs = some y) :
    ∃ (A : Option Addr) (n c : Nat) (l : List α), cs = [.slice A n c] ∧ n ≤ c ∧ c ≤ maxLen ∧ l.length = n ∧ Rd W W.heap.size size A n (l.flatMap ec) ∧ (∀ x ∈ l, Q x) ∧
      ((y.1 = .nil ∧ c = 0) ∨ ∃ el sp, y.1 = .slice el sp ∧ el.length + sp.length = c) := by
  rcases open_slice ht h with ⟨rfl, rfl⟩ | ⟨a, len, cap, m, n, D, Pl, rfl, hb, hl, hm, hmm, rfl, hi⟩
  · exact ⟨none, 0, 0, [], rfl, Nat.le_refl _, Nat.zero_le _, rfl, Rd.nil_, by simp, .inl ⟨rfl, rfl⟩⟩
  · have hm' : m = cap := by simpa using hmm
    subst hm'
    have key : ∀ i, i < m → ∃ x, Q x ∧ ∀ j u, (ec x)[j]? = some u → W.cell? (a.add (i * size + j)) = some u := by
      intro i him
      obtain ⟨cs', hc, ht'⟩ := hi i him
      rw [hC] at hc
      obtain ⟨_, hcl, hat⟩ := World.cells?_some hc
      obtain ⟨x, rfl, hq⟩ := hdec n cs' _ hcl ht'
      refine ⟨x, hq, fun j u hu => ?_⟩
      have hj : j < size := by rw [← hec x]; exact (List.getElem?_eq_some_iff.1 hu).1
      rw [← add_add, hat j hj, hu]
    have hx : ∀ i : Nat, ∃ x, i < m → (Q x ∧ ∀ j u, (ec x)[j]? = some u → W.cell? (a.add (i * size + j)) = some u) := by
      intro i
      by_cases him : i < m
      · obtain ⟨x, hx⟩ := key i him
        exact ⟨x, fun _ => hx⟩
      · exact ⟨default, fun h => absurd h him⟩
    have hch : ∃ f : Nat → α, ∀ i, i < m → (Q (f i) ∧ ∀ j u, (ec (f i))[j]? = some u → W.cell? (a.add (i * size + j)) = some u) := ⟨fun i => Classical.choose (hx i), fun i => Classical.choose_spec (hx i)⟩
    obtain ⟨f, hf⟩ := hch
    refine ⟨some a, len, m, (List.range len).map f, rfl, hl, hm, by simp, ⟨?_, fun hn => ⟨a, rfl, ?_, ?_⟩⟩, ?_, .inr ⟨_, _, rfl, by simp; omega⟩⟩
    · rw [List.length_flatMap]
      have : (List.map (fun a => (ec a).length) (List.map f (List.range len))) = List.replicate len size := by
        rw [List.map_map]
        apply List.ext_getElem
        · simp
        · intro i h1 h2; simp [hec]
      rw [this]; simp
    · have h1 := (hf 0 (by omega)).2 0 ((ec (f 0))[0]'(by rw [hec]; exact hpos)) (List.getElem?_eq_getElem _)
      have := World.block_lt_of_cell? _ _ h1
      simpa [blk_add] using this
    · have gen : ∀ (k : Nat) (j : Nat) (u : Value), k ≤ m → (((List.range k).map f).flatMap ec)[j]? = some u → W.cell? (a.add j) = some u := by
        intro k
        induction k with
        | zero => intro j u _ hu; simp at hu
        | succ k ih =>
          intro j u hk hu
          rw [List.range_succ, List.map_append, List.flatMap_append, List.getElem?_append] at hu
          have hlen : (((List.range k).map f).flatMap ec).length = k * size := by
            rw [List.length_flatMap]
            have : (List.map (fun a => (ec a).length) (List.map f (List.range k))) = List.replicate k size := by
              rw [List.map_map]
              apply List.ext_getElem
              · simp
              · intro i h1 h2; simp [hec]
            rw [this]; simp
          split at hu
          · exact ih j u (by omega) hu
          · rename_i hge
            rw [hlen] at hu hge
            have := (hf k (by omega)).2 (j - k * size) u (by simpa using hu)
            rwa [show k * size + (j - k * size) = j by omega] at this
      exact fun j u hu => gen len j u hl hu
    · intro x hx
      simp only [List.mem_map, List.mem_range] at hx
      obtain ⟨i, hi', rfl⟩ := hx
      exact (hf i (by omega)).1

/-- A struct of one-cell fields: each field's cell reads by the field's own type. -/
theorem open_fields {e : TypeId} {fs : Array Field} (he : P.underlying e = some (.struct fs)) (hone : oneCellFields P fs = true) {fuel : Nat} {cs : List Value} {y : DataW H × List MemPlace}
    (h : DataW.trod enc P W 0 (fun _ => true) true fuel e cs = some y) (hlen : cs.length = fs.size) :
    ∃ n, ∀ (j : Nat) (f : Field) , fs[j]? = some f → ∃ v x, cs[j]? = some v ∧ DataW.trod enc P W 0 (fun _ => true) true n f.type [v] = some x := by
  obtain ⟨ys, n', hn', hy, hl, hyl, hf⟩ := DataW.trod_struct he h
  refine ⟨n', fun j f hj => ?_⟩
  obtain ⟨ho, hk⟩ := hone_of hone j f hj
  have hjl : j < fs.size := (Array.getElem?_eq_some_iff.1 hj).1
  have h1 := hf j f hj
  rw [ho, hk] at h1
  have hone' : (cs.drop j).take 1 = [cs[j]'(by omega)] := by
    rw [List.drop_eq_getElem_cons (by omega)]
    rfl
  rw [hone'] at h1
  have hys : ys[j]? = some (ys[j]'(by omega)) := List.getElem?_eq_getElem (by omega)
  exact ⟨_, _, List.getElem?_eq_getElem (by omega), h1.trans hys⟩

theorem dec_int {e : TypeId} {k : IntKind} (he : P.underlying e = some (.int k)) : ∀ fuel cs y, DataW.trod enc P W 0 (fun _ => true) true fuel e cs = some y → ∃ x : Int, cs = [.int k x] ∧ (Lit.int k x).wf = true := by
  intro fuel cs y h
  obtain ⟨x, h1, _, h2⟩ := DataW.trod_int he h
  exact ⟨x, h1, h2⟩
theorem dec_str {e : TypeId} (he : P.underlying e = some .string) : ∀ fuel cs y, DataW.trod enc P W 0 (fun _ => true) true fuel e cs = some y → ∃ x : ByteArray, cs = [.string x] ∧ x.size ≤ maxLen := by
  intro fuel cs y h
  obtain ⟨x, h1, _, h2⟩ := DataW.trod_string he h
  exact ⟨x, h1, h2⟩

theorem trodAll_below (hl : laidOutB P = true) {W' : World} (hb : Below W.heap.size W W') : ∀ (ts : List TypeId) (vs : List Value) (ds : List (DataW H)) (ps : List MemPlace),
    (∀ t ∈ ts, P.readableRec t = true ∧ t < P.types.size) → (∀ x ∈ ps, x.block < W.heap.size) → DataW.TrodAll enc P W 0 (fun _ => true) true ts vs ds ps →
    DataW.TrodAll enc P W' 0 (fun b => decide (b < W.heap.size)) true ts vs ds ps
  | [], [], [], _, _, _, h => h
  | t :: ts, v :: vs, d :: ds, ps, hr, hp, h => by
    obtain ⟨p, q, h1, h2, rfl⟩ := h
    exact ⟨p, q, Below.trod hl (hr t (by simp)).1 (hr t (by simp)).2 h1 hb (fun x hx => hp x (by simp [hx])), trodAll_below hl hb ts vs ds q (fun t ht => hr t (by simp [ht])) (fun x hx => hp x (by simp [hx])) h2, rfl⟩
  | [], _ :: _, _, _, _, _, h => by cases h
  | [], [], _ :: _, _, _, _, h => by cases h
  | _ :: _, [], _, _, _, _, h => by cases h
  | _ :: _, _ :: _, [], _, _, _, h => by cases h

/-- A law's row, closed. -/
theorem law_close {f : Func} {s : ChangeSpec} {W' : World} {args : Array Value} {ds : List (DataW H)} {before : List MemPlace} {tb : TypeId}
    (hW : DataW.Whole enc P f.params.toList s.vars false W args.toList ds [] before) (hs : s.vars = []) (hfn : s.fn H (ds ++ []) = { results := [.lit (.bool true)], args := ds })
    (hres : f.resultTypes = #[tb]) (hu : P.underlying tb = some .bool) (hl : laidOutB P = true) (hr : ∀ t ∈ f.params.toList, P.readableRec t = true ∧ t < P.types.size)
    (hb : Below W.heap.size W W') : s.post enc P f false true false false W args (.bool true) W' := by
  have hlt := hW.lt
  have hW' := hW
  obtain ⟨p, q, hA, hV, rfl, _, _⟩ := hW
  rw [hs] at hV
  obtain ⟨_, rfl⟩ := trodVars_none hV
  simp only [List.append_nil] at hW' hlt
  refine ⟨ds, [], p, [], p, [], hW', ?_, ?_, ?_, ?_, fun h => by cases h⟩
  · rw [hfn, hres]
    exact trodAll_mk1 (shut_bool hu true)
  · rw [hfn]
    exact trodAll_below hl hb _ _ _ _ hr hlt hA
  · rw [hfn, hs]
    rfl
  · exact hb.frame _
end
end Go.Proofs.YtmikckhihfcooaaDoor
namespace Go.Proofs.YtmikckhihfcooaaDoor
/-- The phrases of a text, a byte at a time. -/
def lz : List (List UInt8) → List UInt8 → List UInt8 → List (Nat × UInt8) × List UInt8
  | _, cur, [] => ([], cur)
  | T, cur, c :: r => if cur ++ [c] ∈ T then lz T (cur ++ [c]) r else ((T.idxOf cur, c) :: (lz (T ++ [cur ++ [c]]) [] r).1, (lz (T ++ [cur ++ [c]]) [] r).2)
structure Closed (T : List (List UInt8)) : Prop where
  nil : T[0]? = some []
  pre : ∀ t c, t ++ [c] ∈ T → t ∈ T
  nodup : T.Nodup
theorem Closed.mem {T : List (List UInt8)} (h : Closed T) : [] ∈ T := List.mem_of_getElem? h.nil
theorem Closed.start : Closed [[]] := ⟨rfl, by simp, by simp⟩
theorem Closed.add {T : List (List UInt8)} {m : List UInt8} {c : UInt8} (h : Closed T) (hm : m ∈ T) (hn : m ++ [c] ∉ T) : Closed (T ++ [m ++ [c]]) := by
  refine ⟨?_, ?_, ?_⟩
  · have := h.nil
    rw [List.getElem?_append_left (List.getElem?_eq_some_iff.1 this).1]; exact this
  · intro t d ht
    simp only [List.mem_append, List.mem_singleton] at ht ⊢
    rcases ht with ht | ht
    · exact .inl (h.pre t d ht)
    · rw [List.append_inj_left' ht rfl]; exact .inl hm
  · rw [List.nodup_append]
    refine ⟨h.nodup, by simp, ?_⟩
    intro a ha b hb hab
    simp only [List.mem_singleton] at hb
    subst hb hab
    exact hn ha
theorem Closed.take {T : List (List UInt8)} (h : Closed T) : ∀ (k : Nat) (t : List UInt8), t ∈ T → t.length - k ≤ t.length → t.take (t.length - k) ∈ T := by
  intro k
  induction k with
  | zero => intro t ht _; simpa using ht
  | succ k ih =>
    intro t ht _
    have h1 := ih t ht (Nat.sub_le _ _)
    by_cases hk : t.length - k = 0
    · rw [show t.length - (k + 1) = t.length - k by omega]; exact h1
    · have h2 : t.take (t.length - k) = t.take (t.length - (k + 1)) ++ [t[t.length - (k + 1)]'(by omega)] := by
        rw [show t.length - k = (t.length - (k + 1)) + 1 by omega, List.take_append_getElem]
      rw [h2] at h1
      exact h.pre _ _ h1
theorem Closed.take' {T : List (List UInt8)} (h : Closed T) {t : List UInt8} (ht : t ∈ T) (n : Nat) : t.take n ∈ T := by
  by_cases hn : n ≤ t.length
  · have := h.take (t.length - n) t ht (Nat.sub_le _ _)
    rwa [show t.length - (t.length - n) = n by omega] at this
  · rw [List.take_of_length_le (by omega)]; exact ht
/-- m is the longest of T that the text begins with. -/
structure Longest (T : List (List UInt8)) (u m : List UInt8) : Prop where
  mem : m ∈ T
  pre : m <+: u
  max : ∀ t ∈ T, t <+: u → t.length ≤ m.length
theorem lz_long {T : List (List UInt8)} (hC : Closed T) : ∀ (r cur m : List UInt8), cur ∈ T → Longest T (cur ++ r) m →
    lz T cur r = if h : m.length < (cur ++ r).length then ((T.idxOf m, (cur ++ r)[m.length]) :: (lz (T ++ [(cur ++ r).take (m.length + 1)]) [] ((cur ++ r).drop (m.length + 1))).1, (lz (T ++ [(cur ++ r).take (m.length + 1)]) [] ((cur ++ r).drop (m.length + 1))).2) else ([], cur ++ r) := by
  intro r
  induction r with
  | nil =>
    intro cur m hc hm
    have h1 := hm.max cur hc (by simp)
    simp only [List.append_nil] at *
    rw [dif_neg (by omega), lz]
  | cons c r ih =>
    intro cur m hc hm
    rw [lz]
    by_cases hin : cur ++ [c] ∈ T
    · rw [if_pos hin]
      have e : cur ++ c :: r = (cur ++ [c]) ++ r := by simp
      have := ih (cur ++ [c]) m hin (by rw [← e]; exact hm)
      rw [this]
      simp only [e]
    · rw [if_neg hin]
      have h1 := hm.max cur hc (by simp)
      have h2 : m.length = cur.length := by
        refine Nat.le_antisymm ?_ h1
        refine Nat.le_of_not_lt fun hlt => hin ?_
        have h3 := hC.take' hm.mem (cur.length + 1)
        have h4 : m.take (cur.length + 1) = cur ++ [c] := by
          obtain ⟨z, hz⟩ := hm.pre
          have := congrArg (List.take (cur.length + 1)) hz
          rw [List.take_append_of_le_length (by omega)] at this
          rw [this]
          simp [List.take_append, List.take_of_length_le]
        rw [← h4]; exact h3
      have h5 : m = cur := by
        obtain ⟨z, hz⟩ := hm.pre
        exact (List.append_inj hz h2).1
      subst h5
      rw [dif_pos (by simp)]
      simp [List.take_append, List.drop_append, List.take_of_length_le, List.drop_of_length_le]
/-- The search for the longest. -/
def better (T : List (List UInt8)) (u : List UInt8) (b k : Nat) : Nat := if (T.getD b []).length < (T.getD k []).length ∧ T.getD k [] <+: u then k else b
def bestTo (T : List (List UInt8)) (u : List UInt8) : Nat → Nat
  | 0 => 0
  | k + 1 => better T u (bestTo T u k) k
theorem bestTo_long {T : List (List UInt8)} (hC : Closed T) (u : List UInt8) : ∀ k, k ≤ T.length → bestTo T u k < T.length ∧ T.getD (bestTo T u k) [] <+: u ∧ ∀ j < k, T.getD j [] <+: u → (T.getD j []).length ≤ (T.getD (bestTo T u k) []).length := by
  have h0 : 0 < T.length := (List.getElem?_eq_some_iff.1 hC.nil).1
  intro k
  induction k with
  | zero => intro _; exact ⟨h0, by simp [bestTo, List.getD, hC.nil], by simp⟩
  | succ k ih =>
    intro hk
    obtain ⟨h1, h2, h3⟩ := ih (by omega)
    simp only [bestTo, better]
    split
    · rename_i h
      refine ⟨by omega, h.2, fun j hj hp => ?_⟩
      by_cases hjk : j = k
      · subst hjk; exact Nat.le_refl _
      · exact Nat.le_trans (h3 j (by omega) hp) (Nat.le_of_lt h.1)
    · rename_i h
      refine ⟨h1, h2, fun j hj hp => ?_⟩
      by_cases hjk : j = k
      · subst hjk
        exact Nat.le_of_not_lt fun hlt => h ⟨hlt, hp⟩
      · exact h3 j (by omega) hp
theorem best_longest {T : List (List UInt8)} (hC : Closed T) (u : List UInt8) : Longest T u (T.getD (bestTo T u T.length) []) := by
  obtain ⟨h1, h2, h3⟩ := bestTo_long hC u T.length (Nat.le_refl _)
  refine ⟨?_, h2, fun t ht hp => ?_⟩
  · rw [List.getD_eq_getElem?_getD, List.getElem?_eq_getElem h1]; exact List.getElem_mem h1
  · obtain ⟨j, hj, rfl⟩ := List.getElem_of_mem ht
    have := h3 j hj
    simp only [List.getD_eq_getElem?_getD, List.getElem?_eq_getElem hj, Option.getD_some] at this
    exact this hp
theorem best_idx {T : List (List UInt8)} (hC : Closed T) (u : List UInt8) : T.idxOf (T.getD (bestTo T u T.length) []) = bestTo T u T.length := by
  obtain ⟨h1, _, _⟩ := bestTo_long hC u T.length (Nat.le_refl _)
  rw [List.getD_eq_getElem?_getD, List.getElem?_eq_getElem h1, Option.getD_some]
  exact hC.nodup.idxOf_getElem _ h1
/-- What the texts of phrases are; an error. -/
def phrText : (T : List (List UInt8)) → (out : List UInt8) → List (Int × UInt8) → Option (List UInt8) × Int
  | _, out, [] => (some out, 0)
  | T, out, (b, c) :: l => if b < 0 ∨ (T.length : Int) - 1 < b then (none, 1)
    else if 200 < (out ++ (T.getD b.toNat [] ++ [c])).length then (none, 2)
    else phrText (T ++ [T.getD b.toNat [] ++ [c]]) (out ++ (T.getD b.toNat [] ++ [c])) l
end Go.Proofs.YtmikckhihfcooaaDoor
