/- The document's ReadOf. A leaf reads its log; Crash and Pack. A leaf's Pack. -/
import Derived.Test.YtmikckhihfcooaaDoorPk28
import Derived.Test.YtmikckhihfcooaaDoorPk19
import Derived.Test.YtmikckhihfcooaaDoorPk24
import Derived.Test.YtmikckhihfcooaaDoorPk25
namespace Go.Proofs.YtmikckhihfcooaaDoor
open Go.RowKit
theorem cut_parts {s a r : List UInt8} {c : UInt8} {o : Bool} (h : Lib.cut s [c] = (a, r, o)) : (o = true ∧ cutSB s c = some (a, r) ∧ r.length < s.length ∧ a.length ≤ s.length) ∨ (o = false ∧ cutSB s c = none ∧ r = [] ∧ a = s) := by
  rw [cut_lib] at h
  cases hc : cutSB s c with
  | none =>
    rw [hc] at h
    simp only [Prod.mk.injEq] at h
    exact .inr ⟨h.2.2.symm, rfl, h.2.1.symm, h.1.symm⟩
  | some p =>
    obtain ⟨x, y⟩ := p
    rw [hc] at h
    simp only [Prod.mk.injEq] at h
    obtain ⟨rfl, rfl, rfl⟩ := h
    refine .inl ⟨rfl, rfl, cutSB_len hc, ?_⟩
    rw [(cutSB_spec hc).1, List.length_append]; omega
theorem cutNum_t {s a r : List UInt8} {c : UInt8} {v : Nat} (h : Lib.cut s [c] = (a, r, true)) (hv : valNum a = some v) : cutNum s c = some (v, r) := by
  rcases cut_parts h with ⟨_, h1, _⟩ | ⟨h1, _⟩
  · unfold cutNum; rw [h1]; simp only; rw [hv]; rfl
  · cases h1
theorem cutNum_f1 {s a r : List UInt8} {c : UInt8} (h : Lib.cut s [c] = (a, r, false)) : cutNum s c = none := by
  rcases cut_parts h with ⟨h1, _⟩ | ⟨_, h1, _⟩
  · cases h1
  · unfold cutNum; rw [h1]
theorem cutNum_f2 {s a r : List UInt8} {c : UInt8} {o : Bool} (h : Lib.cut s [c] = (a, r, o)) (hv : valNum a = none) : cutNum s c = none := by
  rcases cut_parts h with ⟨_, h1, _⟩ | ⟨_, h1, _⟩
  · unfold cutNum; rw [h1]; simp only; rw [hv]; rfl
  · unfold cutNum; rw [h1]
theorem entryR_f {s a r1 d r2 c r3 : List UInt8} {o1 o2 o3 : Bool} (h1 : Lib.cut s [32] = (a, r1, o1)) (h2 : Lib.cut r1 [32] = (d, r2, o2)) (h3 : Lib.cut r2 [58] = (c, r3, o3))
    (h : o1 = false ∨ o2 = false ∨ o3 = false ∨ valNum a = none ∨ valNum d = none ∨ valNum c = none) : entryR s = none := by
  unfold entryR
  cases k1 : cutNum s 32 with
  | none => rfl
  | some p1 =>
    obtain ⟨v1, x1⟩ := p1
    cases o1 with
    | false => rw [cutNum_f1 h1] at k1; cases k1
    | true =>
    cases w1 : valNum a with
    | none => rw [cutNum_f2 h1 w1] at k1; cases k1
    | some u1 =>
    rw [cutNum_t h1 w1] at k1
    obtain ⟨rfl, rfl⟩ := Prod.mk.inj (Option.some.inj k1)
    simp only
    cases k2 : cutNum r1 32 with
    | none => rfl
    | some p2 =>
      obtain ⟨v2, x2⟩ := p2
      cases o2 with
      | false => rw [cutNum_f1 h2] at k2; cases k2
      | true =>
      cases w2 : valNum d with
      | none => rw [cutNum_f2 h2 w2] at k2; cases k2
      | some u2 =>
      rw [cutNum_t h2 w2] at k2
      obtain ⟨rfl, rfl⟩ := Prod.mk.inj (Option.some.inj k2)
      simp only
      cases k3 : cutNum r2 58 with
      | none => rfl
      | some p3 =>
        obtain ⟨v3, x3⟩ := p3
        exfalso
        cases o3 with
        | false => rw [cutNum_f1 h3] at k3; cases k3
        | true =>
        cases w3 : valNum c with
        | none => rw [cutNum_f2 h3 w3] at k3; cases k3
        | some u3 =>
        rw [w1, w2, w3] at h
        simp at h
theorem entryR_t {s a r1 d r2 c r3 : List UInt8} {va vd vc : Nat} (h1 : Lib.cut s [32] = (a, r1, true)) (h2 : Lib.cut r1 [32] = (d, r2, true)) (h3 : Lib.cut r2 [58] = (c, r3, true))
    (k1 : valNum a = some va) (k2 : valNum d = some vd) (k3 : valNum c = some vc) : entryR s = rest3 r3 va vd vc := by
  unfold entryR
  rw [cutNum_t h1 k1]; simp only
  rw [cutNum_t h2 k2]; simp only
  rw [cutNum_t h3 k3]
def RfAns (s : List UInt8) (out : List Ed) (ok : Bool) : Prop := (readR s = some out ∧ ok = decide (scrErr out = 0)) ∨ (readR s = none ∧ ok = false ∧ out = [])
theorem S_arr (l : List UInt8) : (⟨l.toArray⟩ : ByteArray) = S l := rfl
end Go.Proofs.YtmikckhihfcooaaDoor
namespace Go.Proofs.YtmikckhihfcooaaDoor
open Go.RowKit
theorem rdAns_wr {l out : List Ed} {c : Int} (h : scrErr l = 0) (hA : RdAns (wrL l) out c) : out = l ∧ c = 0 := by
  unfold RdAns at hA
  rw [readP_zero, read_wr (scrErr_zero.1 h).2] at hA
  simp only at hA
  rw [if_pos h] at hA
  rcases hA with ⟨h1, h2⟩ | ⟨h1, _⟩
  · exact ⟨(Option.some.inj h1).symm, h2⟩
  · cases h1
theorem rfAns_wr {l out : List Ed} {ok : Bool} (h : scrErr l = 0) (hA : RfAns (wrL l) out ok) : out = l := by
  unfold RfAns at hA
  rw [read_wr (scrErr_zero.1 h).2] at hA
  rcases hA with ⟨h1, _⟩ | ⟨h1, _⟩
  · exact (Option.some.inj h1).symm
  · cases h1
/-- The record at k, as a string: its first byte, what stands behind it, and the text that it leaves. -/
theorem rec_at {rs : List (List UInt8)} (hg : good [] rs) {k : Nat} (hk : k < rs.length) {R : ByteArray} (hR : R = S (rs.getD k [])) : 0 < R.size ∧ R.size ≤ 1100 ∧
    (((L R).getD 0 0 = 98 ∧ play [] (rs.take (k + 1)) = L (R.extract 1 R.size)) ∨
     ((L R).getD 0 0 = 101 ∧ ∃ l, L (R.extract 1 R.size) = wrL l ∧ edErr (play [] (rs.take k)).length l = 0 ∧ scrErr l = 0 ∧ play [] (rs.take (k + 1)) = edDone (play [] (rs.take k)) l)) := by
  have e : rs.getD k [] = rs[k] := by rw [List.getD_eq_getElem?_getD, List.getElem?_eq_getElem hk]; rfl
  rw [e] at hR
  have hp := play_take (s := []) hk
  obtain ⟨h1, h2⟩ := good_at hg k hk
  generalize rs[k] = r at *
  subst hR
  have hx : ∀ (a : UInt8) (t : List UInt8), L ((S (a :: t)).extract 1 (S (a :: t)).size) = t := fun a t => by
    rw [L_extract, L_S, S_size, List.drop_succ_cons, List.drop_zero, List.length_cons, Nat.add_sub_cancel, List.take_length]
  rcases h2 with ⟨t, rfl, ht⟩ | ⟨l, rfl, hl⟩
  · refine ⟨by rw [S_size]; simp, by rw [S_size]; exact h1, .inl ⟨rfl, ?_⟩⟩
    rw [hp, step_b, hx]
  · refine ⟨by rw [S_size]; simp, by rw [S_size]; exact h1, .inr ⟨rfl, l, hx _ _, hl, scr_of_ed hl, ?_⟩⟩
    rw [hp, step_e hl]
theorem getD0 {R : ByteArray} (h : 0 < R.size) : (L R).getD 0 0 = R[0]'h := L_getD h
theorem play_len {rs : List (List UInt8)} (hg : good [] rs) (k : Nat) : (S (play [] (rs.take k))).size ≤ 200 := by
  rw [S_size]; exact good_text (good_take hg k) (Nat.zero_le _)
set_option maxRecDepth 100000 in
set_option maxHeartbeats 4000000 in
theorem lfRead_any (g gl : Nat) (tx d : ByteArray) (sf : Nat) (w : World) (h : LeafAt w g gl tx d sf) (hd : d.size ≤ 4000) (hgd : good [] (scanL (L d)).1) :
    Calls Tryd.prog 31 #[.pointer (some ⟨g, 0, none⟩)] w fun e w' => e = .returned (.tuple #[]) ∧ LeafAt w' g gl (lfRead d) d sf ∧ Gbs w w' [g, gl] := by
  have HH := Lib.hid h
  have HL := Lib.hid (lgAll_any gl d sf w h.log hd)
  obtain ⟨c0, c1, f0, f1, hg, hgl⟩ := h.cells
  clear h
  have hcnt := scanL_count (L d)
  rw [L_len] at hcnt
  have HRD : Hid (lfRead d = S (play [] (scanL (L d)).1)) := rfl
  generalize (scanL (L d)).1 = rs at *
  have HG := Lib.hid hgd; clear hgd
  go_enter Tryd.func31, Tryd.ntmps31
  go_wp2_with fail
  refine HL.out.mono ?_
  rintro e w1 ⟨v, rfl, hown, hb1⟩
  obtain ⟨A, c, rfl, hnc, hcm, hrd⟩ := own_form hown
  have HR := Lib.hid hrd
  clear hown hrd
  have H1 := Lib.hid (HH.out.below hb1)
  have hs1 := hb1.size
  obtain ⟨n, hn⟩ : ∃ n, rs.length = n := ⟨_, rfl⟩
  rw [hn] at HR hcnt hnc ⊢
  have HN := Lib.hid hn; clear hn
  clear c0 c1 f0 f1
  go_wp2_with fail
  go_loopw [2, 13] (fun sv iv wr => ∃ k : Nat, k ≤ n ∧ iv = .int .i64 (k : Int) ∧ sv = .string (S (play [] (rs.take k))) ∧ Below w1.heap.size w1 wr) (fun _ iv _ => n - (intOf iv).toNat)
  case atStart => exact ⟨0, Nat.zero_le _, rfl, rfl, Below.refl _ _⟩
  case round =>
    obtain ⟨k, hk, rfl, rfl, hb⟩ := hrel
    have hbs := hb.size
    by_cases hlt : k < n
    · have g1 : decide ((k : Int) < (n : Int)) = true := decide_eq_true (by omega)
      have g1' : decide (k < n) = true := decide_eq_true hlt
      obtain ⟨ad, rfl, hab, q0⟩ := str_cell (HR.out.below hb) hlt
      obtain ⟨R, hR⟩ : ∃ R, R = S (rs.getD k []) := ⟨_, rfl⟩
      rw [← hR] at q0
      obtain ⟨h0, hRs, hcase⟩ := rec_at HG.out (by rw [HN.out]; exact hlt) hR
      have htl := play_len HG.out k
      clear hR
      rcases hcase with ⟨hb0, hp⟩ | ⟨hb0, l, hl, he, hsc, hp⟩
      · rw [getD0 h0] at hb0
        have hp' : S (play [] (rs.take (k + 1))) = R.extract 1 R.size := by rw [hp, S_L]
        have HP := Lib.hid hp'
        clear hp hp'
        generalize S (play [] (rs.take k)) = cur at *
        go_wp2_with fail
        go_roundw
        case rel => exact ⟨k + 1, by omega, by go_num, by rw [HP.out], hb⟩
        case measure => simp [intOf]; omega
      · rw [getD0 h0] at hb0
        have hb1' : R[0]'h0 ≠ 98 := by rw [hb0]; decide
        have HP : Hid (S (play [] (rs.take (k + 1))) = S (edDone (L (S (play [] (rs.take k)))) l)) := by unfold Hid; rw [hp, L_S]
        have HE : Hid (edErr (S (play [] (rs.take k))).size l = 0) := by unfold Hid; rw [S_size]; exact he
        have HSC := Lib.hid hsc
        have HX := Lib.hid hl
        have hxs : (R.extract 1 R.size).size ≤ 1100 := by rw [ByteArray.size_extract]; omega
        clear hp he hsc hl
        generalize S (play [] (rs.take k)) = cur at *
        go_wp2_with fail
        refine (read_any (R.extract 1 R.size) (by omega) _).mono ?_
        rintro e w2 ⟨v2, out, cc, rfl, hans, hown2, hb2⟩
        rw [HX.out] at hans
        obtain ⟨rfl, rfl⟩ := rdAns_wr HSC.out hans
        obtain ⟨A2, c2, rfl, hnc2, hcm2, hrx2⟩ := own_form hown2
        have HO := Lib.hid hrx2
        clear hans hown2 hrx2
        have hB2 := hb.trans (hb2.mono hbs)
        go_wp2_with fail
        refine (edApply_any cur out A2 out.length c2 _ w2 HO.out (Nat.le_refl _) (Nat.le_trans hnc2 (Nat.le_trans hcm2 (by decide))) (by omega)).mono ?_
        rintro e w3 ⟨rfl, hb3⟩
        have hap : apOut cur out = S (edDone (L cur) out) := by unfold apOut; rw [if_pos HE.out]
        rw [hap]
        have hB3 := hB2.trans (hb3.mono hB2.size)
        generalize hzz : edErr cur.size out = zz
        clear hap
        go_wp2_with fail
        go_roundw
        case rel => exact ⟨k + 1, by omega, by go_num, by rw [HP.out], hB3⟩
        case measure => simp [intOf]; omega
    · have hkn : k = n := by omega
      subst hkn
      have HT : Hid (lfRead d = S (play [] (rs.take k))) := by unfold Hid; rw [HRD.out, ← HN.out, List.take_length]
      generalize S (play [] (rs.take k)) = cur at *
      have H2 := Lib.hid (H1.out.below hb)
      obtain ⟨c0, c1, f0, f1, hg, hgl⟩ := H2.out.cells
      go_wp2_with fail
      go_end0
      rw [HT.out]
      exact ⟨rfl, H2.out.told _, gbs_told (Gbs.of_below (bthen hb1 hb) _) _⟩
def cfLT (tx d : ByteArray) (sf : Nat) (keep : Int) : ByteArray := if craErr d sf keep = 0 then lfRead (craD d sf keep) else tx
theorem cra_same {d : ByteArray} {sf : Nat} {keep : Int} (h : craErr d sf keep ≠ 0) : craD d sf keep = d ∧ craF d sf keep = sf := by unfold craD craF; rw [if_neg h, if_neg h]; exact ⟨rfl, rfl⟩
theorem LfOk.crash' {tx d : ByteArray} {sf : Nat} (h : LfOk tx d sf) (keep : Int) : LfOk (cfLT tx d sf keep) (craD d sf keep) (craF d sf keep) := by
  unfold cfLT
  by_cases hz : craErr d sf keep = 0
  · rw [if_pos hz]; exact h.crash hz
  · rw [if_neg hz, (cra_same hz).1, (cra_same hz).2]; exact h
set_option maxRecDepth 100000 in
set_option maxHeartbeats 4000000 in
theorem lfCrash_any (g gl : Nat) (tx d : ByteArray) (sf : Nat) (keep : Int) (w : World) (h : LeafAt w g gl tx d sf) (hk : LfOk tx d sf) :
    Calls Tryd.prog 16 #[.pointer (some ⟨g, 0, none⟩), .int .i64 keep] w fun e w' => e = .returned (.int .i64 (craErr d sf keep)) ∧ LeafAt w' g gl (cfLT tx d sf keep) (craD d sf keep) (craF d sf keep) ∧ Gbs w w' [g, gl] := by
  have HH := Lib.hid h
  have HL := Lib.hid (lgCrash_any gl d sf keep w h.log hk.size hk.safe)
  obtain ⟨c0, c1, f0, f1, hg, hgl⟩ := h.cells
  clear h
  by_cases hz : craErr d sf keep = 0
  · have hk2 := hk.crash hz
    have HD := Lib.hid hk2.size
    have HG := Lib.hid hk2.reads.2
    have HT : Hid (cfLT tx d sf keep = lfRead (craD d sf keep)) := by unfold Hid cfLT; rw [if_pos hz]
    rw [HT.out]
    rw [Hid, hz] at HL
    have HL := Lib.hid HL
    rw [hz]
    clear hk2 hz hk
    generalize craD d sf keep = d' at *
    generalize craF d sf keep = sf' at *
    go_enter Tryd.func16, Tryd.ntmps16
    go_wp2_with fail
    refine HL.out.mono ?_
    rintro e w1 ⟨rfl, hL1, hg1⟩
    have H1 := Lib.hid (HH.out.logged hL1 hg1)
    have hB1 : Gbs w w1 [g, gl] := gbs_log hg1
    clear c0 c1 f0 f1 hL1 hg1
    go_wp2_with fail
    refine (lfRead_any g gl tx d' sf' w1 H1.out HD.out HG.out).mono ?_
    rintro e w2 ⟨rfl, H2, hB2⟩
    have H2 := Lib.hid H2
    have hB := hB1.trans hB2
    go_wp2_with fail
    go_ret
    exact ⟨rfl, H2.out, hB⟩
  · have HT : Hid (cfLT tx d sf keep = tx) := by unfold Hid cfLT; rw [if_neg hz]
    rw [HT.out]
    have g1 : (craErr d sf keep != 0) = true := by simpa using hz
    obtain ⟨e1, e2⟩ := cra_same hz
    rw [Hid, e1, e2] at HL
    have HL := Lib.hid HL
    rw [e1, e2]
    clear e1 e2 hz hk
    generalize craErr d sf keep = q at *
    go_enter Tryd.func16, Tryd.ntmps16
    go_wp2_with fail
    refine HL.out.mono ?_
    rintro e w1 ⟨rfl, hL1, hg1⟩
    have H1 := Lib.hid (HH.out.logged hL1 hg1)
    have hB1 : Gbs w w1 [g, gl] := gbs_log hg1
    clear c0 c1 f0 f1 hL1 hg1
    go_wp2_with fail
    go_ret
    exact ⟨rfl, H1.out, hB1⟩
end Go.Proofs.YtmikckhihfcooaaDoor
namespace Go.Proofs.YtmikckhihfcooaaDoor
open Go.RowKit
theorem LeafAt.grown {w w' : World} {g gl o : Nat} {tx d : ByteArray} {sf : Nat} (h : LeafAt w g gl tx d sf) (hb : w.grownBy w' (some o)) (hg : g ≠ o) (hl : gl ≠ o) : LeafAt w' g gl tx d sf :=
  ⟨h.leaf.grown hb (fun e => hg (Option.some.inj e)), Blk.grown h.log hb (fun e => hl (Option.some.inj e)), h.ne⟩
theorem LogAt.grownL {w w' : World} {gl o : Nat} {t : TypeId} {d : ByteArray} {sf : Nat} (h : LogAt w gl t d sf) (hb : w.grownBy w' (some o)) (hl : gl ≠ o) : LogAt w' gl t d sf := Blk.grown h hb (fun e => hl (Option.some.inj e))
/-- The leaf takes another log. -/
theorem LeafAt.relog {w : World} {g gl gn : Nat} {tx d d' : ByteArray} {sf sf' : Nat} (h : LeafAt w g gl tx d sf) (hn : LogAt w gn 75 d' sf') (hne : g ≠ gn) : LeafAt (w.setCell ⟨g, 1, none⟩ (.pointer (some ⟨gn, 0, none⟩))) g gn tx d' sf' :=
  ⟨h.leaf.set_ 1 _, Blk.far hn (fun e => hne e.symm) _, hne⟩
def pkE (stop : Int) : Int := if 0 ≤ stop ∧ stop ≤ 3 then 0 else 1
def pkT (tx d : ByteArray) (sf : Nat) (stop : Int) : ByteArray := if stop = 1 ∨ stop = 2 then cfLT tx d sf 0 else tx
def pkD (tx d : ByteArray) (sf : Nat) (stop : Int) : ByteArray := if stop = 0 ∨ stop = 3 then newD tx else if stop = 1 ∨ stop = 2 then craD d sf 0 else d
def pkF (tx d : ByteArray) (sf : Nat) (stop : Int) : Nat := if stop = 0 ∨ stop = 3 then (newD tx).size else if stop = 1 ∨ stop = 2 then craF d sf 0 else sf
theorem LfOk.pack {tx d : ByteArray} {sf : Nat} (h : LfOk tx d sf) (stop : Int) : LfOk (pkT tx d sf stop) (pkD tx d sf stop) (pkF tx d sf stop) := by
  unfold pkT pkD pkF
  by_cases h1 : stop = 0 ∨ stop = 3
  · rw [if_pos h1, if_pos h1, if_neg (by omega)]; exact LfOk.new_ h.text
  · rw [if_neg h1, if_neg h1]
    by_cases h2 : stop = 1 ∨ stop = 2
    · rw [if_pos h2, if_pos h2, if_pos h2]; exact h.crash' 0
    · rw [if_neg h2, if_neg h2, if_neg h2]; exact h
def PackAns (w : World) (g gl : Nat) (tx d : ByteArray) (sf : Nat) (stop : Int) (e : Ending) (w' : World) : Prop :=
  ∃ gl', e = .returned (.int .i64 (pkE stop)) ∧ (gl' = gl ∨ w.heap.size ≤ gl') ∧ LeafAt w' g gl' (pkT tx d sf stop) (pkD tx d sf stop) (pkF tx d sf stop) ∧ Gbs w w' [g, gl]
end Go.Proofs.YtmikckhihfcooaaDoor
