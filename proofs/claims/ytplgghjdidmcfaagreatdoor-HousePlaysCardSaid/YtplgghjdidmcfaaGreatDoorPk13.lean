/- edit.Place, the reference's Done. A leaf reads its log; Crash and Pack. A leaf's Pack. -/
import Derived.Test.YtplgghjdidmcfaaGreatDoorPk10
import Derived.Test.YtplgghjdidmcfaaGreatDoorPk12
namespace Go.Proofs.YtplgghjdidmcfaaGreatDoor
open Go.RowKit
/-- What Place answers. -/
def plErr (n : Int) (l : List Ed) (at_ : Int) : Int := if edErr n l = 0 then (if at_ < 0 ∨ n < at_ then 1 else 0) else edErr n l
def plOut (n : Int) (l : List Ed) (at_ : Int) : Int × Bool := if plErr n l at_ = 0 then plc at_ 0 l else (0, false)
theorem ret_ibi {a b : Int} {x y : Bool} {p q : Int} (h : a = b) (k : x = y) (m : p = q) : Ending.returned (.tuple #[.int .i64 a, .bool x, .int .i64 p]) = .returned (.tuple #[.int .i64 b, .bool y, .int .i64 q]) := by rw [h, k, m]
/-- What the reference's Done has come to, the k first edits still to do. -/
theorem done_bounds {s : List UInt8} {l : List Ed} (h : edErr s.length l = 0) {k : Nat} (hk : k < l.length) :
    ∃ a d : Nat, l[k].at_ = a ∧ l[k].del = d ∧ a + d ≤ (edDone s (l.drop (k + 1))).length ∧ (edDone s (l.drop (k + 1))).length ≤ 1000 ∧ l[k].ins.length ≤ 40 ∧
      edDone s (l.drop k) = (edDone s (l.drop (k + 1))).take a ++ l[k].ins ++ (edDone s (l.drop (k + 1))).drop (a + d) := by
  obtain ⟨h0, h1, h2, hc, h3⟩ := edErr_zero.1 h
  have hm := hc.mem l[k] (List.getElem_mem hk)
  obtain ⟨a, ha⟩ := Int.eq_ofNat_of_zero_le hm.1
  obtain ⟨d, hd⟩ := Int.eq_ofNat_of_zero_le hm.2.1
  have hch : ∀ (l : List Ed) (p : Option Int), Chain s.length p l → ∀ j, ∃ q, Chain s.length q (l.drop j) ∧ (∀ (hj : j - 1 < l.length), 0 < j → q = some (l[j - 1].at_ + l[j - 1].del)) := by
    intro l p hc
    induction hc with
    | nil => intro j; exact ⟨none, by rw [List.drop_nil]; exact .nil _, fun hj => by simp at hj⟩
    | cons p x r h0 h ih =>
      intro j
      cases j with
      | zero => exact ⟨p, .cons _ _ _ h0 h, fun _ h => absurd h (by omega)⟩
      | succ j =>
        obtain ⟨q, hq, hq2⟩ := ih j
        cases j with
        | zero => exact ⟨_, h, fun _ _ => rfl⟩
        | succ j => exact ⟨q, hq, fun hj _ => by have := hq2 (by simpa using hj) (by omega); simpa using this⟩
  obtain ⟨q, hq, hq2⟩ := hch l none hc (k + 1)
  have hq3 := hq2 (by simpa using hk) (by omega)
  simp only [Nat.add_sub_cancel] at hq3
  subst hq3
  have hle : a + d ≤ s.length := by omega
  have e1 := edDone_eq rfl hq (k := a + d) (by simp only [after]; omega) hle
  have e2 := edTo_length rfl hq (k := a + d) (by simp only [after]; omega) hle
  have e3 := congrArg List.length e1
  rw [List.length_append, List.length_take] at e3
  have e4 := hq.grows_le
  have e5 : (l.drop (k + 1)).length ≤ 20 := by rw [List.length_drop]; omega
  refine ⟨a, d, ha, hd, by omega, by omega, hm.2.2.2.1, ?_⟩
  rw [drop_cons_get hk, edDone, ha, hd]
  congr 1
set_option maxRecDepth 100000 in
set_option maxHeartbeats 2000000 in
theorem edDone_any (s : ByteArray) (l : List Ed) (A : Option Addr) (m c B : Nat) (w : World) (hr : Rd w B 3 A m (edCells l)) (hB : B ≤ w.heap.size) (hE : edErr s.size l = 0) :
    Calls Tryz.prog 131 #[.string s, .slice A m c] w fun e w' => e = .returned (.string (S (edDone (L s) l))) ∧ Below w.heap.size w w' := by
  have hlen := Rd.rec_len ed_len (by omega) hr
  have HR := Lib.hid hr; clear hr
  have HL := Lib.hid hlen; clear hlen
  have HE' : Hid (edErr (L s).length l = 0) := by unfold Hid; rw [L_len]; exact hE
  have hl20 : m ≤ 20 := by rw [← HL.out]; exact (edErr_zero.1 hE).2.2.1
  clear hE
  go_enter Tryz.func131, Tryz.ntmps131
  go_wp2_with fail
  go_loopw [0, 5] (fun o i wr => ∃ k : Nat, k ≤ m ∧ i = .int .i64 ((k : Int) - 1) ∧ o = .string (S (edDone (L s) (l.drop k))) ∧ Below w.heap.size w wr) (fun _ i _ => (intOf i + 1).toNat)
  case atStart => exact ⟨m, Nat.le_refl _, rfl, by rw [List.drop_of_length_le (by rw [HL.out]; exact Nat.le_refl _)]; rfl, Below.refl _ _⟩
  case round =>
    obtain ⟨k, hk, rfl, rfl, hb⟩ := hrel
    have hbs := hb.size
    by_cases hlt : 0 < k
    · obtain ⟨k, rfl⟩ : ∃ j, k = j + 1 := ⟨k - 1, by omega⟩
      obtain ⟨ad, hl, rfl, hab, c0, c1, c2⟩ := (HR.out.below (hb.mono hB)).at_ed (k := k) (by omega)
      obtain ⟨a, d, ha, hd, hz1, hz2, hz3, hst⟩ := done_bounds HE'.out hl
      have HST := Lib.hid hst; clear hst
      rw [ha] at c0
      rw [hd] at c1
      have HAD := Lib.hid (And.intro ha hd); clear ha hd
      generalize edDone (L s) (l.drop (k + 1)) = cur at *
      generalize l[k].ins = xi at *
      have q1 : (S cur).size ≤ 1000 := by rw [S_size]; exact hz2
      have q2 : a + d ≤ (S cur).size := by rw [S_size]; exact hz1
      have q3 : (S xi).size ≤ 40 := by rw [S_size]; exact hz3
      have q4 : ((S cur).extract 0 a).size ≤ 1000 := by rw [ByteArray.size_extract]; omega
      have q5 : ((S cur).extract (a + d) (S cur).size).size ≤ 1000 := by rw [ByteArray.size_extract]; omega
      have q6 : ((S cur).extract 0 a ++ S xi).size ≤ 1040 := by rw [ByteArray.size_append]; omega
      have e0 : (((k + 1 : Nat) : Int) - 1) = (k : Int) := by omega
      rw [e0]
      have HEX : Hid ((S cur).extract 0 a ++ S xi ++ (S cur).extract (a + d) (S cur).size = S (cur.take a ++ xi ++ cur.drop (a + d))) := by
        unfold Hid
        rw [append_S, append_S, L_S, L_extract, L_extract, L_S, L_S, List.drop_zero, S_size, Nat.sub_zero, List.take_of_length_le (l := cur.drop (a + d)) (by rw [List.length_drop]; exact Nat.le_refl _)]
      go_wp2_with fail
      go_quiet (fail)
      go_wp2_with fail
      go_roundw
      case rel => exact ⟨k, by omega, rfl, by rw [HEX.out, HST.out], (by repeat (first | exact Below.refl _ _ | assumption | refine Below.alloc ?_ (by first | exact Nat.le_refl _ | assumption | omega | (simp <;> omega)) _ | refine Below.setCell ?_ (by first | exact Nat.le_refl _ | assumption | omega | (simp <;> omega)) _ | refine Below.drew ?_ | refine below_drewN ?_ _))⟩
      case measure => simp [intOf]
    · obtain rfl : k = 0 := by omega
      go_wp2_with fail
      go_ret
      exact ⟨rfl, hb⟩
end Go.Proofs.YtplgghjdidmcfaaGreatDoor
namespace Go.Proofs.YtplgghjdidmcfaaGreatDoor
open Go.RowKit
theorem rdAns_wr {l out : List Ed} {c : Int} (h : scrErr l = 0) (hA : RdAns (wrL l) out c) : out = l ∧ c = 0 := by
  unfold RdAns at hA
  rw [readP_zero, read_wr (scrErr_zero.1 h).2] at hA
  simp only at hA
  rw [if_pos h] at hA
  rcases hA with ⟨h1, h2⟩ | ⟨h1, _⟩
  · exact ⟨(Option.some.inj h1).symm, h2⟩
  · cases h1
theorem rfAns_wr {l out : List Ed} {ok : Bool} (h : scrErr l = 0) (hA : RfAns (wrL l) out ok) : out = l := by
  unfold RfAns at hA
  rw [read_wr (scrErr_zero.1 h).2] at hA
  rcases hA with ⟨h1, _⟩ | ⟨h1, _⟩
  · exact (Option.some.inj h1).symm
  · cases h1
/-- The record at k, as a string: its first byte, what stands behind it, and the text that it leaves. -/
theorem rec_at {rs : List (List UInt8)} (hg : good [] rs) {k : Nat} (hk : k < rs.length) {R : ByteArray} (hR : R = S (rs.getD k [])) : 0 < R.size ∧ R.size ≤ 1100 ∧
    (((L R).getD 0 0 = 98 ∧ play [] (rs.take (k + 1)) = L (R.extract 1 R.size)) ∨
     ((L R).getD 0 0 = 101 ∧ ∃ l, L (R.extract 1 R.size) = wrL l ∧ edErr (play [] (rs.take k)).length l = 0 ∧ scrErr l = 0 ∧ play [] (rs.take (k + 1)) = edDone (play [] (rs.take k)) l)) := by
  have e : rs.getD k [] = rs[k] := by rw [List.getD_eq_getElem?_getD, List.getElem?_eq_getElem hk]; rfl
  rw [e] at hR
  have hp := play_take (s := []) hk
  obtain ⟨h1, h2⟩ := good_at hg k hk
  generalize rs[k] = r at *
  subst hR
  have hx : ∀ (a : UInt8) (t : List UInt8), L ((S (a :: t)).extract 1 (S (a :: t)).size) = t := fun a t => by
    rw [L_extract, L_S, S_size, List.drop_succ_cons, List.drop_zero, List.length_cons, Nat.add_sub_cancel, List.take_length]
  rcases h2 with ⟨t, rfl, ht⟩ | ⟨l, rfl, hl⟩
  · refine ⟨by rw [S_size]; simp, by rw [S_size]; exact h1, .inl ⟨rfl, ?_⟩⟩
    rw [hp, step_b, hx]
  · refine ⟨by rw [S_size]; simp, by rw [S_size]; exact h1, .inr ⟨rfl, l, hx _ _, hl, scr_of_ed hl, ?_⟩⟩
    rw [hp, step_e hl]
theorem getD0 {R : ByteArray} (h : 0 < R.size) : (L R).getD 0 0 = R[0]'h := L_getD h
theorem play_len {rs : List (List UInt8)} (hg : good [] rs) (k : Nat) : (S (play [] (rs.take k))).size ≤ 200 := by
  rw [S_size]; exact good_text (good_take hg k) (Nat.zero_le _)
set_option maxRecDepth 100000 in
set_option maxHeartbeats 4000000 in
theorem lfRead_any (g gl : Nat) (tx d : ByteArray) (sf : Nat) (w : World) (h : LeafAt w g gl tx d sf) (hd : d.size ≤ 4000) (hgd : good [] (scanL (L d)).1) :
    Calls Tryz.prog 61 #[.pointer (some ⟨g, 0, none⟩)] w fun e w' => e = .returned (.tuple #[]) ∧ LeafAt w' g gl (lfRead d) d sf ∧ Gbs w w' [g, gl] := by
  have HH := Lib.hid h
  have HL := Lib.hid (lgAll_any gl d sf w h.log hd)
  obtain ⟨c0, c1, f0, f1, hg, hgl⟩ := h.cells
  clear h
  have hcnt := scanL_count (L d)
  rw [L_len] at hcnt
  have HRD : Hid (lfRead d = S (play [] (scanL (L d)).1)) := rfl
  generalize (scanL (L d)).1 = rs at *
  have HG := Lib.hid hgd; clear hgd
  go_enter Tryz.func61, Tryz.ntmps61
  go_wp2_with fail
  refine HL.out.mono ?_
  rintro e w1 ⟨v, rfl, hown, hb1⟩
  obtain ⟨A, c, rfl, hnc, hcm, hrd⟩ := own_form hown
  have HR := Lib.hid hrd
  clear hown hrd
  have H1 := Lib.hid (HH.out.below hb1)
  have hs1 := hb1.size
  obtain ⟨n, hn⟩ : ∃ n, rs.length = n := ⟨_, rfl⟩
  rw [hn] at HR hcnt hnc ⊢
  have HN := Lib.hid hn; clear hn
  clear c0 c1 f0 f1
  go_wp2_with fail
  go_loopw [2, 13] (fun sv iv wr => ∃ k : Nat, k ≤ n ∧ iv = .int .i64 (k : Int) ∧ sv = .string (S (play [] (rs.take k))) ∧ Below w1.heap.size w1 wr) (fun _ iv _ => n - (intOf iv).toNat)
  case atStart => exact ⟨0, Nat.zero_le _, rfl, rfl, Below.refl _ _⟩
  case round =>
    obtain ⟨k, hk, rfl, rfl, hb⟩ := hrel
    have hbs := hb.size
    by_cases hlt : k < n
    · have g1 : decide ((k : Int) < (n : Int)) = true := decide_eq_true (by omega)
      have g1' : decide (k < n) = true := decide_eq_true hlt
      obtain ⟨ad, rfl, hab, q0⟩ := str_cell (HR.out.below hb) hlt
      obtain ⟨R, hR⟩ : ∃ R, R = S (rs.getD k []) := ⟨_, rfl⟩
      rw [← hR] at q0
      obtain ⟨h0, hRs, hcase⟩ := rec_at HG.out (by rw [HN.out]; exact hlt) hR
      have htl := play_len HG.out k
      clear hR
      rcases hcase with ⟨hb0, hp⟩ | ⟨hb0, l, hl, he, hsc, hp⟩
      · rw [getD0 h0] at hb0
        have hp' : S (play [] (rs.take (k + 1))) = R.extract 1 R.size := by rw [hp, S_L]
        have HP := Lib.hid hp'
        clear hp hp'
        generalize S (play [] (rs.take k)) = cur at *
        go_wp2_with fail
        go_roundw
        case rel => exact ⟨k + 1, by omega, by go_num, by rw [HP.out], hb⟩
        case measure => simp [intOf]; omega
      · rw [getD0 h0] at hb0
        have hb1' : R[0]'h0 ≠ 98 := by rw [hb0]; decide
        have HP : Hid (S (play [] (rs.take (k + 1))) = S (edDone (L (S (play [] (rs.take k)))) l)) := by unfold Hid; rw [hp, L_S]
        have HE : Hid (edErr (S (play [] (rs.take k))).size l = 0) := by unfold Hid; rw [S_size]; exact he
        have HSC := Lib.hid hsc
        have HX := Lib.hid hl
        have hxs : (R.extract 1 R.size).size ≤ 1100 := by rw [ByteArray.size_extract]; omega
        clear hp he hsc hl
        generalize S (play [] (rs.take k)) = cur at *
        go_wp2_with fail
        refine (read_any (R.extract 1 R.size) (by omega) _).mono ?_
        rintro e w2 ⟨v2, out, cc, rfl, hans, hown2, hb2⟩
        rw [HX.out] at hans
        obtain ⟨rfl, rfl⟩ := rdAns_wr HSC.out hans
        obtain ⟨A2, c2, rfl, hnc2, hcm2, hrx2⟩ := own_form hown2
        have HO := Lib.hid hrx2
        clear hans hown2 hrx2
        have hB2 := hb.trans (hb2.mono hbs)
        go_wp2_with fail
        refine (edApply_any cur out A2 out.length c2 _ w2 HO.out (Nat.le_refl _) (Nat.le_trans hnc2 (Nat.le_trans hcm2 (by decide))) (by omega)).mono ?_
        rintro e w3 ⟨rfl, hb3⟩
        have hap : apOut cur out = S (edDone (L cur) out) := by unfold apOut; rw [if_pos HE.out]
        rw [hap]
        have hB3 := hB2.trans (hb3.mono hB2.size)
        generalize hzz : edErr cur.size out = zz
        clear hap
        go_wp2_with fail
        go_roundw
        case rel => exact ⟨k + 1, by omega, by go_num, by rw [HP.out], hB3⟩
        case measure => simp [intOf]; omega
    · have hkn : k = n := by omega
      subst hkn
      have HT : Hid (lfRead d = S (play [] (rs.take k))) := by unfold Hid; rw [HRD.out, ← HN.out, List.take_length]
      generalize S (play [] (rs.take k)) = cur at *
      have H2 := Lib.hid (H1.out.below hb)
      obtain ⟨c0, c1, f0, f1, hg, hgl⟩ := H2.out.cells
      go_wp2_with fail
      go_end0
      rw [HT.out]
      exact ⟨rfl, H2.out.told _, gbs_told (Gbs.of_below (bthen hb1 hb) _) _⟩
def cfLT (tx d : ByteArray) (sf : Nat) (keep : Int) : ByteArray := if craErr d sf keep = 0 then lfRead (craD d sf keep) else tx
theorem cra_same {d : ByteArray} {sf : Nat} {keep : Int} (h : craErr d sf keep ≠ 0) : craD d sf keep = d ∧ craF d sf keep = sf := by unfold craD craF; rw [if_neg h, if_neg h]; exact ⟨rfl, rfl⟩
theorem LfOk.crash' {tx d : ByteArray} {sf : Nat} (h : LfOk tx d sf) (keep : Int) : LfOk (cfLT tx d sf keep) (craD d sf keep) (craF d sf keep) := by
  unfold cfLT
  by_cases hz : craErr d sf keep = 0
  · rw [if_pos hz]; exact h.crash hz
  · rw [if_neg hz, (cra_same hz).1, (cra_same hz).2]; exact h
set_option maxRecDepth 100000 in
set_option maxHeartbeats 4000000 in
theorem lfCrash_any (g gl : Nat) (tx d : ByteArray) (sf : Nat) (keep : Int) (w : World) (h : LeafAt w g gl tx d sf) (hk : LfOk tx d sf) :
    Calls Tryz.prog 27 #[.pointer (some ⟨g, 0, none⟩), .int .i64 keep] w fun e w' => e = .returned (.int .i64 (craErr d sf keep)) ∧ LeafAt w' g gl (cfLT tx d sf keep) (craD d sf keep) (craF d sf keep) ∧ Gbs w w' [g, gl] := by
  have HH := Lib.hid h
  have HL := Lib.hid (lgCrash_any gl d sf keep w h.log hk.size hk.safe)
  obtain ⟨c0, c1, f0, f1, hg, hgl⟩ := h.cells
  clear h
  by_cases hz : craErr d sf keep = 0
  · have hk2 := hk.crash hz
    have HD := Lib.hid hk2.size
    have HG := Lib.hid hk2.reads.2
    have HT : Hid (cfLT tx d sf keep = lfRead (craD d sf keep)) := by unfold Hid cfLT; rw [if_pos hz]
    rw [HT.out]
    rw [Hid, hz] at HL
    have HL := Lib.hid HL
    rw [hz]
    clear hk2 hz hk
    generalize craD d sf keep = d' at *
    generalize craF d sf keep = sf' at *
    go_enter Tryz.func27, Tryz.ntmps27
    go_wp2_with fail
    refine HL.out.mono ?_
    rintro e w1 ⟨rfl, hL1, hg1⟩
    have H1 := Lib.hid (HH.out.logged hL1 hg1)
    have hB1 : Gbs w w1 [g, gl] := gbs_log hg1
    clear c0 c1 f0 f1 hL1 hg1
    go_wp2_with fail
    refine (lfRead_any g gl tx d' sf' w1 H1.out HD.out HG.out).mono ?_
    rintro e w2 ⟨rfl, H2, hB2⟩
    have H2 := Lib.hid H2
    have hB := hB1.trans hB2
    go_wp2_with fail
    go_ret
    exact ⟨rfl, H2.out, hB⟩
  · have HT : Hid (cfLT tx d sf keep = tx) := by unfold Hid cfLT; rw [if_neg hz]
    rw [HT.out]
    have g1 : (craErr d sf keep != 0) = true := by simpa using hz
    obtain ⟨e1, e2⟩ := cra_same hz
    rw [Hid, e1, e2] at HL
    have HL := Lib.hid HL
    rw [e1, e2]
    clear e1 e2 hz hk
    generalize craErr d sf keep = q at *
    go_enter Tryz.func27, Tryz.ntmps27
    go_wp2_with fail
    refine HL.out.mono ?_
    rintro e w1 ⟨rfl, hL1, hg1⟩
    have H1 := Lib.hid (HH.out.logged hL1 hg1)
    have hB1 : Gbs w w1 [g, gl] := gbs_log hg1
    clear c0 c1 f0 f1 hL1 hg1
    go_wp2_with fail
    go_ret
    exact ⟨rfl, H1.out, hB1⟩
end Go.Proofs.YtplgghjdidmcfaaGreatDoor
namespace Go.Proofs.YtplgghjdidmcfaaGreatDoor
open Go.RowKit
theorem LeafAt.grown {w w' : World} {g gl o : Nat} {tx d : ByteArray} {sf : Nat} (h : LeafAt w g gl tx d sf) (hb : w.grownBy w' (some o)) (hg : g ≠ o) (hl : gl ≠ o) : LeafAt w' g gl tx d sf :=
  ⟨h.leaf.grown hb (fun e => hg (Option.some.inj e)), Blk.grown h.log hb (fun e => hl (Option.some.inj e)), h.ne⟩
theorem LogAt.grownL {w w' : World} {gl o : Nat} {t : TypeId} {d : ByteArray} {sf : Nat} (h : LogAt w gl t d sf) (hb : w.grownBy w' (some o)) (hl : gl ≠ o) : LogAt w' gl t d sf := Blk.grown h hb (fun e => hl (Option.some.inj e))
/-- The leaf takes another log. -/
theorem LeafAt.relog {w : World} {g gl gn : Nat} {tx d d' : ByteArray} {sf sf' : Nat} (h : LeafAt w g gl tx d sf) (hn : LogAt w gn 187 d' sf') (hne : g ≠ gn) : LeafAt (w.setCell ⟨g, 1, none⟩ (.pointer (some ⟨gn, 0, none⟩))) g gn tx d' sf' :=
  ⟨h.leaf.set_ 1 _, Blk.far hn (fun e => hne e.symm) _, hne⟩
def pkE (stop : Int) : Int := if 0 ≤ stop ∧ stop ≤ 3 then 0 else 1
def pkT (tx d : ByteArray) (sf : Nat) (stop : Int) : ByteArray := if stop = 1 ∨ stop = 2 then cfLT tx d sf 0 else tx
def pkD (tx d : ByteArray) (sf : Nat) (stop : Int) : ByteArray := if stop = 0 ∨ stop = 3 then newD tx else if stop = 1 ∨ stop = 2 then craD d sf 0 else d
def pkF (tx d : ByteArray) (sf : Nat) (stop : Int) : Nat := if stop = 0 ∨ stop = 3 then (newD tx).size else if stop = 1 ∨ stop = 2 then craF d sf 0 else sf
theorem LfOk.pack {tx d : ByteArray} {sf : Nat} (h : LfOk tx d sf) (stop : Int) : LfOk (pkT tx d sf stop) (pkD tx d sf stop) (pkF tx d sf stop) := by
  unfold pkT pkD pkF
  by_cases h1 : stop = 0 ∨ stop = 3
  · rw [if_pos h1, if_pos h1, if_neg (by omega)]; exact LfOk.new_ h.text
  · rw [if_neg h1, if_neg h1]
    by_cases h2 : stop = 1 ∨ stop = 2
    · rw [if_pos h2, if_pos h2, if_pos h2]; exact h.crash' 0
    · rw [if_neg h2, if_neg h2, if_neg h2]; exact h
def PackAns (w : World) (g gl : Nat) (tx d : ByteArray) (sf : Nat) (stop : Int) (e : Ending) (w' : World) : Prop :=
  ∃ gl', e = .returned (.int .i64 (pkE stop)) ∧ (gl' = gl ∨ w.heap.size ≤ gl') ∧ LeafAt w' g gl' (pkT tx d sf stop) (pkD tx d sf stop) (pkF tx d sf stop) ∧ Gbs w w' [g, gl]
set_option maxRecDepth 100000 in
set_option maxHeartbeats 4000000 in
theorem pack1_any (g gl : Nat) (tx d : ByteArray) (sf : Nat) (w : World) (h : LeafAt w g gl tx d sf) (hk : LfOk tx d sf) :
    Calls Tryz.prog 59 #[.pointer (some ⟨g, 0, none⟩), .int .i64 1] w (PackAns w g gl tx d sf 1) := by
  have HH := Lib.hid h
  obtain ⟨c0, c1, f0, f1, hg, hgl⟩ := h.cells
  have HN := Lib.hid (LfOk.new_ hk.text)
  have HE := Lib.hid (new_app hk.text)
  have HWH := Lib.hid (cra_whole (LfOk.new_ hk.text))
  have HCR := Lib.hid (cra_none hk.safe)
  have HC2 := Lib.hid (hk.crash (cra_none hk.safe))
  have htx := hk.text
  have hds := hk.size
  have hss := hk.safe
  clear h hk
  go_enter Tryz.func59, Tryz.ntmps59
  go_wp2_with fail
  refine (lgNew_any _).mono ?_
  rintro e w1 ⟨rfl, hw1⟩
  have hL1 : LogAt w1 w.heap.size 187 ⟨#[]⟩ 0 := by rw [hw1]; exact Blk.new_ w _ _
  have hb1 : Below w.heap.size w w1 := by rw [hw1]; exact (by repeat (first | exact Below.refl _ _ | assumption | refine Below.alloc ?_ (by first | exact Nat.le_refl _ | assumption | omega | (simp <;> omega)) _ | refine Below.setCell ?_ (by first | exact Nat.le_refl _ | assumption | omega | (simp <;> omega)) _ | refine Below.drew ?_ | refine below_drewN ?_ _))
  clear hw1
  have H1 := Lib.hid (HH.out.below hb1)
  have hgn1 : g ≠ w.heap.size := by omega
  have hgn2 : gl ≠ w.heap.size := by omega
  have hG1 : Gbs w w1 [g, gl] := Gbs.of_below hb1 _
  have HL1 := Lib.hid hL1
  clear c0 c1 f0 f1 hL1 hb1 hg hgl
  have HGB := Lib.hid (fun (W W2 : World) (a : Gbs w W [g, gl]) (b : W.grownBy W2 (some w.heap.size)) => a.gb b (.inr (Nat.le_refl _)))
  obtain ⟨c0, c1, f0, f1, hg, hgl⟩ := H1.out.cells
  have hglt : w.heap.size < w1.heap.size := Blk.lt HL1.out
  generalize hgn : w.heap.size = gn at *
  have HGN := Lib.hid hgn
  clear hgn
  go_wp2_with fail
  refine (lgAppend_any gn ⟨#[]⟩ (recB tx) 0 _ HL1.out (Nat.zero_le _)).mono ?_
  rintro e w2 ⟨rfl, hL2, hg2⟩
  have H2 := Lib.hid (H1.out.grown hg2 hgn1 hgn2)
  have HL2 := Lib.hid hL2
  have hG2 := HGB.out _ _ hG1 hg2
  have hz2 := hg2.size
  clear c0 c1 f0 f1 hL2 hg2 hg hgl
  obtain ⟨c0, c1, f0, f1, hg, hgl⟩ := H2.out.cells
  go_wp2_with fail
  refine (lgCrash_any gl d sf 0 _ H2.out.log hds hss).mono ?_
  rintro e w3 ⟨rfl, hL3, hg3⟩
  have H3 := Lib.hid (H2.out.logged hL3 hg3)
  have hG3 := hG2.trans (gbs_log hg3)
  clear c0 c1 f0 f1 hL3 hg3 hg hgl
  obtain ⟨c0, c1, f0, f1, hg, hgl⟩ := H3.out.cells
  go_wp2_with fail
  refine (lfRead_any g gl tx _ _ w3 H3.out HC2.out.size HC2.out.reads.2).mono ?_
  rintro e w4 ⟨rfl, H4, hB4⟩
  have H4 := Lib.hid H4
  have hG4 := hG3.trans hB4
  go_wp2_with fail
  go_ret
  refine ⟨gl, rfl, .inl rfl, ?_, hG4⟩
  have e1 : pkT tx d sf 1 = lfRead (craD d sf 0) := by unfold pkT cfLT; rw [if_pos (by decide), if_pos HCR.out]
  have e2 : pkD tx d sf 1 = craD d sf 0 := by unfold pkD; rw [if_neg (by decide), if_pos (by decide)]
  have e3 : pkF tx d sf 1 = craF d sf 0 := by unfold pkF; rw [if_neg (by decide), if_pos (by decide)]
  rw [e1, e2, e3]
  exact H4.out
set_option maxRecDepth 100000 in
set_option maxHeartbeats 4000000 in
theorem pack2_any (g gl : Nat) (tx d : ByteArray) (sf : Nat) (w : World) (h : LeafAt w g gl tx d sf) (hk : LfOk tx d sf) :
    Calls Tryz.prog 59 #[.pointer (some ⟨g, 0, none⟩), .int .i64 2] w (PackAns w g gl tx d sf 2) := by
  have HH := Lib.hid h
  obtain ⟨c0, c1, f0, f1, hg, hgl⟩ := h.cells
  have HN := Lib.hid (LfOk.new_ hk.text)
  have HE := Lib.hid (new_app hk.text)
  have HWH := Lib.hid (cra_whole (LfOk.new_ hk.text))
  have HCR := Lib.hid (cra_none hk.safe)
  have HC2 := Lib.hid (hk.crash (cra_none hk.safe))
  have htx := hk.text
  have hds := hk.size
  have hss := hk.safe
  clear h hk
  go_enter Tryz.func59, Tryz.ntmps59
  go_wp2_with fail
  refine (lgNew_any _).mono ?_
  rintro e w1 ⟨rfl, hw1⟩
  have hL1 : LogAt w1 w.heap.size 187 ⟨#[]⟩ 0 := by rw [hw1]; exact Blk.new_ w _ _
  have hb1 : Below w.heap.size w w1 := by rw [hw1]; exact (by repeat (first | exact Below.refl _ _ | assumption | refine Below.alloc ?_ (by first | exact Nat.le_refl _ | assumption | omega | (simp <;> omega)) _ | refine Below.setCell ?_ (by first | exact Nat.le_refl _ | assumption | omega | (simp <;> omega)) _ | refine Below.drew ?_ | refine below_drewN ?_ _))
  clear hw1
  have H1 := Lib.hid (HH.out.below hb1)
  have hgn1 : g ≠ w.heap.size := by omega
  have hgn2 : gl ≠ w.heap.size := by omega
  have hG1 : Gbs w w1 [g, gl] := Gbs.of_below hb1 _
  have HL1 := Lib.hid hL1
  clear c0 c1 f0 f1 hL1 hb1 hg hgl
  have HGB := Lib.hid (fun (W W2 : World) (a : Gbs w W [g, gl]) (b : W.grownBy W2 (some w.heap.size)) => a.gb b (.inr (Nat.le_refl _)))
  obtain ⟨c0, c1, f0, f1, hg, hgl⟩ := H1.out.cells
  have hglt : w.heap.size < w1.heap.size := Blk.lt HL1.out
  generalize hgn : w.heap.size = gn at *
  have HGN := Lib.hid hgn
  clear hgn
  go_wp2_with fail
  refine (lgAppend_any gn ⟨#[]⟩ (recB tx) 0 _ HL1.out (Nat.zero_le _)).mono ?_
  rintro e w2 ⟨rfl, hL2, hg2⟩
  have H2 := Lib.hid (H1.out.grown hg2 hgn1 hgn2)
  have HL2 := Lib.hid hL2
  have hG2 := HGB.out _ _ hG1 hg2
  have hz2 := hg2.size
  clear c0 c1 f0 f1 hL2 hg2 hg hgl
  obtain ⟨c0, c1, f0, f1, hg, hgl⟩ := H2.out.cells
  go_wp2_with fail
  refine (lgCrash_any gl d sf 0 _ H2.out.log hds hss).mono ?_
  rintro e w3 ⟨rfl, hL3, hg3⟩
  have H3 := Lib.hid (H2.out.logged hL3 hg3)
  have hG3 := hG2.trans (gbs_log hg3)
  clear c0 c1 f0 f1 hL3 hg3 hg hgl
  obtain ⟨c0, c1, f0, f1, hg, hgl⟩ := H3.out.cells
  go_wp2_with fail
  refine (lfRead_any g gl tx _ _ w3 H3.out HC2.out.size HC2.out.reads.2).mono ?_
  rintro e w4 ⟨rfl, H4, hB4⟩
  have H4 := Lib.hid H4
  have hG4 := hG3.trans hB4
  go_wp2_with fail
  go_ret
  refine ⟨gl, rfl, .inl rfl, ?_, hG4⟩
  have e1 : pkT tx d sf 2 = lfRead (craD d sf 0) := by unfold pkT cfLT; rw [if_pos (by decide), if_pos HCR.out]
  have e2 : pkD tx d sf 2 = craD d sf 0 := by unfold pkD; rw [if_neg (by decide), if_pos (by decide)]
  have e3 : pkF tx d sf 2 = craF d sf 0 := by unfold pkF; rw [if_neg (by decide), if_pos (by decide)]
  rw [e1, e2, e3]
  exact H4.out
set_option maxRecDepth 100000 in
set_option maxHeartbeats 4000000 in
theorem pack0_any (g gl : Nat) (tx d : ByteArray) (sf : Nat) (w : World) (h : LeafAt w g gl tx d sf) (hk : LfOk tx d sf) :
    Calls Tryz.prog 59 #[.pointer (some ⟨g, 0, none⟩), .int .i64 0] w (PackAns w g gl tx d sf 0) := by
  have HH := Lib.hid h
  obtain ⟨c0, c1, f0, f1, hg, hgl⟩ := h.cells
  have HN := Lib.hid (LfOk.new_ hk.text)
  have HE := Lib.hid (new_app hk.text)
  have HWH := Lib.hid (cra_whole (LfOk.new_ hk.text))
  have HCR := Lib.hid (cra_none hk.safe)
  have HC2 := Lib.hid (hk.crash (cra_none hk.safe))
  have htx := hk.text
  have hds := hk.size
  have hss := hk.safe
  clear h hk
  go_enter Tryz.func59, Tryz.ntmps59
  go_wp2_with fail
  refine (lgNew_any _).mono ?_
  rintro e w1 ⟨rfl, hw1⟩
  have hL1 : LogAt w1 w.heap.size 187 ⟨#[]⟩ 0 := by rw [hw1]; exact Blk.new_ w _ _
  have hb1 : Below w.heap.size w w1 := by rw [hw1]; exact (by repeat (first | exact Below.refl _ _ | assumption | refine Below.alloc ?_ (by first | exact Nat.le_refl _ | assumption | omega | (simp <;> omega)) _ | refine Below.setCell ?_ (by first | exact Nat.le_refl _ | assumption | omega | (simp <;> omega)) _ | refine Below.drew ?_ | refine below_drewN ?_ _))
  clear hw1
  have H1 := Lib.hid (HH.out.below hb1)
  have hgn1 : g ≠ w.heap.size := by omega
  have hgn2 : gl ≠ w.heap.size := by omega
  have hG1 : Gbs w w1 [g, gl] := Gbs.of_below hb1 _
  have HL1 := Lib.hid hL1
  clear c0 c1 f0 f1 hL1 hb1 hg hgl
  have HGB := Lib.hid (fun (W W2 : World) (a : Gbs w W [g, gl]) (b : W.grownBy W2 (some w.heap.size)) => a.gb b (.inr (Nat.le_refl _)))
  obtain ⟨c0, c1, f0, f1, hg, hgl⟩ := H1.out.cells
  have hglt : w.heap.size < w1.heap.size := Blk.lt HL1.out
  generalize hgn : w.heap.size = gn at *
  have HGN := Lib.hid hgn
  clear hgn
  go_wp2_with fail
  refine (lgAppend_any gn ⟨#[]⟩ (recB tx) 0 _ HL1.out (Nat.zero_le _)).mono ?_
  rintro e w2 ⟨rfl, hL2, hg2⟩
  have H2 := Lib.hid (H1.out.grown hg2 hgn1 hgn2)
  have HL2 := Lib.hid hL2
  have hG2 := HGB.out _ _ hG1 hg2
  have hz2 := hg2.size
  clear c0 c1 f0 f1 hL2 hg2 hg hgl
  obtain ⟨c0, c1, f0, f1, hg, hgl⟩ := H2.out.cells
  go_wp2_with fail
  refine (lgSync_any gn _ 0 _ HL2.out).mono ?_
  rintro e w3 ⟨rfl, hL3, hg3⟩
  have H3 := Lib.hid (H2.out.grown hg3 hgn1 hgn2)
  have HL3 := Lib.hid hL3
  have hG3 := HGB.out _ _ hG2 hg3
  have hz3 := hg3.size
  clear c0 c1 f0 f1 hL3 hg3 hg hgl
  obtain ⟨c0, c1, f0, f1, hg, hgl⟩ := H3.out.cells
  go_wp2_with fail
  go_ret
  exact ⟨gn, rfl, .inr (Nat.le_of_eq HGN.out), H3.out.relog HL3.out hgn1, hG3.set_ (.inl (by simp)) 1 _⟩
set_option maxRecDepth 100000 in
set_option maxHeartbeats 4000000 in
theorem pack3_any (g gl : Nat) (tx d : ByteArray) (sf : Nat) (w : World) (h : LeafAt w g gl tx d sf) (hk : LfOk tx d sf) :
    Calls Tryz.prog 59 #[.pointer (some ⟨g, 0, none⟩), .int .i64 3] w (PackAns w g gl tx d sf 3) := by
  have HH := Lib.hid h
  obtain ⟨c0, c1, f0, f1, hg, hgl⟩ := h.cells
  have HN := Lib.hid (LfOk.new_ hk.text)
  have HE := Lib.hid (new_app hk.text)
  have HWH := Lib.hid (cra_whole (LfOk.new_ hk.text))
  have HCR := Lib.hid (cra_none hk.safe)
  have HC2 := Lib.hid (hk.crash (cra_none hk.safe))
  have htx := hk.text
  have hds := hk.size
  have hss := hk.safe
  clear h hk
  go_enter Tryz.func59, Tryz.ntmps59
  go_wp2_with fail
  refine (lgNew_any _).mono ?_
  rintro e w1 ⟨rfl, hw1⟩
  have hL1 : LogAt w1 w.heap.size 187 ⟨#[]⟩ 0 := by rw [hw1]; exact Blk.new_ w _ _
  have hb1 : Below w.heap.size w w1 := by rw [hw1]; exact (by repeat (first | exact Below.refl _ _ | assumption | refine Below.alloc ?_ (by first | exact Nat.le_refl _ | assumption | omega | (simp <;> omega)) _ | refine Below.setCell ?_ (by first | exact Nat.le_refl _ | assumption | omega | (simp <;> omega)) _ | refine Below.drew ?_ | refine below_drewN ?_ _))
  clear hw1
  have H1 := Lib.hid (HH.out.below hb1)
  have hgn1 : g ≠ w.heap.size := by omega
  have hgn2 : gl ≠ w.heap.size := by omega
  have hG1 : Gbs w w1 [g, gl] := Gbs.of_below hb1 _
  have HL1 := Lib.hid hL1
  clear c0 c1 f0 f1 hL1 hb1 hg hgl
  have HGB := Lib.hid (fun (W W2 : World) (a : Gbs w W [g, gl]) (b : W.grownBy W2 (some w.heap.size)) => a.gb b (.inr (Nat.le_refl _)))
  obtain ⟨c0, c1, f0, f1, hg, hgl⟩ := H1.out.cells
  have hglt : w.heap.size < w1.heap.size := Blk.lt HL1.out
  generalize hgn : w.heap.size = gn at *
  have HGN := Lib.hid hgn
  clear hgn
  go_wp2_with fail
  refine (lgAppend_any gn ⟨#[]⟩ (recB tx) 0 _ HL1.out (Nat.zero_le _)).mono ?_
  rintro e w2 ⟨rfl, hL2, hg2⟩
  have H2 := Lib.hid (H1.out.grown hg2 hgn1 hgn2)
  have HL2 := Lib.hid hL2
  have hG2 := HGB.out _ _ hG1 hg2
  have hz2 := hg2.size
  clear c0 c1 f0 f1 hL2 hg2 hg hgl
  obtain ⟨c0, c1, f0, f1, hg, hgl⟩ := H2.out.cells
  go_wp2_with fail
  refine (lgSync_any gn _ 0 _ HL2.out).mono ?_
  rintro e w3 ⟨rfl, hL3, hg3⟩
  have H3 := Lib.hid (H2.out.grown hg3 hgn1 hgn2)
  have HL3 := Lib.hid hL3
  have hG3 := HGB.out _ _ hG2 hg3
  have hz3 := hg3.size
  clear c0 c1 f0 f1 hL3 hg3 hg hgl
  obtain ⟨c0, c1, f0, f1, hg, hgl⟩ := H3.out.cells
  have H4 := Lib.hid (H3.out.relog HL3.out hgn1)
  have hG4 : Gbs w (w3.setCell ⟨g, 1, none⟩ (.pointer (some ⟨gn, 0, none⟩))) [g, gl] := hG3.set_ (.inl (by simp)) 1 _
  go_wp2_with fail
  generalize w3.setCell ⟨g, 1, none⟩ (.pointer (some ⟨gn, 0, none⟩)) = w4 at *
  clear c0 c1 f0 f1 hg hgl
  obtain ⟨c0, c1, f0, f1, hg, hgl⟩ := H4.out.cells
  refine (lgCrash_any gn (newD tx) (newD tx).size 0 _ H4.out.log HN.out.size HN.out.safe).mono ?_
  rintro e w5 ⟨rfl, hL5, hg5⟩
  rw [HWH.out.2.1, HWH.out.2.2] at hL5
  have H5 := Lib.hid (H4.out.logged hL5 hg5)
  have hG5 := HGB.out _ _ hG4 hg5
  clear c0 c1 f0 f1 hL5 hg5 hg hgl
  obtain ⟨c0, c1, f0, f1, hg, hgl⟩ := H5.out.cells
  go_wp2_with fail
  refine (lfRead_any g gn tx _ _ w5 H5.out HN.out.size HN.out.reads.2).mono ?_
  rintro e w6 ⟨rfl, H6, hB6⟩
  rw [HN.out.reads.1] at H6
  have H6 := Lib.hid H6
  have hG6 : Gbs w w6 [g, gl] := ⟨hB6.os.trans hG5.os, hB6.tape.trans hG5.tape, hB6.output.trans hG5.output, Nat.le_trans hG5.size hB6.size, fun i hi hr => (hB6.block i (Nat.lt_of_lt_of_le hi hG5.size) (fun e => by
    rcases List.mem_cons.1 e with rfl | e
    · exact hr (by simp)
    · have := List.mem_singleton.1 e; have := HGN.out; omega)).trans (hG5.block i hi hr)⟩
  go_wp2_with fail
  go_ret
  exact ⟨gn, rfl, .inr (Nat.le_of_eq HGN.out), H6.out, hG6⟩
theorem lfPack_any (g gl : Nat) (tx d : ByteArray) (sf : Nat) (stop : Int) (w : World) (h : LeafAt w g gl tx d sf) (hk : LfOk tx d sf) :
    Calls Tryz.prog 59 #[.pointer (some ⟨g, 0, none⟩), .int .i64 stop] w (PackAns w g gl tx d sf stop) := by
  by_cases h0 : stop = 0
  · subst h0; exact pack0_any g gl tx d sf w h hk
  by_cases h1 : stop = 1
  · subst h1; exact pack1_any g gl tx d sf w h hk
  by_cases h2 : stop = 2
  · subst h2; exact pack2_any g gl tx d sf w h hk
  by_cases h3 : stop = 3
  · subst h3; exact pack3_any g gl tx d sf w h hk
  have HH := Lib.hid h
  have HA : Hid (pkE stop = 1 ∧ pkT tx d sf stop = tx ∧ pkD tx d sf stop = d ∧ pkF tx d sf stop = sf) := by
    unfold Hid pkE pkT pkD pkF
    rw [if_neg (by omega), if_neg (by omega), if_neg (by omega), if_neg (by omega), if_neg (by omega), if_neg (by omega)]
    exact ⟨rfl, rfl, rfl, rfl⟩
  have HP : Hid (∀ w' : World, w' = w → PackAns w g gl tx d sf stop (.returned (.int .i64 1)) w') := fun w' e => by
    subst e
    exact ⟨gl, by rw [HA.out.1], .inl rfl, by rw [HA.out.2.1, HA.out.2.2.1, HA.out.2.2.2]; exact HH.out, Gbs.refl _ _⟩
  clear h hk
  by_cases hn : stop < 0
  · have g1 : decide (stop < 0) = true := decide_eq_true hn
    go_enter Tryz.func59, Tryz.ntmps59
    go_wp2_with fail
    go_ret
    exact HP.out _ rfl
  · have g1 : decide (stop < 0) = false := decide_eq_false hn
    have g2 : decide (3 < stop) = true := decide_eq_true (by omega)
    go_enter Tryz.func59, Tryz.ntmps59
    go_wp2_with fail
    go_ret
    exact HP.out _ rfl
end Go.Proofs.YtplgghjdidmcfaaGreatDoor
