/- The reference's Named, NamesOf; slices.Clone at its pages. The reference's leaf. The reference's LeafSet, LeafSave, LeafCrash, LeafPack. -/
import Derived.Test.YtplgghjdidmcfaaGreatDoorPk26
import Derived.Test.YtplgghjdidmcfaaGreatDoorPk06
import Derived.Test.YtplgghjdidmcfaaGreatDoorPk13
import Derived.Test.YtplgghjdidmcfaaGreatDoorPk11
namespace Go.Proofs.YtplgghjdidmcfaaGreatDoor
open Go.RowKit
def lows : List UInt8 := [97, 98, 99, 100, 101, 102, 103, 104, 105, 106, 107, 108, 109, 110, 111, 112, 113, 114, 115, 116, 117, 118, 119, 120, 121, 122]
set_option maxRecDepth 100000 in
theorem low_in (b : UInt8) : lows.contains b = lowerB b := by
  have h : ∀ n : Fin 256, lows.contains (UInt8.ofNat n.val) = lowerB (UInt8.ofNat n.val) := by decide
  have := h ⟨b.toNat, b.toNat_lt⟩
  simpa using this
theorem trim_lows (w : List UInt8) : Lib.trimS w lows = [] ↔ w.all lowerB = true := by
  have e : (fun b => lows.contains b) = lowerB := funext low_in
  unfold Lib.trimS Lib.trimLeftS Lib.trimRightS
  rw [e, dropWhile_nil, List.all_reverse]
  constructor
  · intro h
    have h2 : (w.reverse.dropWhile lowerB) = [] := by
      cases h3 : w.reverse.dropWhile lowerB with
      | nil => rfl
      | cons a r =>
        exfalso
        rw [h3, List.all_cons, Bool.and_eq_true] at h
        have := List.head?_dropWhile_not lowerB w.reverse
        rw [h3] at this
        simp [h.1] at this
    have h3 := dropWhile_nil.1 h2
    rwa [List.all_reverse] at h3
  · intro h
    have h2 : w.reverse.all lowerB = true := by rw [List.all_reverse]; exact h
    rw [dropWhile_nil.2 h2]; rfl
theorem trim_low (X : ByteArray) (hX : X.size ≤ 9223372036854775807) (W : World) :
    Calls Tryz.prog 62 #[.string X, .string ⟨#[97, 98, 99, 100, 101, 102, 103, 104, 105, 106, 107, 108, 109, 110, 111, 112, 113, 114, 115, 116, 117, 118, 119, 120, 121, 122]⟩] W fun e W' => e = .returned (.string (S (Lib.trimS (L X) lows))) ∧ Below W.heap.size W W' :=
  Any.strings_Trim_laid Tryz.lays160 (by kernel_rfl) X ⟨#[97, 98, 99, 100, 101, 102, 103, 104, 105, 106, 107, 108, 109, 110, 111, 112, 113, 114, 115, 116, 117, 118, 119, 120, 121, 122]⟩ W (by omega) (by decide) (ascii_of_all (by decide))
set_option maxRecDepth 100000 in
set_option maxHeartbeats 1000000 in
theorem refNamed_any (s : ByteArray) (w : World) (hs : s.size ≤ 9223372036854775807) :
    Calls Tryz.prog 31 #[.string s] w fun e w' => e = .returned (.bool (named s)) ∧ Below w.heap.size w w' := by
  have HTR := Lib.hid (fun W => trim_low s (by omega) W)
  by_cases h1 : 0 < s.size
  · have g1 : decide ((0 : Int) < (s.size : Int)) = true := decide_eq_true (by omega)
    have g1' : decide (0 < s.size) = true := decide_eq_true h1
    by_cases h2 : s.size ≤ 8
    · have g2 : decide ((s.size : Int) < 9) = true := decide_eq_true (by omega)
      have g2' : decide (s.size < 9) = true := decide_eq_true (by omega)
      have HN : Hid (named s = (L s).all lowerB) := by
        unfold Hid named
        rw [decide_eq_true (by omega), decide_eq_true (by omega)]
        rfl
      have HE : Hid ((S (Lib.trimS (L s) lows)).toList.isEmpty = named s ∧ ((S (Lib.trimS (L s) lows)).toList == []) = named s) := by
        have e : (S (Lib.trimS (L s) lows)).toList = Lib.trimS (L s) lows := by rw [ByteArray.toList_eq]; rfl
        rw [Hid, e, HN.out]
        constructor
        · rw [Bool.eq_iff_iff, List.isEmpty_iff]
          exact trim_lows (L s)
        · rw [Bool.eq_iff_iff, beq_iff_eq]
          exact trim_lows (L s)
      generalize S (Lib.trimS (L s) lows) = T at *
      go_enter Tryz.func31, Tryz.ntmps31
      go_wp2_with fail
      refine (HTR.out _).mono ?_
      rintro e w2 ⟨rfl, hb2⟩
      go_wp2_with fail
      go_ret
      exact ⟨ret_bool (by first | exact HE.out.1 | exact HE.out.2), hb2⟩
    · have g2 : decide ((s.size : Int) < 9) = false := decide_eq_false (by omega)
      have g2' : decide (s.size < 9) = false := decide_eq_false (by omega)
      have HN : Hid (named s = false) := by
        unfold Hid named
        rw [decide_eq_false h2, Bool.and_false]
        rfl
      rw [HN.out]
      go_enter Tryz.func31, Tryz.ntmps31
      go_wp2_with fail
      go_ret
      exact ⟨rfl, (by repeat (first | exact Below.refl _ _ | assumption | refine Below.alloc ?_ (by first | exact Nat.le_refl _ | assumption | omega | (simp <;> omega)) _ | refine Below.setCell ?_ (by first | exact Nat.le_refl _ | assumption | omega | (simp <;> omega)) _ | refine Below.drew ?_ | refine below_drewN ?_ _))⟩
  · have g1 : decide ((0 : Int) < (s.size : Int)) = false := decide_eq_false (by omega)
    have g1' : decide (0 < s.size) = false := decide_eq_false h1
    have HN : Hid (named s = false) := by
      unfold Hid named
      rw [decide_eq_false h1]
      rfl
    rw [HN.out]
    go_enter Tryz.func31, Tryz.ntmps31
    go_wp2_with fail
    go_ret
    exact ⟨rfl, (by repeat (first | exact Below.refl _ _ | assumption | refine Below.alloc ?_ (by first | exact Nat.le_refl _ | assumption | omega | (simp <;> omega)) _ | refine Below.setCell ?_ (by first | exact Nat.le_refl _ | assumption | omega | (simp <;> omega)) _ | refine Below.drew ?_ | refine below_drewN ?_ _))⟩
set_option maxRecDepth 100000 in
set_option maxHeartbeats 4000000 in
theorem refNames_any (rs : List Rc) (A0 : Option Addr) (c0' : Nat) (K : Nat → Prop) (w : World) (h : RhAt w K A0 c0' rs) (hn6 : rs.length ≤ 6) :
    Calls Tryz.prog 12 #[.agg #[.slice A0 rs.length c0']] w fun e w' => ∃ u, e = .returned u ∧ OwnO w' w.heap.size 9 1 u rs.length (strCells (hsN (rs.map Rc.s))) ∧ Below w.heap.size w w' := by
  obtain ⟨i0, hi0, hz0, hz1, hz2⟩ := info_parts info_st
  have HR := Lib.hid h.row.rd
  clear h
  have HPL : Hid ((rs.map Rc.s).length = rs.length) := List.length_map ..
  have hbB : Below w.heap.size w (w.alloc (.cells #[.slice A0 rs.length c0'] 29)) := (Below.refl _ _).alloc (Nat.le_refl _) _
  go_enter Tryz.func12, Tryz.ntmps12
  go_wp2_with fail
  go_loopw [3, 9] (fun ov iv wr => ∃ k : Nat, k ≤ rs.length ∧ iv = .int .i64 (k : Int) ∧ Hid (wr.ownsRow w.heap.size 9 1 ov (nmsP ((rs.map Rc.s).take k)).length (strCells (nmsP ((rs.map Rc.s).take k)))) ∧ Below w.heap.size w wr) (fun _ iv _ => rs.length - (intOf iv).toNat)
  case atStart => exact ⟨0, Nat.zero_le _, rfl, World.ownsRow_nil _ _ _ _, hbB⟩
  case round =>
    clear hbB
    obtain ⟨k, hk, rfl, HO, hb⟩ := hrel
    have hbs := hb.size
    by_cases hlt : k < rs.length
    · have g1 : decide ((k : Int) < (rs.length : Int)) = true := decide_eq_true (by omega)
      have g1' : decide (k < rs.length) = true := decide_eq_true hlt
      obtain ⟨ad, rfl, _, c0, c1, c2, c3, c4, c5⟩ := rc_cell (HR.out.below hb) hlt rfl
      have hkp : k < (rs.map Rc.s).length := by rw [HPL.out]; exact hlt
      have HSU := Lib.hid (nmsP_succ hkp)
      have HNM : Hid (L (rs.map Rc.s)[k].nm = L rs[k].s.nm) := by rw [Hid, List.getElem_map]
      rw [HNM.out] at HSU
      have hql : (nmsP ((rs.map Rc.s).take k)).length ≤ 6 := by rw [nmsP_len, List.length_take, HPL.out]; omega
      generalize nmsP ((rs.map Rc.s).take k) = q at *
      generalize rs[k] = r at *
      obtain ⟨⟨rn, rtx, rd, rsf, rb, ro⟩, rAb, rcb, rAo, rco⟩ := r
      simp only at c0 c1 c2 c3 c4 c5 HSU
      generalize rb.length = nb at *
      generalize ro.length = no at *
      clear HNM hkp
      have hownA := HO.out.alloc (.cells #[.string rn, .string rtx, .string rd, .int .i64 (rsf : Int), .slice rAb nb rcb, .slice rAo no rco] 82)
      have HY := Blk.new_ wr 82 #[.string rn, .string rtx, .string rd, .int .i64 (rsf : Int), .slice rAb nb rcb, .slice rAo no rco]
      have hbA : Below w.heap.size w (wr.alloc (.cells #[.string rn, .string rtx, .string rd, .int .i64 (rsf : Int), .slice rAb nb rcb, .slice rAo no rco] 82)) := hb.alloc hbs _
      have y0 := HY.cell0
      have hnew := cell_one_new (wr.alloc (.cells #[.string rn, .string rtx, .string rd, .int .i64 (rsf : Int), .slice rAb nb rcb, .slice rAo no rco] 82)) (.string rn) 9
      rw [World.size_alloc] at hnew
      have hbAs := hbA.size
      go_wp2_with (at_builtin; go_must (refine wpList_appG rfl _ _ _ rfl w.heap.size 9 i0 _ 1 16 Tryz.underlying25 hi0 hz0 hz1 hz2 rfl (by omega) _ q.length (strCells q) rfl (hownA.alloc _) ⟨wr.heap.size + 1, 0, none⟩ 1 1 [.string rn] rfl rfl hnew (by simp [Value.oneCell']) (by omega) (by omega) (by simp at hbAs ⊢; omega) ?_); intro v6 w6 hown6 hg6 hb6)
      have HN : Hid (w6.ownsRow w.heap.size 9 1 v6 (nmsP ((rs.map Rc.s).take (k + 1))).length (strCells (nmsP ((rs.map Rc.s).take (k + 1))))) := by
        rw [Hid, HSU.out, List.length_append]
        have e : strCells (q ++ [L rn]) = strCells q ++ [.string rn] := by unfold strCells; rw [List.map_append]; rfl
        rw [e]
        exact hown6
      have hb7 : Below w.heap.size w w6 := (hbA.alloc hbAs _).trans hb6
      go_roundw
      case rel => exact ⟨k + 1, by omega, by go_num, HN.out, hb7⟩
      case measure => simp [intOf]; omega
    · obtain rfl : k = rs.length := by omega
      have g1 : decide ((rs.length : Int) < (rs.length : Int)) = false := decide_eq_false (by omega)
      have g1' : decide (rs.length < rs.length) = false := decide_eq_false hlt
      have htk : (rs.map Rc.s).take rs.length = rs.map Rc.s := List.take_of_length_le (by rw [HPL.out]; exact Nat.le_refl _)
      rw [htk] at HO
      have hlen : (nmsP (rs.map Rc.s)).length = rs.length := by rw [nmsP_len, HPL.out]
      have hst := sortStr_own (nmsP (rs.map Rc.s)) u3 w wr HO.out hb (by omega)
      have HST := Lib.hid hst
      have HLN := Lib.hid hlen
      clear hst hlen htk HO
      obtain ⟨q, hq⟩ : ∃ q, nmsP (rs.map Rc.s) = q := ⟨_, rfl⟩
      rw [hq] at HST HLN
      have HSN : Hid (hsN (rs.map Rc.s) = sortB q) := by rw [Hid, ← hq]; rfl
      clear hq
      go_wp2_with fail
      refine HST.out.mono ?_
      rintro e w2 ⟨rfl, hown2, hb2⟩
      have HF : Hid (OwnO w2 w.heap.size 9 1 u3 rs.length (strCells (hsN (rs.map Rc.s)))) := by
        rw [Hid, HSN.out, ← HLN.out]
        exact OwnO.of_own hown2
      clear hown2
      go_wp2_with fail
      go_ret
      exact ⟨_, rfl, HF.out, hb2⟩
end Go.Proofs.YtplgghjdidmcfaaGreatDoor
namespace Go.Proofs.YtplgghjdidmcfaaGreatDoor
open Go.RowKit
set_option maxRecDepth 100000 in
set_option maxHeartbeats 4000000 in
theorem rlOf_any (s : ByteArray) (w : World) (hs : s.size ≤ 200) :
    Calls Tryz.prog 35 #[.string s] w fun e w' => e = .returned (.agg #[.string s, .string (newD s), .int .i64 ((newD s).size : Int)]) ∧ Below w.heap.size w w' := by
  have HE := Lib.hid (new_app hs)
  have HN : Hid (appD ⟨#[]⟩ (recB s) = newD s) := rfl
  have hds := (LfOk.new_ hs).size
  have HL := Lib.hid (fun W => lgAppendOf_any ⟨#[]⟩ (recB s) 0 W (Nat.zero_le _))
  rw [Hid, HE.out, HN.out] at HL
  have HL := Lib.hid HL
  clear HN
  generalize newD s = D at *
  go_enter Tryz.func35, Tryz.ntmps35
  go_wp2_with fail
  refine (HL.out _).mono ?_
  rintro e w1 ⟨rfl, hb1⟩
  obtain ⟨hc, hf⟩ := bcell hb1
  have hz := hb1.size
  simp only [World.size_alloc] at hc hf hz
  have hbA : Below w.heap.size w w1 := bthen (by repeat (first | exact Below.refl _ _ | assumption | refine Below.alloc ?_ (by first | exact Nat.le_refl _ | assumption | omega | (simp <;> omega)) _ | refine Below.setCell ?_ (by first | exact Nat.le_refl _ | assumption | omega | (simp <;> omega)) _ | refine Below.drew ?_ | refine below_drewN ?_ _)) hb1
  have e0 : w1.cell? ⟨w.heap.size, 0, none⟩ = some (.string ⟨#[]⟩) := by rw [hc _ _ (by omega)]; simp
  have e1 : w1.cell? ⟨w.heap.size, 1, none⟩ = some (.string ⟨#[]⟩) := by rw [hc _ _ (by omega)]; simp
  have e2 : w1.cell? ⟨w.heap.size, 2, none⟩ = some (.int .i64 0) := by rw [hc _ _ (by omega)]; simp
  have k0 : w1.frozen? ⟨w.heap.size, 0, none⟩ = false := by rw [hf _ _ (by omega)]; simp
  have k1 : w1.frozen? ⟨w.heap.size, 1, none⟩ = false := by rw [hf _ _ (by omega)]; simp
  have k2 : w1.frozen? ⟨w.heap.size, 2, none⟩ = false := by rw [hf _ _ (by omega)]; simp
  have hzl : w.heap.size < w1.heap.size := by omega
  have hzn : w.heap.size ≠ w1.heap.size := by omega
  clear hc hf hb1
  go_wp2_with fail
  (apply bodyPost_ret; (simp [results, Tryz.results35, go_sem, e0, e1, e2, hzl]; rfl); rfl)
  exact ⟨rfl, (by repeat (first | exact Below.refl _ _ | assumption | refine Below.alloc ?_ (by first | exact Nat.le_refl _ | assumption | omega | (simp <;> omega)) _ | refine Below.setCell ?_ (by first | exact Nat.le_refl _ | assumption | omega | (simp <;> omega)) _ | refine Below.drew ?_ | refine below_drewN ?_ _))⟩
set_option maxRecDepth 100000 in
set_option maxHeartbeats 4000000 in
theorem rlRead_any (d : ByteArray) (sf : Nat) (mx : Int) (w : World) (hd : d.size ≤ 4000) (hgd : good [] (scanL (L d)).1) (hm : w.cell? ⟨0, 0, none⟩ = some (.int .i64 mx)) (hw0 : 0 < w.heap.size) :
    Calls Tryz.prog 133 #[.agg #[.string d, .int .i64 (sf : Int)]] w fun e w' => e = .returned (.agg #[.string (lfRead d), .string d, .int .i64 (sf : Int)]) ∧ Below w.heap.size w w' := by
  have HM : Hid (∀ W, Below w.heap.size w W → W.cell? ⟨0, 0, none⟩ = some (.int .i64 mx)) := fun W hb => (hb.cell (p := ⟨0, 0, none⟩) hw0).trans hm
  have HW0 := Lib.hid hw0
  clear hm hw0
  have HSC := Lib.hid (fun W => scanRef_any _ d (by omega) (Nat.le_refl _) W)
  have hcnt := scanL_count (L d)
  rw [L_len] at hcnt
  have HRD : Hid (lfRead d = S (play [] (scanL (L d)).1)) := rfl
  generalize scanL (L d) = sc at *
  obtain ⟨rs, cn⟩ := sc
  simp only at hgd hcnt HRD HSC
  have HG := Lib.hid hgd; clear hgd
  go_enter Tryz.func133, Tryz.ntmps133
  go_wp2_with fail
  refine (HSC.out _).mono ?_
  rintro e w1 ⟨v, rfl, hown, hb1⟩
  obtain ⟨A, c, rfl, hnc, hcm, hrd⟩ := own_form hown
  have HR := Lib.hid hrd
  clear hown hrd
  obtain ⟨hc, hf⟩ := bcell hb1
  have hz := hb1.size
  simp only [World.size_alloc] at hc hf hz
  have hbA : Below w.heap.size w w1 := bthen (by repeat (first | exact Below.refl _ _ | assumption | refine Below.alloc ?_ (by first | exact Nat.le_refl _ | assumption | omega | (simp <;> omega)) _ | refine Below.setCell ?_ (by first | exact Nat.le_refl _ | assumption | omega | (simp <;> omega)) _ | refine Below.drew ?_ | refine below_drewN ?_ _)) hb1
  have hs1 := hbA.size
  have C1 : Hid (Blk w1 w.heap.size 78 #[.string d, .int .i64 (sf : Int)]) := Blk.below' (Blk.alloc (Blk.new_ _ _ _) _) hb1
  have C2 : Hid (Blk w1 (w.heap.size + 1) 80 #[.string ⟨#[]⟩, .string ⟨#[]⟩, .int .i64 0]) := Blk.below' (by
    have := Blk.new_ (w.alloc (.cells #[.string d, .int .i64 (sf : Int)] 78)) 80 #[.string ⟨#[]⟩, .string ⟨#[]⟩, .int .i64 0]
    rw [World.size_alloc] at this
    exact this) hb1
  clear hc hf hb1
  obtain ⟨n, hn⟩ : ∃ n, rs.length = n := ⟨_, rfl⟩
  rw [hn] at HR hcnt hnc ⊢
  have HN := Lib.hid hn; clear hn
  go_wp2_with fail
  go_loopw [5, 18] (fun sv iv wr => ∃ k : Nat, k ≤ n ∧ iv = .int .i64 (k : Int) ∧ sv = .string (S (play [] (rs.take k))) ∧ Below w1.heap.size w1 wr) (fun _ iv _ => n - (intOf iv).toNat)
  case atStart => exact ⟨0, Nat.zero_le _, rfl, rfl, Below.refl _ _⟩
  case round =>
    obtain ⟨k, hk, rfl, rfl, hb⟩ := hrel
    have hbs := hb.size
    by_cases hlt : k < n
    · have g1 : decide ((k : Int) < (n : Int)) = true := decide_eq_true (by omega)
      have g1' : decide (k < n) = true := decide_eq_true hlt
      obtain ⟨ad, rfl, hab, q0⟩ := str_cell (HR.out.below hb) hlt
      obtain ⟨R, hR⟩ : ∃ R, R = S (rs.getD k []) := ⟨_, rfl⟩
      rw [← hR] at q0
      obtain ⟨h0, hRs, hcase⟩ := rec_at HG.out (by rw [HN.out]; exact hlt) hR
      have htl := play_len HG.out k
      clear hR
      rcases hcase with ⟨hb0, hp⟩ | ⟨hb0, l, hl, he, hsc, hp⟩
      · rw [getD0 h0] at hb0
        have hp' : S (play [] (rs.take (k + 1))) = R.extract 1 R.size := by rw [hp, S_L]
        have HP := Lib.hid hp'
        clear hp hp'
        generalize S (play [] (rs.take k)) = cur at *
        go_wp2_with fail
        go_roundw
        case rel => exact ⟨k + 1, by omega, by go_num, by rw [HP.out], hb⟩
        case measure => simp [intOf]; omega
      · rw [getD0 h0] at hb0
        have hb1' : R[0]'h0 ≠ 98 := by rw [hb0]; decide
        have HP : Hid (S (play [] (rs.take (k + 1))) = S (edDone (L (S (play [] (rs.take k)))) l)) := by unfold Hid; rw [hp, L_S]
        have HE : Hid (edErr (S (play [] (rs.take k))).size l = 0) := by unfold Hid; rw [S_size]; exact he
        have HSC := Lib.hid hsc
        have HX := Lib.hid hl
        have hxs : (R.extract 1 R.size).size ≤ 1100 := by rw [ByteArray.size_extract]; omega
        have hB1 := hbA.trans (hb.mono hs1)
        have HMX := HM.out _ hB1
        have hW0 := HW0.out
        clear hp he hsc hl
        generalize S (play [] (rs.take k)) = cur at *
        go_wp2_with fail
        refine (readOf_any (R.extract 1 R.size) (by omega) mx _ HMX (by omega)).mono ?_
        rintro e w2 ⟨v2, out, ok, rfl, hans, hown2, hb2⟩
        rw [HX.out] at hans
        obtain rfl := rfAns_wr HSC.out hans
        obtain ⟨A2, c2, rfl, hnc2, hcm2, hrx2⟩ := own_form hown2
        have HO := Lib.hid hrx2
        clear hans hown2 hrx2
        have hB2 := hb.trans (hb2.mono hbs)
        clear HMX
        go_wp2_with fail
        refine (edDone_any cur out A2 out.length c2 _ w2 HO.out (Nat.le_refl _) HE.out).mono ?_
        rintro e w3 ⟨rfl, hb3⟩
        have hB3 := hB2.trans (hb3.mono hB2.size)
        go_wp2_with fail
        go_roundw
        case rel => exact ⟨k + 1, by omega, by go_num, by rw [HP.out], hB3⟩
        case measure => simp [intOf]; omega
    · have hkn : k = n := by omega
      subst hkn
      have HT : Hid (lfRead d = S (play [] (rs.take k))) := by unfold Hid; rw [HRD.out, ← HN.out, List.take_length]
      generalize S (play [] (rs.take k)) = cur at *
      have B1 := C1.out.below' hb
      have B2 := C2.out.below' hb
      have e0 := Blk.cell0 B1; have e1 := Blk.cell1 B1
      have d0 := Blk.cell0 B2; have d1 := Blk.cell1 B2; have d2 := Blk.cell2 B2
      have f0 := B2.frozen 0; have f1 := B2.frozen 1; have f2 := B2.frozen 2
      have hb3 := hbA.trans (hb.mono hs1)
      clear B1 B2
      go_wp2_with fail
      (apply bodyPost_ret; (simp [results, Tryz.results133, go_sem, d0, d1, d2]; rfl); rfl)
      rw [HT.out]
      exact ⟨rfl, (by repeat (first | exact Below.refl _ _ | assumption | refine Below.alloc ?_ (by first | exact Nat.le_refl _ | assumption | omega | (simp <;> omega)) _ | refine Below.setCell ?_ (by first | exact Nat.le_refl _ | assumption | omega | (simp <;> omega)) _ | refine Below.drew ?_ | refine below_drewN ?_ _))⟩
end Go.Proofs.YtplgghjdidmcfaaGreatDoor
namespace Go.Proofs.YtplgghjdidmcfaaGreatDoor
open Go.RowKit
set_option maxRecDepth 100000 in
set_option maxHeartbeats 4000000 in
theorem rlSave_any (tx d : ByteArray) (sf : Nat) (w : World) :
    Calls Tryz.prog 67 #[.agg #[.string tx, .string d, .int .i64 (sf : Int)]] w fun e w' => e = .returned (.agg #[.string tx, .string d, .int .i64 (d.size : Int)]) ∧ Below w.heap.size w w' := by
  go_enter Tryz.func67, Tryz.ntmps67
  go_wp2_with fail
  (apply bodyPost_ret; (simp [results, Tryz.results67, go_sem]; rfl); rfl)
  exact ⟨rfl, (by repeat (first | exact Below.refl _ _ | assumption | refine Below.alloc ?_ (by first | exact Nat.le_refl _ | assumption | omega | (simp <;> omega)) _ | refine Below.setCell ?_ (by first | exact Nat.le_refl _ | assumption | omega | (simp <;> omega)) _ | refine Below.drew ?_ | refine below_drewN ?_ _))⟩
set_option maxRecDepth 100000 in
set_option maxHeartbeats 4000000 in
theorem rlSet_any (tx d t : ByteArray) (sf : Nat) (w : World) (hd : d.size ≤ 4000) :
    Calls Tryz.prog 66 #[.agg #[.string tx, .string d, .int .i64 (sf : Int)], .string t] w fun e w' => e = .returned (.tuple #[.agg #[.string (lsT tx d t), .string (lsD d t), .int .i64 (sf : Int)], .int .i64 (lsE d t)]) ∧ Below w.heap.size w w' := by
  by_cases hz : 200 < t.size
  · have HE : Hid (lsE d t = 2) := by unfold Hid lsE; rw [if_pos hz]
    have HT : Hid (lsT tx d t = tx) := by unfold Hid lsT; rw [HE.out, if_neg (by decide)]
    have HD : Hid (lsD d t = d) := by unfold Hid lsD; rw [HE.out, if_neg (by decide)]
    rw [HE.out, HT.out, HD.out]
    go_enter Tryz.func66, Tryz.ntmps66
    go_wp2_with fail
    (apply bodyPost_ret; (simp [results, Tryz.results66, go_sem]; rfl); rfl)
    exact ⟨rfl, (by repeat (first | exact Below.refl _ _ | assumption | refine Below.alloc ?_ (by first | exact Nat.le_refl _ | assumption | omega | (simp <;> omega)) _ | refine Below.setCell ?_ (by first | exact Nat.le_refl _ | assumption | omega | (simp <;> omega)) _ | refine Below.drew ?_ | refine below_drewN ?_ _))⟩
  · have HE : Hid (lsE d t = appErr d (recB t)) := by unfold Hid lsE; rw [if_neg hz]
    have HT : Hid (lsT tx d t = if appErr d (recB t) = 0 then t else tx) := by unfold Hid lsT; rw [HE.out]
    have HD : Hid (lsD d t = if appErr d (recB t) = 0 then appD d (recB t) else d) := by unfold Hid lsD; rw [HE.out]
    have HL := Lib.hid (fun W => lgAppendOf_any d (recB t) sf W hd)
    by_cases hq : appErr d (recB t) = 0
    · rw [Hid, hq] at HL HE HT HD
      rw [if_pos rfl] at HT HD
      have HL := Lib.hid HL; have HE := Lib.hid HE; have HT := Lib.hid HT; have HD := Lib.hid HD
      clear hq
      rw [HE.out, HT.out, HD.out]
      generalize appD d (recB t) = D' at *
      go_enter Tryz.func66, Tryz.ntmps66
      go_wp2_with fail
      refine (HL.out _).mono ?_
      rintro e w1 ⟨rfl, hb1⟩
      have C0 := Blk.below' (Blk.alloc (Blk.new_ w 80 #[.string tx, .string d, .int .i64 (sf : Int)]) (.cells #[.string ⟨#[]⟩, .string ⟨#[]⟩, .int .i64 0] 80)) hb1
      have C1 := Blk.below' (Blk.new_ (w.alloc (.cells #[.string tx, .string d, .int .i64 (sf : Int)] 80)) 80 #[.string ⟨#[]⟩, .string ⟨#[]⟩, .int .i64 0]) hb1
      rw [World.size_alloc] at C1
      have hbA : Below w.heap.size w w1 := bthen (by repeat (first | exact Below.refl _ _ | assumption | refine Below.alloc ?_ (by first | exact Nat.le_refl _ | assumption | omega | (simp <;> omega)) _ | refine Below.setCell ?_ (by first | exact Nat.le_refl _ | assumption | omega | (simp <;> omega)) _ | refine Below.drew ?_ | refine below_drewN ?_ _)) hb1
      have n0 : w.heap.size < w1.heap.size := Blk.lt C0
      have n1 : w.heap.size + 1 < w1.heap.size := Blk.lt C1
      have m0 : w.heap.size ≠ w1.heap.size := by omega
      have m1 : w.heap.size + 1 ≠ w1.heap.size := by omega
      have e0 := Blk.cell0 C0; have e1 := Blk.cell1 C0; have e2 := Blk.cell2 C0
      have d0 := Blk.cell0 C1; have d1 := Blk.cell1 C1; have d2 := Blk.cell2 C1
      have f0 := C1.frozen 0; have f1 := C1.frozen 1; have f2 := C1.frozen 2
      clear C0 C1 hb1
      go_wp2_with fail
      (apply bodyPost_ret; (simp [results, Tryz.results66, go_sem, d0, d1, d2, n1]; rfl); rfl)
      exact ⟨rfl, (by repeat (first | exact Below.refl _ _ | assumption | refine Below.alloc ?_ (by first | exact Nat.le_refl _ | assumption | omega | (simp <;> omega)) _ | refine Below.setCell ?_ (by first | exact Nat.le_refl _ | assumption | omega | (simp <;> omega)) _ | refine Below.drew ?_ | refine below_drewN ?_ _))⟩
    · have HDD := Lib.hid (appD_err hq)
      rw [Hid, if_neg hq] at HT HD
      rw [Hid, HDD.out] at HL
      have HL := Lib.hid HL; have HT := Lib.hid HT; have HD := Lib.hid HD
      rw [HE.out, HT.out, HD.out]
      have g1 : (appErr d (recB t) != 0) = true := by simpa using hq
      generalize appErr d (recB t) = q at *
      clear hq
      go_enter Tryz.func66, Tryz.ntmps66
      go_wp2_with fail
      refine (HL.out _).mono ?_
      rintro e w1 ⟨rfl, hb1⟩
      have C0 := Blk.below' (Blk.alloc (Blk.new_ w 80 #[.string tx, .string d, .int .i64 (sf : Int)]) (.cells #[.string ⟨#[]⟩, .string ⟨#[]⟩, .int .i64 0] 80)) hb1
      have C1 := Blk.below' (Blk.new_ (w.alloc (.cells #[.string tx, .string d, .int .i64 (sf : Int)] 80)) 80 #[.string ⟨#[]⟩, .string ⟨#[]⟩, .int .i64 0]) hb1
      rw [World.size_alloc] at C1
      have hbA : Below w.heap.size w w1 := bthen (by repeat (first | exact Below.refl _ _ | assumption | refine Below.alloc ?_ (by first | exact Nat.le_refl _ | assumption | omega | (simp <;> omega)) _ | refine Below.setCell ?_ (by first | exact Nat.le_refl _ | assumption | omega | (simp <;> omega)) _ | refine Below.drew ?_ | refine below_drewN ?_ _)) hb1
      have n0 : w.heap.size < w1.heap.size := Blk.lt C0
      have n1 : w.heap.size + 1 < w1.heap.size := Blk.lt C1
      have m0 : w.heap.size ≠ w1.heap.size := by omega
      have m1 : w.heap.size + 1 ≠ w1.heap.size := by omega
      have e0 := Blk.cell0 C0; have e1 := Blk.cell1 C0; have e2 := Blk.cell2 C0
      have d0 := Blk.cell0 C1; have d1 := Blk.cell1 C1; have d2 := Blk.cell2 C1
      have f0 := C1.frozen 0; have f1 := C1.frozen 1; have f2 := C1.frozen 2
      clear C0 C1 hb1
      go_wp2_with fail
      (apply bodyPost_ret; (simp [results, Tryz.results66, go_sem, d0, d1, d2, n1]; rfl); rfl)
      exact ⟨rfl, (by repeat (first | exact Below.refl _ _ | assumption | refine Below.alloc ?_ (by first | exact Nat.le_refl _ | assumption | omega | (simp <;> omega)) _ | refine Below.setCell ?_ (by first | exact Nat.le_refl _ | assumption | omega | (simp <;> omega)) _ | refine Below.drew ?_ | refine below_drewN ?_ _))⟩
set_option maxRecDepth 100000 in
set_option maxHeartbeats 4000000 in
theorem rlCrash_any (tx d : ByteArray) (sf : Nat) (keep : Int) (mx : Int) (w : World) (hk : LfOk tx d sf) (hm : w.cell? ⟨0, 0, none⟩ = some (.int .i64 mx)) (hw0 : 0 < w.heap.size) :
    Calls Tryz.prog 69 #[.agg #[.string tx, .string d, .int .i64 (sf : Int)], .int .i64 keep] w fun e w' => e = .returned (.tuple #[.agg #[.string (cfLT tx d sf keep), .string (craD d sf keep), .int .i64 (craF d sf keep : Nat)], .int .i64 (craErr d sf keep)]) ∧ Below w.heap.size w w' := by
  have HM : Hid (∀ W, Below w.heap.size w W → W.cell? ⟨0, 0, none⟩ = some (.int .i64 mx)) := fun W hb => (hb.cell (p := ⟨0, 0, none⟩) hw0).trans hm
  have HW0 := Lib.hid hw0
  have HL := Lib.hid (fun W => lgCrashOf_any d sf keep W hk.size hk.safe)
  clear hm hw0
  by_cases hz : craErr d sf keep = 0
  · have hk2 := hk.crash hz
    have HD := Lib.hid hk2.size
    have HG := Lib.hid hk2.reads.2
    have HT : Hid (cfLT tx d sf keep = lfRead (craD d sf keep)) := by unfold Hid cfLT; rw [if_pos hz]
    rw [HT.out]
    rw [Hid, hz] at HL
    have HL := Lib.hid HL
    rw [hz]
    clear hk2 hz hk
    generalize craD d sf keep = d' at *
    generalize craF d sf keep = sf' at *
    go_enter Tryz.func69, Tryz.ntmps69
    go_wp2_with fail
    refine (HL.out _).mono ?_
    rintro e w1 ⟨rfl, hb1⟩
    have HC1 : Hid (Blk w1 (w.heap.size + 1) 80 #[.string ⟨#[]⟩, .string ⟨#[]⟩, .int .i64 0]) := by
      have := Blk.below' (Blk.new_ (w.alloc (.cells #[.string tx, .string d, .int .i64 (sf : Int)] 80)) 80 #[.string ⟨#[]⟩, .string ⟨#[]⟩, .int .i64 0]) hb1
      rw [World.size_alloc] at this
      exact this
    have C0 := Blk.below' (Blk.alloc (Blk.new_ w 80 #[.string tx, .string d, .int .i64 (sf : Int)]) (.cells #[.string ⟨#[]⟩, .string ⟨#[]⟩, .int .i64 0] 80)) hb1
    have C1 := Blk.below' (Blk.new_ (w.alloc (.cells #[.string tx, .string d, .int .i64 (sf : Int)] 80)) 80 #[.string ⟨#[]⟩, .string ⟨#[]⟩, .int .i64 0]) hb1
    rw [World.size_alloc] at C1
    have hbA : Below w.heap.size w w1 := bthen (by repeat (first | exact Below.refl _ _ | assumption | refine Below.alloc ?_ (by first | exact Nat.le_refl _ | assumption | omega | (simp <;> omega)) _ | refine Below.setCell ?_ (by first | exact Nat.le_refl _ | assumption | omega | (simp <;> omega)) _ | refine Below.drew ?_ | refine below_drewN ?_ _)) hb1
    have n0 : w.heap.size < w1.heap.size := Blk.lt C0
    have n1 : w.heap.size + 1 < w1.heap.size := Blk.lt C1
    have m0 : w.heap.size ≠ w1.heap.size := by omega
    have m1 : w.heap.size + 1 ≠ w1.heap.size := by omega
    have e0 := Blk.cell0 C0; have e1 := Blk.cell1 C0; have e2 := Blk.cell2 C0
    have d0 := Blk.cell0 C1; have d1 := Blk.cell1 C1; have d2 := Blk.cell2 C1
    have f0 := C1.frozen 0; have f1 := C1.frozen 1; have f2 := C1.frozen 2
    clear C0 C1 hb1
    clear e0 e1 e2
    have hbB : Below w.heap.size w (w1.alloc (.cells #[.string d', .int .i64 (sf' : Int)] 78)) := (by repeat (first | exact Below.refl _ _ | assumption | refine Below.alloc ?_ (by first | exact Nat.le_refl _ | assumption | omega | (simp <;> omega)) _ | refine Below.setCell ?_ (by first | exact Nat.le_refl _ | assumption | omega | (simp <;> omega)) _ | refine Below.drew ?_ | refine below_drewN ?_ _))
    have hbC : Below w1.heap.size w1 (w1.alloc (.cells #[.string d', .int .i64 (sf' : Int)] 78)) := (by repeat (first | exact Below.refl _ _ | assumption | refine Below.alloc ?_ (by first | exact Nat.le_refl _ | assumption | omega | (simp <;> omega)) _ | refine Below.setCell ?_ (by first | exact Nat.le_refl _ | assumption | omega | (simp <;> omega)) _ | refine Below.drew ?_ | refine below_drewN ?_ _))
    have hmx := HM.out _ hbB
    have hw2 : 0 < (w1.alloc (.cells #[.string d', .int .i64 (sf' : Int)] 78)).heap.size := Nat.lt_of_lt_of_le HW0.out hbB.size
    have HRR := Lib.hid (rlRead_any d' sf' mx _ HD.out HG.out hmx hw2)
    clear hmx hw2
    go_wp2_with fail
    refine HRR.out.mono ?_
    rintro e w2 ⟨rfl, hb2⟩
    have hbD := bthen hbB hb2
    have hbE := bthen hbC hb2
    have C1 : Blk w2 (w.heap.size + 1) 80 #[.string ⟨#[]⟩, .string ⟨#[]⟩, .int .i64 0] := Blk.below HC1.out hbE n1
    clear d0 d1 d2 f0 f1 f2 hbE hbC
    have d0 := Blk.cell0 C1; have d1 := Blk.cell1 C1; have d2 := Blk.cell2 C1
    have f0 := C1.frozen 0; have f1 := C1.frozen 1; have f2 := C1.frozen 2
    clear C1
    go_wp2_with fail
    (apply bodyPost_ret; (simp [results, Tryz.results69, go_sem, d0, d1, d2]; rfl); rfl)
    exact ⟨rfl, (by repeat (first | exact Below.refl _ _ | assumption | refine Below.alloc ?_ (by first | exact Nat.le_refl _ | assumption | omega | (simp <;> omega)) _ | refine Below.setCell ?_ (by first | exact Nat.le_refl _ | assumption | omega | (simp <;> omega)) _ | refine Below.drew ?_ | refine below_drewN ?_ _))⟩
  · have HT : Hid (cfLT tx d sf keep = tx) := by unfold Hid cfLT; rw [if_neg hz]
    rw [HT.out]
    have g1 : (craErr d sf keep != 0) = true := by simpa using hz
    obtain ⟨e1, e2⟩ := cra_same hz
    rw [Hid, e1, e2] at HL
    have HL := Lib.hid HL
    rw [e1, e2]
    clear e1 e2 hz hk
    generalize craErr d sf keep = q at *
    go_enter Tryz.func69, Tryz.ntmps69
    go_wp2_with fail
    refine (HL.out _).mono ?_
    rintro e w1 ⟨rfl, hb1⟩
    have C0 := Blk.below' (Blk.alloc (Blk.new_ w 80 #[.string tx, .string d, .int .i64 (sf : Int)]) (.cells #[.string ⟨#[]⟩, .string ⟨#[]⟩, .int .i64 0] 80)) hb1
    have C1 := Blk.below' (Blk.new_ (w.alloc (.cells #[.string tx, .string d, .int .i64 (sf : Int)] 80)) 80 #[.string ⟨#[]⟩, .string ⟨#[]⟩, .int .i64 0]) hb1
    rw [World.size_alloc] at C1
    have hbA : Below w.heap.size w w1 := bthen (by repeat (first | exact Below.refl _ _ | assumption | refine Below.alloc ?_ (by first | exact Nat.le_refl _ | assumption | omega | (simp <;> omega)) _ | refine Below.setCell ?_ (by first | exact Nat.le_refl _ | assumption | omega | (simp <;> omega)) _ | refine Below.drew ?_ | refine below_drewN ?_ _)) hb1
    have n0 : w.heap.size < w1.heap.size := Blk.lt C0
    have n1 : w.heap.size + 1 < w1.heap.size := Blk.lt C1
    have m0 : w.heap.size ≠ w1.heap.size := by omega
    have m1 : w.heap.size + 1 ≠ w1.heap.size := by omega
    have e0 := Blk.cell0 C0; have e1 := Blk.cell1 C0; have e2 := Blk.cell2 C0
    have d0 := Blk.cell0 C1; have d1 := Blk.cell1 C1; have d2 := Blk.cell2 C1
    have f0 := C1.frozen 0; have f1 := C1.frozen 1; have f2 := C1.frozen 2
    clear C0 C1 hb1
    go_wp2_with fail
    (apply bodyPost_ret; (simp [results, Tryz.results69, go_sem, d0, d1, d2, n1]; rfl); rfl)
    exact ⟨rfl, (by repeat (first | exact Below.refl _ _ | assumption | refine Below.alloc ?_ (by first | exact Nat.le_refl _ | assumption | omega | (simp <;> omega)) _ | refine Below.setCell ?_ (by first | exact Nat.le_refl _ | assumption | omega | (simp <;> omega)) _ | refine Below.drew ?_ | refine below_drewN ?_ _))⟩
set_option maxRecDepth 100000 in
set_option maxHeartbeats 4000000 in
theorem rlPackNew_any (tx d : ByteArray) (sf : Nat) (stop : Int) (w : World) (hk : LfOk tx d sf) (hs : stop = 0 ∨ stop = 3) :
    Calls Tryz.prog 68 #[.agg #[.string tx, .string d, .int .i64 (sf : Int)], .int .i64 stop] w fun e w' => e = .returned (.tuple #[.agg #[.string tx, .string (newD tx), .int .i64 ((newD tx).size : Int)], .int .i64 0]) ∧ Below w.heap.size w w' := by
  have HO := Lib.hid (fun W => rlOf_any tx W hk.text)
  clear hk
  generalize hns : (newD tx).size = ns at *
  clear hns
  generalize newD tx = D' at *
  rcases hs with rfl | rfl
  all_goals
    go_enter Tryz.func68, Tryz.ntmps68
    go_wp2_with fail
    refine (HO.out _).mono ?_
    rintro e w1 ⟨rfl, hb1⟩
    have C0 := Blk.below' (Blk.alloc (Blk.new_ w 80 #[.string tx, .string d, .int .i64 (sf : Int)]) (.cells #[.string ⟨#[]⟩, .string ⟨#[]⟩, .int .i64 0] 80)) hb1
    have C1 := Blk.below' (Blk.new_ (w.alloc (.cells #[.string tx, .string d, .int .i64 (sf : Int)] 80)) 80 #[.string ⟨#[]⟩, .string ⟨#[]⟩, .int .i64 0]) hb1
    rw [World.size_alloc] at C1
    have hbA : Below w.heap.size w w1 := bthen (by repeat (first | exact Below.refl _ _ | assumption | refine Below.alloc ?_ (by first | exact Nat.le_refl _ | assumption | omega | (simp <;> omega)) _ | refine Below.setCell ?_ (by first | exact Nat.le_refl _ | assumption | omega | (simp <;> omega)) _ | refine Below.drew ?_ | refine below_drewN ?_ _)) hb1
    have n0 : w.heap.size < w1.heap.size := Blk.lt C0
    have n1 : w.heap.size + 1 < w1.heap.size := Blk.lt C1
    have m0 : w.heap.size ≠ w1.heap.size := by omega
    have m1 : w.heap.size + 1 ≠ w1.heap.size := by omega
    have e0 := Blk.cell0 C0; have e1 := Blk.cell1 C0; have e2 := Blk.cell2 C0
    have d0 := Blk.cell0 C1; have d1 := Blk.cell1 C1; have d2 := Blk.cell2 C1
    have f0 := C1.frozen 0; have f1 := C1.frozen 1; have f2 := C1.frozen 2
    clear C0 C1 hb1
    clear e0 e1 e2
    go_wp2_with fail
    (apply bodyPost_ret; (simp [results, Tryz.results68, go_sem, d0, d1, d2]; rfl); rfl)
    exact ⟨rfl, (by repeat (first | exact Below.refl _ _ | assumption | refine Below.alloc ?_ (by first | exact Nat.le_refl _ | assumption | omega | (simp <;> omega)) _ | refine Below.setCell ?_ (by first | exact Nat.le_refl _ | assumption | omega | (simp <;> omega)) _ | refine Below.drew ?_ | refine below_drewN ?_ _))⟩
set_option maxRecDepth 100000 in
set_option maxHeartbeats 4000000 in
theorem rlPackOld_any (tx d : ByteArray) (sf : Nat) (stop : Int) (mx : Int) (w : World) (hk : LfOk tx d sf) (hm : w.cell? ⟨0, 0, none⟩ = some (.int .i64 mx)) (hw0 : 0 < w.heap.size) (hs : stop = 1 ∨ stop = 2) :
    Calls Tryz.prog 68 #[.agg #[.string tx, .string d, .int .i64 (sf : Int)], .int .i64 stop] w fun e w' => e = .returned (.tuple #[.agg #[.string (cfLT tx d sf 0), .string (craD d sf 0), .int .i64 (craF d sf 0 : Nat)], .int .i64 0]) ∧ Below w.heap.size w w' := by
  have HO := Lib.hid (fun W (hb : Below w.heap.size w W) => rlCrash_any tx d sf 0 mx W hk ((hb.cell (p := ⟨0, 0, none⟩) hw0).trans hm) (Nat.lt_of_lt_of_le hw0 hb.size))
  rw [Hid, cra_none hk.safe] at HO
  have HO := Lib.hid HO
  clear hk hm hw0
  generalize cfLT tx d sf 0 = t' at *
  generalize craD d sf 0 = D' at *
  generalize craF d sf 0 = ns at *
  rcases hs with rfl | rfl
  all_goals
    go_enter Tryz.func68, Tryz.ntmps68
    go_wp2_with fail
    refine (HO.out _ (by repeat (first | exact Below.refl _ _ | assumption | refine Below.alloc ?_ (by first | exact Nat.le_refl _ | assumption | omega | (simp <;> omega)) _ | refine Below.setCell ?_ (by first | exact Nat.le_refl _ | assumption | omega | (simp <;> omega)) _ | refine Below.drew ?_ | refine below_drewN ?_ _))).mono ?_
    rintro e w1 ⟨rfl, hb1⟩
    have C0 := Blk.below' (Blk.alloc (Blk.new_ w 80 #[.string tx, .string d, .int .i64 (sf : Int)]) (.cells #[.string ⟨#[]⟩, .string ⟨#[]⟩, .int .i64 0] 80)) hb1
    have C1 := Blk.below' (Blk.new_ (w.alloc (.cells #[.string tx, .string d, .int .i64 (sf : Int)] 80)) 80 #[.string ⟨#[]⟩, .string ⟨#[]⟩, .int .i64 0]) hb1
    rw [World.size_alloc] at C1
    have hbA : Below w.heap.size w w1 := bthen (by repeat (first | exact Below.refl _ _ | assumption | refine Below.alloc ?_ (by first | exact Nat.le_refl _ | assumption | omega | (simp <;> omega)) _ | refine Below.setCell ?_ (by first | exact Nat.le_refl _ | assumption | omega | (simp <;> omega)) _ | refine Below.drew ?_ | refine below_drewN ?_ _)) hb1
    have n0 : w.heap.size < w1.heap.size := Blk.lt C0
    have n1 : w.heap.size + 1 < w1.heap.size := Blk.lt C1
    have m0 : w.heap.size ≠ w1.heap.size := by omega
    have m1 : w.heap.size + 1 ≠ w1.heap.size := by omega
    have e0 := Blk.cell0 C0; have e1 := Blk.cell1 C0; have e2 := Blk.cell2 C0
    have d0 := Blk.cell0 C1; have d1 := Blk.cell1 C1; have d2 := Blk.cell2 C1
    have f0 := C1.frozen 0; have f1 := C1.frozen 1; have f2 := C1.frozen 2
    clear C0 C1 hb1
    clear e0 e1 e2
    go_wp2_with fail
    (apply bodyPost_ret; (simp [results, Tryz.results68, go_sem, d0, d1, d2]; rfl); rfl)
    exact ⟨rfl, (by repeat (first | exact Below.refl _ _ | assumption | refine Below.alloc ?_ (by first | exact Nat.le_refl _ | assumption | omega | (simp <;> omega)) _ | refine Below.setCell ?_ (by first | exact Nat.le_refl _ | assumption | omega | (simp <;> omega)) _ | refine Below.drew ?_ | refine below_drewN ?_ _))⟩
set_option maxRecDepth 100000 in
set_option maxHeartbeats 4000000 in
theorem rlPackBad_any (tx d : ByteArray) (sf : Nat) (stop : Int) (w : World) (h0 : stop ≠ 0) (h1 : stop ≠ 1) (h2 : stop ≠ 2) (h3 : stop ≠ 3) :
    Calls Tryz.prog 68 #[.agg #[.string tx, .string d, .int .i64 (sf : Int)], .int .i64 stop] w fun e w' => e = .returned (.tuple #[.agg #[.string tx, .string d, .int .i64 (sf : Int)], .int .i64 1]) ∧ Below w.heap.size w w' := by
  have g0 : (stop == 0) = false := by simpa using h0
  have g1 : (stop == 1) = false := by simpa using h1
  have g2 : (stop == 2) = false := by simpa using h2
  have g3 : (stop == 3) = false := by simpa using h3
  clear h0 h1 h2 h3
  go_enter Tryz.func68, Tryz.ntmps68
  go_wp2_with fail
  (apply bodyPost_ret; (simp [results, Tryz.results68, go_sem]; rfl); rfl)
  exact ⟨rfl, (by repeat (first | exact Below.refl _ _ | assumption | refine Below.alloc ?_ (by first | exact Nat.le_refl _ | assumption | omega | (simp <;> omega)) _ | refine Below.setCell ?_ (by first | exact Nat.le_refl _ | assumption | omega | (simp <;> omega)) _ | refine Below.drew ?_ | refine below_drewN ?_ _))⟩
theorem rlPack_any (tx d : ByteArray) (sf : Nat) (stop : Int) (mx : Int) (w : World) (hk : LfOk tx d sf) (hm : w.cell? ⟨0, 0, none⟩ = some (.int .i64 mx)) (hw0 : 0 < w.heap.size) :
    Calls Tryz.prog 68 #[.agg #[.string tx, .string d, .int .i64 (sf : Int)], .int .i64 stop] w fun e w' => e = .returned (.tuple #[.agg #[.string (pkT tx d sf stop), .string (pkD tx d sf stop), .int .i64 (pkF tx d sf stop : Nat)], .int .i64 (pkE stop)]) ∧ Below w.heap.size w w' := by
  unfold pkT pkD pkF pkE
  by_cases h1 : stop = 0 ∨ stop = 3
  · rw [if_neg (by omega), if_pos h1, if_pos h1, if_pos (by omega)]; exact rlPackNew_any tx d sf stop w hk h1
  · rw [if_neg h1, if_neg h1]
    by_cases h2 : stop = 1 ∨ stop = 2
    · rw [if_pos h2, if_pos h2, if_pos h2, if_pos (by omega)]; exact rlPackOld_any tx d sf stop mx w hk hm hw0 h2
    · rw [if_neg h2, if_neg h2, if_neg h2, if_neg (by omega)]; exact rlPackBad_any tx d sf stop w (by omega) (by omega) (by omega) (by omega)
end Go.Proofs.YtplgghjdidmcfaaGreatDoor
