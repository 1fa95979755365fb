/- The reference's leaf. -/
import Derived.Test.YtmikckhihfcooaaGreatDoorLeaE
import Derived.Test.YtmikckhihfcooaaGreatDoorLogT
namespace Go.Proofs.YtmikckhihfcooaaGreatDoor
open Go.RowKit
set_option maxRecDepth 100000 in
set_option maxHeartbeats 4000000 in
theorem rlOf_any (s : ByteArray) (w : World) (hs : s.size ≤ 200) :
    Calls Tryz.prog 5 #[.string s] w fun e w' => e = .returned (.agg #[.string s, .string (newD s), .int .i64 ((newD s).size : Int)]) ∧ Below w.heap.size w w' := by
  have HE := Lib.hid (new_app hs)
  have HN : Hid (appD ⟨#[]⟩ (recB s) = newD s) := rfl
  have hds := (LfOk.new_ hs).size
  have HL := Lib.hid (fun W => lgAppendOf_any ⟨#[]⟩ (recB s) 0 W (Nat.zero_le _))
  rw [Hid, HE.out, HN.out] at HL
  have HL := Lib.hid HL
  clear HN
  generalize newD s = D at *
  go_enter Tryz.func5, Tryz.ntmps5
  go_wp2_with fail
  refine (HL.out _).mono ?_
  rintro e w1 ⟨rfl, hb1⟩
  obtain ⟨hc, hf⟩ := bcell hb1
  have hz := hb1.size
  simp only [World.size_alloc] at hc hf hz
  have hbA : Below w.heap.size w w1 := bthen (by repeat (first | exact Below.refl _ _ | assumption | refine Below.alloc ?_ (by first | exact Nat.le_refl _ | assumption | omega | (simp <;> omega)) _ | refine Below.setCell ?_ (by first | exact Nat.le_refl _ | assumption | omega | (simp <;> omega)) _ | refine Below.drew ?_ | refine below_drewN ?_ _)) hb1
  have e0 : w1.cell? ⟨w.heap.size, 0, none⟩ = some (.string ⟨#[]⟩) := by rw [hc _ _ (by omega)]; simp
  have e1 : w1.cell? ⟨w.heap.size, 1, none⟩ = some (.string ⟨#[]⟩) := by rw [hc _ _ (by omega)]; simp
  have e2 : w1.cell? ⟨w.heap.size, 2, none⟩ = some (.int .i64 0) := by rw [hc _ _ (by omega)]; simp
  have k0 : w1.frozen? ⟨w.heap.size, 0, none⟩ = false := by rw [hf _ _ (by omega)]; simp
  have k1 : w1.frozen? ⟨w.heap.size, 1, none⟩ = false := by rw [hf _ _ (by omega)]; simp
  have k2 : w1.frozen? ⟨w.heap.size, 2, none⟩ = false := by rw [hf _ _ (by omega)]; simp
  have hzl : w.heap.size < w1.heap.size := by omega
  have hzn : w.heap.size ≠ w1.heap.size := by omega
  clear hc hf hb1
  go_wp2_with fail
  (apply bodyPost_ret; (simp [results, Tryz.results5, go_sem, e0, e1, e2, hzl]; rfl); rfl)
  exact ⟨rfl, (by repeat (first | exact Below.refl _ _ | assumption | refine Below.alloc ?_ (by first | exact Nat.le_refl _ | assumption | omega | (simp <;> omega)) _ | refine Below.setCell ?_ (by first | exact Nat.le_refl _ | assumption | omega | (simp <;> omega)) _ | refine Below.drew ?_ | refine below_drewN ?_ _))⟩
set_option maxRecDepth 100000 in
set_option maxHeartbeats 4000000 in
theorem rlRead_any (d : ByteArray) (sf : Nat) (mx : Int) (w : World) (hd : d.size ≤ 4000) (hgd : good [] (scanL (L d)).1) (hm : w.cell? ⟨1, 0, none⟩ = some (.int .i64 mx)) (hw0 : 1 < w.heap.size) :
    Calls Tryz.prog 31 #[.agg #[.string d, .int .i64 (sf : Int)]] w fun e w' => e = .returned (.agg #[.string (lfRead d), .string d, .int .i64 (sf : Int)]) ∧ Below w.heap.size w w' := by
  have HM : Hid (∀ W, Below w.heap.size w W → W.cell? ⟨1, 0, none⟩ = some (.int .i64 mx)) := fun W hb => (hb.cell (p := ⟨1, 0, none⟩) hw0).trans hm
  have HW0 := Lib.hid hw0
  clear hm hw0
  have HSC := Lib.hid (fun W => scanRef_any _ d (by omega) (Nat.le_refl _) W)
  have hcnt := scanL_count (L d)
  rw [L_len] at hcnt
  have HRD : Hid (lfRead d = S (play [] (scanL (L d)).1)) := rfl
  generalize scanL (L d) = sc at *
  obtain ⟨rs, cn⟩ := sc
  simp only at hgd hcnt HRD HSC
  have HG := Lib.hid hgd; clear hgd
  go_enter Tryz.func31, Tryz.ntmps31
  go_wp2_with fail
  refine (HSC.out _).mono ?_
  rintro e w1 ⟨v, rfl, hown, hb1⟩
  obtain ⟨A, c, rfl, hnc, hcm, hrd⟩ := own_form hown
  have HR := Lib.hid hrd
  clear hown hrd
  obtain ⟨hc, hf⟩ := bcell hb1
  have hz := hb1.size
  simp only [World.size_alloc] at hc hf hz
  have hbA : Below w.heap.size w w1 := bthen (by repeat (first | exact Below.refl _ _ | assumption | refine Below.alloc ?_ (by first | exact Nat.le_refl _ | assumption | omega | (simp <;> omega)) _ | refine Below.setCell ?_ (by first | exact Nat.le_refl _ | assumption | omega | (simp <;> omega)) _ | refine Below.drew ?_ | refine below_drewN ?_ _)) hb1
  have hs1 := hbA.size
  have C1 : Hid (Blk w1 w.heap.size 28 #[.string d, .int .i64 (sf : Int)]) := Blk.below' (Blk.alloc (Blk.new_ _ _ _) _) hb1
  have C2 : Hid (Blk w1 (w.heap.size + 1) 30 #[.string ⟨#[]⟩, .string ⟨#[]⟩, .int .i64 0]) := Blk.below' (by
    have := Blk.new_ (w.alloc (.cells #[.string d, .int .i64 (sf : Int)] 28)) 30 #[.string ⟨#[]⟩, .string ⟨#[]⟩, .int .i64 0]
    rw [World.size_alloc] at this
    exact this) hb1
  clear hc hf hb1
  obtain ⟨n, hn⟩ : ∃ n, rs.length = n := ⟨_, rfl⟩
  rw [hn] at HR hcnt hnc ⊢
  have HN := Lib.hid hn; clear hn
  go_wp2_with fail
  go_loopw [5, 18] (fun sv iv wr => ∃ k : Nat, k ≤ n ∧ iv = .int .i64 (k : Int) ∧ sv = .string (S (play [] (rs.take k))) ∧ Below w1.heap.size w1 wr) (fun _ iv _ => n - (intOf iv).toNat)
  case atStart => exact ⟨0, Nat.zero_le _, rfl, rfl, Below.refl _ _⟩
  case round =>
    obtain ⟨k, hk, rfl, rfl, hb⟩ := hrel
    have hbs := hb.size
    by_cases hlt : k < n
    · have g1 : decide ((k : Int) < (n : Int)) = true := decide_eq_true (by omega)
      have g1' : decide (k < n) = true := decide_eq_true hlt
      obtain ⟨ad, rfl, hab, q0⟩ := str_cell (HR.out.below hb) hlt
      obtain ⟨R, hR⟩ : ∃ R, R = S (rs.getD k []) := ⟨_, rfl⟩
      rw [← hR] at q0
      obtain ⟨h0, hRs, hcase⟩ := rec_at HG.out (by rw [HN.out]; exact hlt) hR
      have htl := play_len HG.out k
      clear hR
      rcases hcase with ⟨hb0, hp⟩ | ⟨hb0, l, hl, he, hsc, hp⟩
      · rw [getD0 h0] at hb0
        have hp' : S (play [] (rs.take (k + 1))) = R.extract 1 R.size := by rw [hp, S_L]
        have HP := Lib.hid hp'
        clear hp hp'
        generalize S (play [] (rs.take k)) = cur at *
        go_wp2_with fail
        go_roundw
        case rel => exact ⟨k + 1, by omega, by go_num, by rw [HP.out], hb⟩
        case measure => simp [intOf]; omega
      · rw [getD0 h0] at hb0
        have hb1' : R[0]'h0 ≠ 98 := by rw [hb0]; decide
        have HP : Hid (S (play [] (rs.take (k + 1))) = S (edDone (L (S (play [] (rs.take k)))) l)) := by unfold Hid; rw [hp, L_S]
        have HE : Hid (edErr (S (play [] (rs.take k))).size l = 0) := by unfold Hid; rw [S_size]; exact he
        have HSC := Lib.hid hsc
        have HX := Lib.hid hl
        have hxs : (R.extract 1 R.size).size ≤ 1100 := by rw [ByteArray.size_extract]; omega
        have hB1 := hbA.trans (hb.mono hs1)
        have HMX := HM.out _ hB1
        have hW0 := HW0.out
        clear hp he hsc hl
        generalize S (play [] (rs.take k)) = cur at *
        go_wp2_with fail
        refine (readOf_any (R.extract 1 R.size) (by omega) mx _ HMX (by omega)).mono ?_
        rintro e w2 ⟨v2, out, ok, rfl, hans, hown2, hb2⟩
        rw [HX.out] at hans
        obtain rfl := rfAns_wr HSC.out hans
        obtain ⟨A2, c2, rfl, hnc2, hcm2, hrx2⟩ := own_form hown2
        have HO := Lib.hid hrx2
        clear hans hown2 hrx2
        have hB2 := hb.trans (hb2.mono hbs)
        clear HMX
        go_wp2_with fail
        refine (edDone_any cur out A2 out.length c2 _ w2 HO.out (Nat.le_refl _) HE.out).mono ?_
        rintro e w3 ⟨rfl, hb3⟩
        have hB3 := hB2.trans (hb3.mono hB2.size)
        go_wp2_with fail
        go_roundw
        case rel => exact ⟨k + 1, by omega, by go_num, by rw [HP.out], hB3⟩
        case measure => simp [intOf]; omega
    · have hkn : k = n := by omega
      subst hkn
      have HT : Hid (lfRead d = S (play [] (rs.take k))) := by unfold Hid; rw [HRD.out, ← HN.out, List.take_length]
      generalize S (play [] (rs.take k)) = cur at *
      have B1 := C1.out.below' hb
      have B2 := C2.out.below' hb
      have e0 := Blk.cell0 B1; have e1 := Blk.cell1 B1
      have d0 := Blk.cell0 B2; have d1 := Blk.cell1 B2; have d2 := Blk.cell2 B2
      have f0 := B2.frozen 0; have f1 := B2.frozen 1; have f2 := B2.frozen 2
      have hb3 := hbA.trans (hb.mono hs1)
      clear B1 B2
      go_wp2_with fail
      (apply bodyPost_ret; (simp [results, Tryz.results31, go_sem, d0, d1, d2]; rfl); rfl)
      rw [HT.out]
      exact ⟨rfl, (by repeat (first | exact Below.refl _ _ | assumption | refine Below.alloc ?_ (by first | exact Nat.le_refl _ | assumption | omega | (simp <;> omega)) _ | refine Below.setCell ?_ (by first | exact Nat.le_refl _ | assumption | omega | (simp <;> omega)) _ | refine Below.drew ?_ | refine below_drewN ?_ _))⟩
end Go.Proofs.YtmikckhihfcooaaGreatDoor
