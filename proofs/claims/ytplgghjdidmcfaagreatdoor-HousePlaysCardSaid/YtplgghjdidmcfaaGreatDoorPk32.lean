/- The reference's deeds at a house. The reference's deeds at a house. The reference's deeds at a house. -/
import Derived.Test.YtplgghjdidmcfaaGreatDoorPk31
namespace Go.Proofs.YtplgghjdidmcfaaGreatDoor
open Go.RowKit
theorem rh_fin {w4 : World} {K : Nat → Prop} {B N1 g i c9 : Nat} {A9 : Option Addr} {rs' : List Rc} {u : Value} (ho : OwnO w4 B 82 6 (.slice A9 N1 c9) N1 (rcCells rs')) (hl : rs'.length = N1) (hK : ∀ k, K k → k < B) (hg : g < B) (hp : ∀ r ∈ rs', RcAt (w4.setCell ⟨g, i, none⟩ u) K r) : RhAt (w4.setCell ⟨g, i, none⟩ u) K A9 c9 rs' := by
  subst hl
  obtain ⟨A, c, hv, h1, h2, ho'⟩ := RdK.own (own1H (i := i) (a := u) ho hg) hK
  cases hv
  exact ⟨ho', ⟨h1, h2⟩, hp⟩
theorem map_erase : ∀ {rs : List Rc} {i : Nat}, (rs.eraseIdx i).map Rc.s = (rs.map Rc.s).eraseIdx i
  | [], _ => rfl
  | _ :: _, 0 => rfl
  | r :: rs, i + 1 => congrArg (r.s :: ·) (map_erase (rs := rs) (i := i))
set_option maxRecDepth 100000 in
set_option maxHeartbeats 4000000 in
theorem refDo_drop (A : Option Addr) (c : Nat) (rs : List Rc) (x : Dd) (K : Nat → Prop) (w : World) (hf : RoOk w K A c rs x) (hkk : x.kind = 9) (hn : named x.name = true) (i : Nat) (hi : fnd x.name (rs.map Rc.s) = i) (hil : i < rs.length) : Calls Tryz.prog 9 #[.agg #[.slice A rs.length c], x.val, .func (.func 10) #[] #[]] w (RoAns w K rs x) := by
  obtain ⟨hq1, hq2, hq3⟩ := hs_dropRc (rs := rs) hkk hn hi hil
  have hz : idxZ x.name (rs.map Rc.s) = (i : Int) := by rw [idxZ_pos (by rw [hi, List.length_map]; exact hil), hi]
  obtain ⟨hr, hK, hok, hnm, htx, hre, hxm, htb, ⟨mx, hmx⟩, hmg⟩ := hf
  have hn6 : rs.length ≤ 6 := by have := hok.n; rwa [List.length_map] at this
  have HOKP := Lib.hid hok
  have HRR : Hid (∀ W, Below w.heap.size w W → RhAt W K A c rs) := fun W hW => hr.below hW
  have HKK := Lib.hid hK
  have HRE : Hid (∀ W, Below w.heap.size w W → Rd W w.heap.size 3 x.A x.m (edCells x.l)) := fun W hW => hre.below hW
  have HTB : Hid (∀ W, Below w.heap.size w W → TabI W) := fun W hW => tabI_stays htb hW
  have HMX : Hid (∀ W, Below w.heap.size w W → W.cell? ⟨0, 0, none⟩ = some (.int .i64 mx)) := fun W hb => (hb.cell (p := ⟨0, 0, none⟩) hmg).trans hmx
  have HNM := Lib.hid (fun W => refNamed_any x.name W hnm)
  have HID := Lib.hid (fun W g (hW : Below w.heap.size w W) (hg : g < W.heap.size) (hc : W.cell? ⟨g, 2, none⟩ = some (.string x.name)) => idxRc_any rs x.name A rs.length c w.heap.size g W (hr.row.rd.below hW) hW.size (by omega) rfl hg hc)
  have HTX := Lib.hid htx
  have HXM := Lib.hid hxm
  have HH3 := Lib.hid (h3_new w (.slice A rs.length c) x)
  have hbA : Below w.heap.size w (((w.alloc (.cells #[.slice A rs.length c] 29)).alloc (.cells x.cells 32)).alloc (.cells #[.slice none 0 0] 29)) := (by repeat (first | exact Below.refl _ _ | assumption | refine Below.alloc ?_ (by first | exact Nat.le_refl _ | assumption | omega | (simp <;> omega)) _ | refine Below.setCell ?_ (by first | exact Nat.le_refl _ | assumption | omega | (simp <;> omega)) _ | refine Below.drew ?_ | refine below_drewN ?_ _))
  have HBA := Lib.hid hbA
  unfold RoAns
  rw [hq1, hq2, hq3]
  obtain ⟨wA, hwA⟩ : ∃ wA, wA = (((w.alloc (.cells #[.slice A rs.length c] 29)).alloc (.cells x.cells 32)).alloc (.cells #[.slice none 0 0] 29)) := ⟨_, rfl⟩
  rw [← hwA] at HH3 HBA
  have HWA := Lib.hid hwA
  clear hwA hr hK hok hnm htx hre hxm htb hmx hbA hq1 hq2 hq3
  rw [hn] at HNM
  rw [hz] at HID
  clear hz hi
  obtain ⟨xk, xn, xnm, xt, xA, xm, xc, xl⟩ := x
  unfold Dd.val
  unfold Dd.cells at HWA
  simp only at *
  obtain ⟨N, hN⟩ : ∃ N, rs.length = N := ⟨_, rfl⟩
  rw [hN] at HH3 HWA HID hn6 ⊢
  have HN := Lib.hid hN
  clear hN
  have hil2 : i < N := by have := HN.out; omega
  subst hkk
  go_enter Tryz.func9, Tryz.ntmps9
  go_wp2_with fail
  rw [← HWA.out]
  refine (HNM.out wA).mono ?_
  rintro e w1 ⟨rfl, hb1⟩
  have HB1 := Lib.hid (HBA.out.trans (hb1.mono HBA.out.size))
  have HP := Lib.hid (HH3.out.below hb1)
  clear hb1
  have p0 : w1.cell? ⟨w.heap.size, 0, none⟩ = some (.slice A N c) := HP.out.p.cell 0
  have d0 : w1.cell? ⟨w.heap.size + 1, 0, none⟩ = some (.int .i64 9) := HP.out.d.cell 0
  have d1 : w1.cell? ⟨w.heap.size + 1, 1, none⟩ = some (.int .i64 xn) := HP.out.d.cell 1
  have d2 : w1.cell? ⟨w.heap.size + 1, 2, none⟩ = some (.string xnm) := HP.out.d.cell 2
  have d3 : w1.cell? ⟨w.heap.size + 1, 3, none⟩ = some (.string xt) := HP.out.d.cell 3
  have d4 : w1.cell? ⟨w.heap.size + 1, 4, none⟩ = some (.slice xA xm xc) := HP.out.d.cell 4
  have z0 : w1.cell? ⟨w.heap.size + 1 + 1, 0, none⟩ = some (.slice none 0 0) := HP.out.z.cell 0
  have zf0 := HP.out.z.frozen 0
  have hg1 : w.heap.size + 1 < w1.heap.size := HP.out.d.lt
  go_wp2_with fail
  refine (HID.out w1 _ HB1.out hg1 d2).mono ?_
  rintro e w2 ⟨rfl, hb2⟩
  have HB2 := Lib.hid (HB1.out.trans (hb2.mono HB1.out.size))
  have HP2 := Lib.hid (HP.out.below hb2)
  clear p0 d0 d1 d2 d3 d4 z0 zf0
  clear HP hb2 HID HNM hg1
  have HP := HP2
  have p0 : w2.cell? ⟨w.heap.size, 0, none⟩ = some (.slice A N c) := HP.out.p.cell 0
  have d0 : w2.cell? ⟨w.heap.size + 1, 0, none⟩ = some (.int .i64 9) := HP.out.d.cell 0
  have d1 : w2.cell? ⟨w.heap.size + 1, 1, none⟩ = some (.int .i64 xn) := HP.out.d.cell 1
  have d2 : w2.cell? ⟨w.heap.size + 1, 2, none⟩ = some (.string xnm) := HP.out.d.cell 2
  have d3 : w2.cell? ⟨w.heap.size + 1, 3, none⟩ = some (.string xt) := HP.out.d.cell 3
  have d4 : w2.cell? ⟨w.heap.size + 1, 4, none⟩ = some (.slice xA xm xc) := HP.out.d.cell 4
  have z0 : w2.cell? ⟨w.heap.size + 1 + 1, 0, none⟩ = some (.slice none 0 0) := HP.out.z.cell 0
  have zf0 := HP.out.z.frozen 0
  have hrd := (HRR.out w2 HB2.out).row.rd
  rw [HN.out] at hrd
  have HCL := Lib.hid (clone_pg A N c w2.heap.size (rcCells rs) w2 hrd (Nat.le_refl _) (rc_one rs) (by omega))
  clear hrd
  go_wp2_with fail
  refine HCL.out.mono ?_
  rintro e w3 ⟨v3, rfl, hown3, hb3⟩
  have hO3 := OwnO.of_own hown3
  have HB3 := Lib.hid (HB2.out.trans (hb3.mono HB2.out.size))
  have HP3 := Lib.hid (HP2.out.below hb3)
  have HO3 := Lib.hid hO3
  have HDL := Lib.hid (delRc0 (rcCells rs) v3 N i w2.heap.size w3 hO3 hil2 (by omega) (rc_one rs))
  have hs2 := HB2.out.size
  have hs3 := hb3.size
  have hg2 : w.heap.size + 1 + 1 < w2.heap.size := HP2.out.z.lt
  clear p0 d0 d1 d2 d3 d4 z0 zf0
  clear HP hown3 hb3 hO3 HCL
  go_wp2_with fail
  refine HDL.out.mono ?_
  rintro e w4 ⟨A4, c4, rfl, rfl, ho4, hg4⟩
  have hb4 : Below w.heap.size w w4 := HB3.out.grown hg4 (Nat.le_trans hs2 hs3) (fun k hk => Nat.le_trans hs2 (HO3.out.lt k hk).1)
  have HB4 := Lib.hid hb4
  have HP4 := Lib.hid (HP3.out.grown hg4 (fun k hk => Nat.lt_of_lt_of_le hg2 (HO3.out.lt k hk).1))
  have HO4 : Hid (OwnO w4 w2.heap.size 82 6 (.slice A4 (N - 1) c4) (N - 1) (rcCells (rs.eraseIdx i))) := by
    have e : rcCells (rs.eraseIdx i) = (rcCells rs).take (i * 6) ++ (rcCells rs).drop ((i + 1) * 6) := (cut_eq rc_len rs i hil).symm
    rw [Hid, e]
    exact ho4
  have hl : (rs.eraseIdx i).length = N - 1 := by rw [List.length_eraseIdx, if_pos hil, HN.out]
  have HLL := Lib.hid hl
  clear hb4 hg4 ho4 HDL hl
  have HP := HP4
  have p0 : w4.cell? ⟨w.heap.size, 0, none⟩ = some (.slice A N c) := HP.out.p.cell 0
  have d0 : w4.cell? ⟨w.heap.size + 1, 0, none⟩ = some (.int .i64 9) := HP.out.d.cell 0
  have d1 : w4.cell? ⟨w.heap.size + 1, 1, none⟩ = some (.int .i64 xn) := HP.out.d.cell 1
  have d2 : w4.cell? ⟨w.heap.size + 1, 2, none⟩ = some (.string xnm) := HP.out.d.cell 2
  have d3 : w4.cell? ⟨w.heap.size + 1, 3, none⟩ = some (.string xt) := HP.out.d.cell 3
  have d4 : w4.cell? ⟨w.heap.size + 1, 4, none⟩ = some (.slice xA xm xc) := HP.out.d.cell 4
  have z0 : w4.cell? ⟨w.heap.size + 1 + 1, 0, none⟩ = some (.slice none 0 0) := HP.out.z.cell 0
  have zf0 := HP.out.z.frozen 0
  go_wp2_with fail
  (apply bodyPost_ret; (simp [results, Tryz.results9, go_sem, z0]; rfl); rfl)
  refine ⟨A4, c4, rs.eraseIdx i, ?_, map_erase, rh_fin HO4.out HLL.out (fun k hk => Nat.lt_of_lt_of_le (HKK.out k hk) hs2) hg2 (fun r hr => (HRR.out _ (bel1 HB4.out (le2 _))).pg r (List.mem_of_mem_eraseIdx hr)), bel1 HB4.out (le2 _)⟩
  rw [HLL.out]
end Go.Proofs.YtplgghjdidmcfaaGreatDoor
namespace Go.Proofs.YtplgghjdidmcfaaGreatDoor
open Go.RowKit
set_option maxRecDepth 100000 in
set_option maxHeartbeats 8000000 in
theorem refDo_new (A : Option Addr) (c : Nat) (rs : List Rc) (x : Dd) (K : Nat → Prop) (w : World) (hf : RoOk w K A c rs x) (hkk : x.kind = 1) (hn : named x.name = true) : Calls Tryz.prog 9 #[.agg #[.slice A rs.length c], x.val, .func (.func 10) #[] #[]] w (RoAns w K rs x) := by
  obtain ⟨i0, hi0, hz0, hz1, hz2⟩ := info_parts info_rc
  obtain ⟨hq1, hq2, hq3⟩ := hs_new (P := rs.map Rc.s) hkk hn
  rw [List.length_map] at hq1 hq3
  obtain ⟨z, hz⟩ : ∃ z, idxZ x.name (rs.map Rc.s) = z := ⟨_, rfl⟩
  rw [hz] at hq1 hq3
  by_cases hk0 : 0 ≤ z
  · have hv : bgE z rs.length x.text = 10 := by unfold bgE; rw [if_pos hk0]
    rw [hv] at hq1 hq3
    rw [if_neg (by decide)] at hq3
    clear hv
    obtain ⟨hr, hK, hok, hnm, htx, hre, hxm, htb, ⟨mx, hmx⟩, hmg⟩ := hf
    have hn6 : rs.length ≤ 6 := by have := hok.n; rwa [List.length_map] at this
    have HOKP := Lib.hid hok
    have HRR : Hid (∀ W, Below w.heap.size w W → RhAt W K A c rs) := fun W hW => hr.below hW
    have HKK := Lib.hid hK
    have HRE : Hid (∀ W, Below w.heap.size w W → Rd W w.heap.size 3 x.A x.m (edCells x.l)) := fun W hW => hre.below hW
    have HTB : Hid (∀ W, Below w.heap.size w W → TabI W) := fun W hW => tabI_stays htb hW
    have HMX : Hid (∀ W, Below w.heap.size w W → W.cell? ⟨0, 0, none⟩ = some (.int .i64 mx)) := fun W hb => (hb.cell (p := ⟨0, 0, none⟩) hmg).trans hmx
    have HNM := Lib.hid (fun W => refNamed_any x.name W hnm)
    have HID := Lib.hid (fun W g (hW : Below w.heap.size w W) (hg : g < W.heap.size) (hc : W.cell? ⟨g, 2, none⟩ = some (.string x.name)) => idxRc_any rs x.name A rs.length c w.heap.size g W (hr.row.rd.below hW) hW.size (by omega) rfl hg hc)
    have HTX := Lib.hid htx
    have HXM := Lib.hid hxm
    have HH3 := Lib.hid (h3_new w (.slice A rs.length c) x)
    have hbA : Below w.heap.size w (((w.alloc (.cells #[.slice A rs.length c] 29)).alloc (.cells x.cells 32)).alloc (.cells #[.slice none 0 0] 29)) := (by repeat (first | exact Below.refl _ _ | assumption | refine Below.alloc ?_ (by first | exact Nat.le_refl _ | assumption | omega | (simp <;> omega)) _ | refine Below.setCell ?_ (by first | exact Nat.le_refl _ | assumption | omega | (simp <;> omega)) _ | refine Below.drew ?_ | refine below_drewN ?_ _))
    have HBA := Lib.hid hbA
    unfold RoAns
    rw [hq1, hq2, hq3]
    obtain ⟨wA, hwA⟩ : ∃ wA, wA = (((w.alloc (.cells #[.slice A rs.length c] 29)).alloc (.cells x.cells 32)).alloc (.cells #[.slice none 0 0] 29)) := ⟨_, rfl⟩
    rw [← hwA] at HH3 HBA
    have HWA := Lib.hid hwA
    clear hwA hr hK hok hnm htx hre hxm htb hmx hbA hq1 hq2 hq3
    rw [hn] at HNM
    rw [hz] at HID
    clear hz
    obtain ⟨xk, xn, xnm, xt, xA, xm, xc, xl⟩ := x
    unfold Dd.val
    unfold Dd.cells at HWA
    simp only at *
    obtain ⟨N, hN⟩ : ∃ N, rs.length = N := ⟨_, rfl⟩
    rw [hN] at HH3 HWA HID hn6 ⊢
    have HN := Lib.hid hN
    clear hN
    subst hkk
    have g3 : decide (0 ≤ z) = true := decide_eq_true hk0
    go_enter Tryz.func9, Tryz.ntmps9
    go_wp2_with fail
    rw [← HWA.out]
    refine (HNM.out wA).mono ?_
    rintro e w1 ⟨rfl, hb1⟩
    have HB1 := Lib.hid (HBA.out.trans (hb1.mono HBA.out.size))
    have HP := Lib.hid (HH3.out.below hb1)
    clear hb1
    have p0 : w1.cell? ⟨w.heap.size, 0, none⟩ = some (.slice A N c) := HP.out.p.cell 0
    have d0 : w1.cell? ⟨w.heap.size + 1, 0, none⟩ = some (.int .i64 1) := HP.out.d.cell 0
    have d1 : w1.cell? ⟨w.heap.size + 1, 1, none⟩ = some (.int .i64 xn) := HP.out.d.cell 1
    have d2 : w1.cell? ⟨w.heap.size + 1, 2, none⟩ = some (.string xnm) := HP.out.d.cell 2
    have d3 : w1.cell? ⟨w.heap.size + 1, 3, none⟩ = some (.string xt) := HP.out.d.cell 3
    have d4 : w1.cell? ⟨w.heap.size + 1, 4, none⟩ = some (.slice xA xm xc) := HP.out.d.cell 4
    have z0 : w1.cell? ⟨w.heap.size + 1 + 1, 0, none⟩ = some (.slice none 0 0) := HP.out.z.cell 0
    have zf0 := HP.out.z.frozen 0
    have hg1 : w.heap.size + 1 < w1.heap.size := HP.out.d.lt
    go_wp2_with fail
    refine (HID.out w1 _ HB1.out hg1 d2).mono ?_
    rintro e w2 ⟨rfl, hb2⟩
    have HB2 := Lib.hid (HB1.out.trans (hb2.mono HB1.out.size))
    have HP2 := Lib.hid (HP.out.below hb2)
    clear p0 d0 d1 d2 d3 d4 z0 zf0
    clear HP hb2 HID HNM hg1
    have HP := HP2
    have p0 : w2.cell? ⟨w.heap.size, 0, none⟩ = some (.slice A N c) := HP.out.p.cell 0
    have d0 : w2.cell? ⟨w.heap.size + 1, 0, none⟩ = some (.int .i64 1) := HP.out.d.cell 0
    have d1 : w2.cell? ⟨w.heap.size + 1, 1, none⟩ = some (.int .i64 xn) := HP.out.d.cell 1
    have d2 : w2.cell? ⟨w.heap.size + 1, 2, none⟩ = some (.string xnm) := HP.out.d.cell 2
    have d3 : w2.cell? ⟨w.heap.size + 1, 3, none⟩ = some (.string xt) := HP.out.d.cell 3
    have d4 : w2.cell? ⟨w.heap.size + 1, 4, none⟩ = some (.slice xA xm xc) := HP.out.d.cell 4
    have z0 : w2.cell? ⟨w.heap.size + 1 + 1, 0, none⟩ = some (.slice none 0 0) := HP.out.z.cell 0
    have zf0 := HP.out.z.frozen 0
    go_wp2_with fail
    (apply bodyPost_ret; (simp [results, Tryz.results9, go_sem, z0]; rfl); rfl)
    refine ⟨A, c, rs, ?_, rfl, fin_rh (bel1 HB2.out (le2 _)) HRR.out⟩
    rw [HN.out]
  by_cases h6 : 6 ≤ rs.length
  · have hv : bgE z rs.length x.text = 11 := by unfold bgE; rw [if_neg hk0, if_pos h6]
    rw [hv] at hq1 hq3
    rw [if_neg (by decide)] at hq3
    clear hv
    obtain ⟨hr, hK, hok, hnm, htx, hre, hxm, htb, ⟨mx, hmx⟩, hmg⟩ := hf
    have hn6 : rs.length ≤ 6 := by have := hok.n; rwa [List.length_map] at this
    have HOKP := Lib.hid hok
    have HRR : Hid (∀ W, Below w.heap.size w W → RhAt W K A c rs) := fun W hW => hr.below hW
    have HKK := Lib.hid hK
    have HRE : Hid (∀ W, Below w.heap.size w W → Rd W w.heap.size 3 x.A x.m (edCells x.l)) := fun W hW => hre.below hW
    have HTB : Hid (∀ W, Below w.heap.size w W → TabI W) := fun W hW => tabI_stays htb hW
    have HMX : Hid (∀ W, Below w.heap.size w W → W.cell? ⟨0, 0, none⟩ = some (.int .i64 mx)) := fun W hb => (hb.cell (p := ⟨0, 0, none⟩) hmg).trans hmx
    have HNM := Lib.hid (fun W => refNamed_any x.name W hnm)
    have HID := Lib.hid (fun W g (hW : Below w.heap.size w W) (hg : g < W.heap.size) (hc : W.cell? ⟨g, 2, none⟩ = some (.string x.name)) => idxRc_any rs x.name A rs.length c w.heap.size g W (hr.row.rd.below hW) hW.size (by omega) rfl hg hc)
    have HTX := Lib.hid htx
    have HXM := Lib.hid hxm
    have HH3 := Lib.hid (h3_new w (.slice A rs.length c) x)
    have hbA : Below w.heap.size w (((w.alloc (.cells #[.slice A rs.length c] 29)).alloc (.cells x.cells 32)).alloc (.cells #[.slice none 0 0] 29)) := (by repeat (first | exact Below.refl _ _ | assumption | refine Below.alloc ?_ (by first | exact Nat.le_refl _ | assumption | omega | (simp <;> omega)) _ | refine Below.setCell ?_ (by first | exact Nat.le_refl _ | assumption | omega | (simp <;> omega)) _ | refine Below.drew ?_ | refine below_drewN ?_ _))
    have HBA := Lib.hid hbA
    unfold RoAns
    rw [hq1, hq2, hq3]
    obtain ⟨wA, hwA⟩ : ∃ wA, wA = (((w.alloc (.cells #[.slice A rs.length c] 29)).alloc (.cells x.cells 32)).alloc (.cells #[.slice none 0 0] 29)) := ⟨_, rfl⟩
    rw [← hwA] at HH3 HBA
    have HWA := Lib.hid hwA
    clear hwA hr hK hok hnm htx hre hxm htb hmx hbA hq1 hq2 hq3
    rw [hn] at HNM
    rw [hz] at HID
    clear hz
    obtain ⟨xk, xn, xnm, xt, xA, xm, xc, xl⟩ := x
    unfold Dd.val
    unfold Dd.cells at HWA
    simp only at *
    obtain ⟨N, hN⟩ : ∃ N, rs.length = N := ⟨_, rfl⟩
    rw [hN] at HH3 HWA HID hn6 ⊢
    have HN := Lib.hid hN
    clear hN
    subst hkk
    have g3 : decide (0 ≤ z) = false := decide_eq_false hk0
    have g4 : decide ((6 : Int) ≤ (N : Int)) = true := decide_eq_true (by have := HN.out; omega)
    have g4' : decide (6 ≤ N) = true := decide_eq_true (by have := HN.out; omega)
    go_enter Tryz.func9, Tryz.ntmps9
    go_wp2_with fail
    rw [← HWA.out]
    refine (HNM.out wA).mono ?_
    rintro e w1 ⟨rfl, hb1⟩
    have HB1 := Lib.hid (HBA.out.trans (hb1.mono HBA.out.size))
    have HP := Lib.hid (HH3.out.below hb1)
    clear hb1
    have p0 : w1.cell? ⟨w.heap.size, 0, none⟩ = some (.slice A N c) := HP.out.p.cell 0
    have d0 : w1.cell? ⟨w.heap.size + 1, 0, none⟩ = some (.int .i64 1) := HP.out.d.cell 0
    have d1 : w1.cell? ⟨w.heap.size + 1, 1, none⟩ = some (.int .i64 xn) := HP.out.d.cell 1
    have d2 : w1.cell? ⟨w.heap.size + 1, 2, none⟩ = some (.string xnm) := HP.out.d.cell 2
    have d3 : w1.cell? ⟨w.heap.size + 1, 3, none⟩ = some (.string xt) := HP.out.d.cell 3
    have d4 : w1.cell? ⟨w.heap.size + 1, 4, none⟩ = some (.slice xA xm xc) := HP.out.d.cell 4
    have z0 : w1.cell? ⟨w.heap.size + 1 + 1, 0, none⟩ = some (.slice none 0 0) := HP.out.z.cell 0
    have zf0 := HP.out.z.frozen 0
    have hg1 : w.heap.size + 1 < w1.heap.size := HP.out.d.lt
    go_wp2_with fail
    refine (HID.out w1 _ HB1.out hg1 d2).mono ?_
    rintro e w2 ⟨rfl, hb2⟩
    have HB2 := Lib.hid (HB1.out.trans (hb2.mono HB1.out.size))
    have HP2 := Lib.hid (HP.out.below hb2)
    clear p0 d0 d1 d2 d3 d4 z0 zf0
    clear HP hb2 HID HNM hg1
    have HP := HP2
    have p0 : w2.cell? ⟨w.heap.size, 0, none⟩ = some (.slice A N c) := HP.out.p.cell 0
    have d0 : w2.cell? ⟨w.heap.size + 1, 0, none⟩ = some (.int .i64 1) := HP.out.d.cell 0
    have d1 : w2.cell? ⟨w.heap.size + 1, 1, none⟩ = some (.int .i64 xn) := HP.out.d.cell 1
    have d2 : w2.cell? ⟨w.heap.size + 1, 2, none⟩ = some (.string xnm) := HP.out.d.cell 2
    have d3 : w2.cell? ⟨w.heap.size + 1, 3, none⟩ = some (.string xt) := HP.out.d.cell 3
    have d4 : w2.cell? ⟨w.heap.size + 1, 4, none⟩ = some (.slice xA xm xc) := HP.out.d.cell 4
    have z0 : w2.cell? ⟨w.heap.size + 1 + 1, 0, none⟩ = some (.slice none 0 0) := HP.out.z.cell 0
    have zf0 := HP.out.z.frozen 0
    go_wp2_with fail
    (apply bodyPost_ret; (simp [results, Tryz.results9, go_sem, z0]; rfl); rfl)
    refine ⟨A, c, rs, ?_, rfl, fin_rh (bel1 HB2.out (le2 _)) HRR.out⟩
    rw [HN.out]
  by_cases ht : 200 < x.text.size
  · have hv : bgE z rs.length x.text = 2 := by unfold bgE; rw [if_neg hk0, if_neg h6, if_pos ht]
    rw [hv] at hq1 hq3
    rw [if_neg (by decide)] at hq3
    clear hv
    obtain ⟨hr, hK, hok, hnm, htx, hre, hxm, htb, ⟨mx, hmx⟩, hmg⟩ := hf
    have hn6 : rs.length ≤ 6 := by have := hok.n; rwa [List.length_map] at this
    have HOKP := Lib.hid hok
    have HRR : Hid (∀ W, Below w.heap.size w W → RhAt W K A c rs) := fun W hW => hr.below hW
    have HKK := Lib.hid hK
    have HRE : Hid (∀ W, Below w.heap.size w W → Rd W w.heap.size 3 x.A x.m (edCells x.l)) := fun W hW => hre.below hW
    have HTB : Hid (∀ W, Below w.heap.size w W → TabI W) := fun W hW => tabI_stays htb hW
    have HMX : Hid (∀ W, Below w.heap.size w W → W.cell? ⟨0, 0, none⟩ = some (.int .i64 mx)) := fun W hb => (hb.cell (p := ⟨0, 0, none⟩) hmg).trans hmx
    have HNM := Lib.hid (fun W => refNamed_any x.name W hnm)
    have HID := Lib.hid (fun W g (hW : Below w.heap.size w W) (hg : g < W.heap.size) (hc : W.cell? ⟨g, 2, none⟩ = some (.string x.name)) => idxRc_any rs x.name A rs.length c w.heap.size g W (hr.row.rd.below hW) hW.size (by omega) rfl hg hc)
    have HTX := Lib.hid htx
    have HXM := Lib.hid hxm
    have HH3 := Lib.hid (h3_new w (.slice A rs.length c) x)
    have hbA : Below w.heap.size w (((w.alloc (.cells #[.slice A rs.length c] 29)).alloc (.cells x.cells 32)).alloc (.cells #[.slice none 0 0] 29)) := (by repeat (first | exact Below.refl _ _ | assumption | refine Below.alloc ?_ (by first | exact Nat.le_refl _ | assumption | omega | (simp <;> omega)) _ | refine Below.setCell ?_ (by first | exact Nat.le_refl _ | assumption | omega | (simp <;> omega)) _ | refine Below.drew ?_ | refine below_drewN ?_ _))
    have HBA := Lib.hid hbA
    unfold RoAns
    rw [hq1, hq2, hq3]
    obtain ⟨wA, hwA⟩ : ∃ wA, wA = (((w.alloc (.cells #[.slice A rs.length c] 29)).alloc (.cells x.cells 32)).alloc (.cells #[.slice none 0 0] 29)) := ⟨_, rfl⟩
    rw [← hwA] at HH3 HBA
    have HWA := Lib.hid hwA
    clear hwA hr hK hok hnm htx hre hxm htb hmx hbA hq1 hq2 hq3
    rw [hn] at HNM
    rw [hz] at HID
    clear hz
    obtain ⟨xk, xn, xnm, xt, xA, xm, xc, xl⟩ := x
    unfold Dd.val
    unfold Dd.cells at HWA
    simp only at *
    obtain ⟨N, hN⟩ : ∃ N, rs.length = N := ⟨_, rfl⟩
    rw [hN] at HH3 HWA HID hn6 ⊢
    have HN := Lib.hid hN
    clear hN
    subst hkk
    have g3 : decide (0 ≤ z) = false := decide_eq_false hk0
    have g4 : decide ((6 : Int) ≤ (N : Int)) = false := decide_eq_false (by have := HN.out; omega)
    have g4' : decide (6 ≤ N) = false := decide_eq_false (by have := HN.out; omega)
    have g5 : decide ((200 : Int) < (xt.size : Int)) = true := decide_eq_true (by omega)
    have g5' : decide (200 < xt.size) = true := decide_eq_true ht
    go_enter Tryz.func9, Tryz.ntmps9
    go_wp2_with fail
    rw [← HWA.out]
    refine (HNM.out wA).mono ?_
    rintro e w1 ⟨rfl, hb1⟩
    have HB1 := Lib.hid (HBA.out.trans (hb1.mono HBA.out.size))
    have HP := Lib.hid (HH3.out.below hb1)
    clear hb1
    have p0 : w1.cell? ⟨w.heap.size, 0, none⟩ = some (.slice A N c) := HP.out.p.cell 0
    have d0 : w1.cell? ⟨w.heap.size + 1, 0, none⟩ = some (.int .i64 1) := HP.out.d.cell 0
    have d1 : w1.cell? ⟨w.heap.size + 1, 1, none⟩ = some (.int .i64 xn) := HP.out.d.cell 1
    have d2 : w1.cell? ⟨w.heap.size + 1, 2, none⟩ = some (.string xnm) := HP.out.d.cell 2
    have d3 : w1.cell? ⟨w.heap.size + 1, 3, none⟩ = some (.string xt) := HP.out.d.cell 3
    have d4 : w1.cell? ⟨w.heap.size + 1, 4, none⟩ = some (.slice xA xm xc) := HP.out.d.cell 4
    have z0 : w1.cell? ⟨w.heap.size + 1 + 1, 0, none⟩ = some (.slice none 0 0) := HP.out.z.cell 0
    have zf0 := HP.out.z.frozen 0
    have hg1 : w.heap.size + 1 < w1.heap.size := HP.out.d.lt
    go_wp2_with fail
    refine (HID.out w1 _ HB1.out hg1 d2).mono ?_
    rintro e w2 ⟨rfl, hb2⟩
    have HB2 := Lib.hid (HB1.out.trans (hb2.mono HB1.out.size))
    have HP2 := Lib.hid (HP.out.below hb2)
    clear p0 d0 d1 d2 d3 d4 z0 zf0
    clear HP hb2 HID HNM hg1
    have HP := HP2
    have p0 : w2.cell? ⟨w.heap.size, 0, none⟩ = some (.slice A N c) := HP.out.p.cell 0
    have d0 : w2.cell? ⟨w.heap.size + 1, 0, none⟩ = some (.int .i64 1) := HP.out.d.cell 0
    have d1 : w2.cell? ⟨w.heap.size + 1, 1, none⟩ = some (.int .i64 xn) := HP.out.d.cell 1
    have d2 : w2.cell? ⟨w.heap.size + 1, 2, none⟩ = some (.string xnm) := HP.out.d.cell 2
    have d3 : w2.cell? ⟨w.heap.size + 1, 3, none⟩ = some (.string xt) := HP.out.d.cell 3
    have d4 : w2.cell? ⟨w.heap.size + 1, 4, none⟩ = some (.slice xA xm xc) := HP.out.d.cell 4
    have z0 : w2.cell? ⟨w.heap.size + 1 + 1, 0, none⟩ = some (.slice none 0 0) := HP.out.z.cell 0
    have zf0 := HP.out.z.frozen 0
    go_wp2_with fail
    (apply bodyPost_ret; (simp [results, Tryz.results9, go_sem, z0]; rfl); rfl)
    refine ⟨A, c, rs, ?_, rfl, fin_rh (bel1 HB2.out (le2 _)) HRR.out⟩
    rw [HN.out]
  have hv : bgE z rs.length x.text = 0 := by unfold bgE; rw [if_neg hk0, if_neg h6, if_neg ht]
  rw [hv] at hq1 hq3
  rw [if_pos rfl] at hq3
  clear hv
  obtain ⟨hr, hK, hok, hnm, htx, hre, hxm, htb, ⟨mx, hmx⟩, hmg⟩ := hf
  have hn6 : rs.length ≤ 6 := by have := hok.n; rwa [List.length_map] at this
  have HOKP := Lib.hid hok
  have HRR : Hid (∀ W, Below w.heap.size w W → RhAt W K A c rs) := fun W hW => hr.below hW
  have HKK := Lib.hid hK
  have HRE : Hid (∀ W, Below w.heap.size w W → Rd W w.heap.size 3 x.A x.m (edCells x.l)) := fun W hW => hre.below hW
  have HTB : Hid (∀ W, Below w.heap.size w W → TabI W) := fun W hW => tabI_stays htb hW
  have HMX : Hid (∀ W, Below w.heap.size w W → W.cell? ⟨0, 0, none⟩ = some (.int .i64 mx)) := fun W hb => (hb.cell (p := ⟨0, 0, none⟩) hmg).trans hmx
  have HNM := Lib.hid (fun W => refNamed_any x.name W hnm)
  have HID := Lib.hid (fun W g (hW : Below w.heap.size w W) (hg : g < W.heap.size) (hc : W.cell? ⟨g, 2, none⟩ = some (.string x.name)) => idxRc_any rs x.name A rs.length c w.heap.size g W (hr.row.rd.below hW) hW.size (by omega) rfl hg hc)
  have HTX := Lib.hid htx
  have HXM := Lib.hid hxm
  have HH3 := Lib.hid (h3_new w (.slice A rs.length c) x)
  have hbA : Below w.heap.size w (((w.alloc (.cells #[.slice A rs.length c] 29)).alloc (.cells x.cells 32)).alloc (.cells #[.slice none 0 0] 29)) := (by repeat (first | exact Below.refl _ _ | assumption | refine Below.alloc ?_ (by first | exact Nat.le_refl _ | assumption | omega | (simp <;> omega)) _ | refine Below.setCell ?_ (by first | exact Nat.le_refl _ | assumption | omega | (simp <;> omega)) _ | refine Below.drew ?_ | refine below_drewN ?_ _))
  have HBA := Lib.hid hbA
  unfold RoAns
  rw [hq1, hq2, hq3]
  obtain ⟨wA, hwA⟩ : ∃ wA, wA = (((w.alloc (.cells #[.slice A rs.length c] 29)).alloc (.cells x.cells 32)).alloc (.cells #[.slice none 0 0] 29)) := ⟨_, rfl⟩
  rw [← hwA] at HH3 HBA
  have HWA := Lib.hid hwA
  clear hwA hr hK hok hnm htx hre hxm htb hmx hbA hq1 hq2 hq3
  rw [hn] at HNM
  rw [hz] at HID
  clear hz
  obtain ⟨xk, xn, xnm, xt, xA, xm, xc, xl⟩ := x
  unfold Dd.val
  unfold Dd.cells at HWA
  simp only at *
  obtain ⟨N, hN⟩ : ∃ N, rs.length = N := ⟨_, rfl⟩
  rw [hN] at HH3 HWA HID hn6 ⊢
  have HN := Lib.hid hN
  clear hN
  subst hkk
  have g3 : decide (0 ≤ z) = false := decide_eq_false hk0
  have hN5 : N ≤ 5 := by have := HN.out; omega
  have g4 : decide ((6 : Int) ≤ (N : Int)) = false := decide_eq_false (by omega)
  have g4' : decide (6 ≤ N) = false := decide_eq_false (by omega)
  have g5 : decide ((200 : Int) < (xt.size : Int)) = false := decide_eq_false (by omega)
  have g5' : decide (200 < xt.size) = false := decide_eq_false ht
  have HLF := Lib.hid (fun W => rlOf_any xt W (by omega))
  go_enter Tryz.func9, Tryz.ntmps9
  go_wp2_with fail
  rw [← HWA.out]
  refine (HNM.out wA).mono ?_
  rintro e w1 ⟨rfl, hb1⟩
  have HB1 := Lib.hid (HBA.out.trans (hb1.mono HBA.out.size))
  have HP := Lib.hid (HH3.out.below hb1)
  clear hb1
  have p0 : w1.cell? ⟨w.heap.size, 0, none⟩ = some (.slice A N c) := HP.out.p.cell 0
  have d0 : w1.cell? ⟨w.heap.size + 1, 0, none⟩ = some (.int .i64 1) := HP.out.d.cell 0
  have d1 : w1.cell? ⟨w.heap.size + 1, 1, none⟩ = some (.int .i64 xn) := HP.out.d.cell 1
  have d2 : w1.cell? ⟨w.heap.size + 1, 2, none⟩ = some (.string xnm) := HP.out.d.cell 2
  have d3 : w1.cell? ⟨w.heap.size + 1, 3, none⟩ = some (.string xt) := HP.out.d.cell 3
  have d4 : w1.cell? ⟨w.heap.size + 1, 4, none⟩ = some (.slice xA xm xc) := HP.out.d.cell 4
  have z0 : w1.cell? ⟨w.heap.size + 1 + 1, 0, none⟩ = some (.slice none 0 0) := HP.out.z.cell 0
  have zf0 := HP.out.z.frozen 0
  have hg1 : w.heap.size + 1 < w1.heap.size := HP.out.d.lt
  go_wp2_with fail
  refine (HID.out w1 _ HB1.out hg1 d2).mono ?_
  rintro e w2 ⟨rfl, hb2⟩
  have HB2 := Lib.hid (HB1.out.trans (hb2.mono HB1.out.size))
  have HP2 := Lib.hid (HP.out.below hb2)
  clear p0 d0 d1 d2 d3 d4 z0 zf0
  clear HP hb2 HID HNM hg1
  have HP := HP2
  have p0 : w2.cell? ⟨w.heap.size, 0, none⟩ = some (.slice A N c) := HP.out.p.cell 0
  have d0 : w2.cell? ⟨w.heap.size + 1, 0, none⟩ = some (.int .i64 1) := HP.out.d.cell 0
  have d1 : w2.cell? ⟨w.heap.size + 1, 1, none⟩ = some (.int .i64 xn) := HP.out.d.cell 1
  have d2 : w2.cell? ⟨w.heap.size + 1, 2, none⟩ = some (.string xnm) := HP.out.d.cell 2
  have d3 : w2.cell? ⟨w.heap.size + 1, 3, none⟩ = some (.string xt) := HP.out.d.cell 3
  have d4 : w2.cell? ⟨w.heap.size + 1, 4, none⟩ = some (.slice xA xm xc) := HP.out.d.cell 4
  have z0 : w2.cell? ⟨w.heap.size + 1 + 1, 0, none⟩ = some (.slice none 0 0) := HP.out.z.cell 0
  have zf0 := HP.out.z.frozen 0
  have hrd := (HRR.out w2.drew HB2.out.drew).row.rd
  rw [HN.out] at hrd
  have HCL := Lib.hid (clone_pg A N c w2.drew.heap.size (rcCells rs) w2.drew hrd (Nat.le_refl _) (rc_one rs) (by omega))
  clear hrd h6 ht hk0
  go_wp2_with fail
  obtain ⟨F1, hFd⟩ : ∃ F : World → Prop, F = fun w' => w'.cell? ⟨w.heap.size, 0, none⟩ = some (.slice A N c) ∧ w'.cell? ⟨w.heap.size + 1, 2, none⟩ = some (.string xnm) ∧ w'.cell? ⟨w.heap.size + 1, 3, none⟩ = some (.string xt) := ⟨_, rfl⟩
  have HF1 := Lib.hid hFd
  clear hFd
  have hcell10 : ∀ p' : Wof F1, p'.w.cell? ⟨w.heap.size, 0, none⟩ = some (.slice A N c) := fun ⟨x, hx⟩ => by rw [HF1.out] at hx; exact hx.1
  have hcell11 : ∀ p' : Wof F1, p'.w.cell? ⟨w.heap.size + 1, 2, none⟩ = some (.string xnm) := fun ⟨x, hx⟩ => by rw [HF1.out] at hx; exact hx.2.1
  have hcell12 : ∀ p' : Wof F1, p'.w.cell? ⟨w.heap.size + 1, 3, none⟩ = some (.string xt) := fun ⟨x, hx⟩ => by rw [HF1.out] at hx; exact hx.2.2
  refine wp_region_schedF [(0, true), (1, true), (3, true), (4, true), (5, true), (6, true), (2, false), (7, false), (8, true), (9, false), (10, false), (11, true), (12, false), (13, true), (14, true)] F1 (by kernel_rfl) (by kernel_rfl) rfl (fun _ _ _ _ _ h => h) (by kernel_rfl) (by rw [HF1.out]; first | ((repeat' apply And.intro) <;> assumption) | trivial | (simp; done) | (simp [*]; done)) (by rw [HF1.out]; exact fun h => h) ?_
  intro hne1
  simp only [opersOf, List.getElem?_toArray, List.getElem?_cons_succ, List.getElem?_cons_zero]
  repeat (first | (refine wpSched_free rfl ?_; intro K hK; go_big_quiet_op; go_big_quiet_on) | (refine wpSched_wantS _ rfl rfl rfl ?_; intro K hK; go_big_quiet_op; go_big_quiet_on) | (refine wpSched_skipS _ rfl rfl rfl rfl ?_; simp only [Act.put, List.setIfInBounds_toArray, List.set_cons_zero, List.set_cons_succ]) | (refine wpSched_skipU _ rfl rfl rfl ?_; simp only [Act.put, List.setIfInBounds_toArray, List.set_cons_zero, List.set_cons_succ]))
  have HBD : Hid (Below w.heap.size w w2.drew) := HB2.out.drew
  have HPD : Hid (H3 w2.drew w.heap.size (.slice A N c) ⟨1, xn, xnm, xt, xA, xm, xc, xl⟩ (.slice none 0 0)) := HP2.out.below (Below.drew (Below.refl _ _))
  have hg2 : w.heap.size + 1 + 1 < w2.drew.heap.size := HPD.out.z.lt
  have hs2 : w.heap.size ≤ w2.drew.heap.size := HBD.out.size
  clear p0 d0 d1 d2 d3 d4 z0 zf0
  clear HP HP2 HB2
  refine wpSched_other ?_
  have HP := HPD
  have p0 : w2.drew.cell? ⟨w.heap.size, 0, none⟩ = some (.slice A N c) := HP.out.p.cell 0
  have d0 : w2.drew.cell? ⟨w.heap.size + 1, 0, none⟩ = some (.int .i64 1) := HP.out.d.cell 0
  have d1 : w2.drew.cell? ⟨w.heap.size + 1, 1, none⟩ = some (.int .i64 xn) := HP.out.d.cell 1
  have d2 : w2.drew.cell? ⟨w.heap.size + 1, 2, none⟩ = some (.string xnm) := HP.out.d.cell 2
  have d3 : w2.drew.cell? ⟨w.heap.size + 1, 3, none⟩ = some (.string xt) := HP.out.d.cell 3
  have d4 : w2.drew.cell? ⟨w.heap.size + 1, 4, none⟩ = some (.slice xA xm xc) := HP.out.d.cell 4
  have z0 : w2.drew.cell? ⟨w.heap.size + 1 + 1, 0, none⟩ = some (.slice none 0 0) := HP.out.z.cell 0
  have zf0 := HP.out.z.frozen 0
  go_wp2_with fail
  refine HCL.out.mono ?_
  rintro e w3 ⟨v3, rfl, hown3, hb3⟩
  have HB3 := Lib.hid (HBD.out.trans (hb3.mono HBD.out.size))
  have HP3 := Lib.hid (HPD.out.below hb3)
  have HO3 := Lib.hid hown3
  have hs3 := hb3.size
  clear p0 d0 d1 d2 d3 d4 z0 zf0
  clear HP hb3 hown3 HCL HPD HBD
  have HP := HP3
  have p0 : w3.cell? ⟨w.heap.size, 0, none⟩ = some (.slice A N c) := HP.out.p.cell 0
  have d0 : w3.cell? ⟨w.heap.size + 1, 0, none⟩ = some (.int .i64 1) := HP.out.d.cell 0
  have d1 : w3.cell? ⟨w.heap.size + 1, 1, none⟩ = some (.int .i64 xn) := HP.out.d.cell 1
  have d2 : w3.cell? ⟨w.heap.size + 1, 2, none⟩ = some (.string xnm) := HP.out.d.cell 2
  have d3 : w3.cell? ⟨w.heap.size + 1, 3, none⟩ = some (.string xt) := HP.out.d.cell 3
  have d4 : w3.cell? ⟨w.heap.size + 1, 4, none⟩ = some (.slice xA xm xc) := HP.out.d.cell 4
  have z0 : w3.cell? ⟨w.heap.size + 1 + 1, 0, none⟩ = some (.slice none 0 0) := HP.out.z.cell 0
  have zf0 := HP.out.z.frozen 0
  go_wp2_with fail
  refine sched_back (by rw [HF1.out]; exact ⟨p0, d2, d3⟩) ?_
  repeat (first | (refine wpSched_free rfl ?_; intro K hK; go_big_quiet_op; go_big_quiet_on) | (refine wpSched_wantS _ rfl rfl rfl ?_; intro K hK; go_big_quiet_op; go_big_quiet_on) | (refine wpSched_skipS _ rfl rfl rfl rfl ?_; simp only [Act.put, List.setIfInBounds_toArray, List.set_cons_zero, List.set_cons_succ]) | (refine wpSched_skipU _ rfl rfl rfl ?_; simp only [Act.put, List.setIfInBounds_toArray, List.set_cons_zero, List.set_cons_succ]))
  refine wpSched_other ?_
  go_wp2_with fail
  refine (HLF.out w3).mono ?_
  rintro e w4 ⟨rfl, hb4⟩
  have HB4 := Lib.hid (HB3.out.trans (hb4.mono HB3.out.size))
  have HP4 := Lib.hid (HP3.out.below hb4)
  have HO4 : Hid (w4.ownsRow w2.drew.heap.size 82 6 v3 N (rcCells rs)) := own_below HO3.out hb4
  have hs4 := hb4.size
  clear p0 d0 d1 d2 d3 d4 z0 zf0
  clear HP hb4 HO3 HLF HP3 HB3
  have HP := HP4
  have p0 : w4.cell? ⟨w.heap.size, 0, none⟩ = some (.slice A N c) := HP.out.p.cell 0
  have d0 : w4.cell? ⟨w.heap.size + 1, 0, none⟩ = some (.int .i64 1) := HP.out.d.cell 0
  have d1 : w4.cell? ⟨w.heap.size + 1, 1, none⟩ = some (.int .i64 xn) := HP.out.d.cell 1
  have d2 : w4.cell? ⟨w.heap.size + 1, 2, none⟩ = some (.string xnm) := HP.out.d.cell 2
  have d3 : w4.cell? ⟨w.heap.size + 1, 3, none⟩ = some (.string xt) := HP.out.d.cell 3
  have d4 : w4.cell? ⟨w.heap.size + 1, 4, none⟩ = some (.slice xA xm xc) := HP.out.d.cell 4
  have z0 : w4.cell? ⟨w.heap.size + 1 + 1, 0, none⟩ = some (.slice none 0 0) := HP.out.z.cell 0
  have zf0 := HP.out.z.frozen 0
  go_wp2_with fail
  refine sched_back (by rw [HF1.out]; exact ⟨p0, d2, d3⟩) ?_
  repeat (first | (refine wpSched_free rfl ?_; intro K hK; go_big_quiet_op; go_big_quiet_on) | (refine wpSched_wantS _ rfl rfl rfl ?_; intro K hK; go_big_quiet_op; go_big_quiet_on) | (refine wpSched_skipS _ rfl rfl rfl rfl ?_; simp only [Act.put, List.setIfInBounds_toArray, List.set_cons_zero, List.set_cons_succ]) | (refine wpSched_skipU _ rfl rfl rfl ?_; simp only [Act.put, List.setIfInBounds_toArray, List.set_cons_zero, List.set_cons_succ]))
  refine wpSched_other ?_
  have hnw : ∀ j u, ([.string xnm, .string xt, .string (newD xt), .int .i64 ((newD xt).size : Int), .slice none 0 0, .slice none 0 0] : List Value)[j]? = some u → (w4.alloc (.cells #[.string xnm, .string xt, .string (newD xt), .int .i64 ((newD xt).size : Int), .slice none 0 0, .slice none 0 0] 82)).cell? (Addr.add ⟨w4.heap.size, 0, none⟩ j) = some u := fun j u hj => cells_new w4 #[.string xnm, .string xt, .string (newD xt), .int .i64 ((newD xt).size : Int), .slice none 0 0, .slice none 0 0] 82 j u hj
  have HP5 : Hid (H3 (w4.alloc (.cells #[.string xnm, .string xt, .string (newD xt), .int .i64 ((newD xt).size : Int), .slice none 0 0, .slice none 0 0] 82)) w.heap.size (.slice A N c) ⟨1, xn, xnm, xt, xA, xm, xc, xl⟩ (.slice none 0 0)) := HP4.out.below ((Below.refl _ _).alloc (Nat.le_refl _) _)
  have HB5 : Hid (Below w.heap.size w (w4.alloc (.cells #[.string xnm, .string xt, .string (newD xt), .int .i64 ((newD xt).size : Int), .slice none 0 0, .slice none 0 0] 82))) := HB4.out.alloc HB4.out.size _
  have hownA : World.ownsRow (w4.alloc (.cells #[.string xnm, .string xt, .string (newD xt), .int .i64 ((newD xt).size : Int), .slice none 0 0, .slice none 0 0] 82)) w2.drew.heap.size 82 6 v3 N (rcCells rs) := World.ownsRow.alloc HO4.out _
  have hsA : w2.drew.heap.size ≤ (w4.alloc (.cells #[.string xnm, .string xt, .string (newD xt), .int .i64 ((newD xt).size : Int), .slice none 0 0, .slice none 0 0] 82)).heap.size := by rw [World.size_alloc]; omega
  clear p0 d0 d1 d2 d3 d4 z0 zf0
  clear HP HP4 HB4
  go_wp2_with fail
  have HP := HP5
  have p0 : (w4.alloc (.cells #[.string xnm, .string xt, .string (newD xt), .int .i64 ((newD xt).size : Int), .slice none 0 0, .slice none 0 0] 82)).cell? ⟨w.heap.size, 0, none⟩ = some (.slice A N c) := HP.out.p.cell 0
  have d0 : (w4.alloc (.cells #[.string xnm, .string xt, .string (newD xt), .int .i64 ((newD xt).size : Int), .slice none 0 0, .slice none 0 0] 82)).cell? ⟨w.heap.size + 1, 0, none⟩ = some (.int .i64 1) := HP.out.d.cell 0
  have d1 : (w4.alloc (.cells #[.string xnm, .string xt, .string (newD xt), .int .i64 ((newD xt).size : Int), .slice none 0 0, .slice none 0 0] 82)).cell? ⟨w.heap.size + 1, 1, none⟩ = some (.int .i64 xn) := HP.out.d.cell 1
  have d2 : (w4.alloc (.cells #[.string xnm, .string xt, .string (newD xt), .int .i64 ((newD xt).size : Int), .slice none 0 0, .slice none 0 0] 82)).cell? ⟨w.heap.size + 1, 2, none⟩ = some (.string xnm) := HP.out.d.cell 2
  have d3 : (w4.alloc (.cells #[.string xnm, .string xt, .string (newD xt), .int .i64 ((newD xt).size : Int), .slice none 0 0, .slice none 0 0] 82)).cell? ⟨w.heap.size + 1, 3, none⟩ = some (.string xt) := HP.out.d.cell 3
  have d4 : (w4.alloc (.cells #[.string xnm, .string xt, .string (newD xt), .int .i64 ((newD xt).size : Int), .slice none 0 0, .slice none 0 0] 82)).cell? ⟨w.heap.size + 1, 4, none⟩ = some (.slice xA xm xc) := HP.out.d.cell 4
  have z0 : (w4.alloc (.cells #[.string xnm, .string xt, .string (newD xt), .int .i64 ((newD xt).size : Int), .slice none 0 0, .slice none 0 0] 82)).cell? ⟨w.heap.size + 1 + 1, 0, none⟩ = some (.slice none 0 0) := HP.out.z.cell 0
  have zf0 := HP.out.z.frozen 0
  refine sched_back (by rw [HF1.out]; exact ⟨p0, d2, d3⟩) ?_
  repeat (first | (refine wpSched_free rfl ?_; intro K hK; go_big_quiet_op; go_big_quiet_on) | (refine wpSched_wantS _ rfl rfl rfl ?_; intro K hK; go_big_quiet_op; go_big_quiet_on) | (refine wpSched_skipS _ rfl rfl rfl rfl ?_; simp only [Act.put, List.setIfInBounds_toArray, List.set_cons_zero, List.set_cons_succ]) | (refine wpSched_skipU _ rfl rfl rfl ?_; simp only [Act.put, List.setIfInBounds_toArray, List.set_cons_zero, List.set_cons_succ]))
  refine wpSched_other ?_
  clear p0 d0 d1 d2 d3 d4 z0 zf0
  go_wp2_with (at_builtin; go_must (refine wpList_appG rfl _ _ _ rfl w2.drew.heap.size 82 i0 _ 6 104 Tryz.underlying27 hi0 hz0 hz1 hz2 rfl (by omega) _ N (rcCells rs) rfl hownA ⟨w4.heap.size, 0, none⟩ 1 1 [.string xnm, .string xt, .string (newD xt), .int .i64 ((newD xt).size : Int), .slice none 0 0, .slice none 0 0] rfl rfl hnw (by simp [Value.oneCell']) (by omega) (by omega) hsA ?_); intro v6 w6 hown6 hg6 hb6; obtain ⟨A6, c6, rfl, _, _, _⟩ := OwnO.form (OwnO.of_own hown6))
  have HP6 : Hid (H3 w6 w.heap.size (.slice A N c) ⟨1, xn, xnm, xt, xA, xm, xc, xl⟩ (.slice none 0 0)) := HP5.out.grown hg6 (fun k hk => Nat.lt_of_lt_of_le hg2 (hownA.lt k hk).1)
  have HB6 : Hid (Below w.heap.size w w6) := HB5.out.trans (hb6.mono hs2)
  have HO6 : Hid (OwnO w6 w2.drew.heap.size 82 6 (.slice A6 (N + 1) c6) (N + 1) (rcCells (rs ++ [⟨newPs xnm xt, none, 0, none, 0⟩]))) := by
    rw [Hid, rcCells_append]
    exact OwnO.of_own hown6
  have hl : (rs ++ [(⟨newPs xnm xt, none, 0, none, 0⟩ : Rc)]).length = N + 1 := by rw [List.length_append, HN.out]; rfl
  have HLL := Lib.hid hl
  clear hl hown6 hg6 hb6 hownA hnw hsA HP HP5 HB5
  have HP := HP6
  have p0 : w6.cell? ⟨w.heap.size, 0, none⟩ = some (.slice A N c) := HP.out.p.cell 0
  have d0 : w6.cell? ⟨w.heap.size + 1, 0, none⟩ = some (.int .i64 1) := HP.out.d.cell 0
  have d1 : w6.cell? ⟨w.heap.size + 1, 1, none⟩ = some (.int .i64 xn) := HP.out.d.cell 1
  have d2 : w6.cell? ⟨w.heap.size + 1, 2, none⟩ = some (.string xnm) := HP.out.d.cell 2
  have d3 : w6.cell? ⟨w.heap.size + 1, 3, none⟩ = some (.string xt) := HP.out.d.cell 3
  have d4 : w6.cell? ⟨w.heap.size + 1, 4, none⟩ = some (.slice xA xm xc) := HP.out.d.cell 4
  have z0 : w6.cell? ⟨w.heap.size + 1 + 1, 0, none⟩ = some (.slice none 0 0) := HP.out.z.cell 0
  have zf0 := HP.out.z.frozen 0
  refine sched_back (by rw [HF1.out]; exact ⟨p0, d2, d3⟩) ?_
  repeat (first | (refine wpSched_free rfl ?_; intro K hK; go_big_quiet_op; go_big_quiet_on) | (refine wpSched_wantS _ rfl rfl rfl ?_; intro K hK; go_big_quiet_op; go_big_quiet_on) | (refine wpSched_skipS _ rfl rfl rfl rfl ?_; simp only [Act.put, List.setIfInBounds_toArray, List.set_cons_zero, List.set_cons_succ]) | (refine wpSched_skipU _ rfl rfl rfl ?_; simp only [Act.put, List.setIfInBounds_toArray, List.set_cons_zero, List.set_cons_succ]))
  refine wpSched_other ?_
  go_wp2_with fail
  have q0 : (w6.setCell ⟨w.heap.size + 1 + 1, 0, none⟩ (.slice A6 (N + 1) c6)).cell? ⟨w.heap.size, 0, none⟩ = some (.slice A N c) := (HP6.out.p.far (p := ⟨w.heap.size + 1 + 1, 0, none⟩) (by show w.heap.size ≠ w.heap.size + 1 + 1; omega) _).cell 0
  have q2 : (w6.setCell ⟨w.heap.size + 1 + 1, 0, none⟩ (.slice A6 (N + 1) c6)).cell? ⟨w.heap.size + 1, 2, none⟩ = some (.string xnm) := (HP6.out.d.far (p := ⟨w.heap.size + 1 + 1, 0, none⟩) (by show w.heap.size + 1 ≠ w.heap.size + 1 + 1; omega) _).cell 2
  have q3 : (w6.setCell ⟨w.heap.size + 1 + 1, 0, none⟩ (.slice A6 (N + 1) c6)).cell? ⟨w.heap.size + 1, 3, none⟩ = some (.string xt) := (HP6.out.d.far (p := ⟨w.heap.size + 1 + 1, 0, none⟩) (by show w.heap.size + 1 ≠ w.heap.size + 1 + 1; omega) _).cell 3
  refine sched_back (by rw [HF1.out]; exact ⟨q0, q2, q3⟩) ?_
  repeat (first | (refine wpSched_free rfl ?_; intro K hK; go_big_quiet_op; go_big_quiet_on) | (refine wpSched_wantS _ rfl rfl rfl ?_; intro K hK; go_big_quiet_op; go_big_quiet_on) | (refine wpSched_skipS _ rfl rfl rfl rfl ?_; simp only [Act.put, List.setIfInBounds_toArray, List.set_cons_zero, List.set_cons_succ]) | (refine wpSched_skipU _ rfl rfl rfl ?_; simp only [Act.put, List.setIfInBounds_toArray, List.set_cons_zero, List.set_cons_succ]))
  refine wpSched_nil ?_
  go_wp2_with fail
  (apply bodyPost_ret; (simp [results, Tryz.results9, go_sem, z0]; rfl); rfl)
  refine ⟨A6, c6, rs ++ [⟨newPs xnm xt, none, 0, none, 0⟩], ?_, by rw [List.map_append]; rfl, rh_fin HO6.out HLL.out (fun k hk => Nat.lt_of_lt_of_le (HKK.out k hk) hs2) hg2 (fun r hr => ?_), bel1 HB6.out (le2 _)⟩
  · rw [HLL.out]
  · rcases List.mem_append.1 hr with hr | hr
    · exact (HRR.out _ (bel1 HB6.out (le2 _))).pg r hr
    · rw [List.mem_singleton.1 hr]; exact rc_nil _ K _ rfl rfl
end Go.Proofs.YtplgghjdidmcfaaGreatDoor
namespace Go.Proofs.YtplgghjdidmcfaaGreatDoor
open Go.RowKit
theorem pg_bad {s : Ps} {x : Dd} (h : pgE s x ≠ 0) : pgP s x = s := by
  unfold pgE at h
  unfold pgP
  by_cases e2 : x.kind = 2
  · rw [if_pos e2] at h ⊢
    unfold edP; rw [if_neg h]
  rw [if_neg e2] at h ⊢
  by_cases e3 : x.kind = 3
  · rw [if_pos e3] at h ⊢
    unfold unP; rw [if_neg h]
  rw [if_neg e3] at h ⊢
  by_cases e4 : x.kind = 4
  · rw [if_pos e4] at h ⊢
    unfold reP; rw [if_neg h]
  rw [if_neg e4] at h ⊢
  by_cases e5 : x.kind = 5
  · rw [if_pos e5] at h
    exact absurd rfl h
  rw [if_neg e5] at h ⊢
  by_cases e6 : x.kind = 6
  · rw [if_pos e6] at h ⊢
    exact paP_bad h
  rw [if_neg e6] at h ⊢
  by_cases e7 : x.kind = 7
  · rw [if_pos e7] at h ⊢
    unfold crP; rw [if_neg h]
  rw [if_neg e7] at h ⊢
  unfold mkPE at h
  unfold mkP
  by_cases hm : mkE s.tx x.text = 0
  · rw [if_pos hm] at h ⊢
    unfold edP; rw [if_neg h]
  · rw [if_neg hm]
theorem setK {w : World} {K K2 : Nat → Prop} {r : Rc} {g i : Nat} {u : Value} (h : RcAt w K2 r) (hg : K2 g) (hK : ∀ k, K k → K2 k) : RcAt (w.setCell ⟨g, i, none⟩ u) K r :=
  (h.chg ((Chg.setH w ⟨g, i, none⟩ u).monoH fun k _ hk => by rw [hk]; exact hg)).mono fun k hk => .inl (hK k hk)
theorem below6p {w W : World} {B : Nat} {p : Addr} {a0 a1 a2 a3 a4 a5 : Value} (hb : Below B w W) (hg : B ≤ p.block) :
    Below B w ((((((W.setCell p a0).setCell ⟨p.block, p.off + 1, none⟩ a1).setCell ⟨p.block, p.off + 2, none⟩ a2).setCell ⟨p.block, p.off + 3, none⟩ a3).setCell ⟨p.block, p.off + 4, none⟩ a4).setCell ⟨p.block, p.off + 5, none⟩ a5) :=
  (((((hb.setCell (p := p) hg a0).setCell (p := ⟨p.block, p.off + 1, none⟩) hg a1).setCell (p := ⟨p.block, p.off + 2, none⟩) hg a2).setCell (p := ⟨p.block, p.off + 3, none⟩) hg a3).setCell (p := ⟨p.block, p.off + 4, none⟩) hg a4).setCell (p := ⟨p.block, p.off + 5, none⟩) hg a5
theorem H3.six {w : World} {g : Nat} {hv zv : Value} {x : Dd} {p : Addr} {a0 a1 a2 a3 a4 a5 : Value} (h : H3 w g hv x zv) (hp : g + 1 + 1 < p.block) :
    H3 ((((((w.setCell p a0).setCell ⟨p.block, p.off + 1, none⟩ a1).setCell ⟨p.block, p.off + 2, none⟩ a2).setCell ⟨p.block, p.off + 3, none⟩ a3).setCell ⟨p.block, p.off + 4, none⟩ a4).setCell ⟨p.block, p.off + 5, none⟩ a5) g hv x zv := by
  have one : ∀ {w : World} (q : Addr) (u : Value), q.block = p.block → H3 w g hv x zv → H3 (w.setCell q u) g hv x zv := fun q u hq h => ⟨h.p.far (by rw [hq]; omega) u, h.d.far (by rw [hq]; omega) u, h.z.far (by rw [hq]; omega) u⟩
  exact one _ _ rfl (one _ _ rfl (one _ _ rfl (one _ _ rfl (one _ _ rfl (one _ _ rfl h)))))
theorem add_j (ad : Addr) (k j : Nat) (hj : j ≠ 0) : ad.add (k + j) = ⟨(ad.add k).block, (ad.add k).off + j, none⟩ := by
  rw [← add_add]
  unfold Addr.add
  rw [if_neg hj]
theorem own_setRc {w : World} {B N c i : Nat} {ad : Addr} {rs : List Rc} (y : Rc) (h : OwnO w B 82 6 (.slice (some ad) N c) N (rcCells rs)) (hi : i < rs.length) (hN : rs.length = N) :
    OwnO ((((((w.setCell (ad.add (i * 6)) (.string y.s.nm)).setCell ⟨(ad.add (i * 6)).block, (ad.add (i * 6)).off + 1, none⟩ (.string y.s.tx)).setCell ⟨(ad.add (i * 6)).block, (ad.add (i * 6)).off + 2, none⟩ (.string y.s.d)).setCell ⟨(ad.add (i * 6)).block, (ad.add (i * 6)).off + 3, none⟩ (.int .i64 (y.s.sf : Int))).setCell ⟨(ad.add (i * 6)).block, (ad.add (i * 6)).off + 4, none⟩ (.slice y.Ab y.s.back.length y.cb)).setCell ⟨(ad.add (i * 6)).block, (ad.add (i * 6)).off + 5, none⟩ (.slice y.Ao y.s.onward.length y.co)) B 82 6 (.slice (some ad) N c) N (rcCells (rs.set i y)) := by
  obtain ⟨x0, hx0⟩ : ∃ x0, rs[i]? = some x0 := ⟨_, List.getElem?_eq_getElem hi⟩
  have key : ∀ (l : List Rc) (x z : Rc) (j : Nat) (u : Value), l[i]? = some x → z.cells = x.cells.set j u → j < 6 → (rcCells l).set (i * 6 + j) u = rcCells (l.set i z) := fun l x z j u h1 h2 h3 => flat_setH rc_len h3 l i x h1 h2
  have get : ∀ z : Rc, (rs.set i z)[i]? = some z := fun z => by rw [List.getElem?_set_self hi]
  obtain ⟨⟨n0, t0, d0, f0, b0, o0⟩, Ab0, cb0, Ao0, co0⟩ := x0
  obtain ⟨⟨yn, yt, yd, yf, yb, yo⟩, yAb, ycb, yAo, yco⟩ := y
  simp only
  rw [← add_j ad (i * 6) 1 (by decide), ← add_j ad (i * 6) 2 (by decide), ← add_j ad (i * 6) 3 (by decide), ← add_j ad (i * 6) 4 (by decide), ← add_j ad (i * 6) 5 (by decide)]
  have s0 := (own_setS h (j := i * 6 + 0) (by omega) (.string yn)).1
  rw [key rs _ ⟨⟨yn, t0, d0, f0, b0, o0⟩, Ab0, cb0, Ao0, co0⟩ 0 (.string yn) hx0 rfl (by decide)] at s0
  have s1 := (own_setS s0 (j := i * 6 + 1) (by omega) (.string yt)).1
  rw [key _ ⟨⟨yn, t0, d0, f0, b0, o0⟩, Ab0, cb0, Ao0, co0⟩ ⟨⟨yn, yt, d0, f0, b0, o0⟩, Ab0, cb0, Ao0, co0⟩ 1 (.string yt) (get _) rfl (by decide), List.set_set] at s1
  have s2 := (own_setS s1 (j := i * 6 + 2) (by omega) (.string yd)).1
  rw [key _ ⟨⟨yn, yt, d0, f0, b0, o0⟩, Ab0, cb0, Ao0, co0⟩ ⟨⟨yn, yt, yd, f0, b0, o0⟩, Ab0, cb0, Ao0, co0⟩ 2 (.string yd) (get _) rfl (by decide), List.set_set] at s2
  have s3 := (own_setS s2 (j := i * 6 + 3) (by omega) (.int .i64 (yf : Int))).1
  rw [key _ ⟨⟨yn, yt, yd, f0, b0, o0⟩, Ab0, cb0, Ao0, co0⟩ ⟨⟨yn, yt, yd, yf, b0, o0⟩, Ab0, cb0, Ao0, co0⟩ 3 (.int .i64 (yf : Int)) (get _) rfl (by decide), List.set_set] at s3
  have s4 := (own_setS s3 (j := i * 6 + 4) (by omega) (.slice yAb yb.length ycb)).1
  rw [key _ ⟨⟨yn, yt, yd, yf, b0, o0⟩, Ab0, cb0, Ao0, co0⟩ ⟨⟨yn, yt, yd, yf, yb, o0⟩, yAb, ycb, Ao0, co0⟩ 4 (.slice yAb yb.length ycb) (get _) rfl (by decide), List.set_set] at s4
  have s5 := (own_setS s4 (j := i * 6 + 5) (by omega) (.slice yAo yo.length yco)).1
  rw [key _ ⟨⟨yn, yt, yd, yf, yb, o0⟩, yAb, ycb, Ao0, co0⟩ ⟨⟨yn, yt, yd, yf, yb, yo⟩, yAb, ycb, yAo, yco⟩ 5 (.slice yAo yo.length yco) (get _) rfl (by decide), List.set_set] at s5
  exact s5
theorem own_lit {w : World} {B n c : Nat} {ad : Addr} {e : TypeId} {size : Nat} {xs : List Value} (h : OwnO w B e size (.slice (some ad) n c) n xs) (k : Nat) : ∃ g o, ad.add k = ⟨g, o, none⟩ ∧ g = ad.block := by
  rcases h.2 with ⟨h1, _⟩ | ⟨g, o, cap, cur, h1, _⟩
  · cases h1
  · injection h1 with h1 _ _
    injection h1 with h1
    subst h1
    exact ⟨g, o + k, by unfold Addr.add; split <;> simp_all, rfl⟩
end Go.Proofs.YtplgghjdidmcfaaGreatDoor
