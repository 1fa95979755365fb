/- The reference's deeds at a house. The reference's deeds at a house. The reference's deeds at a house. -/
import Derived.Test.YtplgghjdidmcfaaGreatDoorPk32
import Derived.Test.YtplgghjdidmcfaaGreatDoorPk26
import Derived.Test.YtplgghjdidmcfaaGreatDoorPk04
namespace Go.Proofs.YtplgghjdidmcfaaGreatDoor
open Go.RowKit
set_option maxRecDepth 100000 in
set_option maxHeartbeats 8000000 in
theorem refDo_page (A : Option Addr) (c : Nat) (rs : List Rc) (x : Dd) (K : Nat → Prop) (w : World) (hf : RoOk w K A c rs x) (h2 : 2 ≤ x.kind) (h10 : x.kind ≤ 10) (h8 : x.kind ≠ 8) (h9 : x.kind ≠ 9) (hn : named x.name = true) (i : Nat) (hi : fnd x.name (rs.map Rc.s) = i) (hil : i < rs.length) : Calls Tryz.prog 9 #[.agg #[.slice A rs.length c], x.val, .func (.func 10) #[] #[]] w (RoAns w K rs x) := by
  obtain ⟨i0, hi0, hz0, hz1, hz2⟩ := info_parts info_rc
  obtain ⟨hq1, hq2, hq3⟩ := hs_pageRc (rs := rs) h2 h10 h8 h9 hn hi hil
  have hrk : RcAt w K rs[i] := hf.at_.pg _ (List.getElem_mem hil)
  have hokr : PsOk rs[i].s := hf.o.pg _ (List.mem_map_of_mem (List.getElem_mem hil))
  have HPG := Lib.hid (fun W (K' : Nat → Prop) (hW : Below w.heap.size w W) (hK1 : ∀ k, K' k → K k ∨ w.heap.size ≤ k) (hK2 : ∀ k, K' k → k < W.heap.size) => refPg_any rs[i] x K' W ⟨(hrk.mono hK1).below hW, hK2, hokr, (hf.e.below hW).more hW.size, hf.m, tabI_stays hf.t hW, hf.x.elim fun mx hmx => ⟨mx, (hW.cell (p := ⟨0, 0, none⟩) hf.g).trans hmx⟩, Nat.lt_of_lt_of_le hf.g hW.size⟩ h2 h10 h8 h9)
  have HBAD : Hid (pgE rs[i].s x ≠ 0 → pgP rs[i].s x = rs[i].s) := pg_bad
  have HSET : Hid ((rs.map Rc.s).set i rs[i].s = rs.map Rc.s) := by
    have e : rs[i].s = (rs.map Rc.s)[i]'(by rw [List.length_map]; exact hil) := by rw [List.getElem_map]
    rw [Hid, e, List.set_getElem_self]
  unfold PgAns at HPG
  obtain ⟨EX, hEX⟩ : ∃ EX, pgE rs[i].s x = EX := ⟨_, rfl⟩
  obtain ⟨PX, hPX⟩ : ∃ PX, pgP rs[i].s x = PX := ⟨_, rfl⟩
  rw [hEX] at hq1 HBAD HPG
  rw [hPX] at hq3 HBAD HPG
  obtain ⟨r, hr⟩ : ∃ r, rs[i] = r := ⟨_, rfl⟩
  rw [hr] at HPG HBAD HSET
  have HR := Lib.hid hr
  clear hEX hPX hrk hokr hr
  have hz : idxZ x.name (rs.map Rc.s) = (i : Int) := by rw [idxZ_pos (by rw [hi, List.length_map]; exact hil), hi]
  obtain ⟨hr, hK, hok, hnm, htx, hre, hxm, htb, ⟨mx, hmx⟩, hmg⟩ := hf
  have hn6 : rs.length ≤ 6 := by have := hok.n; rwa [List.length_map] at this
  have HOKP := Lib.hid hok
  have HRR : Hid (∀ W, Below w.heap.size w W → RhAt W K A c rs) := fun W hW => hr.below hW
  have HKK := Lib.hid hK
  have HRE : Hid (∀ W, Below w.heap.size w W → Rd W w.heap.size 3 x.A x.m (edCells x.l)) := fun W hW => hre.below hW
  have HTB : Hid (∀ W, Below w.heap.size w W → TabI W) := fun W hW => tabI_stays htb hW
  have HMX : Hid (∀ W, Below w.heap.size w W → W.cell? ⟨0, 0, none⟩ = some (.int .i64 mx)) := fun W hb => (hb.cell (p := ⟨0, 0, none⟩) hmg).trans hmx
  have HNM := Lib.hid (fun W => refNamed_any x.name W hnm)
  have HID := Lib.hid (fun W g (hW : Below w.heap.size w W) (hg : g < W.heap.size) (hc : W.cell? ⟨g, 2, none⟩ = some (.string x.name)) => idxRc_any rs x.name A rs.length c w.heap.size g W (hr.row.rd.below hW) hW.size (by omega) rfl hg hc)
  have HTX := Lib.hid htx
  have HXM := Lib.hid hxm
  have HH3 := Lib.hid (h3_new w (.slice A rs.length c) x)
  have hbA : Below w.heap.size w (((w.alloc (.cells #[.slice A rs.length c] 29)).alloc (.cells x.cells 32)).alloc (.cells #[.slice none 0 0] 29)) := (by repeat (first | exact Below.refl _ _ | assumption | refine Below.alloc ?_ (by first | exact Nat.le_refl _ | assumption | omega | (simp <;> omega)) _ | refine Below.setCell ?_ (by first | exact Nat.le_refl _ | assumption | omega | (simp <;> omega)) _ | refine Below.drew ?_ | refine below_drewN ?_ _))
  have HBA := Lib.hid hbA
  unfold RoAns
  rw [hq1, hq2, hq3]
  obtain ⟨wA, hwA⟩ : ∃ wA, wA = (((w.alloc (.cells #[.slice A rs.length c] 29)).alloc (.cells x.cells 32)).alloc (.cells #[.slice none 0 0] 29)) := ⟨_, rfl⟩
  rw [← hwA] at HH3 HBA
  have HWA := Lib.hid hwA
  clear hwA hr hK hok hnm htx hre hxm htb hmx hbA hq1 hq2 hq3
  rw [hn] at HNM
  rw [hz] at HID
  clear hz hi
  obtain ⟨xk, xn, xnm, xt, xA, xm, xc, xl⟩ := x
  unfold Dd.val
  unfold Dd.cells at HWA
  simp only at *
  obtain ⟨N, hN⟩ : ∃ N, rs.length = N := ⟨_, rfl⟩
  rw [hN] at HH3 HWA HID hn6 ⊢
  have HN := Lib.hid hN
  clear hN
  have hil2 : i < N := by have := HN.out; omega
  obtain ⟨⟨rn, rtx, rd, rsf, rb, ro⟩, rAb, rcb, rAo, rco⟩ := r
  unfold Rc.val Dd.val at HPG
  simp only at HPG h2 h10 h8 h9
  have g1 : decide (xk < 1) = false := decide_eq_false (by omega)
  have g2 : decide (10 < xk) = false := decide_eq_false (by omega)
  have g3 : (xk == 1) = false := by rw [beq_eq_false_iff_ne]; omega
  have g4 : (xk == 8) = false := by rw [beq_eq_false_iff_ne]; exact h8
  have g5 : (xk == 9) = false := by rw [beq_eq_false_iff_ne]; exact h9
  clear h2 h10 h8 h9
  go_enter Tryz.func9, Tryz.ntmps9
  go_wp2_with fail
  rw [← HWA.out]
  refine (HNM.out wA).mono ?_
  rintro e w1 ⟨rfl, hb1⟩
  have HB1 := Lib.hid (HBA.out.trans (hb1.mono HBA.out.size))
  have HP := Lib.hid (HH3.out.below hb1)
  clear hb1
  have p0 : w1.cell? ⟨w.heap.size, 0, none⟩ = some (.slice A N c) := HP.out.p.cell 0
  have d0 : w1.cell? ⟨w.heap.size + 1, 0, none⟩ = some (.int .i64 xk) := HP.out.d.cell 0
  have d1 : w1.cell? ⟨w.heap.size + 1, 1, none⟩ = some (.int .i64 xn) := HP.out.d.cell 1
  have d2 : w1.cell? ⟨w.heap.size + 1, 2, none⟩ = some (.string xnm) := HP.out.d.cell 2
  have d3 : w1.cell? ⟨w.heap.size + 1, 3, none⟩ = some (.string xt) := HP.out.d.cell 3
  have d4 : w1.cell? ⟨w.heap.size + 1, 4, none⟩ = some (.slice xA xm xc) := HP.out.d.cell 4
  have z0 : w1.cell? ⟨w.heap.size + 1 + 1, 0, none⟩ = some (.slice none 0 0) := HP.out.z.cell 0
  have zf0 := HP.out.z.frozen 0
  have hg1 : w.heap.size + 1 < w1.heap.size := HP.out.d.lt
  go_wp2_with fail
  refine (HID.out w1 _ HB1.out hg1 d2).mono ?_
  rintro e w2 ⟨rfl, hb2⟩
  have HB2 := Lib.hid (HB1.out.trans (hb2.mono HB1.out.size))
  have HP2 := Lib.hid (HP.out.below hb2)
  clear p0 d0 d1 d2 d3 d4 z0 zf0
  clear HP hb2 HID HNM hg1
  have HP := HP2
  have p0 : w2.cell? ⟨w.heap.size, 0, none⟩ = some (.slice A N c) := HP.out.p.cell 0
  have d0 : w2.cell? ⟨w.heap.size + 1, 0, none⟩ = some (.int .i64 xk) := HP.out.d.cell 0
  have d1 : w2.cell? ⟨w.heap.size + 1, 1, none⟩ = some (.int .i64 xn) := HP.out.d.cell 1
  have d2 : w2.cell? ⟨w.heap.size + 1, 2, none⟩ = some (.string xnm) := HP.out.d.cell 2
  have d3 : w2.cell? ⟨w.heap.size + 1, 3, none⟩ = some (.string xt) := HP.out.d.cell 3
  have d4 : w2.cell? ⟨w.heap.size + 1, 4, none⟩ = some (.slice xA xm xc) := HP.out.d.cell 4
  have z0 : w2.cell? ⟨w.heap.size + 1 + 1, 0, none⟩ = some (.slice none 0 0) := HP.out.z.cell 0
  have zf0 := HP.out.z.frozen 0
  have hrd := (HRR.out w2 HB2.out).row.rd
  rw [HN.out] at hrd
  obtain ⟨ad, hA, _, r0, r1, r2, r3, r4, r5⟩ := rc_cell hrd hil HN.out
  have hab := (HRR.out w (Below.refl _ _)).row.lt ad hA
  subst hA
  rw [HR.out] at r0 r1 r2 r3 r4 r5
  simp only at r0 r1 r2 r3 r4 r5
  obtain ⟨nb, hnb⟩ : ∃ nb, rb.length = nb := ⟨_, rfl⟩
  obtain ⟨no, hno⟩ : ∃ no, ro.length = no := ⟨_, rfl⟩
  rw [hnb] at r4 HPG
  rw [hno] at r5 HPG
  clear hnb hno
  have hgi : decide (i < N) = true := decide_eq_true hil2
  have hpb : (ad.add (i * 6)).block < w.heap.size := by rw [blk_add]; exact hab
  go_wp2_with fail
  obtain ⟨F1, hFd⟩ : ∃ F : World → Prop, F = fun w' => w'.cell? ⟨w.heap.size, 0, none⟩ = some (.slice (some ad) N c) ∧ w'.cell? ⟨w.heap.size + 1, 0, none⟩ = some (.int .i64 xk) ∧ w'.cell? ⟨w.heap.size + 1, 1, none⟩ = some (.int .i64 xn) ∧ w'.cell? ⟨w.heap.size + 1, 2, none⟩ = some (.string xnm) ∧ w'.cell? ⟨w.heap.size + 1, 3, none⟩ = some (.string xt) ∧ w'.cell? ⟨w.heap.size + 1, 4, none⟩ = some (.slice xA xm xc) ∧ w'.cell? (ad.add (i * 6)) = some (.string rn) ∧ w'.cell? ⟨(ad.add (i * 6)).block, (ad.add (i * 6)).off + 1, none⟩ = some (.string rtx) ∧ w'.cell? ⟨(ad.add (i * 6)).block, (ad.add (i * 6)).off + 2, none⟩ = some (.string rd) ∧ w'.cell? ⟨(ad.add (i * 6)).block, (ad.add (i * 6)).off + 3, none⟩ = some (.int .i64 (rsf : Int)) ∧ w'.cell? ⟨(ad.add (i * 6)).block, (ad.add (i * 6)).off + 4, none⟩ = some (.slice rAb nb rcb) ∧ w'.cell? ⟨(ad.add (i * 6)).block, (ad.add (i * 6)).off + 5, none⟩ = some (.slice rAo no rco) := ⟨_, rfl⟩
  have HF1 := Lib.hid hFd
  clear hFd
  have hcell10 : ∀ p' : Wof F1, p'.w.cell? ⟨w.heap.size, 0, none⟩ = some (.slice (some ad) N c) := fun ⟨x, hx⟩ => by rw [HF1.out] at hx; exact hx.1
  have hcell11 : ∀ p' : Wof F1, p'.w.cell? ⟨w.heap.size + 1, 0, none⟩ = some (.int .i64 xk) := fun ⟨x, hx⟩ => by rw [HF1.out] at hx; exact hx.2.1
  have hcell12 : ∀ p' : Wof F1, p'.w.cell? ⟨w.heap.size + 1, 1, none⟩ = some (.int .i64 xn) := fun ⟨x, hx⟩ => by rw [HF1.out] at hx; exact hx.2.2.1
  have hcell13 : ∀ p' : Wof F1, p'.w.cell? ⟨w.heap.size + 1, 2, none⟩ = some (.string xnm) := fun ⟨x, hx⟩ => by rw [HF1.out] at hx; exact hx.2.2.2.1
  have hcell14 : ∀ p' : Wof F1, p'.w.cell? ⟨w.heap.size + 1, 3, none⟩ = some (.string xt) := fun ⟨x, hx⟩ => by rw [HF1.out] at hx; exact hx.2.2.2.2.1
  have hcell15 : ∀ p' : Wof F1, p'.w.cell? ⟨w.heap.size + 1, 4, none⟩ = some (.slice xA xm xc) := fun ⟨x, hx⟩ => by rw [HF1.out] at hx; exact hx.2.2.2.2.2.1
  have hcell16 : ∀ p' : Wof F1, p'.w.cell? (ad.add (i * 6)) = some (.string rn) := fun ⟨x, hx⟩ => by rw [HF1.out] at hx; exact hx.2.2.2.2.2.2.1
  have hcell17 : ∀ p' : Wof F1, p'.w.cell? ⟨(ad.add (i * 6)).block, (ad.add (i * 6)).off + 1, none⟩ = some (.string rtx) := fun ⟨x, hx⟩ => by rw [HF1.out] at hx; exact hx.2.2.2.2.2.2.2.1
  have hcell18 : ∀ p' : Wof F1, p'.w.cell? ⟨(ad.add (i * 6)).block, (ad.add (i * 6)).off + 2, none⟩ = some (.string rd) := fun ⟨x, hx⟩ => by rw [HF1.out] at hx; exact hx.2.2.2.2.2.2.2.2.1
  have hcell19 : ∀ p' : Wof F1, p'.w.cell? ⟨(ad.add (i * 6)).block, (ad.add (i * 6)).off + 3, none⟩ = some (.int .i64 (rsf : Int)) := fun ⟨x, hx⟩ => by rw [HF1.out] at hx; exact hx.2.2.2.2.2.2.2.2.2.1
  have hcell110 : ∀ p' : Wof F1, p'.w.cell? ⟨(ad.add (i * 6)).block, (ad.add (i * 6)).off + 4, none⟩ = some (.slice rAb nb rcb) := fun ⟨x, hx⟩ => by rw [HF1.out] at hx; exact hx.2.2.2.2.2.2.2.2.2.2.1
  have hcell111 : ∀ p' : Wof F1, p'.w.cell? ⟨(ad.add (i * 6)).block, (ad.add (i * 6)).off + 5, none⟩ = some (.slice rAo no rco) := fun ⟨x, hx⟩ => by rw [HF1.out] at hx; exact hx.2.2.2.2.2.2.2.2.2.2.2
  refine wp_region_schedT (.op 0 true (.op 1 true (.op 2 true (.op 3 true (.op 4 true (.op 5 true (.op 6 true (.fork 7 11 (.op 8 true (.op 9 true (.op 10 true (.op 11 false (.op 12 false .nil))))) (.op 7 false (.op 8 true (.op 9 true (.op 10 true (.op 12 false .nil))))))))))))) 13 13 [] F1 (by kernel_rfl) (by kernel_rfl) (by kernel_rfl) rfl (fun _ _ _ _ _ h => h) (by kernel_rfl) (by rw [HF1.out]; first | ((repeat' apply And.intro) <;> assumption) | trivial | (simp; done) | (simp [*]; done)) (by rw [HF1.out]; exact fun h => h) ?_
  intro hne1
  simp only [opersT, opsAt, List.getElem?_toArray, List.getElem?_cons_succ, List.getElem?_cons_zero]
  repeat (first | (refine wpT_free rfl ?_; intro K hK; go_big_quiet_op; go_big_quiet_on) | (refine wpT_wantS _ rfl rfl rfl ?_; intro K hK; go_big_quiet_op; go_big_quiet_on) | (refine wpT_skipS _ rfl rfl rfl rfl ?_; simp only [Act.put, List.setIfInBounds_toArray, List.set_cons_zero, List.set_cons_succ]) | (refine wpT_skipU _ rfl rfl rfl ?_; simp only [Act.put, List.setIfInBounds_toArray, List.set_cons_zero, List.set_cons_succ]))
  have hgd : w.heap.size + 1 + 1 < w2.heap.size := HP2.out.z.lt
  have HQ : Hid (∀ W, Below w2.heap.size w2 W → (W.cell? ⟨w.heap.size, 0, none⟩ = some (.slice (some ad) N c) ∧ W.cell? ⟨w.heap.size + 1, 0, none⟩ = some (.int .i64 xk) ∧ W.cell? ⟨w.heap.size + 1, 1, none⟩ = some (.int .i64 xn) ∧ W.cell? ⟨w.heap.size + 1, 2, none⟩ = some (.string xnm) ∧ W.cell? ⟨w.heap.size + 1, 3, none⟩ = some (.string xt) ∧ W.cell? ⟨w.heap.size + 1, 4, none⟩ = some (.slice xA xm xc) ∧
      W.cell? (ad.add (i * 6)) = some (.string rn) ∧ W.cell? ⟨(ad.add (i * 6)).block, (ad.add (i * 6)).off + 1, none⟩ = some (.string rtx) ∧ W.cell? ⟨(ad.add (i * 6)).block, (ad.add (i * 6)).off + 2, none⟩ = some (.string rd) ∧ W.cell? ⟨(ad.add (i * 6)).block, (ad.add (i * 6)).off + 3, none⟩ = some (.int .i64 (rsf : Int)) ∧ W.cell? ⟨(ad.add (i * 6)).block, (ad.add (i * 6)).off + 4, none⟩ = some (.slice rAb nb rcb) ∧ W.cell? ⟨(ad.add (i * 6)).block, (ad.add (i * 6)).off + 5, none⟩ = some (.slice rAo no rco))) := fun W hW => by
    have l0 : w.heap.size < w2.heap.size := HP2.out.p.lt
    have l1 : w.heap.size + 1 < w2.heap.size := HP2.out.d.lt
    have lp : (ad.add (i * 6)).block < w2.heap.size := Nat.lt_trans hpb l0
    exact ⟨(hW.cell (p := ⟨w.heap.size, 0, none⟩) l0).trans p0, (hW.cell (p := ⟨w.heap.size + 1, 0, none⟩) l1).trans d0, (hW.cell (p := ⟨w.heap.size + 1, 1, none⟩) l1).trans d1, (hW.cell (p := ⟨w.heap.size + 1, 2, none⟩) l1).trans d2, (hW.cell (p := ⟨w.heap.size + 1, 3, none⟩) l1).trans d3, (hW.cell (p := ⟨w.heap.size + 1, 4, none⟩) l1).trans d4,
      (hW.cell (p := ad.add (i * 6)) lp).trans r0, (hW.cell (p := ⟨(ad.add (i * 6)).block, (ad.add (i * 6)).off + 1, none⟩) lp).trans r1, (hW.cell (p := ⟨(ad.add (i * 6)).block, (ad.add (i * 6)).off + 2, none⟩) lp).trans r2, (hW.cell (p := ⟨(ad.add (i * 6)).block, (ad.add (i * 6)).off + 3, none⟩) lp).trans r3, (hW.cell (p := ⟨(ad.add (i * 6)).block, (ad.add (i * 6)).off + 4, none⟩) lp).trans r4, (hW.cell (p := ⟨(ad.add (i * 6)).block, (ad.add (i * 6)).off + 5, none⟩) lp).trans r5⟩
  clear p0 d0 d1 d2 d3 d4 z0 zf0
  clear r0 r1 r2 r3 r4 r5 HP
  refine wpT_fork ?_ ?_
  · have HBW : Hid (Below w2.heap.size w2 w2.drew) := Below.drew (Below.refl _ _)
    go_wp2_with fail
    have HBX : Hid (Below w.heap.size w w2.drew) := HB2.out.trans (HBW.out.mono HB2.out.size)
    refine (HPG.out w2.drew (fun k => K k ∨ k = w.heap.size + 1 + 1) HBX.out (fun k hk => hk.elim .inl fun e => .inr (by omega)) (fun k hk => hk.elim (fun h => Nat.lt_of_lt_of_le (HKK.out k h) HBX.out.size) (fun e => by rw [e]; exact Nat.lt_of_lt_of_le hgd HBW.out.size))).mono ?_
    rintro e w3 ⟨r', rfl, hs', hat', hb3⟩
    obtain ⟨⟨an, atx, adt, asf, ab, ao⟩, aAb, acb, aAo, aco⟩ := r'
    simp only at hs'
    have HS := Lib.hid hs'
    have HAT := Lib.hid hat'
    obtain ⟨nab, hnab⟩ : ∃ nab, ab.length = nab := ⟨_, rfl⟩
    obtain ⟨nao, hnao⟩ : ∃ nao, ao.length = nao := ⟨_, rfl⟩
    have HNAB := Lib.hid hnab
    have HNAO := Lib.hid hnao
    have HBN := Lib.hid (HBW.out.trans (hb3.mono HBW.out.size))
    have HB3 := Lib.hid hb3
    clear hb3 hs' hat'
    simp only
    rw [hnab, hnao]
    clear hnab hnao
    go_wp2_with fail
    refine sched_back (by rw [HF1.out]; exact HQ.out w3 HBN.out) ?_
    repeat (first | (refine wpT_free rfl ?_; intro K hK; go_big_quiet_op; go_big_quiet_on) | (refine wpT_wantS _ rfl rfl rfl ?_; intro K hK; go_big_quiet_op; go_big_quiet_on) | (refine wpT_skipS _ rfl rfl rfl rfl ?_; simp only [Act.put, List.setIfInBounds_toArray, List.set_cons_zero, List.set_cons_succ]) | (refine wpT_skipU _ rfl rfl rfl ?_; simp only [Act.put, List.setIfInBounds_toArray, List.set_cons_zero, List.set_cons_succ]))
    refine wpT_other ?_
    go_wp2_with fail
    have hb2 : w2.heap.size ≤ w3.heap.size := HBN.out.size
    have P2 : Hid (Blk (w3.alloc (.cells zPage 82)) w3.heap.size 82 zPage) := Blk.new_ _ _ _
    have hbn : Below w3.heap.size w3 (w3.alloc (.cells zPage 82)) := (Below.refl _ _).alloc (Nat.le_refl _) _
    have HB24 : Hid (Below w2.heap.size w2 (w3.alloc (.cells zPage 82))) := HBN.out.trans (hbn.mono HBN.out.size)
    have HP4 : Hid (H3 (w3.alloc (.cells zPage 82)) w.heap.size (.slice (some ad) N c) ⟨xk, xn, xnm, xt, xA, xm, xc, xl⟩ (.slice none 0 0)) := HP2.out.below HB24.out
    have HAT4 : Hid (RcAt (w3.alloc (.cells zPage 82)) (fun k => K k ∨ k = w.heap.size + 1 + 1 ∨ k = w3.heap.size) ⟨⟨an, atx, adt, asf, ab, ao⟩, aAb, acb, aAo, aco⟩) := (HAT.out.mono (fun k hk => hk.elim (fun h => .inl (.inl h)) fun h => h.elim (fun h => .inl (.inr h)) fun h => .inr (by omega))).below hbn
    clear hbn HAT
    generalize (w3.alloc (.cells zPage 82)) = w4 at *
    refine sched_back (by rw [HF1.out]; exact HQ.out w4 HB24.out) ?_
    repeat (first | (refine wpT_free rfl ?_; intro K hK; go_big_quiet_op; go_big_quiet_on) | (refine wpT_wantS _ rfl rfl rfl ?_; intro K hK; go_big_quiet_op; go_big_quiet_on) | (refine wpT_skipS _ rfl rfl rfl rfl ?_; simp only [Act.put, List.setIfInBounds_toArray, List.set_cons_zero, List.set_cons_succ]) | (refine wpT_skipU _ rfl rfl rfl ?_; simp only [Act.put, List.setIfInBounds_toArray, List.set_cons_zero, List.set_cons_succ]))
    refine wpT_other ?_
    have y0 := P2.out.cell 0; have y1 := P2.out.cell 1; have y2 := P2.out.cell 2; have y3 := P2.out.cell 3; have y4 := P2.out.cell 4; have y5 := P2.out.cell 5
    have yf0 := P2.out.frozen 0; have yf1 := P2.out.frozen 1; have yf2 := P2.out.frozen 2; have yf3 := P2.out.frozen 3; have yf4 := P2.out.frozen 4; have yf5 := P2.out.frozen 5
    go_wp2_with fail
    clear y0 y1 y2 y3 y4 y5 yf0 yf1 yf2 yf3 yf4 yf5
    have HB25 : Hid (Below w2.heap.size w2 ((((((w4.setCell ⟨w3.heap.size, 0, none⟩ (.string an)).setCell ⟨w3.heap.size, 1, none⟩ (.string atx)).setCell ⟨w3.heap.size, 2, none⟩ (.string adt)).setCell ⟨w3.heap.size, 3, none⟩ (.int .i64 (asf : Int))).setCell ⟨w3.heap.size, 4, none⟩ (.slice aAb nab acb)).setCell ⟨w3.heap.size, 5, none⟩ (.slice aAo nao aco))) := bel6 HB24.out hb2
    have P5 : Hid (Blk ((((((w4.setCell ⟨w3.heap.size, 0, none⟩ (.string an)).setCell ⟨w3.heap.size, 1, none⟩ (.string atx)).setCell ⟨w3.heap.size, 2, none⟩ (.string adt)).setCell ⟨w3.heap.size, 3, none⟩ (.int .i64 (asf : Int))).setCell ⟨w3.heap.size, 4, none⟩ (.slice aAb nab acb)).setCell ⟨w3.heap.size, 5, none⟩ (.slice aAo nao aco)) w3.heap.size 82 #[.string an, .string atx, .string adt, .int .i64 (asf : Int), .slice aAb nab acb, .slice aAo nao aco]) := (((((P2.out.set_ 0 _).set_ 1 _).set_ 2 _).set_ 3 _).set_ 4 _).set_ 5 _
    have HP5 : Hid (H3 ((((((w4.setCell ⟨w3.heap.size, 0, none⟩ (.string an)).setCell ⟨w3.heap.size, 1, none⟩ (.string atx)).setCell ⟨w3.heap.size, 2, none⟩ (.string adt)).setCell ⟨w3.heap.size, 3, none⟩ (.int .i64 (asf : Int))).setCell ⟨w3.heap.size, 4, none⟩ (.slice aAb nab acb)).setCell ⟨w3.heap.size, 5, none⟩ (.slice aAo nao aco)) w.heap.size (.slice (some ad) N c) ⟨xk, xn, xnm, xt, xA, xm, xc, xl⟩ (.slice none 0 0)) := HP4.out.six (p := ⟨w3.heap.size, 0, none⟩) (show w.heap.size + 1 + 1 < w3.heap.size by omega)
    have HAT5 : Hid (RcAt ((((((w4.setCell ⟨w3.heap.size, 0, none⟩ (.string an)).setCell ⟨w3.heap.size, 1, none⟩ (.string atx)).setCell ⟨w3.heap.size, 2, none⟩ (.string adt)).setCell ⟨w3.heap.size, 3, none⟩ (.int .i64 (asf : Int))).setCell ⟨w3.heap.size, 4, none⟩ (.slice aAb nab acb)).setCell ⟨w3.heap.size, 5, none⟩ (.slice aAo nao aco)) (fun k => K k ∨ k = w.heap.size + 1 + 1 ∨ k = w3.heap.size) ⟨⟨an, atx, adt, asf, ab, ao⟩, aAb, acb, aAo, aco⟩) := setK (setK (setK (setK (setK (setK HAT4.out (.inr (.inr rfl)) fun k hk => hk) (.inr (.inr rfl)) fun k hk => hk) (.inr (.inr rfl)) fun k hk => hk) (.inr (.inr rfl)) fun k hk => hk) (.inr (.inr rfl)) fun k hk => hk) (.inr (.inr rfl)) fun k hk => hk
    clear P2 HP4 HAT4 HB24
    generalize ((((((w4.setCell ⟨w3.heap.size, 0, none⟩ (.string an)).setCell ⟨w3.heap.size, 1, none⟩ (.string atx)).setCell ⟨w3.heap.size, 2, none⟩ (.string adt)).setCell ⟨w3.heap.size, 3, none⟩ (.int .i64 (asf : Int))).setCell ⟨w3.heap.size, 4, none⟩ (.slice aAb nab acb)).setCell ⟨w3.heap.size, 5, none⟩ (.slice aAo nao aco)) = w5 at *
    refine sched_back (by rw [HF1.out]; exact HQ.out w5 HB25.out) ?_
    repeat (first | (refine wpT_free rfl ?_; intro K hK; go_big_quiet_op; go_big_quiet_on) | (refine wpT_wantS _ rfl rfl rfl ?_; intro K hK; go_big_quiet_op; go_big_quiet_on) | (refine wpT_skipS _ rfl rfl rfl rfl ?_; simp only [Act.put, List.setIfInBounds_toArray, List.set_cons_zero, List.set_cons_succ]) | (refine wpT_skipU _ rfl rfl rfl ?_; simp only [Act.put, List.setIfInBounds_toArray, List.set_cons_zero, List.set_cons_succ]))
    refine wpT_nil ?_
    refine wpTail_cons ?_
    go_wp2_with fail
    refine tail_back ?_
    refine wpTail_nil ?_
    clear HF1
    have HB5 : Hid (Below w.heap.size w w5) := HB2.out.trans (HB25.out.mono HB2.out.size)
    have HP := HP5
    have hg5 : w.heap.size + 1 + 1 < w5.heap.size := HP5.out.z.lt
    have p0 : w5.cell? ⟨w.heap.size, 0, none⟩ = some (.slice (some ad) N c) := HP.out.p.cell 0
    have d0 : w5.cell? ⟨w.heap.size + 1, 0, none⟩ = some (.int .i64 xk) := HP.out.d.cell 0
    have d1 : w5.cell? ⟨w.heap.size + 1, 1, none⟩ = some (.int .i64 xn) := HP.out.d.cell 1
    have d2 : w5.cell? ⟨w.heap.size + 1, 2, none⟩ = some (.string xnm) := HP.out.d.cell 2
    have d3 : w5.cell? ⟨w.heap.size + 1, 3, none⟩ = some (.string xt) := HP.out.d.cell 3
    have d4 : w5.cell? ⟨w.heap.size + 1, 4, none⟩ = some (.slice xA xm xc) := HP.out.d.cell 4
    have z0 : w5.cell? ⟨w.heap.size + 1 + 1, 0, none⟩ = some (.slice none 0 0) := HP.out.z.cell 0
    have zf0 := HP.out.z.frozen 0
    by_cases hE : EX = 0
    · subst hE
      have hrd5 := (HRR.out w5 HB5.out).row.rd
      rw [HN.out] at hrd5
      have HCL := Lib.hid (clone_pg (some ad) N c w5.heap.size (rcCells rs) w5 hrd5 (Nat.le_refl _) (rc_one rs) (by omega))
      clear hrd5
      go_wp2_with fail
      refine HCL.out.mono ?_
      rintro e w6 ⟨v6, rfl, hown6, hb6⟩
      have hO6 := OwnO.of_own hown6
      obtain ⟨A6, c6, rfl, _, _, hrd6⟩ := OwnO.form hO6
      obtain ⟨a6, hA6, _, e0, e1, e2, e3, e4, e5⟩ := rc_cell hrd6 hil HN.out
      subst hA6
      have f0 : w6.frozen? (a6.add (i * 6)) = false := (own_setS hO6 (j := i * 6) (by omega) (.bool true)).2
      have f1 : w6.frozen? ⟨(a6.add (i * 6)).block, (a6.add (i * 6)).off + 1, none⟩ = false := by rw [← add_j a6 (i * 6) 1 (by decide)]; exact (own_setS hO6 (j := i * 6 + 1) (by omega) (.bool true)).2
      have f2 : w6.frozen? ⟨(a6.add (i * 6)).block, (a6.add (i * 6)).off + 2, none⟩ = false := by rw [← add_j a6 (i * 6) 2 (by decide)]; exact (own_setS hO6 (j := i * 6 + 2) (by omega) (.bool true)).2
      have f3 : w6.frozen? ⟨(a6.add (i * 6)).block, (a6.add (i * 6)).off + 3, none⟩ = false := by rw [← add_j a6 (i * 6) 3 (by decide)]; exact (own_setS hO6 (j := i * 6 + 3) (by omega) (.bool true)).2
      have f4 : w6.frozen? ⟨(a6.add (i * 6)).block, (a6.add (i * 6)).off + 4, none⟩ = false := by rw [← add_j a6 (i * 6) 4 (by decide)]; exact (own_setS hO6 (j := i * 6 + 4) (by omega) (.bool true)).2
      have f5 : w6.frozen? ⟨(a6.add (i * 6)).block, (a6.add (i * 6)).off + 5, none⟩ = false := by rw [← add_j a6 (i * 6) 5 (by decide)]; exact (own_setS hO6 (j := i * 6 + 5) (by omega) (.bool true)).2
      have hP6 := P5.out.below' hb6
      have y0 := hP6.cell 0; have y1 := hP6.cell 1; have y2 := hP6.cell 2; have y3 := hP6.cell 3; have y4 := hP6.cell 4; have y5 := hP6.cell 5
      obtain ⟨g6, O6, hpa, hg6⟩ := own_lit hO6 (i * 6)
      have hab6 : w5.heap.size ≤ g6 := by rw [hg6]; exact (hO6.lt a6.block rfl).1
      clear hg6
      have hO7 := own_setRc ⟨⟨an, atx, adt, asf, ab, ao⟩, aAb, acb, aAo, aco⟩ hO6 hil HN.out
      simp only [hpa] at hO7 e0 e1 e2 e3 e4 e5 f0 f1 f2 f3 f4 f5
      rw [HNAB.out, HNAO.out] at hO7
      have hP7 : H3 ((((((w6.setCell ⟨g6, O6, none⟩ (.string an)).setCell ⟨g6, O6 + 1, none⟩ (.string atx)).setCell ⟨g6, O6 + 2, none⟩ (.string adt)).setCell ⟨g6, O6 + 3, none⟩ (.int .i64 (asf : Int))).setCell ⟨g6, O6 + 4, none⟩ (.slice aAb nab acb)).setCell ⟨g6, O6 + 5, none⟩ (.slice aAo nao aco)) w.heap.size (.slice (some ad) N c) ⟨xk, xn, xnm, xt, xA, xm, xc, xl⟩ (.slice none 0 0) := (HP5.out.below hb6).six (p := ⟨g6, O6, none⟩) (show w.heap.size + 1 + 1 < g6 by omega)
      have hB57 : Below w5.heap.size w5 ((((((w6.setCell ⟨g6, O6, none⟩ (.string an)).setCell ⟨g6, O6 + 1, none⟩ (.string atx)).setCell ⟨g6, O6 + 2, none⟩ (.string adt)).setCell ⟨g6, O6 + 3, none⟩ (.int .i64 (asf : Int))).setCell ⟨g6, O6 + 4, none⟩ (.slice aAb nab acb)).setCell ⟨g6, O6 + 5, none⟩ (.slice aAo nao aco)) := below6p (p := ⟨g6, O6, none⟩) hb6 hab6
      have hB7 : Below w.heap.size w ((((((w6.setCell ⟨g6, O6, none⟩ (.string an)).setCell ⟨g6, O6 + 1, none⟩ (.string atx)).setCell ⟨g6, O6 + 2, none⟩ (.string adt)).setCell ⟨g6, O6 + 3, none⟩ (.int .i64 (asf : Int))).setCell ⟨g6, O6 + 4, none⟩ (.slice aAb nab acb)).setCell ⟨g6, O6 + 5, none⟩ (.slice aAo nao aco)) := HB5.out.trans (hB57.mono HB5.out.size)
      have hA7 := HAT5.out.below hB57
      obtain ⟨w7, hW7⟩ : ∃ w7, ((((((w6.setCell ⟨g6, O6, none⟩ (.string an)).setCell ⟨g6, O6 + 1, none⟩ (.string atx)).setCell ⟨g6, O6 + 2, none⟩ (.string adt)).setCell ⟨g6, O6 + 3, none⟩ (.int .i64 (asf : Int))).setCell ⟨g6, O6 + 4, none⟩ (.slice aAb nab acb)).setCell ⟨g6, O6 + 5, none⟩ (.slice aAo nao aco)) = w7 := ⟨_, rfl⟩
      rw [hW7] at hO7 hP7 hB7 hA7
      have HO7 := Lib.hid hO7
      have HB7 := Lib.hid hB7
      have HA7 := Lib.hid hA7
      have z7 : w7.cell? ⟨w.heap.size + 1 + 1, 0, none⟩ = some (.slice none 0 0) := hP7.z.cell 0
      have zf7 := hP7.z.frozen 0
      clear hO7 hP7 hB7 hA7 hB57 hO6 hown6 hrd6 hP6 HCL HP5 P5 HP hb6
      clear p0 d0 d1 d2 d3 d4 z0 zf0
      go_wp2_with (first | rw [hpa] | rw [hW7])
      (apply bodyPost_ret; (simp [results, Tryz.results9, go_sem, z7]; rfl); rfl)
      refine ⟨some a6, c6, rs.set i ⟨⟨an, atx, adt, asf, ab, ao⟩, aAb, acb, aAo, aco⟩, ?_, ?_, rh_fin HO7.out (by rw [List.length_set]; exact HN.out) (fun k hk => Nat.lt_of_lt_of_le (HKK.out k hk) HB5.out.size) hg5 (fun r hr => ?_), bel1 HB7.out (le2 _)⟩
      · rw [List.length_set, HN.out]
      · rw [List.map_set]
        exact congrArg _ HS.out
      · rcases List.mem_or_eq_of_mem_set hr with hr | hr
        · exact (HRR.out _ (bel1 HB7.out (le2 _))).pg r hr
        · rw [hr]; exact setK HA7.out (.inr (.inl rfl)) fun k hk => .inl hk
    · have g6 : (EX == 0) = false := by rw [beq_eq_false_iff_ne]; exact hE
      go_wp2_with fail
      (apply bodyPost_ret; (simp [results, Tryz.results9, go_sem, z0]; rfl); rfl)
      refine ⟨some ad, c, rs, ?_, ?_, fin_rh (bel1 HB5.out (le2 _)) HRR.out⟩
      · rw [HN.out]
      · rw [HBAD.out hE]; exact HSET.out.symm
  · go_wp2_with fail
    have hb2 : w2.heap.size ≤ w2.heap.size := Nat.le_refl _
    have P0 : Hid (Blk (w2.alloc (.cells zPage 82)).drew w2.heap.size 82 zPage) := (Blk.new_ _ _ _).drew
    have HBW : Hid (Below w2.heap.size w2 (w2.alloc (.cells zPage 82)).drew) := ((Below.refl _ _).alloc (Nat.le_refl _) _).drew
    have hl3 : w2.heap.size < (w2.alloc (.cells zPage 82)).drew.heap.size := P0.out.lt
    generalize (w2.alloc (.cells zPage 82)).drew = w3 at *
    refine sched_back (by rw [HF1.out]; exact HQ.out w3 HBW.out) ?_
    repeat (first | (refine wpT_free rfl ?_; intro K hK; go_big_quiet_op; go_big_quiet_on) | (refine wpT_wantS _ rfl rfl rfl ?_; intro K hK; go_big_quiet_op; go_big_quiet_on) | (refine wpT_skipS _ rfl rfl rfl rfl ?_; simp only [Act.put, List.setIfInBounds_toArray, List.set_cons_zero, List.set_cons_succ]) | (refine wpT_skipU _ rfl rfl rfl ?_; simp only [Act.put, List.setIfInBounds_toArray, List.set_cons_zero, List.set_cons_succ]))
    refine wpT_other ?_
    go_wp2_with fail
    have HBX : Hid (Below w.heap.size w w3) := HB2.out.trans (HBW.out.mono HB2.out.size)
    refine (HPG.out w3 (fun k => K k ∨ k = w.heap.size + 1 + 1 ∨ k = w2.heap.size) HBX.out (fun k hk => hk.elim .inl (fun h => .inr (by omega))) (fun k hk => hk.elim (fun h => Nat.lt_of_lt_of_le (HKK.out k h) HBX.out.size) (fun h => h.elim (fun e => by rw [e]; omega) (fun e => by rw [e]; exact hl3)))).mono ?_
    rintro e w4 ⟨r', rfl, hs', hat', hb3⟩
    obtain ⟨⟨an, atx, adt, asf, ab, ao⟩, aAb, acb, aAo, aco⟩ := r'
    simp only at hs'
    have HS := Lib.hid hs'
    have HAT := Lib.hid hat'
    obtain ⟨nab, hnab⟩ : ∃ nab, ab.length = nab := ⟨_, rfl⟩
    obtain ⟨nao, hnao⟩ : ∃ nao, ao.length = nao := ⟨_, rfl⟩
    have HNAB := Lib.hid hnab
    have HNAO := Lib.hid hnao
    have HBN := Lib.hid (HBW.out.trans (hb3.mono HBW.out.size))
    have HB3 := Lib.hid hb3
    clear hb3 hs' hat'
    simp only
    rw [hnab, hnao]
    clear hnab hnao
    go_wp2_with fail
    refine sched_back (by rw [HF1.out]; exact HQ.out w4 HBN.out) ?_
    repeat (first | (refine wpT_free rfl ?_; intro K hK; go_big_quiet_op; go_big_quiet_on) | (refine wpT_wantS _ rfl rfl rfl ?_; intro K hK; go_big_quiet_op; go_big_quiet_on) | (refine wpT_skipS _ rfl rfl rfl rfl ?_; simp only [Act.put, List.setIfInBounds_toArray, List.set_cons_zero, List.set_cons_succ]) | (refine wpT_skipU _ rfl rfl rfl ?_; simp only [Act.put, List.setIfInBounds_toArray, List.set_cons_zero, List.set_cons_succ]))
    have P2 : Hid (Blk w4 w2.heap.size 82 zPage) := P0.out.below' HB3.out
    have HB24 := HBN
    have HP4 : Hid (H3 w4 w.heap.size (.slice (some ad) N c) ⟨xk, xn, xnm, xt, xA, xm, xc, xl⟩ (.slice none 0 0)) := HP2.out.below HB24.out
    have HAT4 := HAT
    clear HAT P0
    refine wpT_other ?_
    have y0 := P2.out.cell 0; have y1 := P2.out.cell 1; have y2 := P2.out.cell 2; have y3 := P2.out.cell 3; have y4 := P2.out.cell 4; have y5 := P2.out.cell 5
    have yf0 := P2.out.frozen 0; have yf1 := P2.out.frozen 1; have yf2 := P2.out.frozen 2; have yf3 := P2.out.frozen 3; have yf4 := P2.out.frozen 4; have yf5 := P2.out.frozen 5
    go_wp2_with fail
    clear y0 y1 y2 y3 y4 y5 yf0 yf1 yf2 yf3 yf4 yf5
    have HB25 : Hid (Below w2.heap.size w2 ((((((w4.setCell ⟨w2.heap.size, 0, none⟩ (.string an)).setCell ⟨w2.heap.size, 1, none⟩ (.string atx)).setCell ⟨w2.heap.size, 2, none⟩ (.string adt)).setCell ⟨w2.heap.size, 3, none⟩ (.int .i64 (asf : Int))).setCell ⟨w2.heap.size, 4, none⟩ (.slice aAb nab acb)).setCell ⟨w2.heap.size, 5, none⟩ (.slice aAo nao aco))) := bel6 HB24.out hb2
    have P5 : Hid (Blk ((((((w4.setCell ⟨w2.heap.size, 0, none⟩ (.string an)).setCell ⟨w2.heap.size, 1, none⟩ (.string atx)).setCell ⟨w2.heap.size, 2, none⟩ (.string adt)).setCell ⟨w2.heap.size, 3, none⟩ (.int .i64 (asf : Int))).setCell ⟨w2.heap.size, 4, none⟩ (.slice aAb nab acb)).setCell ⟨w2.heap.size, 5, none⟩ (.slice aAo nao aco)) w2.heap.size 82 #[.string an, .string atx, .string adt, .int .i64 (asf : Int), .slice aAb nab acb, .slice aAo nao aco]) := (((((P2.out.set_ 0 _).set_ 1 _).set_ 2 _).set_ 3 _).set_ 4 _).set_ 5 _
    have HP5 : Hid (H3 ((((((w4.setCell ⟨w2.heap.size, 0, none⟩ (.string an)).setCell ⟨w2.heap.size, 1, none⟩ (.string atx)).setCell ⟨w2.heap.size, 2, none⟩ (.string adt)).setCell ⟨w2.heap.size, 3, none⟩ (.int .i64 (asf : Int))).setCell ⟨w2.heap.size, 4, none⟩ (.slice aAb nab acb)).setCell ⟨w2.heap.size, 5, none⟩ (.slice aAo nao aco)) w.heap.size (.slice (some ad) N c) ⟨xk, xn, xnm, xt, xA, xm, xc, xl⟩ (.slice none 0 0)) := HP4.out.six (p := ⟨w2.heap.size, 0, none⟩) (show w.heap.size + 1 + 1 < w2.heap.size by omega)
    have HAT5 : Hid (RcAt ((((((w4.setCell ⟨w2.heap.size, 0, none⟩ (.string an)).setCell ⟨w2.heap.size, 1, none⟩ (.string atx)).setCell ⟨w2.heap.size, 2, none⟩ (.string adt)).setCell ⟨w2.heap.size, 3, none⟩ (.int .i64 (asf : Int))).setCell ⟨w2.heap.size, 4, none⟩ (.slice aAb nab acb)).setCell ⟨w2.heap.size, 5, none⟩ (.slice aAo nao aco)) (fun k => K k ∨ k = w.heap.size + 1 + 1 ∨ k = w2.heap.size) ⟨⟨an, atx, adt, asf, ab, ao⟩, aAb, acb, aAo, aco⟩) := setK (setK (setK (setK (setK (setK HAT4.out (.inr (.inr rfl)) fun k hk => hk) (.inr (.inr rfl)) fun k hk => hk) (.inr (.inr rfl)) fun k hk => hk) (.inr (.inr rfl)) fun k hk => hk) (.inr (.inr rfl)) fun k hk => hk) (.inr (.inr rfl)) fun k hk => hk
    clear P2 HP4 HAT4 HB24
    generalize ((((((w4.setCell ⟨w2.heap.size, 0, none⟩ (.string an)).setCell ⟨w2.heap.size, 1, none⟩ (.string atx)).setCell ⟨w2.heap.size, 2, none⟩ (.string adt)).setCell ⟨w2.heap.size, 3, none⟩ (.int .i64 (asf : Int))).setCell ⟨w2.heap.size, 4, none⟩ (.slice aAb nab acb)).setCell ⟨w2.heap.size, 5, none⟩ (.slice aAo nao aco)) = w5 at *
    refine sched_back (by rw [HF1.out]; exact HQ.out w5 HB25.out) ?_
    repeat (first | (refine wpT_free rfl ?_; intro K hK; go_big_quiet_op; go_big_quiet_on) | (refine wpT_wantS _ rfl rfl rfl ?_; intro K hK; go_big_quiet_op; go_big_quiet_on) | (refine wpT_skipS _ rfl rfl rfl rfl ?_; simp only [Act.put, List.setIfInBounds_toArray, List.set_cons_zero, List.set_cons_succ]) | (refine wpT_skipU _ rfl rfl rfl ?_; simp only [Act.put, List.setIfInBounds_toArray, List.set_cons_zero, List.set_cons_succ]))
    refine wpT_nil ?_
    refine wpTail_cons ?_
    go_wp2_with fail
    refine tail_back ?_
    refine wpTail_nil ?_
    clear HF1
    have HB5 : Hid (Below w.heap.size w w5) := HB2.out.trans (HB25.out.mono HB2.out.size)
    have HP := HP5
    have hg5 : w.heap.size + 1 + 1 < w5.heap.size := HP5.out.z.lt
    have p0 : w5.cell? ⟨w.heap.size, 0, none⟩ = some (.slice (some ad) N c) := HP.out.p.cell 0
    have d0 : w5.cell? ⟨w.heap.size + 1, 0, none⟩ = some (.int .i64 xk) := HP.out.d.cell 0
    have d1 : w5.cell? ⟨w.heap.size + 1, 1, none⟩ = some (.int .i64 xn) := HP.out.d.cell 1
    have d2 : w5.cell? ⟨w.heap.size + 1, 2, none⟩ = some (.string xnm) := HP.out.d.cell 2
    have d3 : w5.cell? ⟨w.heap.size + 1, 3, none⟩ = some (.string xt) := HP.out.d.cell 3
    have d4 : w5.cell? ⟨w.heap.size + 1, 4, none⟩ = some (.slice xA xm xc) := HP.out.d.cell 4
    have z0 : w5.cell? ⟨w.heap.size + 1 + 1, 0, none⟩ = some (.slice none 0 0) := HP.out.z.cell 0
    have zf0 := HP.out.z.frozen 0
    by_cases hE : EX = 0
    · subst hE
      have hrd5 := (HRR.out w5 HB5.out).row.rd
      rw [HN.out] at hrd5
      have HCL := Lib.hid (clone_pg (some ad) N c w5.heap.size (rcCells rs) w5 hrd5 (Nat.le_refl _) (rc_one rs) (by omega))
      clear hrd5
      go_wp2_with fail
      refine HCL.out.mono ?_
      rintro e w6 ⟨v6, rfl, hown6, hb6⟩
      have hO6 := OwnO.of_own hown6
      obtain ⟨A6, c6, rfl, _, _, hrd6⟩ := OwnO.form hO6
      obtain ⟨a6, hA6, _, e0, e1, e2, e3, e4, e5⟩ := rc_cell hrd6 hil HN.out
      subst hA6
      have f0 : w6.frozen? (a6.add (i * 6)) = false := (own_setS hO6 (j := i * 6) (by omega) (.bool true)).2
      have f1 : w6.frozen? ⟨(a6.add (i * 6)).block, (a6.add (i * 6)).off + 1, none⟩ = false := by rw [← add_j a6 (i * 6) 1 (by decide)]; exact (own_setS hO6 (j := i * 6 + 1) (by omega) (.bool true)).2
      have f2 : w6.frozen? ⟨(a6.add (i * 6)).block, (a6.add (i * 6)).off + 2, none⟩ = false := by rw [← add_j a6 (i * 6) 2 (by decide)]; exact (own_setS hO6 (j := i * 6 + 2) (by omega) (.bool true)).2
      have f3 : w6.frozen? ⟨(a6.add (i * 6)).block, (a6.add (i * 6)).off + 3, none⟩ = false := by rw [← add_j a6 (i * 6) 3 (by decide)]; exact (own_setS hO6 (j := i * 6 + 3) (by omega) (.bool true)).2
      have f4 : w6.frozen? ⟨(a6.add (i * 6)).block, (a6.add (i * 6)).off + 4, none⟩ = false := by rw [← add_j a6 (i * 6) 4 (by decide)]; exact (own_setS hO6 (j := i * 6 + 4) (by omega) (.bool true)).2
      have f5 : w6.frozen? ⟨(a6.add (i * 6)).block, (a6.add (i * 6)).off + 5, none⟩ = false := by rw [← add_j a6 (i * 6) 5 (by decide)]; exact (own_setS hO6 (j := i * 6 + 5) (by omega) (.bool true)).2
      have hP6 := P5.out.below' hb6
      have y0 := hP6.cell 0; have y1 := hP6.cell 1; have y2 := hP6.cell 2; have y3 := hP6.cell 3; have y4 := hP6.cell 4; have y5 := hP6.cell 5
      obtain ⟨g6, O6, hpa, hg6⟩ := own_lit hO6 (i * 6)
      have hab6 : w5.heap.size ≤ g6 := by rw [hg6]; exact (hO6.lt a6.block rfl).1
      clear hg6
      have hO7 := own_setRc ⟨⟨an, atx, adt, asf, ab, ao⟩, aAb, acb, aAo, aco⟩ hO6 hil HN.out
      simp only [hpa] at hO7 e0 e1 e2 e3 e4 e5 f0 f1 f2 f3 f4 f5
      rw [HNAB.out, HNAO.out] at hO7
      have hP7 : H3 ((((((w6.setCell ⟨g6, O6, none⟩ (.string an)).setCell ⟨g6, O6 + 1, none⟩ (.string atx)).setCell ⟨g6, O6 + 2, none⟩ (.string adt)).setCell ⟨g6, O6 + 3, none⟩ (.int .i64 (asf : Int))).setCell ⟨g6, O6 + 4, none⟩ (.slice aAb nab acb)).setCell ⟨g6, O6 + 5, none⟩ (.slice aAo nao aco)) w.heap.size (.slice (some ad) N c) ⟨xk, xn, xnm, xt, xA, xm, xc, xl⟩ (.slice none 0 0) := (HP5.out.below hb6).six (p := ⟨g6, O6, none⟩) (show w.heap.size + 1 + 1 < g6 by omega)
      have hB57 : Below w5.heap.size w5 ((((((w6.setCell ⟨g6, O6, none⟩ (.string an)).setCell ⟨g6, O6 + 1, none⟩ (.string atx)).setCell ⟨g6, O6 + 2, none⟩ (.string adt)).setCell ⟨g6, O6 + 3, none⟩ (.int .i64 (asf : Int))).setCell ⟨g6, O6 + 4, none⟩ (.slice aAb nab acb)).setCell ⟨g6, O6 + 5, none⟩ (.slice aAo nao aco)) := below6p (p := ⟨g6, O6, none⟩) hb6 hab6
      have hB7 : Below w.heap.size w ((((((w6.setCell ⟨g6, O6, none⟩ (.string an)).setCell ⟨g6, O6 + 1, none⟩ (.string atx)).setCell ⟨g6, O6 + 2, none⟩ (.string adt)).setCell ⟨g6, O6 + 3, none⟩ (.int .i64 (asf : Int))).setCell ⟨g6, O6 + 4, none⟩ (.slice aAb nab acb)).setCell ⟨g6, O6 + 5, none⟩ (.slice aAo nao aco)) := HB5.out.trans (hB57.mono HB5.out.size)
      have hA7 := HAT5.out.below hB57
      obtain ⟨w7, hW7⟩ : ∃ w7, ((((((w6.setCell ⟨g6, O6, none⟩ (.string an)).setCell ⟨g6, O6 + 1, none⟩ (.string atx)).setCell ⟨g6, O6 + 2, none⟩ (.string adt)).setCell ⟨g6, O6 + 3, none⟩ (.int .i64 (asf : Int))).setCell ⟨g6, O6 + 4, none⟩ (.slice aAb nab acb)).setCell ⟨g6, O6 + 5, none⟩ (.slice aAo nao aco)) = w7 := ⟨_, rfl⟩
      rw [hW7] at hO7 hP7 hB7 hA7
      have HO7 := Lib.hid hO7
      have HB7 := Lib.hid hB7
      have HA7 := Lib.hid hA7
      have z7 : w7.cell? ⟨w.heap.size + 1 + 1, 0, none⟩ = some (.slice none 0 0) := hP7.z.cell 0
      have zf7 := hP7.z.frozen 0
      clear hO7 hP7 hB7 hA7 hB57 hO6 hown6 hrd6 hP6 HCL HP5 P5 HP hb6
      clear p0 d0 d1 d2 d3 d4 z0 zf0
      go_wp2_with (first | rw [hpa] | rw [hW7])
      (apply bodyPost_ret; (simp [results, Tryz.results9, go_sem, z7]; rfl); rfl)
      refine ⟨some a6, c6, rs.set i ⟨⟨an, atx, adt, asf, ab, ao⟩, aAb, acb, aAo, aco⟩, ?_, ?_, rh_fin HO7.out (by rw [List.length_set]; exact HN.out) (fun k hk => Nat.lt_of_lt_of_le (HKK.out k hk) HB5.out.size) hg5 (fun r hr => ?_), bel1 HB7.out (le2 _)⟩
      · rw [List.length_set, HN.out]
      · rw [List.map_set]
        exact congrArg _ HS.out
      · rcases List.mem_or_eq_of_mem_set hr with hr | hr
        · exact (HRR.out _ (bel1 HB7.out (le2 _))).pg r hr
        · rw [hr]; exact setK HA7.out (.inr (.inl rfl)) fun k hk => .inl hk
    · have g6 : (EX == 0) = false := by rw [beq_eq_false_iff_ne]; exact hE
      go_wp2_with fail
      (apply bodyPost_ret; (simp [results, Tryz.results9, go_sem, z0]; rfl); rfl)
      refine ⟨some ad, c, rs, ?_, ?_, fin_rh (bel1 HB5.out (le2 _)) HRR.out⟩
      · rw [HN.out]
      · rw [HBAD.out hE]; exact HSET.out.symm
end Go.Proofs.YtplgghjdidmcfaaGreatDoor
namespace Go.Proofs.YtplgghjdidmcfaaGreatDoor
open Go.RowKit
/-- The reference's deeds, all of them. -/
theorem refDo_any (A : Option Addr) (c : Nat) (rs : List Rc) (x : Dd) (K : Nat → Prop) (w : World) (hf : RoOk w K A c rs x) : Calls Tryz.prog 9 #[.agg #[.slice A rs.length c], x.val, .func (.func 10) #[] #[]] w (RoAns w K rs x) := by
  by_cases h0 : x.kind < 1 ∨ 10 < x.kind
  · exact refDo_nokind A c rs x K w hf h0
  cases hn : named x.name with
  | false => exact refDo_noname A c rs x K w hf (by omega) (by omega) hn
  | true =>
    by_cases h1 : x.kind = 1
    · exact refDo_new A c rs x K w hf h1 hn
    by_cases hi : fnd x.name (rs.map Rc.s) < (rs.map Rc.s).length
    · have hil : fnd x.name (rs.map Rc.s) < rs.length := by rwa [List.length_map] at hi
      by_cases h8 : x.kind = 8
      · exact refDo_text A c rs x K w hf h8 hn _ rfl hil
      by_cases h9 : x.kind = 9
      · exact refDo_drop A c rs x K w hf h9 hn _ rfl hil
      exact refDo_page A c rs x K w hf (by omega) (by omega) h8 h9 hn _ rfl hil
    · exact refDo_none A c rs x K w hf (by omega) (by omega) hn hi
theorem HsAt.keep {w w' : World} {base gh g : Nat} {v : Value} {ps : List Pc} (h : HsAt w base gh v ps) (hc : Chg w w' (fun k => k = g)) (hg : ¬ HK gh v ps g) : HsAt w' base gh v ps :=
  ⟨h.blk.chgH hc fun e => hg (.inl e.symm), h.lo, h.row.chg hc fun k hk e => hg (e ▸ .inr (.inl hk)), fun p hp => (h.pg p hp).chg hc fun k hk e => hg (e ▸ .inr (.inr ⟨p, hp, hk⟩)), h.dis⟩
def ddCell (x : Dd) : List Value := [.int .i64 x.kind, .int .i64 x.num, .string x.name, .string x.text, .slice x.A x.m x.c]
def ddCells (l : List Dd) : List Value := l.flatMap ddCell
theorem dd_len (x : Dd) : (ddCell x).length = 5 := rfl
structure DdW (W : World) (x : Dd) : Prop where
  nm : x.name.size ≤ 9223372036854775807
  tx : x.text.size ≤ 9223372036854775807
  m : x.m ≤ 9223372036854775807
  r : Rd W W.heap.size 3 x.A x.m (edCells x.l)
theorem Rd.at_dd {w : World} {B n : Nat} {A : Option Addr} {l : List Dd} (h : Rd w B 5 A n (ddCells l)) {k : Nat} (hk : k < n) :
    ∃ ad, ∃ hl : k < l.length, A = some ad ∧ ad.block < B ∧ w.cell? (ad.add (k * 5)) = some (.int .i64 l[k].kind) ∧ w.cell? ⟨(ad.add (k * 5)).block, (ad.add (k * 5)).off + 1, none⟩ = some (.int .i64 l[k].num) ∧
      w.cell? ⟨(ad.add (k * 5)).block, (ad.add (k * 5)).off + 2, none⟩ = some (.string l[k].name) ∧ w.cell? ⟨(ad.add (k * 5)).block, (ad.add (k * 5)).off + 3, none⟩ = some (.string l[k].text) ∧ w.cell? ⟨(ad.add (k * 5)).block, (ad.add (k * 5)).off + 4, none⟩ = some (.slice l[k].A l[k].m l[k].c) := by
  obtain ⟨ad, hl, e, hb, hc⟩ := Rd.at_rec dd_len (by omega) h hk
  refine ⟨ad, hl, e, hb, hc 0 _ rfl, ?_, ?_, ?_, ?_⟩
  · have h1 := hc 1 _ rfl
    rwa [← add_add] at h1
  · have h1 := hc 2 _ rfl
    rwa [← add_add] at h1
  · have h1 := hc 3 _ rfl
    rwa [← add_add] at h1
  · have h1 := hc 4 _ rfl
    rwa [← add_add] at h1
/-- The two houses, side by side. -/
structure Two (w : World) (base gh gr : Nat) (v : Value) (ps : List Pc) (A : Option Addr) (c : Nat) (rs : List Rc) : Prop where
  h : HsAt w base gh v ps
  o : HsOk (ps.map Pc.s)
  r : RhAt w (fun k => HK gh v ps k ∨ k = gr) A c rs
  e : rs.map Rc.s = ps.map Pc.s
  b : Blk w gr 29 #[.slice A rs.length c]
  n : ¬ HK gh v ps gr
section
variable {w w' : World} {base gh gr : Nat} {v : Value} {ps : List Pc} {A : Option Addr} {c : Nat} {rs : List Rc}
theorem Two.below (h : Two w base gh gr v ps A c rs) (hb : Below w.heap.size w w') : Two w' base gh gr v ps A c rs := ⟨h.h.below hb, h.o, h.r.below hb, h.e, h.b.below' hb, h.n⟩
theorem Two.len (h : Two w base gh gr v ps A c rs) : rs.length = ps.length := by have := congrArg List.length h.e; rwa [List.length_map, List.length_map] at this
theorem Two.n6 (h : Two w base gh gr v ps A c rs) : ps.length ≤ 6 := by have := h.o.n; rwa [List.length_map] at this
theorem Two.turn {P : List Ps} (h : Two w base gh gr v ps A c rs) (ht : HsTo w w' base gh v ps P) :
    ∃ v' ps', HsAt w' base gh v' ps' ∧ ps'.map Pc.s = P ∧ RhAt w' (fun k => HK gh v' ps' k ∨ k = gr) A c rs ∧ Blk w' gr 29 #[.slice A rs.length c] ∧ ¬ HK gh v' ps' gr := by
  obtain ⟨⟨v', ps', h1, h2, h3⟩, hc⟩ := ht
  have hm : ∀ k, (HK gh v ps k ∨ HK gh v' ps' k ∨ k = gr) → (HK gh v ps k ∨ k = gr) ∨ w.heap.size ≤ k := fun k hk => hk.elim (fun h => .inl (.inl h)) fun hk => hk.elim (fun h => (h3 k h).elim (fun h => .inl (.inl h)) .inr) fun h => .inl (.inr h)
  refine ⟨v', ps', h1, h2, ?_, h.b.chgH hc h.n, fun hk => ?_⟩
  · exact ((h.r.mono hm).chg (hc.monoH fun k _ hk => .inl hk)).mono fun k hk => .inl (.inr hk)
  · rcases h3 gr hk with h4 | h4
    · exact h.n h4
    · have := h.b.lt; omega
/-- The reference's house is laid down. -/
theorem Two.lay {wx : World} {A2 : Option Addr} {c2 : Nat} {rs2 : List Rc} (ho : HsOk (ps.map Pc.s)) (h : HsAt wx base gh v ps) (hr : RhAt wx (fun k => HK gh v ps k ∨ k = gr) A2 c2 rs2) (he : rs2.map Rc.s = ps.map Pc.s) (hb : Blk wx gr 29 #[.slice A rs.length c]) (hn : ¬ HK gh v ps gr) :
    Two (wx.setCell ⟨gr, 0, none⟩ (.slice A2 rs2.length c2)) base gh gr v ps A2 c2 rs2 :=
  ⟨h.keep (Chg.setH wx ⟨gr, 0, none⟩ _) hn, ho, hr.chg ((Chg.setH wx ⟨gr, 0, none⟩ _).monoH fun _ _ hk => .inr hk), he, hb.set_ 0 _, hn⟩
end
end Go.Proofs.YtplgghjdidmcfaaGreatDoor
namespace Go.Proofs.YtplgghjdidmcfaaGreatDoor
open Go.RowKit
set_option maxRecDepth 100000 in
set_option maxHeartbeats 8000000 in
theorem housePlays_any (l : List Dd) (A0 : Option Addr) (n c0 : Nat) (mx : Int) (w : World) (hr : Rd w w.heap.size 5 A0 n (ddCells l)) (hn : n ≤ 9223372036854775807) (hK : ∀ x ∈ l, DdW w x) (ht : TabI w)
    (hm : w.cell? ⟨0, 0, none⟩ = some (.int .i64 mx)) (hw0 : 0 < w.heap.size) :
    Calls Tryz.prog 3 #[.slice A0 n c0] w fun e w' => e = .returned (.bool true) ∧ Below w.heap.size w w' := by
  have HRR := Lib.hid hr; clear hr
  have HKW := Lib.hid hK; clear hK
  have HMX : Hid (∀ W, Below w.heap.size w W → ∃ mx, W.cell? ⟨0, 0, none⟩ = some (.int .i64 mx)) := fun W hb => ⟨mx, (hb.cell (p := ⟨0, 0, none⟩) hw0).trans hm⟩
  have HW0 : Hid (∀ W, Below w.heap.size w W → 0 < W.heap.size) := fun W hb => Nat.lt_of_lt_of_le hw0 hb.size
  have HTB : Hid (∀ W, Below w.heap.size w W → TabI W) := fun W hb => tabI_stays ht hb
  clear ht hm hw0
  go_enter Tryz.func3, Tryz.ntmps3
  go_wp2_with fail
  refine (houNew_any w).mono ?_
  rintro e w1 ⟨rfl, h1, hb1⟩
  have H1 := Lib.hid h1
  have HB1 := Lib.hid hb1
  clear h1 hb1
  go_wp2_with fail
  refine (houNames_any w.heap.size w.heap.size (.slice none 0 0) [] w1 H1.out (by simp)).mono ?_
  rintro e w2 ⟨u2, rfl, ho2, hb2⟩
  obtain ⟨A2, c2, rfl, _, _, _⟩ := OwnO.form ho2
  have H2 := Lib.hid (H1.out.below hb2)
  have HB2 := Lib.hid (HB1.out.trans (hb2.mono HB1.out.size))
  clear ho2 hb2 H1 HB1
  go_wp2_with fail
  have HB3 : Hid (Below w.heap.size w (w2.alloc (.cells #[.slice none 0 0] 29))) := HB2.out.alloc HB2.out.size _
  have HT3 : Hid (Two (w2.alloc (.cells #[.slice none 0 0] 29)) w.heap.size w.heap.size w2.heap.size (.slice none 0 0) [] none 0 []) :=
    ⟨H2.out.below ((Below.refl _ _).alloc (Nat.le_refl _) _), HsOk.nil_, RhAt.nil_ _ _, rfl, Blk.new_ _ _ _, fun hk => by have := (H2.out.lt hk).2; omega⟩
  have hgr : w.heap.size ≤ w2.heap.size := HB2.out.size
  clear H2 HB2
  generalize (w2.alloc (.cells #[.slice none 0 0] 29)) = w3 at *
  generalize w2.heap.size = gr at *
  go_loopw [6, 7, 8, 9, 10, 11, 24] (fun _ _ _ _ _ _ iv wr => ∃ (k : Nat) (v : Value) (ps : List Pc) (A : Option Addr) (c : Nat) (rs : List Rc), k ≤ n ∧ iv = .int .i64 (k : Int) ∧ Hid (Two wr w.heap.size w.heap.size gr v ps A c rs) ∧ Hid (Below w.heap.size w wr)) (fun _ _ _ _ _ _ iv _ => n - (intOf iv).toNat)
  case atStart => exact ⟨0, _, _, _, _, _, Nat.zero_le _, rfl, HT3, HB3⟩
  case round =>
    clear HT3 HB3
    obtain ⟨k, v, ps, A, c, rs, hk, rfl, HT, HB⟩ := hrel
    have hbs := HB.out.size
    by_cases hlt : k < n
    · have g1 : decide ((k : Int) < (n : Int)) = true := decide_eq_true (by omega)
      have g1' : decide (k < n) = true := decide_eq_true hlt
      obtain ⟨ad, hl, rfl, hab, x0, x1, x2, x3, x4⟩ := (HRR.out.below HB.out).at_dd hlt
      have HX := Lib.hid (HKW.out l[k] (List.getElem_mem hl))
      generalize l[k] = x at *
      obtain ⟨xk, xn, xnm, xt, xA, xm, xc, xl⟩ := x
      simp only at x0 x1 x2 x3 x4
      have hbd : Below w.heap.size w (wr.alloc (.cells #[.int .i64 xk, .int .i64 xn, .string xnm, .string xt, .slice xA xm xc] 32)) := HB.out.alloc hbs _
      have hTd : Two (wr.alloc (.cells #[.int .i64 xk, .int .i64 xn, .string xnm, .string xt, .slice xA xm xc] 32)) w.heap.size w.heap.size gr v ps A c rs := HT.out.below ((Below.refl _ _).alloc (Nat.le_refl _) _)
      have hBX : Blk (wr.alloc (.cells #[.int .i64 xk, .int .i64 xn, .string xnm, .string xt, .slice xA xm xc] 32)) wr.heap.size 32 #[.int .i64 xk, .int .i64 xn, .string xnm, .string xt, .slice xA xm xc] := Blk.new_ _ _ _
      obtain ⟨wd, hwd⟩ : ∃ wd, wd = wr.alloc (.cells #[.int .i64 xk, .int .i64 xn, .string xnm, .string xt, .slice xA xm xc] 32) := ⟨_, rfl⟩
      rw [← hwd] at hbd hTd hBX
      have HWD := Lib.hid hwd
      have HBD := Lib.hid hbd
      have HTD := Lib.hid hTd
      have HBXD := Lib.hid hBX
      have hDO := houDo_any ⟨xk, xn, xnm, xt, xA, xm, xc, xl⟩ w.heap.size w.heap.size v ps wd hTd.h hTd.o hbd.size ⟨HX.out.nm, HX.out.tx, HX.out.m, (HX.out.r.below hbd).more hbd.size, fun h0 ad e hk => by obtain ⟨ad', e', hb', _⟩ := HX.out.r.2 h0; obtain rfl := Option.some.inj (e.symm.trans e'); exact absurd (hTd.h.lt hk).1 (by omega)⟩ (HTB.out _ hbd)
      unfold DoAns Dd.val at hDO
      simp only at hDO
      obtain ⟨T, hT⟩ : ∃ T, hsT (ps.map Pc.s) ⟨xk, xn, xnm, xt, xA, xm, xc, xl⟩ = T := ⟨_, rfl⟩
      obtain ⟨E, hE⟩ : ∃ E, hsE (ps.map Pc.s) ⟨xk, xn, xnm, xt, xA, xm, xc, xl⟩ = E := ⟨_, rfl⟩
      obtain ⟨P, hP⟩ : ∃ P, hsP (ps.map Pc.s) ⟨xk, xn, xnm, xt, xA, xm, xc, xl⟩ = P := ⟨_, rfl⟩
      rw [hT, hE, hP] at hDO
      have HTT := Lib.hid hT
      have HEE := Lib.hid hE
      have HPP := Lib.hid hP
      have HDO := Lib.hid hDO
      have hlk : ∀ k, HK w.heap.size v ps k → k < wr.heap.size := fun k hk => (HT.out.h.lt hk).2
      have HLK := Lib.hid hlk
      clear hwd hbd hTd hBX hDO hT hE hP hlk
      go_wp2_with fail
      rw [← HWD.out]
      refine HDO.out.mono ?_
      rintro e w4 ⟨rfl, hto⟩
      obtain ⟨v1, ps1, h1, hp1, hr1, hb1, hn1⟩ := HTD.out.turn hto
      have hX4 := HBXD.out.chgH hto.chg (fun hk => absurd (HLK.out _ hk) (Nat.lt_irrefl _))
      have hB4 : Below w.heap.size w w4 := HBD.out.trans (HTD.out.h.bel hto.chg HBD.out.size)
      have hDF := refDo_any A c rs ⟨xk, xn, xnm, xt, xA, xm, xc, xl⟩ (fun k => HK w.heap.size v1 ps1 k ∨ k = gr) w4 ⟨hr1, fun k hk => hk.elim (fun h => (h1.lt h).2) (fun e => by rw [e]; exact hb1.lt), by rw [HTD.out.e]; exact HTD.out.o, HX.out.nm, HX.out.tx, (HX.out.r.below hB4).more hB4.size, HX.out.m, HTB.out _ hB4, HMX.out _ hB4, HW0.out _ hB4⟩
      unfold RoAns Dd.val at hDF
      rw [HTD.out.e, HTT.out, HEE.out, HPP.out] at hDF
      simp only at hDF
      have HDF := Lib.hid hDF
      have H1 := Lib.hid h1
      have HP1 := Lib.hid hp1
      have HG1 := Lib.hid hb1
      have HN1 := Lib.hid hn1
      have HB4 := Lib.hid hB4
      have d0 := hX4.cell 0; have d1 := hX4.cell 1; have d2 := hX4.cell 2; have d3 := hX4.cell 3; have d4 := hX4.cell 4
      have q0 := hb1.cell0
      have HOK : Hid (HsOk (ps1.map Pc.s)) := by rw [Hid, hp1, ← HPP.out]; exact HTD.out.o.step _
      clear hto h1 hp1 hr1 hb1 hn1 hB4 hDF hX4 HDO HTD HBXD HLK HWD HBD HT HB x0 x1 x2 x3 x4
      go_wp2_with fail
      refine HDF.out.mono ?_
      rintro e w5 ⟨A5, c5, rs5, rfl, hm5, hr5, hb5⟩
      have hG5 := HG1.out.below' hb5
      have HG5 := Lib.hid hG5
      have HM5 := Lib.hid hm5
      have HR5 := Lib.hid hr5
      have HB5 := Lib.hid hb5
      clear d0 d1 d2 d3 d4 q0 hm5 hr5 hb5 HDF
      have q0 := hG5.cell0
      have qf := hG5.frozen 0
      have hgl := hG5.lt
      clear hG5
      go_wp2_with fail
      have hal : Below (w5.setCell ⟨gr, 0, none⟩ (.slice A5 rs5.length c5)).heap.size (w5.setCell ⟨gr, 0, none⟩ (.slice A5 rs5.length c5)) ((w5.setCell ⟨gr, 0, none⟩ (.slice A5 rs5.length c5)).alloc (.cells #[.slice A5 rs5.length c5] 29)) := (Below.refl _ _).alloc (Nat.le_refl _) _
      have HT7 : Hid (Two ((w5.setCell ⟨gr, 0, none⟩ (.slice A5 rs5.length c5)).alloc (.cells #[.slice A5 rs5.length c5] 29)) w.heap.size w.heap.size gr v1 ps1 A5 c5 rs5) := (Two.lay (rs := rs) (A := A) (c := c) HOK.out (H1.out.below HB5.out) HR5.out (HM5.out.trans HP1.out.symm) HG5.out HN1.out).below hal
      have hb5s : Below w.heap.size w (w5.setCell ⟨gr, 0, none⟩ (.slice A5 rs5.length c5)) := bel1 (HB4.out.trans (HB5.out.mono HB4.out.size)) hgr
      have HB7 : Hid (Below w.heap.size w ((w5.setCell ⟨gr, 0, none⟩ (.slice A5 rs5.length c5)).alloc (.cells #[.slice A5 rs5.length c5] 29))) := hb5s.trans (hal.mono hb5s.size)
      clear hal hb5s q0 qf hgl HG5 HR5 HM5 HB5 HB4 HG1 H1 HP1 HN1 HOK HTT HEE HPP
      generalize ((w5.setCell ⟨gr, 0, none⟩ (.slice A5 rs5.length c5)).alloc (.cells #[.slice A5 rs5.length c5] 29)) = w7 at *
      have q7 := HT7.out.b.cell0
      obtain ⟨F1, hFd⟩ : ∃ F : World → Prop, F = fun w' => w'.cell? ⟨gr, 0, none⟩ = some (.slice A5 rs5.length c5) := ⟨_, rfl⟩
      have HF1 := Lib.hid hFd
      clear hFd
      have hcell10 : ∀ p' : Wof F1, p'.w.cell? ⟨gr, 0, none⟩ = some (.slice A5 rs5.length c5) := fun ⟨x, hx⟩ => by rw [HF1.out] at hx; exact hx
      refine wp_region_schedF [(0, true), (1, true), (2, true), (3, true), (4, true), (5, true), (6, true), (7, true), (8, true), (9, true), (11, true), (10, false), (12, false), (13, false), (14, true), (15, true)] F1 (by kernel_rfl) (by kernel_rfl) rfl (fun _ _ _ _ _ h => h) (by kernel_rfl) (by rw [HF1.out]; first | ((repeat' apply And.intro) <;> assumption) | trivial | (simp; done) | (simp [*]; done)) (by rw [HF1.out]; exact fun h => h) ?_
      intro hne1
      simp only [opersOf, List.getElem?_toArray, List.getElem?_cons_succ, List.getElem?_cons_zero]
      repeat (first | (refine wpSched_free rfl ?_; intro K hK; go_big_quiet_op; go_big_quiet_on) | (refine wpSched_wantS _ rfl rfl rfl ?_; intro K hK; go_big_quiet_op; go_big_quiet_on) | (refine wpSched_skipS _ rfl rfl rfl rfl ?_; simp only [Act.put, List.setIfInBounds_toArray, List.set_cons_zero, List.set_cons_succ]) | (refine wpSched_skipU _ rfl rfl rfl ?_; simp only [Act.put, List.setIfInBounds_toArray, List.set_cons_zero, List.set_cons_succ]))
      have HT7D : Hid (Two w7.drew w.heap.size w.heap.size gr v1 ps1 A5 c5 rs5) := HT7.out.below (Below.drew (Below.refl _ _))
      have HB7D : Hid (Below w.heap.size w w7.drew) := HB7.out.drew
      clear HT7 HB7 q7
      refine wpSched_other ?_
      go_wp2_with fail
      refine (houNames_any w.heap.size w.heap.size v1 ps1 w7.drew HT7D.out.h HT7D.out.n6).mono ?_
      rintro e w8 ⟨u8, rfl, ho8, hb8⟩
      obtain ⟨A8, c8, rfl, _, _, hrd8⟩ := OwnO.form ho8
      have HT8 := Lib.hid (HT7D.out.below hb8)
      have HB8 := Lib.hid (HB7D.out.trans (hb8.mono HB7D.out.size))
      have HRD8 := Lib.hid hrd8
      clear ho8 hb8 hrd8 HT7D HB7D
      have q8 := HT8.out.b.cell0
      go_wp2_with fail
      refine sched_back (by rw [HF1.out]; exact q8) ?_
      repeat (first | (refine wpSched_free rfl ?_; intro K hK; go_big_quiet_op; go_big_quiet_on) | (refine wpSched_wantS _ rfl rfl rfl ?_; intro K hK; go_big_quiet_op; go_big_quiet_on) | (refine wpSched_skipS _ rfl rfl rfl rfl ?_; simp only [Act.put, List.setIfInBounds_toArray, List.set_cons_zero, List.set_cons_succ]) | (refine wpSched_skipU _ rfl rfl rfl ?_; simp only [Act.put, List.setIfInBounds_toArray, List.set_cons_zero, List.set_cons_succ]))
      refine wpSched_other ?_
      go_wp2_with fail
      refine (refNames_any rs5 A5 c5 _ w8 HT8.out.r (by rw [HT8.out.len]; exact HT8.out.n6)).mono ?_
      rintro e w9 ⟨u9, rfl, ho9, hb9⟩
      rw [HT8.out.e, HT8.out.len] at ho9
      obtain ⟨A9, c9, rfl, _, _, hrd9⟩ := OwnO.form ho9
      have HT9 := Lib.hid (HT8.out.below hb9)
      have HB9 := Lib.hid (HB8.out.trans (hb9.mono HB8.out.size))
      have HRD9 := Lib.hid hrd9
      have HRE := Lib.hid (HRD8.out.below hb9)
      clear ho9 hb9 hrd9 HT8 HB8 HRD8 q8
      have q9 := HT9.out.b.cell0
      go_wp2_with fail
      refine sched_back (by rw [HF1.out]; exact q9) ?_
      repeat (first | (refine wpSched_free rfl ?_; intro K hK; go_big_quiet_op; go_big_quiet_on) | (refine wpSched_wantS _ rfl rfl rfl ?_; intro K hK; go_big_quiet_op; go_big_quiet_on) | (refine wpSched_skipS _ rfl rfl rfl rfl ?_; simp only [Act.put, List.setIfInBounds_toArray, List.set_cons_zero, List.set_cons_succ]) | (refine wpSched_skipU _ rfl rfl rfl ?_; simp only [Act.put, List.setIfInBounds_toArray, List.set_cons_zero, List.set_cons_succ]))
      refine wpSched_other ?_
      go_wp2_with fail
      refine (alike_str_true A8 A9 ps1.length c8 c9 _ _ (hsN (ps1.map Pc.s)) w9 (by have := HT9.out.n6; omega) HRE.out HRD9.out).mono ?_
      rintro e w10 ⟨rfl, hb10⟩
      have HT10 := Lib.hid (HT9.out.below hb10)
      have HB10 := Lib.hid (HB9.out.trans (hb10.mono HB9.out.size))
      clear hb10 HT9 HB9 HRD9 HRE q9
      have q10 := HT10.out.b.cell0
      go_wp2_with fail
      refine sched_back (by rw [HF1.out]; exact q10) ?_
      repeat (first | (refine wpSched_free rfl ?_; intro K hK; go_big_quiet_op; go_big_quiet_on) | (refine wpSched_wantS _ rfl rfl rfl ?_; intro K hK; go_big_quiet_op; go_big_quiet_on) | (refine wpSched_skipS _ rfl rfl rfl rfl ?_; simp only [Act.put, List.setIfInBounds_toArray, List.set_cons_zero, List.set_cons_succ]) | (refine wpSched_skipU _ rfl rfl rfl ?_; simp only [Act.put, List.setIfInBounds_toArray, List.set_cons_zero, List.set_cons_succ]))
      refine wpSched_nil ?_
      clear q10 HF1
      go_wp2_with fail
      go_roundw
      case rel => exact ⟨k + 1, v1, ps1, A5, c5, rs5, by omega, by go_num, HT10, HB10⟩
      case measure => simp [intOf]; omega
    · obtain rfl : k = n := by omega
      have g1 : decide ((k : Int) < (k : Int)) = false := decide_eq_false (by omega)
      have g1' : decide (k < k) = false := decide_eq_false hlt
      go_wp2_with fail
      go_ret
      exact ⟨rfl, HB.out⟩
end Go.Proofs.YtplgghjdidmcfaaGreatDoor
