/- A house's beginning of a text. A house's deeds. A house's deeds at a page that is there. -/
import Derived.Test.YtplgghjdidmcfaaGreatDoorPk24
namespace Go.Proofs.YtplgghjdidmcfaaGreatDoor
open Go.RowKit
def Dd.val (x : Dd) : Value := .agg #[.int .i64 x.kind, .int .i64 x.num, .string x.name, .string x.text, .slice x.A x.m x.c]
def Dd.cells (x : Dd) : Array Value := #[.int .i64 x.kind, .int .i64 x.num, .string x.name, .string x.text, .slice x.A x.m x.c]
def bgE (k : Int) (n : Nat) (t : ByteArray) : Int := if 0 ≤ k then 10 else if 6 ≤ n then 11 else if 200 < t.size then 2 else 0
/-- A page more. -/
theorem HsAt.add {w w6 : World} {base gh : Nat} {v v6 : Value} {ps : List Pc} {p' : Pc} (h : HsAt w base gh v ps) (hp : PgAt w base p') (hd : ∀ q ∈ ps, ∀ k, foot q k → ¬ foot p' k)
    (ho : OwnO w6 base 61 3 v6 (ps.length + 1) (pcCells ps ++ p'.cells)) (hg : w.grownBy w6 v.ownBlock) : HsAt (w6.setCell ⟨gh, 0, none⟩ v6) base gh v6 (ps ++ [p']) := by
  have hbx : Blk w6 gh 57 #[v] := h.blk.grown hg fun e => by
    rcases h.boxRow with h1 | h1
    · rw [h1] at e; cases e
    · exact h1 e.symm
  have hc : Chg w w6 (fun k => v.ownBlock = some k) := Chg.of_gb hg fun k hk => hk
  have hc2 := Chg.setH w6 ⟨gh, 0, none⟩ v6
  have key : ∀ p, PgAt w base p → PgAt (w6.setCell ⟨gh, 0, none⟩ v6) base p := fun p hp => by
    have h1 : PgAt w6 base p := hp.chg hc fun k hk he => hp.off (h.rowTy he) (by decide) (by decide) (by decide) (by decide) hk
    refine h1.chg hc2 fun k hk he => ?_
    subst he
    exact h1.off hbx.ty (by decide) (by decide) (by decide) (by decide) hk
  refine ⟨hbx.set_ 0 _, h.lo, ?_, fun p hp' => ?_, ?_⟩
  · rw [List.length_append, pcCells_append]
    exact (ho.far (ho.ne_blk hbx (by decide)) 0 v6 : _)
  · rcases List.mem_append.1 hp' with h1 | h1
    · exact key p (h.pg p h1)
    · rw [List.mem_singleton.1 h1]; exact key p' hp
  · rw [List.pairwise_append]
    refine ⟨h.dis, List.pairwise_singleton _ _, fun a ha b hb => ?_⟩
    rw [List.mem_singleton.1 hb]
    exact hd a ha
theorem HK.add {gh : Nat} {v v6 : Value} {ps : List Pc} {p' : Pc} {N M : Nat} (hv : v6.ownBlock = v.ownBlock ∨ v6.ownBlock = some M) (hM : N ≤ M) (hf : ∀ k, foot p' k → N ≤ k) : ∀ k, HK gh v6 (ps ++ [p']) k → HK gh v ps k ∨ N ≤ k := by
  rintro k (rfl | hk | ⟨q, hq, hk⟩)
  · exact .inl (.inl rfl)
  · rcases hv with hv | hv
    · exact .inl (.inr (.inl (hv ▸ hk)))
    · rw [hv] at hk
      cases hk
      exact .inr hM
  · rcases List.mem_append.1 hq with hq | hq
    · exact .inl (.inr (.inr ⟨q, hq, hk⟩))
    · rw [List.mem_singleton.1 hq] at hk
      exact .inr (hf k hk)
set_option maxRecDepth 100000 in
set_option maxHeartbeats 4000000 in
theorem houBegin_any (k : Int) (x : Dd) (base gh : Nat) (v : Value) (ps : List Pc) (w : World) (h : HsAt w base gh v ps) (hn : ps.length ≤ 6) (hb : base ≤ w.heap.size) :
    Calls Tryz.prog 21 #[.pointer (some ⟨gh, 0, none⟩), .int .i64 k, x.val] w fun e w' => e = .returned (.int .i64 (bgE k ps.length x.text)) ∧ HsTo w w' base gh v ps (if bgE k ps.length x.text = 0 then ps.map Pc.s ++ [newPs x.name x.text] else ps.map Pc.s) := by
  obtain ⟨i0, hi0, hz0, hz1, hz2⟩ := info_parts info_pc
  by_cases hk : 0 ≤ k
  · have HV : Hid (bgE k ps.length x.text = 10) := by unfold Hid bgE; rw [if_pos hk]
    have g1 : decide (0 ≤ k) = true := decide_eq_true hk
    have HF : Hid (∀ W, Below w.heap.size w W → HsTo w W base gh v ps (if bgE k ps.length x.text = 0 then ps.map Pc.s ++ [newPs x.name x.text] else ps.map Pc.s)) := fun W hb => by
      rw [if_neg (by rw [HV.out]; decide)]
      exact HsTo.same h hb
    rw [HV.out]
    rw [Hid, HV.out] at HF
    have HF := Lib.hid HF
    obtain ⟨xk, xn, xnm, xt, xA, xm, xc, xl⟩ := x
    unfold Dd.val
    simp only
    clear h
    go_enter Tryz.func21, Tryz.ntmps21
    go_wp2_with fail
    go_ret
    exact ⟨rfl, HF.out _ (by repeat (first | exact Below.refl _ _ | assumption | refine Below.alloc ?_ (by first | exact Nat.le_refl _ | assumption | omega | (simp <;> omega)) _ | refine Below.setCell ?_ (by first | exact Nat.le_refl _ | assumption | omega | (simp <;> omega)) _ | refine Below.drew ?_ | refine below_drewN ?_ _))⟩
  have g1 : decide (0 ≤ k) = false := decide_eq_false hk
  obtain ⟨A0, c0', hv0, _, _, _⟩ := h.row.form
  have hcb := h.blk.cell0
  have hgh := h.blk.lt
  have hcbA : ∀ o, (w.alloc o).cell? ⟨gh, 0, none⟩ = some v := fun o => (World.cell?_alloc_lt _ _ _ hgh).trans hcb
  by_cases h6 : 6 ≤ ps.length
  · have HV : Hid (bgE k ps.length x.text = 11) := by unfold Hid bgE; rw [if_neg hk, if_pos h6]
    have g2 : ((ps.length : Int) == 6) = true := by rw [beq_iff_eq]; omega
    have g2' : (ps.length == 6) = true := by rw [beq_iff_eq]; omega
    have HF : Hid (∀ W, Below w.heap.size w W → HsTo w W base gh v ps (if bgE k ps.length x.text = 0 then ps.map Pc.s ++ [newPs x.name x.text] else ps.map Pc.s)) := fun W hb => by
      rw [if_neg (by rw [HV.out]; decide)]
      exact HsTo.same h hb
    rw [HV.out]
    rw [Hid, HV.out] at HF
    have HF := Lib.hid HF
    obtain ⟨xk, xn, xnm, xt, xA, xm, xc, xl⟩ := x
    unfold Dd.val
    simp only
    subst hv0
    clear h
    generalize ps.length = N at *
    go_enter Tryz.func21, Tryz.ntmps21
    go_wp2_with fail
    go_ret
    exact ⟨rfl, HF.out _ (by repeat (first | exact Below.refl _ _ | assumption | refine Below.alloc ?_ (by first | exact Nat.le_refl _ | assumption | omega | (simp <;> omega)) _ | refine Below.setCell ?_ (by first | exact Nat.le_refl _ | assumption | omega | (simp <;> omega)) _ | refine Below.drew ?_ | refine below_drewN ?_ _))⟩
  have g2 : ((ps.length : Int) == 6) = false := by rw [beq_eq_false_iff_ne]; omega
  have g2' : (ps.length == 6) = false := by rw [beq_eq_false_iff_ne]; omega
  by_cases ht : 200 < x.text.size
  · have HV : Hid (bgE k ps.length x.text = 2) := by unfold Hid bgE; rw [if_neg hk, if_neg h6, if_pos ht]
    have HNW := Lib.hid (fun W => undoNew_large x.text ht W)
    have HF : Hid (∀ W, Below w.heap.size w W → HsTo w W base gh v ps (if bgE k ps.length x.text = 0 then ps.map Pc.s ++ [newPs x.name x.text] else ps.map Pc.s)) := fun W hb => by
      rw [if_neg (by rw [HV.out]; decide)]
      exact HsTo.same h hb
    rw [HV.out]
    rw [Hid, HV.out] at HF
    have HF := Lib.hid HF
    obtain ⟨xk, xn, xnm, xt, xA, xm, xc, xl⟩ := x
    unfold Dd.val
    simp only at HNW ⊢
    subst hv0
    clear h
    go_enter Tryz.func21, Tryz.ntmps21
    go_wp2_with fail
    refine (HNW.out _).mono ?_
    rintro e w2 ⟨rfl, rfl⟩
    go_wp2_with fail
    go_ret
    exact ⟨rfl, HF.out _ (by repeat (first | exact Below.refl _ _ | assumption | refine Below.alloc ?_ (by first | exact Nat.le_refl _ | assumption | omega | (simp <;> omega)) _ | refine Below.setCell ?_ (by first | exact Nat.le_refl _ | assumption | omega | (simp <;> omega)) _ | refine Below.drew ?_ | refine below_drewN ?_ _))⟩
  have HV : Hid (bgE k ps.length x.text = 0) := by unfold Hid bgE; rw [if_neg hk, if_neg h6, if_neg ht]
  rw [HV.out, if_pos rfl]
  have HEN := Lib.hid (fun W => undoNew_any x.text (by omega) W)
  have HLN := Lib.hid (fun W => lfNew_any x.text W (by omega))
  obtain ⟨xk, xn, xnm, xt, xA, xm, xc, xl⟩ := x
  unfold Dd.val
  simp only at HEN HLN ht ⊢
  have HS := Lib.hid h
  subst hv0
  obtain ⟨wA, hwA⟩ : ∃ wA, wA = w.alloc (.cells #[.int .i64 xk, .int .i64 xn, .string xnm, .string xt, .slice xA xm xc] 32) := ⟨_, rfl⟩
  have hbk : Blk wA w.heap.size 32 #[.int .i64 xk, .int .i64 xn, .string xnm, .string xt, .slice xA xm xc] := by rw [hwA]; exact Blk.new_ _ _ _
  have hbA : Below w.heap.size w wA := by rw [hwA]; exact (Below.refl _ _).alloc (Nat.le_refl _) _
  have HWA := Lib.hid hwA
  clear h hwA hcbA
  go_enter Tryz.func21, Tryz.ntmps21
  go_wp2_with fail
  rw [← HWA.out]
  have k0 := hbk.cell 2
  have k1 := hbk.cell 3
  have kb := (hbA.cell (p := ⟨gh, 0, none⟩) hgh).trans hcb
  go_wp2_with fail
  refine (HEN.out wA).mono ?_
  rintro e w1 ⟨rfl, hE1, hb1⟩
  have HE1 := Lib.hid hE1
  have HB1 := Lib.hid (hbA.trans (hb1.mono hbA.size))
  have HK1 := Lib.hid (hbk.below' hb1)
  clear hE1 hb1 k0 k1 kb hbk
  have k0 := HK1.out.cell 2
  have k1 := HK1.out.cell 3
  go_wp2_with fail
  refine (HLN.out w1).mono ?_
  rintro e w2 ⟨rfl, hL2, hb2⟩
  have HL2 := Lib.hid hL2
  have HE2 := Lib.hid (HE1.out.below hb2)
  have HB2 := Lib.hid (HB1.out.trans (hb2.mono HB1.out.size))
  have HK2 := Lib.hid (HK1.out.below' hb2)
  have hs1 := HB1.out.size
  have hs2 := hb2.size
  have hA1 : wA.heap.size < w1.heap.size := HE1.out.blk.lt
  have hsA := hbA.size
  have hlt2 := HL2.out.leaf.lt
  have hfr : (w2.drew).frozen? ⟨gh, 0, none⟩ = false := (HS.out.below HB2.out).blk.frozen 0
  clear hL2 hb2 k0 k1 HE1 HB1 HK1 hbA
  have k0 := HK2.out.cell 2
  have kb := (HB2.out.cell (p := ⟨gh, 0, none⟩) hgh).trans hcb
  have hgd : w.heap.size < w2.heap.size := HK2.out.lt
  have hgh2 : gh < w2.heap.size := Nat.lt_trans hgh hgd
  go_wp2_with fail
  obtain ⟨F1, hFd⟩ : ∃ F : World → Prop, F = fun w' => w'.cell? ⟨gh, 0, none⟩ = some (.slice A0 ps.length c0') ∧ w'.cell? ⟨w.heap.size, 2, none⟩ = some (.string xnm) := ⟨_, rfl⟩
  have HF1 := Lib.hid hFd
  clear hFd
  have hcell10 : ∀ p' : Wof F1, p'.w.cell? ⟨gh, 0, none⟩ = some (.slice A0 ps.length c0') := fun ⟨x, hx⟩ => by rw [HF1.out] at hx; exact hx.1
  have hcell11 : ∀ p' : Wof F1, p'.w.cell? ⟨w.heap.size, 2, none⟩ = some (.string xnm) := fun ⟨x, hx⟩ => by rw [HF1.out] at hx; exact hx.2
  refine wp_region_schedZ [(0, true), (1, true), (2, true), (3, true), (4, true), (5, true), (6, true), (7, true), (8, true), (9, true), (10, false), (11, false), (12, true), (13, true)] 14 _ F1 (by kernel_rfl) (by kernel_rfl) rfl (by kernel_rfl) rfl (fun _ _ _ _ _ h => h) (by kernel_rfl) (by rw [HF1.out]; first | ((repeat' apply And.intro) <;> assumption) | trivial | (simp; done) | (simp [*]; done)) (by rw [HF1.out]; exact fun h => h) ?_
  intro hne1
  simp only [opersOf, List.getElem?_toArray, List.getElem?_cons_succ, List.getElem?_cons_zero]
  repeat (first | (refine wpSched_free rfl ?_; intro K hK; go_big_quiet_op; go_big_quiet_on) | (refine wpSched_wantS _ rfl rfl rfl ?_; intro K hK; go_big_quiet_op; go_big_quiet_on) | (refine wpSched_skipS _ rfl rfl rfl rfl ?_; simp only [Act.put, List.setIfInBounds_toArray, List.set_cons_zero, List.set_cons_succ]) | (refine wpSched_skipU _ rfl rfl rfl ?_; simp only [Act.put, List.setIfInBounds_toArray, List.set_cons_zero, List.set_cons_succ]))
  refine wpSched_other ?_
  go_wp2_with fail
  refine sched_back (by rw [HF1.out]; first | ((repeat' apply And.intro) <;> assumption) | trivial | (simp; done) | (go_simp; done) | (simp [*]; done)) ?_
  repeat (first | (refine wpSched_free rfl ?_; intro K hK; go_big_quiet_op; go_big_quiet_on) | (refine wpSched_wantS _ rfl rfl rfl ?_; intro K hK; go_big_quiet_op; go_big_quiet_on) | (refine wpSched_skipS _ rfl rfl rfl rfl ?_; simp only [Act.put, List.setIfInBounds_toArray, List.set_cons_zero, List.set_cons_succ]) | (refine wpSched_skipU _ rfl rfl rfl ?_; simp only [Act.put, List.setIfInBounds_toArray, List.set_cons_zero, List.set_cons_succ]))
  refine wpSched_other ?_
  have hO1 : ∀ o, OwnO (w2.alloc o).drew base 61 3 (.slice A0 ps.length c0') ps.length (pcCells ps) := fun o => (HS.out.below HB2.out).row.below (by repeat (first | exact Below.refl _ _ | assumption | refine Below.alloc ?_ (by first | exact Nat.le_refl _ | assumption | omega | (simp <;> omega)) _ | refine Below.setCell ?_ (by first | exact Nat.le_refl _ | assumption | omega | (simp <;> omega)) _ | refine Below.drew ?_ | refine below_drewN ?_ _))
  have hnw : ∀ j u, [Value.string xnm, .pointer (some ⟨wA.heap.size, 0, none⟩), .pointer (some ⟨w1.heap.size + 1, 0, none⟩)][j]? = some u → ((w2.alloc (.cells #[.string xnm, .pointer (some ⟨wA.heap.size, 0, none⟩), .pointer (some ⟨w1.heap.size + 1, 0, none⟩)] 61)).drew).cell? (Addr.add ⟨w2.heap.size, 0, none⟩ j) = some u := fun j u hj => cells_new w2 #[.string xnm, .pointer (some ⟨wA.heap.size, 0, none⟩), .pointer (some ⟨w1.heap.size + 1, 0, none⟩)] 61 j u hj
  have hb2D : Below w2.heap.size w2 (w2.alloc (.cells #[.string xnm, .pointer (some ⟨wA.heap.size, 0, none⟩), .pointer (some ⟨w1.heap.size + 1, 0, none⟩)] 61)).drew := (by repeat (first | exact Below.refl _ _ | assumption | refine Below.alloc ?_ (by first | exact Nat.le_refl _ | assumption | omega | (simp <;> omega)) _ | refine Below.setCell ?_ (by first | exact Nat.le_refl _ | assumption | omega | (simp <;> omega)) _ | refine Below.drew ?_ | refine below_drewN ?_ _))
  have hbD : Below w.heap.size w (w2.alloc (.cells #[.string xnm, .pointer (some ⟨wA.heap.size, 0, none⟩), .pointer (some ⟨w1.heap.size + 1, 0, none⟩)] 61)).drew := HB2.out.trans (hb2D.mono HB2.out.size)
  have hSD := HS.out.below hbD
  have hpD : PgAt (w2.alloc (.cells #[.string xnm, .pointer (some ⟨wA.heap.size, 0, none⟩), .pointer (some ⟨w1.heap.size + 1, 0, none⟩)] 61)).drew base ⟨newPs xnm xt, wA.heap.size, w1.heap.size + 1, w1.heap.size, .slice none 0 0, .slice none 0 0⟩ :=
    ⟨(HE2.out.lowerH (by omega)).below hb2D, HL2.out.below hb2D, by show base ≤ w1.heap.size + 1; omega, by show base ≤ w1.heap.size; omega⟩
  have hnew : ∀ k, foot ⟨newPs xnm xt, wA.heap.size, w1.heap.size + 1, w1.heap.size, .slice none 0 0, .slice none 0 0⟩ k → w.heap.size ≤ k := by
    rintro k ((rfl | hk | hk) | rfl | rfl)
    · exact hsA
    · simp [Value.ownBlock] at hk
    · simp [Value.ownBlock] at hk
    · show w.heap.size ≤ w1.heap.size + 1; omega
    · exact hs1
  have hk2D := HK2.out.below' hb2D
  have HSD := Lib.hid hSD
  have HPD := Lib.hid hpD
  have HNEW := Lib.hid hnew
  have HBD := Lib.hid hbD
  have HKD := Lib.hid hk2D
  have hszD : w.heap.size ≤ (w2.alloc (.cells #[.string xnm, .pointer (some ⟨wA.heap.size, 0, none⟩), .pointer (some ⟨w1.heap.size + 1, 0, none⟩)] 61)).drew.heap.size := hbD.size
  have HSZ := Lib.hid hszD
  clear hSD hpD hnew hbD hk2D hb2D hszD
  go_wp2_with (at_builtin; go_must (refine wpList_appO rfl _ _ _ rfl base 61 i0 _ 3 32 Tryz.underlying55 hi0 hz0 hz1 hz2 rfl (by omega) _ ps.length (pcCells ps) rfl (hO1 _) ⟨w2.heap.size, 0, none⟩ 1 1 [.string xnm, .pointer (some ⟨wA.heap.size, 0, none⟩), .pointer (some ⟨w1.heap.size + 1, 0, none⟩)] rfl rfl hnw (by simp [Value.oneCell']) (by omega) (by omega) (by simp; omega) ?_); intro v6 w6 hown6 hg6 hb6 ha6; obtain ⟨A6, c6, rfl, _, _, _⟩ := OwnO.form hown6)
  have hadd := HSD.out.add HPD.out (fun q hq k h1 h2 => by
    have := ((HS.out.pg q hq).lt h1).2
    have := HNEW.out k h2
    omega) hown6 hg6
  have hne : some gh ≠ (Value.slice A0 ps.length c0').ownBlock := fun e => by
    rcases HS.out.boxRow with h | h
    · rw [h] at e; cases e
    · exact h e.symm
  have hneK : some w.heap.size ≠ (Value.slice A0 ps.length c0').ownBlock := fun e => by
    have := (HS.out.row.lt _ e.symm).2
    omega
  have hbx6 := HSD.out.blk.grown hg6 hne
  have hbk6 := HKD.out.grown hg6 hneK
  have q0 : w6.cell? ⟨gh, 0, none⟩ = some (.slice A0 ps.length c0') := hbx6.cell0
  have q1 : w6.cell? ⟨w.heap.size, 2, none⟩ = some (.string xnm) := hbk6.cell 2
  have qf : w6.frozen? ⟨gh, 0, none⟩ = false := hbx6.frozen 0
  have HTO : Hid (HsTo w (w6.setCell ⟨gh, 0, none⟩ (.slice A6 (ps.length + 1) c6)) base gh (.slice A0 ps.length c0') ps (ps.map Pc.s ++ [newPs xnm xt])) := by
    refine ⟨⟨_, _, hadd, by rw [List.map_append]; rfl, HK.add ha6 HSZ.out HNEW.out⟩, ?_⟩
    refine (((Chg.ofB HBD.out).thenK (Chg.of_gb hg6 fun k hk => .inr (.inl hk))).trans (Chg.setH w6 ⟨gh, 0, none⟩ _) fun k hk _ => .inl hk)
  clear hadd hown6 hg6 hb6 ha6 hne hneK hbx6 hbk6 hO1 hnw
  refine sched_back (by rw [HF1.out]; exact ⟨q0, q1⟩) ?_
  repeat (first | (refine wpSched_free rfl ?_; intro K hK; go_big_quiet_op; go_big_quiet_on) | (refine wpSched_wantS _ rfl rfl rfl ?_; intro K hK; go_big_quiet_op; go_big_quiet_on) | (refine wpSched_skipS _ rfl rfl rfl rfl ?_; simp only [Act.put, List.setIfInBounds_toArray, List.set_cons_zero, List.set_cons_succ]) | (refine wpSched_skipU _ rfl rfl rfl ?_; simp only [Act.put, List.setIfInBounds_toArray, List.set_cons_zero, List.set_cons_succ]))
  refine wpSched_nil ?_
  refine qz_nil ?_
  clear HF1 hcell10 hcell11 hne1
  go_wp2_with fail
  go_ret
  exact ⟨rfl, HTO.out⟩
end Go.Proofs.YtplgghjdidmcfaaGreatDoor
namespace Go.Proofs.YtplgghjdidmcfaaGreatDoor
open Go.RowKit
section
variable {P : List Ps} {x : Dd}
theorem hs_page (h2 : 2 ≤ x.kind) (h10 : x.kind ≤ 10) (h8 : x.kind ≠ 8) (h9 : x.kind ≠ 9) (hn : named x.name = true) (hi : fnd x.name P < P.length) : hsE P x = pgE P[fnd x.name P] x ∧ hsT P x = ⟨#[]⟩ ∧ hsP P x = P.set (fnd x.name P) (pgP P[fnd x.name P] x) := by
  unfold hsE hsT hsP
  rw [if_neg (by omega), if_neg (by rw [hn]; decide), if_neg (by omega), dif_pos hi, if_neg (by omega), dif_neg (fun h => h8 h.1), if_neg (by omega), if_neg (by rw [hn]; decide), if_neg (by omega), dif_pos hi, if_neg h8, if_neg h9]
  exact ⟨rfl, rfl, rfl⟩
theorem hs_text (h8 : x.kind = 8) (hn : named x.name = true) (hi : fnd x.name P < P.length) : hsE P x = 0 ∧ hsT P x = P[fnd x.name P].tx ∧ hsP P x = P := by
  unfold hsE hsT hsP
  rw [if_neg (by omega), if_neg (by rw [hn]; decide), if_neg (by omega), dif_pos hi, if_pos (by omega), dif_pos ⟨h8, hn, hi⟩, if_neg (by omega), if_neg (by rw [hn]; decide), if_neg (by omega), dif_pos hi, if_pos h8]
  exact ⟨rfl, rfl, rfl⟩
theorem hs_drop (h9 : x.kind = 9) (hn : named x.name = true) (hi : fnd x.name P < P.length) : hsE P x = 0 ∧ hsT P x = ⟨#[]⟩ ∧ hsP P x = P.eraseIdx (fnd x.name P) := by
  unfold hsE hsT hsP
  rw [if_neg (by omega), if_neg (by rw [hn]; decide), if_neg (by omega), dif_pos hi, if_pos (by omega), dif_neg (fun h => by have := h.1; omega), if_neg (by omega), if_neg (by rw [hn]; decide), if_neg (by omega), dif_pos hi, if_neg (by omega), if_pos h9]
  exact ⟨rfl, rfl, rfl⟩
theorem hs_none (h2 : 2 ≤ x.kind) (h10 : x.kind ≤ 10) (hn : named x.name = true) (hi : ¬ fnd x.name P < P.length) : hsE P x = 4 ∧ hsT P x = ⟨#[]⟩ ∧ hsP P x = P := by
  unfold hsE hsT hsP
  rw [if_neg (by omega), if_neg (by rw [hn]; decide), if_neg (by omega), dif_neg hi, dif_neg (fun h => hi h.2.2), if_neg (by omega), if_neg (by rw [hn]; decide), if_neg (by omega), dif_neg hi]
  exact ⟨rfl, rfl, rfl⟩
theorem hs_new (h1 : x.kind = 1) (hn : named x.name = true) : hsE P x = bgE (idxZ x.name P) P.length x.text ∧ hsT P x = ⟨#[]⟩ ∧ hsP P x = if bgE (idxZ x.name P) P.length x.text = 0 then P ++ [newPs x.name x.text] else P := by
  have e1 : hsE P x = if fnd x.name P < P.length then 10 else if 6 ≤ P.length then 11 else if 200 < x.text.size then 2 else 0 := by
    unfold hsE
    rw [if_neg (by omega), if_neg (by rw [hn]; decide), if_pos h1]
  have e2 : hsP P x = if fnd x.name P < P.length then P else if 6 ≤ P.length then P else if 200 < x.text.size then P else P ++ [newPs x.name x.text] := by
    unfold hsP
    rw [if_neg (by omega), if_neg (by rw [hn]; decide), if_pos h1]
  have e3 : hsT P x = ⟨#[]⟩ := by
    unfold hsT
    rw [dif_neg (fun h => by have := h.1; omega)]
  have e4 : bgE (idxZ x.name P) P.length x.text = if fnd x.name P < P.length then 10 else if 6 ≤ P.length then 11 else if 200 < x.text.size then 2 else 0 := by
    unfold bgE
    by_cases hi : fnd x.name P < P.length
    · rw [if_pos hi, idxZ_pos hi, if_pos (Int.natCast_nonneg _)]
    · rw [if_neg hi, idxZ_neg hi, if_neg (by decide)]
  refine ⟨e1.trans e4.symm, e3, ?_⟩
  rw [e2, e4]
  by_cases hi : fnd x.name P < P.length
  · rw [if_pos hi, if_pos hi, if_neg (by decide)]
  · rw [if_neg hi, if_neg hi]
    by_cases h6 : 6 ≤ P.length
    · rw [if_pos h6, if_pos h6, if_neg (by decide)]
    · rw [if_neg h6, if_neg h6]
      by_cases ht : 200 < x.text.size
      · rw [if_pos ht, if_pos ht, if_neg (by decide)]
      · rw [if_neg ht, if_neg ht, if_pos rfl]
theorem hs_noname (h1 : 1 ≤ x.kind) (h10 : x.kind ≤ 10) (hn : named x.name = false) : hsE P x = 3 ∧ hsT P x = ⟨#[]⟩ ∧ hsP P x = P := by
  unfold hsE hsT hsP
  rw [if_neg (by omega), if_pos hn, dif_neg (fun h => by rw [hn] at h; exact absurd h.2.1 (by decide)), if_neg (by omega), if_pos hn]
  exact ⟨rfl, rfl, rfl⟩
theorem hs_nokind (h : x.kind < 1 ∨ 10 < x.kind) : hsE P x = 1 ∧ hsT P x = ⟨#[]⟩ ∧ hsP P x = P := by
  unfold hsE hsT hsP
  rw [if_pos h, dif_neg (fun h' => by have := h'.1; omega), if_pos h]
  exact ⟨rfl, rfl, rfl⟩
end
theorem HsTo.pre {w wX w' : World} {base gh : Nat} {v : Value} {ps : List Pc} {P' : List Ps} (hb : Below w.heap.size w wX) (h : HsTo wX w' base gh v ps P') : HsTo w w' base gh v ps P' := by
  obtain ⟨⟨v', ps', h1, h2, h3⟩, hc⟩ := h
  refine ⟨⟨v', ps', h1, h2, fun k hk => ?_⟩, (Chg.ofB hb).thenK hc⟩
  rcases h3 k hk with h | h
  · exact .inl h
  · exact .inr (Nat.le_trans hb.size h)
/-- What a deed asks of what it is given. -/
structure DdOk (w : World) (K : Nat → Prop) (x : Dd) : Prop where
  nm : x.name.size ≤ 9223372036854775807
  tx : x.text.size ≤ 9223372036854775807
  m : x.m ≤ 9223372036854775807
  r : Rd w w.heap.size 3 x.A x.m (edCells x.l)
  o : 0 < x.m → ∀ ad, x.A = some ad → ¬ K ad.block
/-- A row off the house's blocks stands through the house's own turns. -/
theorem rdThruK {w w2 W : World} {K K2 : Nat → Prop} {A : Option Addr} {n size : Nat} {xs : List Value} (hb : Below w.heap.size w w2) (hc : Chg w2 W K) (hK : ∀ k, K k → K2 k) (ho : 0 < n → ∀ ad, A = some ad → ¬ K2 ad.block) (h : Rd w w.heap.size size A n xs) : Rd W W.heap.size size A n xs := by
  refine ⟨h.1, fun hn => ?_⟩
  obtain ⟨ad, e, hlt, hcl⟩ := h.2 hn
  have h2 : ad.block < w2.heap.size := Nat.lt_of_lt_of_le hlt hb.size
  refine ⟨ad, e, Nat.lt_of_lt_of_le h2 hc.size, fun j u hu => ?_⟩
  rw [World.cell?_of_block (w := w2) (hc.block (ad.add j).block (by rw [blk_add]; exact h2) (by rw [blk_add]; exact fun hk => ho hn ad e (hK _ hk))), hb.cell (by rw [blk_add]; exact hlt)]
  exact hcl j u hu
abbrev DoAns (w : World) (base gh : Nat) (v : Value) (ps : List Pc) (x : Dd) : Ending → World → Prop := fun e w' => e = .returned (.tuple #[.string (hsT (ps.map Pc.s) x), .int .i64 (hsE (ps.map Pc.s) x)]) ∧ HsTo w w' base gh v ps (hsP (ps.map Pc.s) x)
set_option maxRecDepth 100000 in
set_option maxHeartbeats 4000000 in
theorem houDo_nokind (x : Dd) (base gh : Nat) (v : Value) (ps : List Pc) (w : World) (h : HsAt w base gh v ps) (hk : x.kind < 1 ∨ 10 < x.kind) : Calls Tryz.prog 8 #[.pointer (some ⟨gh, 0, none⟩), x.val] w (DoAns w base gh v ps x) := by
  obtain ⟨h1, h2, h3⟩ := hs_nokind (P := ps.map Pc.s) hk
  have HF : Hid (∀ W, Below w.heap.size w W → HsTo w W base gh v ps (ps.map Pc.s)) := fun W hb => HsTo.same h hb
  unfold DoAns
  rw [h1, h2, h3]
  clear h h1 h2 h3
  obtain ⟨xk, xn, xnm, xt, xA, xm, xc, xl⟩ := x
  unfold Dd.val
  simp only at hk ⊢
  by_cases hk1 : xk < 1
  · have g1 : decide (xk < 1) = true := decide_eq_true hk1
    clear hk
    go_enter Tryz.func8, Tryz.ntmps8
    go_wp2_with fail
    (apply bodyPost_ret; (simp [results, Tryz.results8, go_sem]; rfl); rfl)
    exact ⟨rfl, HF.out _ (by repeat (first | exact Below.refl _ _ | assumption | refine Below.alloc ?_ (by first | exact Nat.le_refl _ | assumption | omega | (simp <;> omega)) _ | refine Below.setCell ?_ (by first | exact Nat.le_refl _ | assumption | omega | (simp <;> omega)) _ | refine Below.drew ?_ | refine below_drewN ?_ _))⟩
  · have g1 : decide (xk < 1) = false := decide_eq_false hk1
    have g2 : decide (10 < xk) = true := decide_eq_true (by omega)
    clear hk
    go_enter Tryz.func8, Tryz.ntmps8
    go_wp2_with fail
    (apply bodyPost_ret; (simp [results, Tryz.results8, go_sem]; rfl); rfl)
    exact ⟨rfl, HF.out _ (by repeat (first | exact Below.refl _ _ | assumption | refine Below.alloc ?_ (by first | exact Nat.le_refl _ | assumption | omega | (simp <;> omega)) _ | refine Below.setCell ?_ (by first | exact Nat.le_refl _ | assumption | omega | (simp <;> omega)) _ | refine Below.drew ?_ | refine below_drewN ?_ _))⟩
set_option maxRecDepth 100000 in
set_option maxHeartbeats 4000000 in
theorem houDo_noname (x : Dd) (base gh : Nat) (v : Value) (ps : List Pc) (w : World) (h : HsAt w base gh v ps) (hx : DdOk w (HK gh v ps) x) (hk1 : 1 ≤ x.kind) (hk10 : x.kind ≤ 10) (hn : named x.name = false) : Calls Tryz.prog 8 #[.pointer (some ⟨gh, 0, none⟩), x.val] w (DoAns w base gh v ps x) := by
  obtain ⟨h1, h2, h3⟩ := hs_noname (P := ps.map Pc.s) hk1 hk10 hn
  have HF : Hid (∀ W, Below w.heap.size w W → HsTo w W base gh v ps (ps.map Pc.s)) := fun W hb => HsTo.same h hb
  have HNM := Lib.hid (fun W => houName_any x.name W hx.nm)
  rw [hn] at HNM
  unfold DoAns
  rw [h1, h2, h3]
  clear h h1 h2 h3 hx hn
  obtain ⟨xk, xn, xnm, xt, xA, xm, xc, xl⟩ := x
  unfold Dd.val
  simp only at hk1 hk10 HNM ⊢
  have g1 : decide (xk < 1) = false := decide_eq_false (by omega)
  have g2 : decide (10 < xk) = false := decide_eq_false (by omega)
  have hbk : Blk (w.alloc (.cells #[.int .i64 xk, .int .i64 xn, .string xnm, .string xt, .slice xA xm xc] 32)) w.heap.size 32 #[.int .i64 xk, .int .i64 xn, .string xnm, .string xt, .slice xA xm xc] := Blk.new_ _ _ _
  have hbA : Below w.heap.size w (w.alloc (.cells #[.int .i64 xk, .int .i64 xn, .string xnm, .string xt, .slice xA xm xc] 32)) := (Below.refl _ _).alloc (Nat.le_refl _) _
  have HBK := Lib.hid hbk
  have HBA := Lib.hid hbA
  clear hbk hbA
  obtain ⟨wA, hwA⟩ : ∃ wA, wA = w.alloc (.cells #[.int .i64 xk, .int .i64 xn, .string xnm, .string xt, .slice xA xm xc] 32) := ⟨_, rfl⟩
  rw [← hwA] at HBK HBA
  have HWA := Lib.hid hwA
  clear hwA
  go_enter Tryz.func8, Tryz.ntmps8
  go_wp2_with fail
  rw [← HWA.out]
  have q0 := HBK.out.cell0
  have q2 := HBK.out.cell 2
  go_wp2_with fail
  refine (HNM.out _).mono ?_
  rintro e w1 ⟨rfl, hb1⟩
  go_wp2_with fail
  (apply bodyPost_ret; (simp [results, Tryz.results8, go_sem]; rfl); rfl)
  exact ⟨rfl, HF.out _ (HBA.out.trans (hb1.mono HBA.out.size))⟩
set_option maxRecDepth 100000 in
set_option maxHeartbeats 4000000 in
theorem houDo_new (x : Dd) (base gh : Nat) (v : Value) (ps : List Pc) (w : World) (h : HsAt w base gh v ps) (hk : HsOk (ps.map Pc.s)) (hb : base ≤ w.heap.size) (hx : DdOk w (HK gh v ps) x) (hk1 : x.kind = 1) (hn : named x.name = true) : Calls Tryz.prog 8 #[.pointer (some ⟨gh, 0, none⟩), x.val] w (DoAns w base gh v ps x) := by
  obtain ⟨hq1, hq2, hq3⟩ := hs_new (P := ps.map Pc.s) hk1 hn
  have HBG := Lib.hid (fun W (hW : Below w.heap.size w W) => houBegin_any (idxZ x.name (ps.map Pc.s)) x base gh v ps W (h.below hW) (by have := hk.n; rwa [List.length_map] at this) (Nat.le_trans hb hW.size))
  rw [List.length_map] at hq1 hq3
  obtain ⟨PN, hPN⟩ : ∃ PN, (if bgE (idxZ x.name (ps.map Pc.s)) ps.length x.text = 0 then ps.map Pc.s ++ [newPs x.name x.text] else ps.map Pc.s) = PN := ⟨_, rfl⟩
  rw [hPN] at hq3 HBG
  clear hPN
  have HPS := Lib.hid h
  have hnl : ps.length ≤ 6 := by have := hk.n; rwa [List.length_map] at this
  obtain ⟨A0, c0', hv0, _, _, hrd0⟩ := h.row.form
  have hcb := h.blk.cell0
  have hgh := h.blk.lt
  have HNM := Lib.hid (fun W => houName_any x.name W hx.nm)
  rw [hn] at HNM
  have HID := Lib.hid (fun W g (hW : Below w.heap.size w W) (hg : g < W.heap.size) (hc : W.cell? ⟨g, 2, none⟩ = some (.string x.name)) => idxPc_any ps x.name A0 ps.length c0' w.heap.size g W (hrd0.below hW) hW.size (by omega) rfl hg hc)
  unfold DoAns
  rw [hq1, hq2, hq3]
  clear hq1 hq2 hq3 hrd0
  have HX := Lib.hid hx
  have HKK := Lib.hid hk
  clear hn hx hk h
  obtain ⟨xk, xn, xnm, xt, xA, xm, xc, xl⟩ := x
  unfold Dd.val
  unfold Dd.val at HBG
  simp only at hk1 HNM HID HBG ⊢
  subst hk1
  generalize idxZ xnm (ps.map Pc.s) = z at *
  subst hv0
  have hbk : Blk (w.alloc (.cells #[.int .i64 1, .int .i64 xn, .string xnm, .string xt, .slice xA xm xc] 32)) w.heap.size 32 #[.int .i64 1, .int .i64 xn, .string xnm, .string xt, .slice xA xm xc] := Blk.new_ _ _ _
  have hbA : Below w.heap.size w (w.alloc (.cells #[.int .i64 1, .int .i64 xn, .string xnm, .string xt, .slice xA xm xc] 32)) := (Below.refl _ _).alloc (Nat.le_refl _) _
  have HBK := Lib.hid hbk
  have HBA := Lib.hid hbA
  clear hbk hbA
  obtain ⟨wA, hwA⟩ : ∃ wA, wA = w.alloc (.cells #[.int .i64 1, .int .i64 xn, .string xnm, .string xt, .slice xA xm xc] 32) := ⟨_, rfl⟩
  rw [← hwA] at HBK HBA
  have HWA := Lib.hid hwA
  clear hwA
  go_enter Tryz.func8, Tryz.ntmps8
  go_wp2_with fail
  rw [← HWA.out]
  have q0 := HBK.out.cell0
  have q1 := HBK.out.cell 1
  have q2 := HBK.out.cell 2
  have q3 := HBK.out.cell 3
  have q4 := HBK.out.cell 4
  go_wp2_with fail
  refine (HNM.out _).mono ?_
  rintro e w1 ⟨rfl, hb1⟩
  have HB1 := Lib.hid (HBA.out.trans (hb1.mono HBA.out.size))
  have HBK1 := Lib.hid (HBK.out.below' hb1)
  clear q0 q1 q2 q3 q4 hb1 HBK HBA
  have q0 := HBK1.out.cell0
  have kb := (HB1.out.cell (p := ⟨gh, 0, none⟩) hgh).trans hcb
  go_wp2_with fail
  refine (HID.out w1 w.heap.size HB1.out HBK1.out.lt (HBK1.out.cell 2)).mono ?_
  rintro e w2 ⟨rfl, hb2⟩
  have HB2 := Lib.hid (HB1.out.trans (hb2.mono HB1.out.size))
  have HBK2 := Lib.hid (HBK1.out.below' hb2)
  have hpre := HPS.out.below HB2.out
  have HS2 := Lib.hid hpre
  clear q0 kb hb2 HB1 HBK1 HID HNM hpre
  have q0 := HBK2.out.cell0
  have q1 := HBK2.out.cell 1
  have q2 := HBK2.out.cell 2
  have q3 := HBK2.out.cell 3
  have q4 := HBK2.out.cell 4
  have kb := (HB2.out.cell (p := ⟨gh, 0, none⟩) hgh).trans hcb
  go_wp2_with fail
  refine (HBG.out w2 HB2.out).mono ?_
  rintro e w3 ⟨rfl, hto⟩
  have HTO := Lib.hid (hto.pre HB2.out)
  clear hto
  go_wp2_with fail
  (apply bodyPost_ret; (simp [results, Tryz.results8, go_sem]; rfl); rfl)
  exact ⟨rfl, HTO.out⟩
set_option maxRecDepth 100000 in
set_option maxHeartbeats 4000000 in
theorem houDo_none (x : Dd) (base gh : Nat) (v : Value) (ps : List Pc) (w : World) (h : HsAt w base gh v ps) (hk : HsOk (ps.map Pc.s)) (hx : DdOk w (HK gh v ps) x) (hk2 : 2 ≤ x.kind) (hk10 : x.kind ≤ 10) (hn : named x.name = true) (hi : ¬ fnd x.name (ps.map Pc.s) < (ps.map Pc.s).length) : Calls Tryz.prog 8 #[.pointer (some ⟨gh, 0, none⟩), x.val] w (DoAns w base gh v ps x) := by
  obtain ⟨hq1, hq2, hq3⟩ := hs_none (P := ps.map Pc.s) hk2 hk10 hn hi
  have hz := idxZ_neg hi
  have HPS := Lib.hid h
  have hnl : ps.length ≤ 6 := by have := hk.n; rwa [List.length_map] at this
  obtain ⟨A0, c0', hv0, _, _, hrd0⟩ := h.row.form
  have hcb := h.blk.cell0
  have hgh := h.blk.lt
  have HNM := Lib.hid (fun W => houName_any x.name W hx.nm)
  rw [hn] at HNM
  have HID := Lib.hid (fun W g (hW : Below w.heap.size w W) (hg : g < W.heap.size) (hc : W.cell? ⟨g, 2, none⟩ = some (.string x.name)) => idxPc_any ps x.name A0 ps.length c0' w.heap.size g W (hrd0.below hW) hW.size (by omega) rfl hg hc)
  unfold DoAns
  rw [hq1, hq2, hq3]
  clear hq1 hq2 hq3 hrd0
  have HX := Lib.hid hx
  have HKK := Lib.hid hk
  clear hn hx hk h
  rw [hz] at HID
  clear hz hi
  obtain ⟨xk, xn, xnm, xt, xA, xm, xc, xl⟩ := x
  unfold Dd.val
  simp only at hk2 hk10 HNM HID ⊢
  have g1 : decide (xk < 1) = false := decide_eq_false (by omega)
  have g2 : decide (10 < xk) = false := decide_eq_false (by omega)
  have g3 : (xk == 1) = false := by rw [beq_eq_false_iff_ne]; omega
  subst hv0
  have hbk : Blk (w.alloc (.cells #[.int .i64 xk, .int .i64 xn, .string xnm, .string xt, .slice xA xm xc] 32)) w.heap.size 32 #[.int .i64 xk, .int .i64 xn, .string xnm, .string xt, .slice xA xm xc] := Blk.new_ _ _ _
  have hbA : Below w.heap.size w (w.alloc (.cells #[.int .i64 xk, .int .i64 xn, .string xnm, .string xt, .slice xA xm xc] 32)) := (Below.refl _ _).alloc (Nat.le_refl _) _
  have HBK := Lib.hid hbk
  have HBA := Lib.hid hbA
  clear hbk hbA
  obtain ⟨wA, hwA⟩ : ∃ wA, wA = w.alloc (.cells #[.int .i64 xk, .int .i64 xn, .string xnm, .string xt, .slice xA xm xc] 32) := ⟨_, rfl⟩
  rw [← hwA] at HBK HBA
  have HWA := Lib.hid hwA
  clear hwA
  go_enter Tryz.func8, Tryz.ntmps8
  go_wp2_with fail
  rw [← HWA.out]
  have q0 := HBK.out.cell0
  have q1 := HBK.out.cell 1
  have q2 := HBK.out.cell 2
  have q3 := HBK.out.cell 3
  have q4 := HBK.out.cell 4
  go_wp2_with fail
  refine (HNM.out _).mono ?_
  rintro e w1 ⟨rfl, hb1⟩
  have HB1 := Lib.hid (HBA.out.trans (hb1.mono HBA.out.size))
  have HBK1 := Lib.hid (HBK.out.below' hb1)
  clear q0 q1 q2 q3 q4 hb1 HBK HBA
  have q0 := HBK1.out.cell0
  have kb := (HB1.out.cell (p := ⟨gh, 0, none⟩) hgh).trans hcb
  go_wp2_with fail
  refine (HID.out w1 w.heap.size HB1.out HBK1.out.lt (HBK1.out.cell 2)).mono ?_
  rintro e w2 ⟨rfl, hb2⟩
  have HB2 := Lib.hid (HB1.out.trans (hb2.mono HB1.out.size))
  have HBK2 := Lib.hid (HBK1.out.below' hb2)
  have hpre := HPS.out.below HB2.out
  have HS2 := Lib.hid hpre
  clear q0 kb hb2 HB1 HBK1 HID HNM hpre
  have q0 := HBK2.out.cell0
  have q1 := HBK2.out.cell 1
  have q2 := HBK2.out.cell 2
  have q3 := HBK2.out.cell 3
  have q4 := HBK2.out.cell 4
  have kb := (HB2.out.cell (p := ⟨gh, 0, none⟩) hgh).trans hcb
  go_wp2_with fail
  (apply bodyPost_ret; (simp [results, Tryz.results8, go_sem]; rfl); rfl)
  exact ⟨rfl, HsTo.pre HB2.out (HsTo.same HS2.out (Below.refl _ _))⟩
theorem pg2 {s : Ps} {x : Dd} (h : x.kind = 2) : pgE s x = edPE s x.l ∧ pgP s x = edP s x.l := by constructor <;> simp [pgE, pgP, h]
theorem pg3 {s : Ps} {x : Dd} (h : x.kind = 3) : pgE s x = unPE s ∧ pgP s x = unP s := by constructor <;> simp [pgE, pgP, h]
theorem pg4 {s : Ps} {x : Dd} (h : x.kind = 4) : pgE s x = rePE s ∧ pgP s x = reP s := by constructor <;> simp [pgE, pgP, h]
theorem pg5 {s : Ps} {x : Dd} (h : x.kind = 5) : pgE s x = 0 ∧ pgP s x = svP s := by constructor <;> simp [pgE, pgP, h]
theorem pg6 {s : Ps} {x : Dd} (h : x.kind = 6) : pgE s x = pkE x.num ∧ pgP s x = paP s x.num := by constructor <;> simp [pgE, pgP, h]
theorem pg7 {s : Ps} {x : Dd} (h : x.kind = 7) : pgE s x = crPE s x.num ∧ pgP s x = crP s x.num := by constructor <;> simp [pgE, pgP, h]
theorem pg10 {s : Ps} {x : Dd} (h : x.kind = 10) : pgE s x = mkPE s x.text ∧ pgP s x = mkP s x.text := by constructor <;> simp [pgE, pgP, h]
theorem edP_nm (s : Ps) (l : List Ed) : (edP s l).nm = s.nm := by unfold edP; split <;> rfl
theorem unP_nm (s : Ps) : (unP s).nm = s.nm := by unfold unP; split <;> rfl
theorem reP_nm (s : Ps) : (reP s).nm = s.nm := by unfold reP; split <;> rfl
theorem paP_nm (s : Ps) (n : Int) : (paP s n).nm = s.nm := by unfold paP; split <;> rfl
theorem crP_nm (s : Ps) (n : Int) : (crP s n).nm = s.nm := by unfold crP; split <;> rfl
theorem mkP_nm (s : Ps) (t : ByteArray) : (mkP s t).nm = s.nm := by unfold mkP; split; exact edP_nm s _; rfl
theorem hs_pagePc {ps : List Pc} {x : Dd} (h2 : 2 ≤ x.kind) (h10 : x.kind ≤ 10) (h8 : x.kind ≠ 8) (h9 : x.kind ≠ 9) (hn : named x.name = true) {i : Nat} (hi : fnd x.name (ps.map Pc.s) = i) (hil : i < ps.length) : hsE (ps.map Pc.s) x = pgE ps[i].s x ∧ hsT (ps.map Pc.s) x = ⟨#[]⟩ ∧ hsP (ps.map Pc.s) x = (ps.map Pc.s).set i (pgP ps[i].s x) := by
  subst hi
  have hl : fnd x.name (ps.map Pc.s) < (ps.map Pc.s).length := by rw [List.length_map]; exact hil
  obtain ⟨h1, h3, h4⟩ := hs_page (P := ps.map Pc.s) h2 h10 h8 h9 hn hl
  rw [List.getElem_map] at h1 h4
  exact ⟨h1, h3, h4⟩
/-- What a deed at a page that is there begins with. -/
structure Found (w : World) (base gh : Nat) (v : Value) (ps : List Pc) (x : Dd) (i : Nat) : Prop where
  h : HsAt w base gh v ps
  k : HsOk (ps.map Pc.s)
  b : base ≤ w.heap.size
  d : DdOk w (HK gh v ps) x
  t : TabI w
  n : named x.name = true
  e : fnd x.name (ps.map Pc.s) = i
  l : i < ps.length
set_option maxRecDepth 100000 in
set_option maxHeartbeats 4000000 in
theorem houDo2 (x : Dd) (base gh : Nat) (v : Value) (ps : List Pc) (i : Nat) (w : World) (hf : Found w base gh v ps x i) (hkk : x.kind = 2) : Calls Tryz.prog 8 #[.pointer (some ⟨gh, 0, none⟩), x.val] w (DoAns w base gh v ps x) := by
  have hil : i < ps.length := hf.l
  obtain ⟨hq1, hq2, hq3⟩ := hs_pagePc (ps := ps) (x := x) (by omega) (by omega) (by omega) (by omega) hf.n hf.e hil
  rw [(pg2 hkk).1] at hq1
  rw [(pg2 hkk).2] at hq3
  obtain ⟨h, hk, hb, hx, ht, hn, hi, _⟩ := hf
  have HTB : Hid (∀ W, Below w.heap.size w W → TabI W) := fun W hW => tabI_stays ht hW
  have hz : idxZ x.name (ps.map Pc.s) = (i : Int) := by rw [idxZ_pos (by rw [hi, List.length_map]; exact hil), hi]
  have HOKP : Hid (PsOk ps[i].s) := hk.pg _ (List.mem_map_of_mem (List.getElem_mem hil))
  have HPS := Lib.hid h
  have hnl : ps.length ≤ 6 := by have := hk.n; rwa [List.length_map] at this
  obtain ⟨A0, c0', hv0, _, _, hrd0⟩ := h.row.form
  have hcb := h.blk.cell0
  have hgh := h.blk.lt
  have HNM := Lib.hid (fun W => houName_any x.name W hx.nm)
  rw [hn] at HNM
  have HID := Lib.hid (fun W g (hW : Below w.heap.size w W) (hg : g < W.heap.size) (hc : W.cell? ⟨g, 2, none⟩ = some (.string x.name)) => idxPc_any ps x.name A0 ps.length c0' w.heap.size g W (hrd0.below hW) hW.size (by omega) rfl hg hc)
  unfold DoAns
  rw [hq1, hq2, hq3]
  clear hq1 hq2 hq3 hrd0
  have HX := Lib.hid hx
  have HKK := Lib.hid hk
  clear hn hx hk h
  rw [hz] at HID
  clear hz hi ht
  obtain ⟨xk, xn, xnm, xt, xA, xm, xc, xl⟩ := x
  unfold Dd.val
  simp only at *
  subst hkk
  subst hv0
  have hbk : Blk (w.alloc (.cells #[.int .i64 2, .int .i64 xn, .string xnm, .string xt, .slice xA xm xc] 32)) w.heap.size 32 #[.int .i64 2, .int .i64 xn, .string xnm, .string xt, .slice xA xm xc] := Blk.new_ _ _ _
  have hbA : Below w.heap.size w (w.alloc (.cells #[.int .i64 2, .int .i64 xn, .string xnm, .string xt, .slice xA xm xc] 32)) := (Below.refl _ _).alloc (Nat.le_refl _) _
  have HBK := Lib.hid hbk
  have HBA := Lib.hid hbA
  clear hbk hbA
  obtain ⟨wA, hwA⟩ : ∃ wA, wA = w.alloc (.cells #[.int .i64 2, .int .i64 xn, .string xnm, .string xt, .slice xA xm xc] 32) := ⟨_, rfl⟩
  rw [← hwA] at HBK HBA
  have HWA := Lib.hid hwA
  clear hwA
  go_enter Tryz.func8, Tryz.ntmps8
  go_wp2_with fail
  rw [← HWA.out]
  have q0 := HBK.out.cell0
  have q1 := HBK.out.cell 1
  have q2 := HBK.out.cell 2
  have q3 := HBK.out.cell 3
  have q4 := HBK.out.cell 4
  go_wp2_with fail
  refine (HNM.out _).mono ?_
  rintro e w1 ⟨rfl, hb1⟩
  have HB1 := Lib.hid (HBA.out.trans (hb1.mono HBA.out.size))
  have HBK1 := Lib.hid (HBK.out.below' hb1)
  clear q0 q1 q2 q3 q4 hb1 HBK HBA
  have q0 := HBK1.out.cell0
  have kb := (HB1.out.cell (p := ⟨gh, 0, none⟩) hgh).trans hcb
  go_wp2_with fail
  refine (HID.out w1 w.heap.size HB1.out HBK1.out.lt (HBK1.out.cell 2)).mono ?_
  rintro e w2 ⟨rfl, hb2⟩
  have HB2 := Lib.hid (HB1.out.trans (hb2.mono HB1.out.size))
  have HBK2 := Lib.hid (HBK1.out.below' hb2)
  have hpre := HPS.out.below HB2.out
  have HS2 := Lib.hid hpre
  clear q0 kb hb2 HB1 HBK1 HID HNM hpre
  have q0 := HBK2.out.cell0
  have q1 := HBK2.out.cell 1
  have q2 := HBK2.out.cell 2
  have q3 := HBK2.out.cell 3
  have q4 := HBK2.out.cell 4
  have kb := (HB2.out.cell (p := ⟨gh, 0, none⟩) hgh).trans hcb
  obtain ⟨A1, c1', hv1, _, _, hrd2⟩ := HS2.out.row.form
  cases hv1
  obtain ⟨ad, rfl, _, p0, p1, p2⟩ := pc_cell hrd2 hil rfl
  have hm := List.getElem_mem hil
  have hpl : (ad.add (i * 3)).block < w2.heap.size := by rw [blk_add]; exact (HS2.out.row.lt _ rfl).2
  have hpo : ¬ foot ps[i] (ad.add (i * 3)).block := by rw [blk_add]; exact HS2.out.offRow hm rfl
  have HPG := Lib.hid (HS2.out.pg _ hm)
  have hb2 : base ≤ w2.heap.size := Nat.le_trans hb HB2.out.size
  have HFIN : Hid (∀ w' p' w3 s', PgTo3 w2 w3 base ps[i] s' p' → s'.nm = ps[i].s.nm → Ends (ad.add (i * 3)) ps[i] p' w3 w' → HsTo w w' base gh (.slice (some ad) ps.length c0') ps ((ps.map Pc.s).set i s')) := fun w' p' w3 s' h1 h2 h3 => (HsTo.ofPage HS2.out hil h1 h2 h3).pre HB2.out
  have hfr : w2.frozen? (edCell (ad.add (i * 3))) = false := by
    have h9 := (own_setS HS2.out.row (j := i * 3 + 1) (by omega) (.bool true)).2
    rw [add_one] at h9
    exact h9
  have HRE : Hid (∀ W, Chg w2 W (foot ps[i]) → Rd W W.heap.size 3 xA xm (edCells xl)) := fun W hc => rdThruK HB2.out hc (fun k hk => .inr (.inr ⟨ps[i], hm, hk⟩)) HX.out.o HX.out.r
  have HTB2 := Lib.hid (HTB.out w2 HB2.out)
  have hxm := HX.out.m
  clear hrd2 hm HTB
  go_wp2_with fail
  refine (pgEdit_any ps[i] (ad.add (i * 3)) base xl xA xm xc w2 HPG.out HOKP.out hb2 hpl hpo p1 p2 HRE.out hxm HTB2.out).mono ?_
  rintro e w3 ⟨rfl, p', hto⟩
  have HTO := Lib.hid (HFIN.out w3 p' w3 _ hto.to3 (edP_nm _ _) (.inl ⟨rfl, hto.ge⟩))
  clear hto
  go_wp2_with fail
  (apply bodyPost_ret; (simp [results, Tryz.results8, go_sem]; rfl); rfl)
  exact ⟨rfl, HTO.out⟩
end Go.Proofs.YtplgghjdidmcfaaGreatDoor
namespace Go.Proofs.YtplgghjdidmcfaaGreatDoor
open Go.RowKit
theorem map_eraseH {α β : Type} (f : α → β) : ∀ (l : List α) (i : Nat), (l.eraseIdx i).map f = (l.map f).eraseIdx i
  | [], i => by simp
  | a :: l, 0 => by simp
  | a :: l, i + 1 => by rw [List.eraseIdx_cons_succ, List.map_cons, List.map_cons, List.eraseIdx_cons_succ, map_eraseH f l i]
theorem set_selfH {α : Type} (l : List α) (i : Nat) (h : i < l.length) : l.set i l[i] = l := by simp
theorem mkE_any (s t : ByteArray) (w : World) : Calls Tryz.prog 10 #[.string s, .string t] w fun e w' => ∃ v, e = .returned (.tuple #[v, .int .i64 (mkE s t)]) ∧ (mkE s t = 0 → OwnO w' w.heap.size 95 3 v (mkL s t).length (edCells (mkL s t))) ∧ Below w.heap.size w w' := by
  by_cases h : 200 < s.size ∨ 200 < t.size
  · have e : mkE s t = 2 := by unfold mkE; rw [if_pos h]
    rw [e]
    refine (diffMake_long s t h w).mono ?_
    rintro e w' ⟨rfl, hb⟩
    exact ⟨_, rfl, fun h => absurd h (by decide), hb⟩
  · by_cases h2 : 20 < dcost s t
    · have e : mkE s t = 11 := by unfold mkE; rw [if_neg h, if_pos h2]
      rw [e]
      refine (diffMake_full s t (by omega) (by omega) h2 w).mono ?_
      rintro e w' ⟨rfl, hb⟩
      exact ⟨_, rfl, fun h => absurd h (by decide), hb⟩
    · have e : mkE s t = 0 := by unfold mkE; rw [if_neg h, if_neg h2]
      rw [e]
      refine (diffMakeQ_any s t (by omega) (by omega) (by omega) w).mono ?_
      rintro e w' ⟨v, rfl, _, _, ho, hb⟩
      exact ⟨v, rfl, fun _ => OwnO.of_own ho, hb⟩
set_option maxRecDepth 100000 in
set_option maxHeartbeats 4000000 in
theorem houDo3 (x : Dd) (base gh : Nat) (v : Value) (ps : List Pc) (i : Nat) (w : World) (hf : Found w base gh v ps x i) (hkk : x.kind = 3) : Calls Tryz.prog 8 #[.pointer (some ⟨gh, 0, none⟩), x.val] w (DoAns w base gh v ps x) := by
  have hil : i < ps.length := hf.l
  obtain ⟨hq1, hq2, hq3⟩ := hs_pagePc (ps := ps) (x := x) (by omega) (by omega) (by omega) (by omega) hf.n hf.e hil
  rw [(pg3 hkk).1] at hq1
  rw [(pg3 hkk).2] at hq3
  obtain ⟨h, hk, hb, hx, ht, hn, hi, _⟩ := hf
  have HTB : Hid (∀ W, Below w.heap.size w W → TabI W) := fun W hW => tabI_stays ht hW
  have hz : idxZ x.name (ps.map Pc.s) = (i : Int) := by rw [idxZ_pos (by rw [hi, List.length_map]; exact hil), hi]
  have HOKP : Hid (PsOk ps[i].s) := hk.pg _ (List.mem_map_of_mem (List.getElem_mem hil))
  have HPS := Lib.hid h
  have hnl : ps.length ≤ 6 := by have := hk.n; rwa [List.length_map] at this
  obtain ⟨A0, c0', hv0, _, _, hrd0⟩ := h.row.form
  have hcb := h.blk.cell0
  have hgh := h.blk.lt
  have HNM := Lib.hid (fun W => houName_any x.name W hx.nm)
  rw [hn] at HNM
  have HID := Lib.hid (fun W g (hW : Below w.heap.size w W) (hg : g < W.heap.size) (hc : W.cell? ⟨g, 2, none⟩ = some (.string x.name)) => idxPc_any ps x.name A0 ps.length c0' w.heap.size g W (hrd0.below hW) hW.size (by omega) rfl hg hc)
  unfold DoAns
  rw [hq1, hq2, hq3]
  clear hq1 hq2 hq3 hrd0
  have HX := Lib.hid hx
  have HKK := Lib.hid hk
  clear hn hx hk h
  rw [hz] at HID
  clear hz hi ht
  obtain ⟨xk, xn, xnm, xt, xA, xm, xc, xl⟩ := x
  unfold Dd.val
  simp only at *
  subst hkk
  subst hv0
  have hbk : Blk (w.alloc (.cells #[.int .i64 3, .int .i64 xn, .string xnm, .string xt, .slice xA xm xc] 32)) w.heap.size 32 #[.int .i64 3, .int .i64 xn, .string xnm, .string xt, .slice xA xm xc] := Blk.new_ _ _ _
  have hbA : Below w.heap.size w (w.alloc (.cells #[.int .i64 3, .int .i64 xn, .string xnm, .string xt, .slice xA xm xc] 32)) := (Below.refl _ _).alloc (Nat.le_refl _) _
  have HBK := Lib.hid hbk
  have HBA := Lib.hid hbA
  clear hbk hbA
  obtain ⟨wA, hwA⟩ : ∃ wA, wA = w.alloc (.cells #[.int .i64 3, .int .i64 xn, .string xnm, .string xt, .slice xA xm xc] 32) := ⟨_, rfl⟩
  rw [← hwA] at HBK HBA
  have HWA := Lib.hid hwA
  clear hwA
  go_enter Tryz.func8, Tryz.ntmps8
  go_wp2_with fail
  rw [← HWA.out]
  have q0 := HBK.out.cell0
  have q1 := HBK.out.cell 1
  have q2 := HBK.out.cell 2
  have q3 := HBK.out.cell 3
  have q4 := HBK.out.cell 4
  go_wp2_with fail
  refine (HNM.out _).mono ?_
  rintro e w1 ⟨rfl, hb1⟩
  have HB1 := Lib.hid (HBA.out.trans (hb1.mono HBA.out.size))
  have HBK1 := Lib.hid (HBK.out.below' hb1)
  clear q0 q1 q2 q3 q4 hb1 HBK HBA
  have q0 := HBK1.out.cell0
  have kb := (HB1.out.cell (p := ⟨gh, 0, none⟩) hgh).trans hcb
  go_wp2_with fail
  refine (HID.out w1 w.heap.size HB1.out HBK1.out.lt (HBK1.out.cell 2)).mono ?_
  rintro e w2 ⟨rfl, hb2⟩
  have HB2 := Lib.hid (HB1.out.trans (hb2.mono HB1.out.size))
  have HBK2 := Lib.hid (HBK1.out.below' hb2)
  have hpre := HPS.out.below HB2.out
  have HS2 := Lib.hid hpre
  clear q0 kb hb2 HB1 HBK1 HID HNM hpre
  have q0 := HBK2.out.cell0
  have q1 := HBK2.out.cell 1
  have q2 := HBK2.out.cell 2
  have q3 := HBK2.out.cell 3
  have q4 := HBK2.out.cell 4
  have kb := (HB2.out.cell (p := ⟨gh, 0, none⟩) hgh).trans hcb
  obtain ⟨A1, c1', hv1, _, _, hrd2⟩ := HS2.out.row.form
  cases hv1
  obtain ⟨ad, rfl, _, p0, p1, p2⟩ := pc_cell hrd2 hil rfl
  have hm := List.getElem_mem hil
  have hpl : (ad.add (i * 3)).block < w2.heap.size := by rw [blk_add]; exact (HS2.out.row.lt _ rfl).2
  have hpo : ¬ foot ps[i] (ad.add (i * 3)).block := by rw [blk_add]; exact HS2.out.offRow hm rfl
  have HPG := Lib.hid (HS2.out.pg _ hm)
  have hb2 : base ≤ w2.heap.size := Nat.le_trans hb HB2.out.size
  have HFIN : Hid (∀ w' p' w3 s', PgTo3 w2 w3 base ps[i] s' p' → s'.nm = ps[i].s.nm → Ends (ad.add (i * 3)) ps[i] p' w3 w' → HsTo w w' base gh (.slice (some ad) ps.length c0') ps ((ps.map Pc.s).set i s')) := fun w' p' w3 s' h1 h2 h3 => (HsTo.ofPage HS2.out hil h1 h2 h3).pre HB2.out
  have hfr : w2.frozen? (edCell (ad.add (i * 3))) = false := by
    have h9 := (own_setS HS2.out.row (j := i * 3 + 1) (by omega) (.bool true)).2
    rw [add_one] at h9
    exact h9
  have HRE : Hid (∀ W, Chg w2 W (foot ps[i]) → Rd W W.heap.size 3 xA xm (edCells xl)) := fun W hc => rdThruK HB2.out hc (fun k hk => .inr (.inr ⟨ps[i], hm, hk⟩)) HX.out.o HX.out.r
  have HTB2 := Lib.hid (HTB.out w2 HB2.out)
  have hxm := HX.out.m
  clear hrd2 hm HTB
  go_wp2_with fail
  refine (pgBack_any ps[i] (ad.add (i * 3)) base w2 HPG.out HOKP.out hb2 hpl hpo p1 p2).mono ?_
  rintro e w3 ⟨rfl, p', hto⟩
  have HTO := Lib.hid (HFIN.out w3 p' w3 _ hto.to3 (unP_nm _) (.inl ⟨rfl, hto.ge⟩))
  clear hto
  go_wp2_with fail
  (apply bodyPost_ret; (simp [results, Tryz.results8, go_sem]; rfl); rfl)
  exact ⟨rfl, HTO.out⟩
set_option maxRecDepth 100000 in
set_option maxHeartbeats 4000000 in
theorem houDo4 (x : Dd) (base gh : Nat) (v : Value) (ps : List Pc) (i : Nat) (w : World) (hf : Found w base gh v ps x i) (hkk : x.kind = 4) : Calls Tryz.prog 8 #[.pointer (some ⟨gh, 0, none⟩), x.val] w (DoAns w base gh v ps x) := by
  have hil : i < ps.length := hf.l
  obtain ⟨hq1, hq2, hq3⟩ := hs_pagePc (ps := ps) (x := x) (by omega) (by omega) (by omega) (by omega) hf.n hf.e hil
  rw [(pg4 hkk).1] at hq1
  rw [(pg4 hkk).2] at hq3
  obtain ⟨h, hk, hb, hx, ht, hn, hi, _⟩ := hf
  have HTB : Hid (∀ W, Below w.heap.size w W → TabI W) := fun W hW => tabI_stays ht hW
  have hz : idxZ x.name (ps.map Pc.s) = (i : Int) := by rw [idxZ_pos (by rw [hi, List.length_map]; exact hil), hi]
  have HOKP : Hid (PsOk ps[i].s) := hk.pg _ (List.mem_map_of_mem (List.getElem_mem hil))
  have HPS := Lib.hid h
  have hnl : ps.length ≤ 6 := by have := hk.n; rwa [List.length_map] at this
  obtain ⟨A0, c0', hv0, _, _, hrd0⟩ := h.row.form
  have hcb := h.blk.cell0
  have hgh := h.blk.lt
  have HNM := Lib.hid (fun W => houName_any x.name W hx.nm)
  rw [hn] at HNM
  have HID := Lib.hid (fun W g (hW : Below w.heap.size w W) (hg : g < W.heap.size) (hc : W.cell? ⟨g, 2, none⟩ = some (.string x.name)) => idxPc_any ps x.name A0 ps.length c0' w.heap.size g W (hrd0.below hW) hW.size (by omega) rfl hg hc)
  unfold DoAns
  rw [hq1, hq2, hq3]
  clear hq1 hq2 hq3 hrd0
  have HX := Lib.hid hx
  have HKK := Lib.hid hk
  clear hn hx hk h
  rw [hz] at HID
  clear hz hi ht
  obtain ⟨xk, xn, xnm, xt, xA, xm, xc, xl⟩ := x
  unfold Dd.val
  simp only at *
  subst hkk
  subst hv0
  have hbk : Blk (w.alloc (.cells #[.int .i64 4, .int .i64 xn, .string xnm, .string xt, .slice xA xm xc] 32)) w.heap.size 32 #[.int .i64 4, .int .i64 xn, .string xnm, .string xt, .slice xA xm xc] := Blk.new_ _ _ _
  have hbA : Below w.heap.size w (w.alloc (.cells #[.int .i64 4, .int .i64 xn, .string xnm, .string xt, .slice xA xm xc] 32)) := (Below.refl _ _).alloc (Nat.le_refl _) _
  have HBK := Lib.hid hbk
  have HBA := Lib.hid hbA
  clear hbk hbA
  obtain ⟨wA, hwA⟩ : ∃ wA, wA = w.alloc (.cells #[.int .i64 4, .int .i64 xn, .string xnm, .string xt, .slice xA xm xc] 32) := ⟨_, rfl⟩
  rw [← hwA] at HBK HBA
  have HWA := Lib.hid hwA
  clear hwA
  go_enter Tryz.func8, Tryz.ntmps8
  go_wp2_with fail
  rw [← HWA.out]
  have q0 := HBK.out.cell0
  have q1 := HBK.out.cell 1
  have q2 := HBK.out.cell 2
  have q3 := HBK.out.cell 3
  have q4 := HBK.out.cell 4
  go_wp2_with fail
  refine (HNM.out _).mono ?_
  rintro e w1 ⟨rfl, hb1⟩
  have HB1 := Lib.hid (HBA.out.trans (hb1.mono HBA.out.size))
  have HBK1 := Lib.hid (HBK.out.below' hb1)
  clear q0 q1 q2 q3 q4 hb1 HBK HBA
  have q0 := HBK1.out.cell0
  have kb := (HB1.out.cell (p := ⟨gh, 0, none⟩) hgh).trans hcb
  go_wp2_with fail
  refine (HID.out w1 w.heap.size HB1.out HBK1.out.lt (HBK1.out.cell 2)).mono ?_
  rintro e w2 ⟨rfl, hb2⟩
  have HB2 := Lib.hid (HB1.out.trans (hb2.mono HB1.out.size))
  have HBK2 := Lib.hid (HBK1.out.below' hb2)
  have hpre := HPS.out.below HB2.out
  have HS2 := Lib.hid hpre
  clear q0 kb hb2 HB1 HBK1 HID HNM hpre
  have q0 := HBK2.out.cell0
  have q1 := HBK2.out.cell 1
  have q2 := HBK2.out.cell 2
  have q3 := HBK2.out.cell 3
  have q4 := HBK2.out.cell 4
  have kb := (HB2.out.cell (p := ⟨gh, 0, none⟩) hgh).trans hcb
  obtain ⟨A1, c1', hv1, _, _, hrd2⟩ := HS2.out.row.form
  cases hv1
  obtain ⟨ad, rfl, _, p0, p1, p2⟩ := pc_cell hrd2 hil rfl
  have hm := List.getElem_mem hil
  have hpl : (ad.add (i * 3)).block < w2.heap.size := by rw [blk_add]; exact (HS2.out.row.lt _ rfl).2
  have hpo : ¬ foot ps[i] (ad.add (i * 3)).block := by rw [blk_add]; exact HS2.out.offRow hm rfl
  have HPG := Lib.hid (HS2.out.pg _ hm)
  have hb2 : base ≤ w2.heap.size := Nat.le_trans hb HB2.out.size
  have HFIN : Hid (∀ w' p' w3 s', PgTo3 w2 w3 base ps[i] s' p' → s'.nm = ps[i].s.nm → Ends (ad.add (i * 3)) ps[i] p' w3 w' → HsTo w w' base gh (.slice (some ad) ps.length c0') ps ((ps.map Pc.s).set i s')) := fun w' p' w3 s' h1 h2 h3 => (HsTo.ofPage HS2.out hil h1 h2 h3).pre HB2.out
  have hfr : w2.frozen? (edCell (ad.add (i * 3))) = false := by
    have h9 := (own_setS HS2.out.row (j := i * 3 + 1) (by omega) (.bool true)).2
    rw [add_one] at h9
    exact h9
  have HRE : Hid (∀ W, Chg w2 W (foot ps[i]) → Rd W W.heap.size 3 xA xm (edCells xl)) := fun W hc => rdThruK HB2.out hc (fun k hk => .inr (.inr ⟨ps[i], hm, hk⟩)) HX.out.o HX.out.r
  have HTB2 := Lib.hid (HTB.out w2 HB2.out)
  have hxm := HX.out.m
  clear hrd2 hm HTB
  go_wp2_with fail
  refine (pgOnward_any ps[i] (ad.add (i * 3)) base w2 HPG.out HOKP.out hb2 hpl hpo p1 p2).mono ?_
  rintro e w3 ⟨rfl, p', hto⟩
  have HTO := Lib.hid (HFIN.out w3 p' w3 _ hto.to3 (reP_nm _) (.inl ⟨rfl, hto.ge⟩))
  clear hto
  go_wp2_with fail
  (apply bodyPost_ret; (simp [results, Tryz.results8, go_sem]; rfl); rfl)
  exact ⟨rfl, HTO.out⟩
set_option maxRecDepth 100000 in
set_option maxHeartbeats 4000000 in
theorem houDo5 (x : Dd) (base gh : Nat) (v : Value) (ps : List Pc) (i : Nat) (w : World) (hf : Found w base gh v ps x i) (hkk : x.kind = 5) : Calls Tryz.prog 8 #[.pointer (some ⟨gh, 0, none⟩), x.val] w (DoAns w base gh v ps x) := by
  have hil : i < ps.length := hf.l
  obtain ⟨hq1, hq2, hq3⟩ := hs_pagePc (ps := ps) (x := x) (by omega) (by omega) (by omega) (by omega) hf.n hf.e hil
  rw [(pg5 hkk).1] at hq1
  rw [(pg5 hkk).2] at hq3
  obtain ⟨h, hk, hb, hx, ht, hn, hi, _⟩ := hf
  have HTB : Hid (∀ W, Below w.heap.size w W → TabI W) := fun W hW => tabI_stays ht hW
  have hz : idxZ x.name (ps.map Pc.s) = (i : Int) := by rw [idxZ_pos (by rw [hi, List.length_map]; exact hil), hi]
  have HOKP : Hid (PsOk ps[i].s) := hk.pg _ (List.mem_map_of_mem (List.getElem_mem hil))
  have HPS := Lib.hid h
  have hnl : ps.length ≤ 6 := by have := hk.n; rwa [List.length_map] at this
  obtain ⟨A0, c0', hv0, _, _, hrd0⟩ := h.row.form
  have hcb := h.blk.cell0
  have hgh := h.blk.lt
  have HNM := Lib.hid (fun W => houName_any x.name W hx.nm)
  rw [hn] at HNM
  have HID := Lib.hid (fun W g (hW : Below w.heap.size w W) (hg : g < W.heap.size) (hc : W.cell? ⟨g, 2, none⟩ = some (.string x.name)) => idxPc_any ps x.name A0 ps.length c0' w.heap.size g W (hrd0.below hW) hW.size (by omega) rfl hg hc)
  unfold DoAns
  rw [hq1, hq2, hq3]
  clear hq1 hq2 hq3 hrd0
  have HX := Lib.hid hx
  have HKK := Lib.hid hk
  clear hn hx hk h
  rw [hz] at HID
  clear hz hi ht
  obtain ⟨xk, xn, xnm, xt, xA, xm, xc, xl⟩ := x
  unfold Dd.val
  simp only at *
  subst hkk
  subst hv0
  have hbk : Blk (w.alloc (.cells #[.int .i64 5, .int .i64 xn, .string xnm, .string xt, .slice xA xm xc] 32)) w.heap.size 32 #[.int .i64 5, .int .i64 xn, .string xnm, .string xt, .slice xA xm xc] := Blk.new_ _ _ _
  have hbA : Below w.heap.size w (w.alloc (.cells #[.int .i64 5, .int .i64 xn, .string xnm, .string xt, .slice xA xm xc] 32)) := (Below.refl _ _).alloc (Nat.le_refl _) _
  have HBK := Lib.hid hbk
  have HBA := Lib.hid hbA
  clear hbk hbA
  obtain ⟨wA, hwA⟩ : ∃ wA, wA = w.alloc (.cells #[.int .i64 5, .int .i64 xn, .string xnm, .string xt, .slice xA xm xc] 32) := ⟨_, rfl⟩
  rw [← hwA] at HBK HBA
  have HWA := Lib.hid hwA
  clear hwA
  go_enter Tryz.func8, Tryz.ntmps8
  go_wp2_with fail
  rw [← HWA.out]
  have q0 := HBK.out.cell0
  have q1 := HBK.out.cell 1
  have q2 := HBK.out.cell 2
  have q3 := HBK.out.cell 3
  have q4 := HBK.out.cell 4
  go_wp2_with fail
  refine (HNM.out _).mono ?_
  rintro e w1 ⟨rfl, hb1⟩
  have HB1 := Lib.hid (HBA.out.trans (hb1.mono HBA.out.size))
  have HBK1 := Lib.hid (HBK.out.below' hb1)
  clear q0 q1 q2 q3 q4 hb1 HBK HBA
  have q0 := HBK1.out.cell0
  have kb := (HB1.out.cell (p := ⟨gh, 0, none⟩) hgh).trans hcb
  go_wp2_with fail
  refine (HID.out w1 w.heap.size HB1.out HBK1.out.lt (HBK1.out.cell 2)).mono ?_
  rintro e w2 ⟨rfl, hb2⟩
  have HB2 := Lib.hid (HB1.out.trans (hb2.mono HB1.out.size))
  have HBK2 := Lib.hid (HBK1.out.below' hb2)
  have hpre := HPS.out.below HB2.out
  have HS2 := Lib.hid hpre
  clear q0 kb hb2 HB1 HBK1 HID HNM hpre
  have q0 := HBK2.out.cell0
  have q1 := HBK2.out.cell 1
  have q2 := HBK2.out.cell 2
  have q3 := HBK2.out.cell 3
  have q4 := HBK2.out.cell 4
  have kb := (HB2.out.cell (p := ⟨gh, 0, none⟩) hgh).trans hcb
  obtain ⟨A1, c1', hv1, _, _, hrd2⟩ := HS2.out.row.form
  cases hv1
  obtain ⟨ad, rfl, _, p0, p1, p2⟩ := pc_cell hrd2 hil rfl
  have hm := List.getElem_mem hil
  have hpl : (ad.add (i * 3)).block < w2.heap.size := by rw [blk_add]; exact (HS2.out.row.lt _ rfl).2
  have hpo : ¬ foot ps[i] (ad.add (i * 3)).block := by rw [blk_add]; exact HS2.out.offRow hm rfl
  have HPG := Lib.hid (HS2.out.pg _ hm)
  have hb2 : base ≤ w2.heap.size := Nat.le_trans hb HB2.out.size
  have HFIN : Hid (∀ w' p' w3 s', PgTo3 w2 w3 base ps[i] s' p' → s'.nm = ps[i].s.nm → Ends (ad.add (i * 3)) ps[i] p' w3 w' → HsTo w w' base gh (.slice (some ad) ps.length c0') ps ((ps.map Pc.s).set i s')) := fun w' p' w3 s' h1 h2 h3 => (HsTo.ofPage HS2.out hil h1 h2 h3).pre HB2.out
  have hfr : w2.frozen? (edCell (ad.add (i * 3))) = false := by
    have h9 := (own_setS HS2.out.row (j := i * 3 + 1) (by omega) (.bool true)).2
    rw [add_one] at h9
    exact h9
  have HRE : Hid (∀ W, Chg w2 W (foot ps[i]) → Rd W W.heap.size 3 xA xm (edCells xl)) := fun W hc => rdThruK HB2.out hc (fun k hk => .inr (.inr ⟨ps[i], hm, hk⟩)) HX.out.o HX.out.r
  have HTB2 := Lib.hid (HTB.out w2 HB2.out)
  have hxm := HX.out.m
  clear hrd2 hm HTB
  go_wp2_with fail
  refine (lfSave_any ps[i].gf ps[i].gl ps[i].s.tx ps[i].s.d ps[i].s.sf w2 HPG.out.lf).mono ?_
  rintro e w3 ⟨rfl, hL3, hg3⟩
  have HTO : Hid (HsTo w w3 base gh (.slice (some ad) ps.length c0') ps ((ps.map Pc.s).set i (svP ps[i].s))) :=
    HFIN.out w3 ⟨svP ps[i].s, ps[i].ge, ps[i].gf, ps[i].gl, ps[i].vB, ps[i].vO⟩ w3 _ ⟨⟨HPG.out.ed.leafed HPG.out.lf hg3, hL3, HPG.out.bf, HPG.out.bl⟩, Gbs.foot hg3, fun _ hk => .inl hk, rfl, rfl⟩ rfl (.inl ⟨rfl, rfl⟩)
  clear hL3 hg3
  go_wp2_with fail
  (apply bodyPost_ret; (simp [results, Tryz.results8, go_sem]; rfl); rfl)
  exact ⟨rfl, HTO.out⟩
set_option maxRecDepth 100000 in
set_option maxHeartbeats 4000000 in
theorem houDo6 (x : Dd) (base gh : Nat) (v : Value) (ps : List Pc) (i : Nat) (w : World) (hf : Found w base gh v ps x i) (hkk : x.kind = 6) : Calls Tryz.prog 8 #[.pointer (some ⟨gh, 0, none⟩), x.val] w (DoAns w base gh v ps x) := by
  have hil : i < ps.length := hf.l
  obtain ⟨hq1, hq2, hq3⟩ := hs_pagePc (ps := ps) (x := x) (by omega) (by omega) (by omega) (by omega) hf.n hf.e hil
  rw [(pg6 hkk).1] at hq1
  rw [(pg6 hkk).2] at hq3
  obtain ⟨h, hk, hb, hx, ht, hn, hi, _⟩ := hf
  have HTB : Hid (∀ W, Below w.heap.size w W → TabI W) := fun W hW => tabI_stays ht hW
  have hz : idxZ x.name (ps.map Pc.s) = (i : Int) := by rw [idxZ_pos (by rw [hi, List.length_map]; exact hil), hi]
  have HOKP : Hid (PsOk ps[i].s) := hk.pg _ (List.mem_map_of_mem (List.getElem_mem hil))
  have HPS := Lib.hid h
  have hnl : ps.length ≤ 6 := by have := hk.n; rwa [List.length_map] at this
  obtain ⟨A0, c0', hv0, _, _, hrd0⟩ := h.row.form
  have hcb := h.blk.cell0
  have hgh := h.blk.lt
  have HNM := Lib.hid (fun W => houName_any x.name W hx.nm)
  rw [hn] at HNM
  have HID := Lib.hid (fun W g (hW : Below w.heap.size w W) (hg : g < W.heap.size) (hc : W.cell? ⟨g, 2, none⟩ = some (.string x.name)) => idxPc_any ps x.name A0 ps.length c0' w.heap.size g W (hrd0.below hW) hW.size (by omega) rfl hg hc)
  unfold DoAns
  rw [hq1, hq2, hq3]
  clear hq1 hq2 hq3 hrd0
  have HX := Lib.hid hx
  have HKK := Lib.hid hk
  clear hn hx hk h
  rw [hz] at HID
  clear hz hi ht
  obtain ⟨xk, xn, xnm, xt, xA, xm, xc, xl⟩ := x
  unfold Dd.val
  simp only at *
  subst hkk
  subst hv0
  have hbk : Blk (w.alloc (.cells #[.int .i64 6, .int .i64 xn, .string xnm, .string xt, .slice xA xm xc] 32)) w.heap.size 32 #[.int .i64 6, .int .i64 xn, .string xnm, .string xt, .slice xA xm xc] := Blk.new_ _ _ _
  have hbA : Below w.heap.size w (w.alloc (.cells #[.int .i64 6, .int .i64 xn, .string xnm, .string xt, .slice xA xm xc] 32)) := (Below.refl _ _).alloc (Nat.le_refl _) _
  have HBK := Lib.hid hbk
  have HBA := Lib.hid hbA
  clear hbk hbA
  obtain ⟨wA, hwA⟩ : ∃ wA, wA = w.alloc (.cells #[.int .i64 6, .int .i64 xn, .string xnm, .string xt, .slice xA xm xc] 32) := ⟨_, rfl⟩
  rw [← hwA] at HBK HBA
  have HWA := Lib.hid hwA
  clear hwA
  go_enter Tryz.func8, Tryz.ntmps8
  go_wp2_with fail
  rw [← HWA.out]
  have q0 := HBK.out.cell0
  have q1 := HBK.out.cell 1
  have q2 := HBK.out.cell 2
  have q3 := HBK.out.cell 3
  have q4 := HBK.out.cell 4
  go_wp2_with fail
  refine (HNM.out _).mono ?_
  rintro e w1 ⟨rfl, hb1⟩
  have HB1 := Lib.hid (HBA.out.trans (hb1.mono HBA.out.size))
  have HBK1 := Lib.hid (HBK.out.below' hb1)
  clear q0 q1 q2 q3 q4 hb1 HBK HBA
  have q0 := HBK1.out.cell0
  have kb := (HB1.out.cell (p := ⟨gh, 0, none⟩) hgh).trans hcb
  go_wp2_with fail
  refine (HID.out w1 w.heap.size HB1.out HBK1.out.lt (HBK1.out.cell 2)).mono ?_
  rintro e w2 ⟨rfl, hb2⟩
  have HB2 := Lib.hid (HB1.out.trans (hb2.mono HB1.out.size))
  have HBK2 := Lib.hid (HBK1.out.below' hb2)
  have hpre := HPS.out.below HB2.out
  have HS2 := Lib.hid hpre
  clear q0 kb hb2 HB1 HBK1 HID HNM hpre
  have q0 := HBK2.out.cell0
  have q1 := HBK2.out.cell 1
  have q2 := HBK2.out.cell 2
  have q3 := HBK2.out.cell 3
  have q4 := HBK2.out.cell 4
  have kb := (HB2.out.cell (p := ⟨gh, 0, none⟩) hgh).trans hcb
  obtain ⟨A1, c1', hv1, _, _, hrd2⟩ := HS2.out.row.form
  cases hv1
  obtain ⟨ad, rfl, _, p0, p1, p2⟩ := pc_cell hrd2 hil rfl
  have hm := List.getElem_mem hil
  have hpl : (ad.add (i * 3)).block < w2.heap.size := by rw [blk_add]; exact (HS2.out.row.lt _ rfl).2
  have hpo : ¬ foot ps[i] (ad.add (i * 3)).block := by rw [blk_add]; exact HS2.out.offRow hm rfl
  have HPG := Lib.hid (HS2.out.pg _ hm)
  have hb2 : base ≤ w2.heap.size := Nat.le_trans hb HB2.out.size
  have HFIN : Hid (∀ w' p' w3 s', PgTo3 w2 w3 base ps[i] s' p' → s'.nm = ps[i].s.nm → Ends (ad.add (i * 3)) ps[i] p' w3 w' → HsTo w w' base gh (.slice (some ad) ps.length c0') ps ((ps.map Pc.s).set i s')) := fun w' p' w3 s' h1 h2 h3 => (HsTo.ofPage HS2.out hil h1 h2 h3).pre HB2.out
  have hfr : w2.frozen? (edCell (ad.add (i * 3))) = false := by
    have h9 := (own_setS HS2.out.row (j := i * 3 + 1) (by omega) (.bool true)).2
    rw [add_one] at h9
    exact h9
  have HRE : Hid (∀ W, Chg w2 W (foot ps[i]) → Rd W W.heap.size 3 xA xm (edCells xl)) := fun W hc => rdThruK HB2.out hc (fun k hk => .inr (.inr ⟨ps[i], hm, hk⟩)) HX.out.o HX.out.r
  have HTB2 := Lib.hid (HTB.out w2 HB2.out)
  have hxm := HX.out.m
  clear hrd2 hm HTB
  go_wp2_with fail
  refine (pgPack_any ps[i] (ad.add (i * 3)) base xn w2 HPG.out HOKP.out hb2 hpl hpo hfr p1 p2).mono ?_
  rintro e w3 ⟨rfl, p', w4, hto, hen⟩
  have HTO := Lib.hid (HFIN.out w3 p' w4 _ hto (paP_nm _ _) hen)
  clear hto hen
  go_wp2_with fail
  (apply bodyPost_ret; (simp [results, Tryz.results8, go_sem]; rfl); rfl)
  exact ⟨rfl, HTO.out⟩
set_option maxRecDepth 100000 in
set_option maxHeartbeats 4000000 in
theorem houDo7 (x : Dd) (base gh : Nat) (v : Value) (ps : List Pc) (i : Nat) (w : World) (hf : Found w base gh v ps x i) (hkk : x.kind = 7) : Calls Tryz.prog 8 #[.pointer (some ⟨gh, 0, none⟩), x.val] w (DoAns w base gh v ps x) := by
  have hil : i < ps.length := hf.l
  obtain ⟨hq1, hq2, hq3⟩ := hs_pagePc (ps := ps) (x := x) (by omega) (by omega) (by omega) (by omega) hf.n hf.e hil
  rw [(pg7 hkk).1] at hq1
  rw [(pg7 hkk).2] at hq3
  obtain ⟨h, hk, hb, hx, ht, hn, hi, _⟩ := hf
  have HTB : Hid (∀ W, Below w.heap.size w W → TabI W) := fun W hW => tabI_stays ht hW
  have hz : idxZ x.name (ps.map Pc.s) = (i : Int) := by rw [idxZ_pos (by rw [hi, List.length_map]; exact hil), hi]
  have HOKP : Hid (PsOk ps[i].s) := hk.pg _ (List.mem_map_of_mem (List.getElem_mem hil))
  have HPS := Lib.hid h
  have hnl : ps.length ≤ 6 := by have := hk.n; rwa [List.length_map] at this
  obtain ⟨A0, c0', hv0, _, _, hrd0⟩ := h.row.form
  have hcb := h.blk.cell0
  have hgh := h.blk.lt
  have HNM := Lib.hid (fun W => houName_any x.name W hx.nm)
  rw [hn] at HNM
  have HID := Lib.hid (fun W g (hW : Below w.heap.size w W) (hg : g < W.heap.size) (hc : W.cell? ⟨g, 2, none⟩ = some (.string x.name)) => idxPc_any ps x.name A0 ps.length c0' w.heap.size g W (hrd0.below hW) hW.size (by omega) rfl hg hc)
  unfold DoAns
  rw [hq1, hq2, hq3]
  clear hq1 hq2 hq3 hrd0
  have HX := Lib.hid hx
  have HKK := Lib.hid hk
  clear hn hx hk h
  rw [hz] at HID
  clear hz hi ht
  obtain ⟨xk, xn, xnm, xt, xA, xm, xc, xl⟩ := x
  unfold Dd.val
  simp only at *
  subst hkk
  subst hv0
  have hbk : Blk (w.alloc (.cells #[.int .i64 7, .int .i64 xn, .string xnm, .string xt, .slice xA xm xc] 32)) w.heap.size 32 #[.int .i64 7, .int .i64 xn, .string xnm, .string xt, .slice xA xm xc] := Blk.new_ _ _ _
  have hbA : Below w.heap.size w (w.alloc (.cells #[.int .i64 7, .int .i64 xn, .string xnm, .string xt, .slice xA xm xc] 32)) := (Below.refl _ _).alloc (Nat.le_refl _) _
  have HBK := Lib.hid hbk
  have HBA := Lib.hid hbA
  clear hbk hbA
  obtain ⟨wA, hwA⟩ : ∃ wA, wA = w.alloc (.cells #[.int .i64 7, .int .i64 xn, .string xnm, .string xt, .slice xA xm xc] 32) := ⟨_, rfl⟩
  rw [← hwA] at HBK HBA
  have HWA := Lib.hid hwA
  clear hwA
  go_enter Tryz.func8, Tryz.ntmps8
  go_wp2_with fail
  rw [← HWA.out]
  have q0 := HBK.out.cell0
  have q1 := HBK.out.cell 1
  have q2 := HBK.out.cell 2
  have q3 := HBK.out.cell 3
  have q4 := HBK.out.cell 4
  go_wp2_with fail
  refine (HNM.out _).mono ?_
  rintro e w1 ⟨rfl, hb1⟩
  have HB1 := Lib.hid (HBA.out.trans (hb1.mono HBA.out.size))
  have HBK1 := Lib.hid (HBK.out.below' hb1)
  clear q0 q1 q2 q3 q4 hb1 HBK HBA
  have q0 := HBK1.out.cell0
  have kb := (HB1.out.cell (p := ⟨gh, 0, none⟩) hgh).trans hcb
  go_wp2_with fail
  refine (HID.out w1 w.heap.size HB1.out HBK1.out.lt (HBK1.out.cell 2)).mono ?_
  rintro e w2 ⟨rfl, hb2⟩
  have HB2 := Lib.hid (HB1.out.trans (hb2.mono HB1.out.size))
  have HBK2 := Lib.hid (HBK1.out.below' hb2)
  have hpre := HPS.out.below HB2.out
  have HS2 := Lib.hid hpre
  clear q0 kb hb2 HB1 HBK1 HID HNM hpre
  have q0 := HBK2.out.cell0
  have q1 := HBK2.out.cell 1
  have q2 := HBK2.out.cell 2
  have q3 := HBK2.out.cell 3
  have q4 := HBK2.out.cell 4
  have kb := (HB2.out.cell (p := ⟨gh, 0, none⟩) hgh).trans hcb
  obtain ⟨A1, c1', hv1, _, _, hrd2⟩ := HS2.out.row.form
  cases hv1
  obtain ⟨ad, rfl, _, p0, p1, p2⟩ := pc_cell hrd2 hil rfl
  have hm := List.getElem_mem hil
  have hpl : (ad.add (i * 3)).block < w2.heap.size := by rw [blk_add]; exact (HS2.out.row.lt _ rfl).2
  have hpo : ¬ foot ps[i] (ad.add (i * 3)).block := by rw [blk_add]; exact HS2.out.offRow hm rfl
  have HPG := Lib.hid (HS2.out.pg _ hm)
  have hb2 : base ≤ w2.heap.size := Nat.le_trans hb HB2.out.size
  have HFIN : Hid (∀ w' p' w3 s', PgTo3 w2 w3 base ps[i] s' p' → s'.nm = ps[i].s.nm → Ends (ad.add (i * 3)) ps[i] p' w3 w' → HsTo w w' base gh (.slice (some ad) ps.length c0') ps ((ps.map Pc.s).set i s')) := fun w' p' w3 s' h1 h2 h3 => (HsTo.ofPage HS2.out hil h1 h2 h3).pre HB2.out
  have hfr : w2.frozen? (edCell (ad.add (i * 3))) = false := by
    have h9 := (own_setS HS2.out.row (j := i * 3 + 1) (by omega) (.bool true)).2
    rw [add_one] at h9
    exact h9
  have HRE : Hid (∀ W, Chg w2 W (foot ps[i]) → Rd W W.heap.size 3 xA xm (edCells xl)) := fun W hc => rdThruK HB2.out hc (fun k hk => .inr (.inr ⟨ps[i], hm, hk⟩)) HX.out.o HX.out.r
  have HTB2 := Lib.hid (HTB.out w2 HB2.out)
  have hxm := HX.out.m
  clear hrd2 hm HTB
  go_wp2_with fail
  have HCR := Lib.hid (fun W (hL : LeafAt W ps[i].gf ps[i].gl ps[i].s.tx ps[i].s.d ps[i].s.sf) => lfCrash_any ps[i].gf ps[i].gl ps[i].s.tx ps[i].s.d ps[i].s.sf xn W hL HOKP.out.lf)
  obtain ⟨F1, hFd⟩ : ∃ F : World → Prop, F = fun w' => w'.cell? ⟨(ad.add (i * 3)).block, (ad.add (i * 3)).off + 2, none⟩ = some (.pointer (some ⟨ps[i].gf, 0, none⟩)) ∧ w'.cell? ⟨w.heap.size, 1, none⟩ = some (.int .i64 xn) := ⟨_, rfl⟩
  have HF1 := Lib.hid hFd
  clear hFd
  have hcell10 : ∀ p' : Wof F1, p'.w.cell? ⟨(ad.add (i * 3)).block, (ad.add (i * 3)).off + 2, none⟩ = some (.pointer (some ⟨ps[i].gf, 0, none⟩)) := fun ⟨x, hx⟩ => by rw [HF1.out] at hx; exact hx.1
  have hcell11 : ∀ p' : Wof F1, p'.w.cell? ⟨w.heap.size, 1, none⟩ = some (.int .i64 xn) := fun ⟨x, hx⟩ => by rw [HF1.out] at hx; exact hx.2
  refine wp_region_schedF [(0, true), (1, true), (2, true), (3, true), (4, true), (5, true), (6, false), (7, true)] F1 (by kernel_rfl) (by kernel_rfl) rfl (fun _ _ _ _ _ h => h) (by kernel_rfl) (by rw [HF1.out]; first | ((repeat' apply And.intro) <;> assumption) | trivial | (simp; done) | (simp [*]; done)) (by rw [HF1.out]; exact fun h => h) ?_
  intro hne1
  simp only [opersOf, List.getElem?_toArray, List.getElem?_cons_succ, List.getElem?_cons_zero]
  repeat (first | (refine wpSched_free rfl ?_; intro K hK; go_big_quiet_op; go_big_quiet_on) | (refine wpSched_wantS _ rfl rfl rfl ?_; intro K hK; go_big_quiet_op; go_big_quiet_on) | (refine wpSched_skipS _ rfl rfl rfl rfl ?_; simp only [Act.put, List.setIfInBounds_toArray, List.set_cons_zero, List.set_cons_succ]) | (refine wpSched_skipU _ rfl rfl rfl ?_; simp only [Act.put, List.setIfInBounds_toArray, List.set_cons_zero, List.set_cons_succ]))
  refine wpSched_other ?_
  go_wp2_with fail
  have hbd : Below w2.heap.size w2 w2.drew := Below.drew (Below.refl _ _)
  refine (HCR.out _ (HPG.out.lf.below hbd)).mono ?_
  rintro e w3 ⟨rfl, hL3, hg3⟩
  have hC3 : Chg w2 w3 (foot ps[i]) := (Chg.ofB hbd).thenK (Gbs.foot hg3)
  have hE3 := (HPG.out.ed.below hbd).leafed (HPG.out.lf.below hbd) hg3
  have hgo : ¬ foot ps[i] w.heap.size := HPG.out.off HBK2.out.ty (by decide) (by decide) (by decide) (by decide)
  have r1 := hC3.at_ (q := ⟨(ad.add (i * 3)).block, (ad.add (i * 3)).off + 1, none⟩) hpl hpo p1
  have r2 := hC3.at_ (q := ⟨(ad.add (i * 3)).block, (ad.add (i * 3)).off + 2, none⟩) hpl hpo p2
  have rd := hC3.at_ (q := ⟨w.heap.size, 1, none⟩) HBK2.out.lt hgo q1
  have rf : w3.frozen? (edCell (ad.add (i * 3))) = false := (World.frozen?_of_block (w := w2) (a := edCell (ad.add (i * 3))) (hC3.block _ hpl hpo)).trans hfr
  have hpl3 : (ad.add (i * 3)).block < w3.heap.size := Nat.lt_of_lt_of_le hpl hC3.size
  have HL3 := Lib.hid hL3
  have HC3 := Lib.hid hC3
  have HE3 := Lib.hid hE3
  clear hL3 hC3 hE3 hg3 hgo hfr
  go_wp2_with fail
  refine sched_back (by rw [HF1.out]; exact ⟨r2, rd⟩) ?_
  repeat (first | (refine wpSched_free rfl ?_; intro K hK; go_big_quiet_op; go_big_quiet_on) | (refine wpSched_wantS _ rfl rfl rfl ?_; intro K hK; go_big_quiet_op; go_big_quiet_on) | (refine wpSched_skipS _ rfl rfl rfl rfl ?_; simp only [Act.put, List.setIfInBounds_toArray, List.set_cons_zero, List.set_cons_succ]) | (refine wpSched_skipU _ rfl rfl rfl ?_; simp only [Act.put, List.setIfInBounds_toArray, List.set_cons_zero, List.set_cons_succ]))
  refine wpSched_nil ?_
  clear HF1 hcell10 hcell11 hne1 q0 q1 q2 q3 q4 kb p0 p1 p2 rd
  by_cases hz : craErr ps[i].s.d ps[i].s.sf xn = 0
  · have HZ := Lib.hid hz
    have HPP : Hid (crP ps[i].s xn = ⟨ps[i].s.nm, cfLT ps[i].s.tx ps[i].s.d ps[i].s.sf xn, craD ps[i].s.d ps[i].s.sf xn, craF ps[i].s.d ps[i].s.sf xn, [], []⟩) := by unfold Hid crP crPE; rw [if_pos hz]
    have HTZ : Hid ((cfLT ps[i].s.tx ps[i].s.d ps[i].s.sf xn).size ≤ 200) := (HOKP.out.lf.crash' xn).text
    rw [HZ.out]
    clear hz HCR
    generalize cfLT ps[i].s.tx ps[i].s.d ps[i].s.sf xn = tx' at *
    generalize craD ps[i].s.d ps[i].s.sf xn = d' at *
    generalize craF ps[i].s.d ps[i].s.sf xn = sf' at *
    go_wp2_with fail
    refine (lfText_any ps[i].gf ps[i].gl tx' d' sf' w3 HL3.out).mono ?_
    rintro e w4 ⟨rfl, hb4⟩
    have r1' := (hb4.cell (p := ⟨(ad.add (i * 3)).block, (ad.add (i * 3)).off + 1, none⟩) hpl3).trans r1
    have rf4 := (hb4.frozen (p := edCell (ad.add (i * 3))) hpl3).trans rf
    have hpl4 : (ad.add (i * 3)).block < w4.heap.size := Nat.lt_of_lt_of_le hpl3 hb4.size
    go_wp2_with fail
    refine (undoNew_any tx' HTZ.out w4).mono ?_
    rintro e w5 ⟨rfl, hE5, hb5⟩
    have r1'' := (hb5.cell (p := ⟨(ad.add (i * 3)).block, (ad.add (i * 3)).off + 1, none⟩) hpl4).trans r1'
    have rf5 : w5.frozen? ⟨(ad.add (i * 3)).block, (ad.add (i * 3)).off + 1, none⟩ = false := (hb5.frozen (p := edCell (ad.add (i * 3))) hpl4).trans rf4
    have hb35 := bthen hb4 hb5
    have hsz : w2.heap.size ≤ w4.heap.size := Nat.le_trans HC3.out.size hb4.size
    have HTO : Hid (HsTo w (w5.setCell ⟨(ad.add (i * 3)).block, (ad.add (i * 3)).off + 1, none⟩ (.pointer (some ⟨w4.heap.size, 0, none⟩))) base gh (.slice (some ad) ps.length c0') ps ((ps.map Pc.s).set i (crP ps[i].s xn))) := by
      refine HFIN.out _ ⟨crP ps[i].s xn, w4.heap.size, ps[i].gf, ps[i].gl, .slice none 0 0, .slice none 0 0⟩ w5 _ ⟨⟨?_, ?_, HPG.out.bf, HPG.out.bl⟩, HC3.out.thenH hb35, ?_, rfl, rfl⟩ (crP_nm _ _) (.inr rfl)
      · show EdSt w5 base w4.heap.size (crP ps[i].s xn).es (.slice none 0 0) (.slice none 0 0)
        rw [HPP.out]
        exact hE5.lowerH (Nat.le_trans hb2 hsz)
      · show LeafAt w5 ps[i].gf ps[i].gl (crP ps[i].s xn).tx (crP ps[i].s xn).d (crP ps[i].s xn).sf
        rw [HPP.out]
        exact HL3.out.below hb35
      · rintro k ((rfl | hk | hk) | rfl | rfl)
        · exact .inr hsz
        · simp [Value.ownBlock] at hk
        · simp [Value.ownBlock] at hk
        · exact .inl (.inr (.inl rfl))
        · exact .inl (.inr (.inr rfl))
    clear hE5 hb4 hb5 hb35 r1 r2 r1'
    go_wp2_with fail
    (apply bodyPost_ret; (simp [results, Tryz.results8, go_sem]; rfl); rfl)
    exact ⟨by unfold crPE; rw [HZ.out], HTO.out⟩
  · have g1 : (craErr ps[i].s.d ps[i].s.sf xn != 0) = true := by rw [bne_iff_ne]; exact hz
    have HPP : Hid (crP ps[i].s xn = ps[i].s) := by unfold Hid crP crPE; rw [if_neg hz]
    have hsm := cra_same hz
    have hct : cfLT ps[i].s.tx ps[i].s.d ps[i].s.sf xn = ps[i].s.tx := by unfold cfLT; rw [if_neg hz]
    rw [hsm.1, hsm.2, hct] at HL3
    have HTO : Hid (HsTo w w3 base gh (.slice (some ad) ps.length c0') ps ((ps.map Pc.s).set i (crP ps[i].s xn))) :=
      HFIN.out w3 ps[i] w3 _ ⟨⟨HE3.out, HL3.out, HPG.out.bf, HPG.out.bl⟩, HC3.out, fun _ hk => .inl hk, HPP.out.symm, rfl⟩ (crP_nm _ _) (.inl ⟨rfl, rfl⟩)
    clear hsm hct hz HCR
    go_wp2_with fail
    (apply bodyPost_ret; (simp [results, Tryz.results8, go_sem]; rfl); rfl)
    exact ⟨rfl, HTO.out⟩
set_option maxRecDepth 100000 in
set_option maxHeartbeats 4000000 in
theorem houDo8 (x : Dd) (base gh : Nat) (v : Value) (ps : List Pc) (i : Nat) (w : World) (hf : Found w base gh v ps x i) (hkk : x.kind = 8) : Calls Tryz.prog 8 #[.pointer (some ⟨gh, 0, none⟩), x.val] w (DoAns w base gh v ps x) := by
  have hil : i < ps.length := hf.l
  have hl9 : fnd x.name (ps.map Pc.s) < (ps.map Pc.s).length := by rw [hf.e, List.length_map]; exact hil
  obtain ⟨hq1, hq2', hq3⟩ := hs_text (P := ps.map Pc.s) hkk hf.n hl9
  have hq2 : hsT (ps.map Pc.s) x = ps[i].s.tx := by
    rw [hq2', List.getElem_map]
    have he := hf.e
    subst he
    rfl
  clear hq2' hl9
  obtain ⟨h, hk, hb, hx, ht, hn, hi, _⟩ := hf
  have HTB : Hid (∀ W, Below w.heap.size w W → TabI W) := fun W hW => tabI_stays ht hW
  have hz : idxZ x.name (ps.map Pc.s) = (i : Int) := by rw [idxZ_pos (by rw [hi, List.length_map]; exact hil), hi]
  have HOKP : Hid (PsOk ps[i].s) := hk.pg _ (List.mem_map_of_mem (List.getElem_mem hil))
  have HPS := Lib.hid h
  have hnl : ps.length ≤ 6 := by have := hk.n; rwa [List.length_map] at this
  obtain ⟨A0, c0', hv0, _, _, hrd0⟩ := h.row.form
  have hcb := h.blk.cell0
  have hgh := h.blk.lt
  have HNM := Lib.hid (fun W => houName_any x.name W hx.nm)
  rw [hn] at HNM
  have HID := Lib.hid (fun W g (hW : Below w.heap.size w W) (hg : g < W.heap.size) (hc : W.cell? ⟨g, 2, none⟩ = some (.string x.name)) => idxPc_any ps x.name A0 ps.length c0' w.heap.size g W (hrd0.below hW) hW.size (by omega) rfl hg hc)
  unfold DoAns
  rw [hq1, hq2, hq3]
  clear hq1 hq2 hq3 hrd0
  have HX := Lib.hid hx
  have HKK := Lib.hid hk
  clear hn hx hk h
  rw [hz] at HID
  clear hz hi ht
  obtain ⟨xk, xn, xnm, xt, xA, xm, xc, xl⟩ := x
  unfold Dd.val
  simp only at *
  subst hkk
  subst hv0
  have hbk : Blk (w.alloc (.cells #[.int .i64 8, .int .i64 xn, .string xnm, .string xt, .slice xA xm xc] 32)) w.heap.size 32 #[.int .i64 8, .int .i64 xn, .string xnm, .string xt, .slice xA xm xc] := Blk.new_ _ _ _
  have hbA : Below w.heap.size w (w.alloc (.cells #[.int .i64 8, .int .i64 xn, .string xnm, .string xt, .slice xA xm xc] 32)) := (Below.refl _ _).alloc (Nat.le_refl _) _
  have HBK := Lib.hid hbk
  have HBA := Lib.hid hbA
  clear hbk hbA
  obtain ⟨wA, hwA⟩ : ∃ wA, wA = w.alloc (.cells #[.int .i64 8, .int .i64 xn, .string xnm, .string xt, .slice xA xm xc] 32) := ⟨_, rfl⟩
  rw [← hwA] at HBK HBA
  have HWA := Lib.hid hwA
  clear hwA
  go_enter Tryz.func8, Tryz.ntmps8
  go_wp2_with fail
  rw [← HWA.out]
  have q0 := HBK.out.cell0
  have q1 := HBK.out.cell 1
  have q2 := HBK.out.cell 2
  have q3 := HBK.out.cell 3
  have q4 := HBK.out.cell 4
  go_wp2_with fail
  refine (HNM.out _).mono ?_
  rintro e w1 ⟨rfl, hb1⟩
  have HB1 := Lib.hid (HBA.out.trans (hb1.mono HBA.out.size))
  have HBK1 := Lib.hid (HBK.out.below' hb1)
  clear q0 q1 q2 q3 q4 hb1 HBK HBA
  have q0 := HBK1.out.cell0
  have kb := (HB1.out.cell (p := ⟨gh, 0, none⟩) hgh).trans hcb
  go_wp2_with fail
  refine (HID.out w1 w.heap.size HB1.out HBK1.out.lt (HBK1.out.cell 2)).mono ?_
  rintro e w2 ⟨rfl, hb2⟩
  have HB2 := Lib.hid (HB1.out.trans (hb2.mono HB1.out.size))
  have HBK2 := Lib.hid (HBK1.out.below' hb2)
  have hpre := HPS.out.below HB2.out
  have HS2 := Lib.hid hpre
  clear q0 kb hb2 HB1 HBK1 HID HNM hpre
  have q0 := HBK2.out.cell0
  have q1 := HBK2.out.cell 1
  have q2 := HBK2.out.cell 2
  have q3 := HBK2.out.cell 3
  have q4 := HBK2.out.cell 4
  have kb := (HB2.out.cell (p := ⟨gh, 0, none⟩) hgh).trans hcb
  obtain ⟨A1, c1', hv1, _, _, hrd2⟩ := HS2.out.row.form
  cases hv1
  obtain ⟨ad, rfl, _, p0, p1, p2⟩ := pc_cell hrd2 hil rfl
  have hm := List.getElem_mem hil
  have hpl : (ad.add (i * 3)).block < w2.heap.size := by rw [blk_add]; exact (HS2.out.row.lt _ rfl).2
  have hpo : ¬ foot ps[i] (ad.add (i * 3)).block := by rw [blk_add]; exact HS2.out.offRow hm rfl
  have HPG := Lib.hid (HS2.out.pg _ hm)
  have hb2 : base ≤ w2.heap.size := Nat.le_trans hb HB2.out.size
  have HFIN : Hid (∀ w' p' w3 s', PgTo3 w2 w3 base ps[i] s' p' → s'.nm = ps[i].s.nm → Ends (ad.add (i * 3)) ps[i] p' w3 w' → HsTo w w' base gh (.slice (some ad) ps.length c0') ps ((ps.map Pc.s).set i s')) := fun w' p' w3 s' h1 h2 h3 => (HsTo.ofPage HS2.out hil h1 h2 h3).pre HB2.out
  have hfr : w2.frozen? (edCell (ad.add (i * 3))) = false := by
    have h9 := (own_setS HS2.out.row (j := i * 3 + 1) (by omega) (.bool true)).2
    rw [add_one] at h9
    exact h9
  have HRE : Hid (∀ W, Chg w2 W (foot ps[i]) → Rd W W.heap.size 3 xA xm (edCells xl)) := fun W hc => rdThruK HB2.out hc (fun k hk => .inr (.inr ⟨ps[i], hm, hk⟩)) HX.out.o HX.out.r
  have HTB2 := Lib.hid (HTB.out w2 HB2.out)
  have hxm := HX.out.m
  clear hrd2 hm HTB
  go_wp2_with fail
  have hTX := edText_any base ps[i].ge ps[i].s.es ps[i].vB ps[i].vO w2 HPG.out.ed
  rw [show S ps[i].s.es.text = ps[i].s.tx from rfl] at hTX
  refine hTX.mono ?_
  rintro e w3 ⟨rfl, hb3⟩
  have HTO : Hid (HsTo w w3 base gh (.slice (some ad) ps.length c0') ps (ps.map Pc.s)) := HsTo.pre HB2.out (HsTo.same HS2.out hb3)
  clear hTX
  go_wp2_with fail
  (apply bodyPost_ret; (simp [results, Tryz.results8, go_sem]; rfl); rfl)
  exact ⟨rfl, HTO.out⟩
set_option maxRecDepth 100000 in
set_option maxHeartbeats 4000000 in
theorem houDo9 (x : Dd) (base gh : Nat) (v : Value) (ps : List Pc) (i : Nat) (w : World) (hf : Found w base gh v ps x i) (hkk : x.kind = 9) : Calls Tryz.prog 8 #[.pointer (some ⟨gh, 0, none⟩), x.val] w (DoAns w base gh v ps x) := by
  have hil : i < ps.length := hf.l
  have hl9 : fnd x.name (ps.map Pc.s) < (ps.map Pc.s).length := by rw [hf.e, List.length_map]; exact hil
  obtain ⟨hq1, hq2, hq3⟩ := hs_drop (P := ps.map Pc.s) hkk hf.n hl9
  rw [hf.e] at hq3
  clear hl9
  obtain ⟨h, hk, hb, hx, ht, hn, hi, _⟩ := hf
  have HTB : Hid (∀ W, Below w.heap.size w W → TabI W) := fun W hW => tabI_stays ht hW
  have hz : idxZ x.name (ps.map Pc.s) = (i : Int) := by rw [idxZ_pos (by rw [hi, List.length_map]; exact hil), hi]
  have HOKP : Hid (PsOk ps[i].s) := hk.pg _ (List.mem_map_of_mem (List.getElem_mem hil))
  have HPS := Lib.hid h
  have hnl : ps.length ≤ 6 := by have := hk.n; rwa [List.length_map] at this
  obtain ⟨A0, c0', hv0, _, _, hrd0⟩ := h.row.form
  have hcb := h.blk.cell0
  have hgh := h.blk.lt
  have HNM := Lib.hid (fun W => houName_any x.name W hx.nm)
  rw [hn] at HNM
  have HID := Lib.hid (fun W g (hW : Below w.heap.size w W) (hg : g < W.heap.size) (hc : W.cell? ⟨g, 2, none⟩ = some (.string x.name)) => idxPc_any ps x.name A0 ps.length c0' w.heap.size g W (hrd0.below hW) hW.size (by omega) rfl hg hc)
  unfold DoAns
  rw [hq1, hq2, hq3]
  clear hq1 hq2 hq3 hrd0
  have HX := Lib.hid hx
  have HKK := Lib.hid hk
  clear hn hx hk h
  rw [hz] at HID
  clear hz hi ht
  obtain ⟨xk, xn, xnm, xt, xA, xm, xc, xl⟩ := x
  unfold Dd.val
  simp only at *
  subst hkk
  subst hv0
  have hbk : Blk (w.alloc (.cells #[.int .i64 9, .int .i64 xn, .string xnm, .string xt, .slice xA xm xc] 32)) w.heap.size 32 #[.int .i64 9, .int .i64 xn, .string xnm, .string xt, .slice xA xm xc] := Blk.new_ _ _ _
  have hbA : Below w.heap.size w (w.alloc (.cells #[.int .i64 9, .int .i64 xn, .string xnm, .string xt, .slice xA xm xc] 32)) := (Below.refl _ _).alloc (Nat.le_refl _) _
  have HBK := Lib.hid hbk
  have HBA := Lib.hid hbA
  clear hbk hbA
  obtain ⟨wA, hwA⟩ : ∃ wA, wA = w.alloc (.cells #[.int .i64 9, .int .i64 xn, .string xnm, .string xt, .slice xA xm xc] 32) := ⟨_, rfl⟩
  rw [← hwA] at HBK HBA
  have HWA := Lib.hid hwA
  clear hwA
  go_enter Tryz.func8, Tryz.ntmps8
  go_wp2_with fail
  rw [← HWA.out]
  have q0 := HBK.out.cell0
  have q1 := HBK.out.cell 1
  have q2 := HBK.out.cell 2
  have q3 := HBK.out.cell 3
  have q4 := HBK.out.cell 4
  go_wp2_with fail
  refine (HNM.out _).mono ?_
  rintro e w1 ⟨rfl, hb1⟩
  have HB1 := Lib.hid (HBA.out.trans (hb1.mono HBA.out.size))
  have HBK1 := Lib.hid (HBK.out.below' hb1)
  clear q0 q1 q2 q3 q4 hb1 HBK HBA
  have q0 := HBK1.out.cell0
  have kb := (HB1.out.cell (p := ⟨gh, 0, none⟩) hgh).trans hcb
  go_wp2_with fail
  refine (HID.out w1 w.heap.size HB1.out HBK1.out.lt (HBK1.out.cell 2)).mono ?_
  rintro e w2 ⟨rfl, hb2⟩
  have HB2 := Lib.hid (HB1.out.trans (hb2.mono HB1.out.size))
  have HBK2 := Lib.hid (HBK1.out.below' hb2)
  have hpre := HPS.out.below HB2.out
  have HS2 := Lib.hid hpre
  clear q0 kb hb2 HB1 HBK1 HID HNM hpre
  have q0 := HBK2.out.cell0
  have q1 := HBK2.out.cell 1
  have q2 := HBK2.out.cell 2
  have q3 := HBK2.out.cell 3
  have q4 := HBK2.out.cell 4
  have kb := (HB2.out.cell (p := ⟨gh, 0, none⟩) hgh).trans hcb
  obtain ⟨A1, c1', hv1, _, _, hrd2⟩ := HS2.out.row.form
  cases hv1
  obtain ⟨ad, rfl, _, p0, p1, p2⟩ := pc_cell hrd2 hil rfl
  have hm := List.getElem_mem hil
  have hpl : (ad.add (i * 3)).block < w2.heap.size := by rw [blk_add]; exact (HS2.out.row.lt _ rfl).2
  have hpo : ¬ foot ps[i] (ad.add (i * 3)).block := by rw [blk_add]; exact HS2.out.offRow hm rfl
  have HPG := Lib.hid (HS2.out.pg _ hm)
  have hb2 : base ≤ w2.heap.size := Nat.le_trans hb HB2.out.size
  have HFIN : Hid (∀ w' p' w3 s', PgTo3 w2 w3 base ps[i] s' p' → s'.nm = ps[i].s.nm → Ends (ad.add (i * 3)) ps[i] p' w3 w' → HsTo w w' base gh (.slice (some ad) ps.length c0') ps ((ps.map Pc.s).set i s')) := fun w' p' w3 s' h1 h2 h3 => (HsTo.ofPage HS2.out hil h1 h2 h3).pre HB2.out
  have hfr : w2.frozen? (edCell (ad.add (i * 3))) = false := by
    have h9 := (own_setS HS2.out.row (j := i * 3 + 1) (by omega) (.bool true)).2
    rw [add_one] at h9
    exact h9
  have HRE : Hid (∀ W, Chg w2 W (foot ps[i]) → Rd W W.heap.size 3 xA xm (edCells xl)) := fun W hc => rdThruK HB2.out hc (fun k hk => .inr (.inr ⟨ps[i], hm, hk⟩)) HX.out.o HX.out.r
  have HTB2 := Lib.hid (HTB.out w2 HB2.out)
  have hxm := HX.out.m
  clear hrd2 hm HTB
  go_wp2_with fail
  refine (delPc0 (pcCells ps) (.slice (some ad) ps.length c0') ps.length i base w2 HS2.out.row hil (by omega) (pc_one ps)).mono ?_
  rintro e w3 ⟨A3, c3, hv3, rfl, ho3, hg3⟩
  cases hv3
  have hne : some gh ≠ (Value.slice (some ad) ps.length c0').ownBlock := fun e => by
    rcases HS2.out.boxRow with h | h
    · rw [h] at e; cases e
    · exact h e.symm
  have hbx := HS2.out.blk.grown hg3 hne
  have k3 : w3.cell? ⟨gh, 0, none⟩ = some (.slice (some ad) ps.length c0') := hbx.cell0
  have k3f : w3.frozen? ⟨gh, 0, none⟩ = false := hbx.frozen 0
  have HTO : Hid (HsTo w (w3.setCell ⟨gh, 0, none⟩ (.slice (some ad) (ps.length - 1) c0')) base gh (.slice (some ad) ps.length c0') ps ((ps.map Pc.s).eraseIdx i)) := by
    refine HsTo.pre HB2.out ⟨⟨_, ps.eraseIdx i, HS2.out.cut hil ho3 hg3, map_eraseH Pc.s ps i, ?_⟩, ?_⟩
    · rintro k (rfl | hk | ⟨q, hq, hk⟩)
      · exact .inl (.inl rfl)
      · exact .inl (.inr (.inl hk))
      · exact .inl (.inr (.inr ⟨q, List.mem_of_mem_eraseIdx hq, hk⟩))
    · exact (Chg.of_gb (K := HK gh (.slice (some ad) ps.length c0') ps) hg3 fun k hk => .inr (.inl hk)).trans (Chg.setH w3 ⟨gh, 0, none⟩ _) fun k hk _ => .inl hk
  clear ho3 hg3 hne hbx
  go_wp2_with fail
  (apply bodyPost_ret; (simp [results, Tryz.results8, go_sem]; rfl); rfl)
  exact ⟨rfl, HTO.out⟩
set_option maxRecDepth 100000 in
set_option maxHeartbeats 4000000 in
theorem houDo10 (x : Dd) (base gh : Nat) (v : Value) (ps : List Pc) (i : Nat) (w : World) (hf : Found w base gh v ps x i) (hkk : x.kind = 10) : Calls Tryz.prog 8 #[.pointer (some ⟨gh, 0, none⟩), x.val] w (DoAns w base gh v ps x) := by
  have hil : i < ps.length := hf.l
  obtain ⟨hq1, hq2, hq3⟩ := hs_pagePc (ps := ps) (x := x) (by omega) (by omega) (by omega) (by omega) hf.n hf.e hil
  rw [(pg10 hkk).1] at hq1
  rw [(pg10 hkk).2] at hq3
  obtain ⟨h, hk, hb, hx, ht, hn, hi, _⟩ := hf
  have HTB : Hid (∀ W, Below w.heap.size w W → TabI W) := fun W hW => tabI_stays ht hW
  have hz : idxZ x.name (ps.map Pc.s) = (i : Int) := by rw [idxZ_pos (by rw [hi, List.length_map]; exact hil), hi]
  have HOKP : Hid (PsOk ps[i].s) := hk.pg _ (List.mem_map_of_mem (List.getElem_mem hil))
  have HPS := Lib.hid h
  have hnl : ps.length ≤ 6 := by have := hk.n; rwa [List.length_map] at this
  obtain ⟨A0, c0', hv0, _, _, hrd0⟩ := h.row.form
  have hcb := h.blk.cell0
  have hgh := h.blk.lt
  have HNM := Lib.hid (fun W => houName_any x.name W hx.nm)
  rw [hn] at HNM
  have HID := Lib.hid (fun W g (hW : Below w.heap.size w W) (hg : g < W.heap.size) (hc : W.cell? ⟨g, 2, none⟩ = some (.string x.name)) => idxPc_any ps x.name A0 ps.length c0' w.heap.size g W (hrd0.below hW) hW.size (by omega) rfl hg hc)
  unfold DoAns
  rw [hq1, hq2, hq3]
  clear hq1 hq2 hq3 hrd0
  have HX := Lib.hid hx
  have HKK := Lib.hid hk
  clear hn hx hk h
  rw [hz] at HID
  clear hz hi ht
  obtain ⟨xk, xn, xnm, xt, xA, xm, xc, xl⟩ := x
  unfold Dd.val
  simp only at *
  subst hkk
  subst hv0
  have hbk : Blk (w.alloc (.cells #[.int .i64 10, .int .i64 xn, .string xnm, .string xt, .slice xA xm xc] 32)) w.heap.size 32 #[.int .i64 10, .int .i64 xn, .string xnm, .string xt, .slice xA xm xc] := Blk.new_ _ _ _
  have hbA : Below w.heap.size w (w.alloc (.cells #[.int .i64 10, .int .i64 xn, .string xnm, .string xt, .slice xA xm xc] 32)) := (Below.refl _ _).alloc (Nat.le_refl _) _
  have HBK := Lib.hid hbk
  have HBA := Lib.hid hbA
  clear hbk hbA
  obtain ⟨wA, hwA⟩ : ∃ wA, wA = w.alloc (.cells #[.int .i64 10, .int .i64 xn, .string xnm, .string xt, .slice xA xm xc] 32) := ⟨_, rfl⟩
  rw [← hwA] at HBK HBA
  have HWA := Lib.hid hwA
  clear hwA
  go_enter Tryz.func8, Tryz.ntmps8
  go_wp2_with fail
  rw [← HWA.out]
  have q0 := HBK.out.cell0
  have q1 := HBK.out.cell 1
  have q2 := HBK.out.cell 2
  have q3 := HBK.out.cell 3
  have q4 := HBK.out.cell 4
  go_wp2_with fail
  refine (HNM.out _).mono ?_
  rintro e w1 ⟨rfl, hb1⟩
  have HB1 := Lib.hid (HBA.out.trans (hb1.mono HBA.out.size))
  have HBK1 := Lib.hid (HBK.out.below' hb1)
  clear q0 q1 q2 q3 q4 hb1 HBK HBA
  have q0 := HBK1.out.cell0
  have kb := (HB1.out.cell (p := ⟨gh, 0, none⟩) hgh).trans hcb
  go_wp2_with fail
  refine (HID.out w1 w.heap.size HB1.out HBK1.out.lt (HBK1.out.cell 2)).mono ?_
  rintro e w2 ⟨rfl, hb2⟩
  have HB2 := Lib.hid (HB1.out.trans (hb2.mono HB1.out.size))
  have HBK2 := Lib.hid (HBK1.out.below' hb2)
  have hpre := HPS.out.below HB2.out
  have HS2 := Lib.hid hpre
  clear q0 kb hb2 HB1 HBK1 HID HNM hpre
  have q0 := HBK2.out.cell0
  have q1 := HBK2.out.cell 1
  have q2 := HBK2.out.cell 2
  have q3 := HBK2.out.cell 3
  have q4 := HBK2.out.cell 4
  have kb := (HB2.out.cell (p := ⟨gh, 0, none⟩) hgh).trans hcb
  obtain ⟨A1, c1', hv1, _, _, hrd2⟩ := HS2.out.row.form
  cases hv1
  obtain ⟨ad, rfl, _, p0, p1, p2⟩ := pc_cell hrd2 hil rfl
  have hm := List.getElem_mem hil
  have hpl : (ad.add (i * 3)).block < w2.heap.size := by rw [blk_add]; exact (HS2.out.row.lt _ rfl).2
  have hpo : ¬ foot ps[i] (ad.add (i * 3)).block := by rw [blk_add]; exact HS2.out.offRow hm rfl
  have HPG := Lib.hid (HS2.out.pg _ hm)
  have hb2 : base ≤ w2.heap.size := Nat.le_trans hb HB2.out.size
  have HFIN : Hid (∀ w' p' w3 s', PgTo3 w2 w3 base ps[i] s' p' → s'.nm = ps[i].s.nm → Ends (ad.add (i * 3)) ps[i] p' w3 w' → HsTo w w' base gh (.slice (some ad) ps.length c0') ps ((ps.map Pc.s).set i s')) := fun w' p' w3 s' h1 h2 h3 => (HsTo.ofPage HS2.out hil h1 h2 h3).pre HB2.out
  have hfr : w2.frozen? (edCell (ad.add (i * 3))) = false := by
    have h9 := (own_setS HS2.out.row (j := i * 3 + 1) (by omega) (.bool true)).2
    rw [add_one] at h9
    exact h9
  have HRE : Hid (∀ W, Chg w2 W (foot ps[i]) → Rd W W.heap.size 3 xA xm (edCells xl)) := fun W hc => rdThruK HB2.out hc (fun k hk => .inr (.inr ⟨ps[i], hm, hk⟩)) HX.out.o HX.out.r
  have HTB2 := Lib.hid (HTB.out w2 HB2.out)
  have hxm := HX.out.m
  clear hrd2 hm HTB
  go_wp2_with fail
  obtain ⟨F1, hFd⟩ : ∃ F : World → Prop, F = fun w' => w'.cell? ⟨(ad.add (i * 3)).block, (ad.add (i * 3)).off + 1, none⟩ = some (.pointer (some ⟨ps[i].ge, 0, none⟩)) ∧ w'.cell? ⟨w.heap.size, 3, none⟩ = some (.string xt) := ⟨_, rfl⟩
  have HF1 := Lib.hid hFd
  clear hFd
  have hcell10 : ∀ p' : Wof F1, p'.w.cell? ⟨(ad.add (i * 3)).block, (ad.add (i * 3)).off + 1, none⟩ = some (.pointer (some ⟨ps[i].ge, 0, none⟩)) := fun ⟨x, hx⟩ => by rw [HF1.out] at hx; exact hx.1
  have hcell11 : ∀ p' : Wof F1, p'.w.cell? ⟨w.heap.size, 3, none⟩ = some (.string xt) := fun ⟨x, hx⟩ => by rw [HF1.out] at hx; exact hx.2
  refine wp_region_schedF [(0, true), (1, true), (2, true), (3, true), (5, true), (6, true), (4, false), (7, false), (8, true), (9, true), (10, true), (11, true), (12, true)] F1 (by kernel_rfl) (by kernel_rfl) rfl (fun _ _ _ _ _ h => h) (by kernel_rfl) (by rw [HF1.out]; first | ((repeat' apply And.intro) <;> assumption) | trivial | (simp; done) | (simp [*]; done)) (by rw [HF1.out]; exact fun h => h) ?_
  intro hne1
  simp only [opersOf, List.getElem?_toArray, List.getElem?_cons_succ, List.getElem?_cons_zero]
  repeat (first | (refine wpSched_free rfl ?_; intro K hK; go_big_quiet_op; go_big_quiet_on) | (refine wpSched_wantS _ rfl rfl rfl ?_; intro K hK; go_big_quiet_op; go_big_quiet_on) | (refine wpSched_skipS _ rfl rfl rfl rfl ?_; simp only [Act.put, List.setIfInBounds_toArray, List.set_cons_zero, List.set_cons_succ]) | (refine wpSched_skipU _ rfl rfl rfl ?_; simp only [Act.put, List.setIfInBounds_toArray, List.set_cons_zero, List.set_cons_succ]))
  refine wpSched_other ?_
  go_wp2_with fail
  have hbd : Below w2.heap.size w2 w2.drew := Below.drew (Below.refl _ _)
  have hTX := edText_any base ps[i].ge ps[i].s.es ps[i].vB ps[i].vO w2.drew (HPG.out.ed.below hbd)
  rw [show S ps[i].s.es.text = ps[i].s.tx from rfl] at hTX
  refine hTX.mono ?_
  rintro e w3 ⟨rfl, hb3⟩
  have hb23 := hbd.trans (hb3.mono hbd.size)
  have r1 := (hb23.cell (p := ⟨(ad.add (i * 3)).block, (ad.add (i * 3)).off + 1, none⟩) hpl).trans p1
  have r2 := (hb23.cell (p := ⟨(ad.add (i * 3)).block, (ad.add (i * 3)).off + 2, none⟩) hpl).trans p2
  have rd := (hb23.cell (p := ⟨w.heap.size, 3, none⟩) HBK2.out.lt).trans q3
  have hpl3 : (ad.add (i * 3)).block < w3.heap.size := Nat.lt_of_lt_of_le hpl hb23.size
  have hgd3 : w.heap.size < w3.heap.size := Nat.lt_of_lt_of_le HBK2.out.lt hb23.size
  have HB23 := Lib.hid hb23
  clear hTX hb3 hb23 hbd q0 q1 q2 q3 q4 kb p0 p1 p2 hfr
  go_wp2_with fail
  refine sched_back (by rw [HF1.out]; exact ⟨r1, rd⟩) ?_
  repeat (first | (refine wpSched_free rfl ?_; intro K hK; go_big_quiet_op; go_big_quiet_on) | (refine wpSched_wantS _ rfl rfl rfl ?_; intro K hK; go_big_quiet_op; go_big_quiet_on) | (refine wpSched_skipS _ rfl rfl rfl rfl ?_; simp only [Act.put, List.setIfInBounds_toArray, List.set_cons_zero, List.set_cons_succ]) | (refine wpSched_skipU _ rfl rfl rfl ?_; simp only [Act.put, List.setIfInBounds_toArray, List.set_cons_zero, List.set_cons_succ]))
  refine wpSched_other ?_
  go_wp2_with fail
  refine (mkE_any ps[i].s.tx xt w3).mono ?_
  rintro e w4 ⟨v4, rfl, hv4, hb4⟩
  have r1' := (hb4.cell (p := ⟨(ad.add (i * 3)).block, (ad.add (i * 3)).off + 1, none⟩) hpl3).trans r1
  have r2' := (hb4.cell (p := ⟨(ad.add (i * 3)).block, (ad.add (i * 3)).off + 2, none⟩) hpl3).trans r2
  have rd' := (hb4.cell (p := ⟨w.heap.size, 3, none⟩) hgd3).trans rd
  have hpl4 : (ad.add (i * 3)).block < w4.heap.size := Nat.lt_of_lt_of_le hpl3 hb4.size
  have hb24 : Below w2.heap.size w2 w4 := HB23.out.trans (hb4.mono HB23.out.size)
  have HB24 := Lib.hid hb24
  have HS4 := Lib.hid (HS2.out.below hb24)
  have HV4 := Lib.hid hv4
  have hs23 := HB23.out.size
  clear hv4 hb4 hb24 r1 r2 rd
  go_wp2_with fail
  refine sched_back (by rw [HF1.out]; exact ⟨r1', rd'⟩) ?_
  repeat (first | (refine wpSched_free rfl ?_; intro K hK; go_big_quiet_op; go_big_quiet_on) | (refine wpSched_wantS _ rfl rfl rfl ?_; intro K hK; go_big_quiet_op; go_big_quiet_on) | (refine wpSched_skipS _ rfl rfl rfl rfl ?_; simp only [Act.put, List.setIfInBounds_toArray, List.set_cons_zero, List.set_cons_succ]) | (refine wpSched_skipU _ rfl rfl rfl ?_; simp only [Act.put, List.setIfInBounds_toArray, List.set_cons_zero, List.set_cons_succ]))
  refine wpSched_nil ?_
  clear HF1 hcell10 hcell11 hne1 rd'
  have HB4 := Lib.hid (HB2.out.trans (HB24.out.mono HB2.out.size))
  by_cases hz : mkE ps[i].s.tx xt = 0
  · have hME : mkPE ps[i].s xt = edPE ps[i].s (mkL ps[i].s.tx xt) := by unfold mkPE; rw [if_pos hz]
    have hMP : mkP ps[i].s xt = edP ps[i].s (mkL ps[i].s.tx xt) := by unfold mkP; rw [if_pos hz]
    have ho4 := HV4.out hz
    obtain ⟨A8, c8, rfl, hn8, hm8, hrd8⟩ := ho4.form
    have HPG4 := Lib.hid (HS4.out.pg _ (List.getElem_mem hil))
    have HR8 : Hid (∀ W, Chg w4 W (foot ps[i]) → Rd W W.heap.size 3 A8 (mkL ps[i].s.tx xt).length (edCells (mkL ps[i].s.tx xt))) := fun W hc => by
      obtain ⟨A9, c9, hv9, _, _, hr9⟩ := (ho4.chg hc fun k hk hk2 => by
        have h1 := (ho4.lt k hk).1
        have h2 := (HPG.out.lt hk2).2
        omega).form
      cases hv9
      exact hr9
    have hml : (mkL ps[i].s.tx xt).length ≤ 9223372036854775807 := by unfold maxLen at hm8; omega
    have HML := Lib.hid hml
    have HTB4 := Lib.hid (tabI_stays HTB2.out HB24.out)
    have hb4' : base ≤ w4.heap.size := Nat.le_trans hb2 HB24.out.size
    have HME := Lib.hid hME
    have HMP := Lib.hid hMP
    rw [hz]
    clear hME hMP ho4 hrd8 hz hml HV4
    generalize mkL ps[i].s.tx xt = l8 at *
    go_wp2_with fail
    refine (pgEdit_any ps[i] (ad.add (i * 3)) base l8 A8 l8.length c8 w4 HPG4.out HOKP.out hb4' hpl4 hpo r1' r2' HR8.out HML.out HTB4.out).mono ?_
    rintro e w5 ⟨rfl, p', hto⟩
    have HTO : Hid (HsTo w w5 base gh (.slice (some ad) ps.length c0') ps ((ps.map Pc.s).set i (mkP ps[i].s xt))) := by
      rw [HMP.out]
      exact (HsTo.ofPage HS4.out hil hto.to3 (edP_nm _ _) (.inl ⟨rfl, hto.ge⟩)).pre HB4.out
    clear hto
    go_wp2_with fail
    (apply bodyPost_ret; (simp [results, Tryz.results8, go_sem]; rfl); rfl)
    exact ⟨by rw [HME.out], HTO.out⟩
  · have g1 : (mkE ps[i].s.tx xt != 0) = true := by rw [bne_iff_ne]; exact hz
    have hME : mkPE ps[i].s xt = mkE ps[i].s.tx xt := by unfold mkPE; rw [if_neg hz]
    have hMP : mkP ps[i].s xt = ps[i].s := by unfold mkP; rw [if_neg hz]
    have HTO : Hid (HsTo w w4 base gh (.slice (some ad) ps.length c0') ps ((ps.map Pc.s).set i (mkP ps[i].s xt))) := by
      have e : (ps.map Pc.s).set i (mkP ps[i].s xt) = ps.map Pc.s := by
        rw [hMP]
        have h9 := set_selfH (ps.map Pc.s) i (by rw [List.length_map]; exact hil)
        rwa [List.getElem_map] at h9
      rw [Hid, e]
      exact HsTo.pre HB4.out (HsTo.same HS4.out (Below.refl _ _))
    have HME := Lib.hid hME
    clear hME hMP hz HV4
    go_wp2_with fail
    (apply bodyPost_ret; (simp [results, Tryz.results8, go_sem]; rfl); rfl)
    exact ⟨by rw [HME.out], HTO.out⟩
end Go.Proofs.YtplgghjdidmcfaaGreatDoor
