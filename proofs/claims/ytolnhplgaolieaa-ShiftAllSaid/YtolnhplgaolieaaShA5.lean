/- The reference's AllOf. -/
import Derived.Test.YtolnhplgaolieaaShA3
import Derived.Test.YtolnhplgaolieaaSchedZ
namespace Go.Proofs.Ytolnhplgaolieaa
open Go.RowKit
theorem opCells_one (l : List Op) : ∀ u ∈ opCells l, u.oneCell' = true := by
  intro u hu
  obtain ⟨x, _, hx⟩ := List.mem_flatMap.1 hu
  simp only [Op.cells, List.mem_cons, List.not_mem_nil, or_false] at hx
  rcases hx with rfl | rfl | rfl <;> rfl
set_option maxRecDepth 100000 in
set_option maxHeartbeats 1000000 in
theorem clone_op (A : Option Addr) (n c B : Nat) (xs : List Value) (w : World) (hr : Rd w B 3 A n xs) (hB : B ≤ w.heap.size) (hx : ∀ u ∈ xs, u.oneCell' = true) (hn : n ≤ 1000) :
    Calls Try.prog 97 #[.slice A n c] w fun e w' => ∃ v, e = .returned v ∧ w'.ownsRow w.heap.size 64 3 v n xs ∧ Below w.heap.size w w' := by
  obtain ⟨i0, hi0, hz0, hz1, hz2⟩ := info_parts info_op
  have HR := Lib.hid hr
  have HX := Lib.hid hx; clear hx
  cases A with
  | none =>
    have h0 : n = 0 := by
      rcases Nat.eq_zero_or_pos n with h0 | h0
      · exact h0
      · obtain ⟨ad, h, _⟩ := hr.2 h0; cases h
    subst h0
    have hxs : xs = [] := List.eq_nil_of_length_eq_zero (by have := hr.1; omega)
    subst hxs
    clear hr
    have hnil := fun (W : World) => Lib.run_eql_slice_nil (P := Try.prog) W 56 64 none 0 c 0 0 Try.underlying56
    go_enter Try.func97, Try.ntmps97
    go_wp2_with fail
    go_ret
    exact ⟨_, rfl, World.ownsRow_nil _ _ _ _, Below.refl _ _⟩
  | some ad =>
    clear hr
    have hnil := fun (W : World) => Lib.run_eql_slice_nil (P := Try.prog) W 56 64 (some ad) n c 0 0 Try.underlying56
    go_enter Try.func97, Try.ntmps97
    go_wp2_with (at_builtin; go_must (refine wpList_appRd rfl _ _ _ rfl w.heap.size 64 i0 _ 3 24 Try.underlying56 hi0 hz0 hz1 hz2 rfl (by omega) _ 0 [] rfl (World.ownsRow_lit w #[] 0 (Nat.le_refl _) (Nat.zero_le _) rfl) B (some ad) n c xs rfl (HR.out.alloc hB _) HX.out (by omega) (by omega) (by simp) ?_); intro v6 w6 hown6 hb6)
    go_ret
    exact ⟨v6, rfl, by simpa using hown6, ((Below.refl _ _).alloc (Nat.le_refl _) _).trans hb6⟩
theorem shPastOf_ok (x y : Op) (f : Bool) (w : World) (n : Int) (hx : opErr n x = 0) (hy : opErr n y = 0) :
    Calls Try.prog 98 #[x.val, y.val, .bool f] w fun e w' => e = .returned (.agg #[.int .i64 (past x y f).kind, .int .i64 (past x y f).pos, .int .u8 (past x y f).b]) ∧ Below w.heap.size w w' := by
  obtain ⟨v1, v2, v3, _, _⟩ := vld_of_err hx
  obtain ⟨h1, h2, h3⟩ := vld_pos v1 v2
  obtain ⟨_, _, h4⟩ := vld_pos (vld_of_err hy).1 v2
  exact (shPastOf_any x y f w h1 (by omega) h4).mono fun e w' ⟨he, hb⟩ => ⟨by rw [he]; rfl, hb⟩
set_option maxRecDepth 100000 in
set_option maxHeartbeats 8000000 in
theorem shAllOf_any (n : Int) (a b : List Op) (A B : Option Addr) (na ca nb cb D : Nat) (w : World) (ha : Rd w D 3 A na (opCells a)) (hb : Rd w D 3 B nb (opCells b)) (hD : D ≤ w.heap.size) (hz : allErr n a b = 0) :
    Calls Try.prog 40 #[.slice A na ca, .slice B nb cb] w fun e w' => ∃ u v, e = .returned (.tuple #[u, v]) ∧
      w'.ownsRow w.heap.size 64 3 u na (opCells (runL false b a)) ∧ w'.ownsRow w.heap.size 64 3 v nb (opCells (runO false b a)) ∧ Below w.heap.size w w' := by
  have hla := Rd.rec_len op_len (by omega) ha
  have hlb := Rd.rec_len op_len (by omega) hb
  have h30 : ¬ (30 < a.length ∨ 30 < b.length) := fun h => by unfold allErr at hz; rw [if_pos h] at hz; cases hz
  have ha30 : na ≤ 30 := by omega
  have hb30 : nb ≤ 30 := by omega
  obtain ⟨i0, hi0, hz0, hz1, hz2'⟩ := info_parts info_op
  have HZ := Lib.hid hz
  have HA := Lib.hid ha
  have HB := Lib.hid hb
  have HLA := Lib.hid hla
  have HLB := Lib.hid hlb
  clear ha hb hla hlb h30 hz
  go_enter Try.func40, Try.ntmps40
  go_wp2_with fail
  refine (clone_op A na ca D (opCells a) _ HA.out hD (opCells_one a) (by omega)).mono ?_
  rintro e w3 ⟨v3, rfl, hown3, hbw3⟩
  obtain ⟨AL, cL, rfl, hncL, hcmL, _⟩ := own_form hown3
  have H0 : Hid (AllSt false b a w.heap.size (.slice AL na cL) na w3 (.slice none 0 0) 0) := ⟨by rw [List.take_zero]; exact hown3, World.ownsRow_nil _ _ _ _, Apart.none_left _⟩
  have hz3 := hbw3.size
  clear hown3
  go_wp2_with fail
  go_loopw [7, 16] (fun o i wr => ∃ i' : Nat, i' ≤ nb ∧ i = .int .i64 i' ∧ AllSt false b a w.heap.size (.slice AL na cL) na wr o i' ∧ Below w.heap.size w wr) (fun _ i _ => nb - (intOf i).toNat)
  case atStart => exact ⟨0, Nat.zero_le _, rfl, H0.out, hbw3⟩
  case round =>
    clear H0 hbw3 hz3
    obtain ⟨i, hi, rfl, hS, hb⟩ := hrel
    have HS := Lib.hid hS
    have hbs := hb.size
    clear hS
    by_cases hlt : i < nb
    · have g3 : decide ((i : Int) < (nb : Int)) = true := decide_eq_true (by omega)
      obtain ⟨ad, hl, rfl, hab, c0, c1, c2⟩ := (HB.out.below (hb.mono hD)).at_op hlt
      have HSl := Lib.hid HS.out.left
      have HSo := Lib.hid HS.out.out
      have HSa := Lib.hid HS.out.ap
      have hgrid : 0 < na → AllOk n a b := fun h => (allOk HZ.out (by rw [HLA.out]; exact h) (by omega)).1
      have HGR := Lib.hid hgrid
      clear hgrid
      have HG : Hid (∀ k, k < na → ∃ hk : k < (runL false (b.take i) a).length, ∃ m : Int, opErr m (rowX false b[i] ((runL false (b.take i) a).take k)) = 0 ∧ opErr m (runL false (b.take i) a)[k] = 0) := fun k hk => by
        have G := HGR.out (by omega)
        have hla := HLA.out
        have hlr : (runL false (b.take i) a).length = na := by rw [runL_length]; exact hla
        have h1 := run_ok false G.ob G.oa G.n0 i (by omega)
        have h2 := okL_at G.ob hl
        have h3 := okL_pos G.ob G.n0 i
        have h4 := (row_ok false h1 h3 h2).2 k (by omega)
        have h5 := okL_at h1 (k := k) (by omega)
        have h6 := okL_pos h1 h3 k
        have h7 := G.rb i (by omega)
        have h8 := (szs_bd ((runL false (b.take i) a).take k)).2
        rw [List.length_take] at h8
        have h9 : n + szs (b.take i) + szs ((runL false (b.take i) a).take k) < 200 := by omega
        exact ⟨by omega, _, err_of_vld h4 h6 h9, err_of_vld h5 h6 h9⟩
      have hll : Hid ((runL false (b.take i) a).length = na) := by unfold Hid; rw [runL_length]; exact HLA.out
      have hTL : Hid (runL false (b.take (i + 1)) a = rowL false b[i] (runL false (b.take i) a)) := by unfold Hid; rw [List.take_succ_eq_append_getElem hl, runL_snoc]
      have hTO : Hid (runO false (b.take (i + 1)) a = runO false (b.take i) a ++ [rowX false b[i] (runL false (b.take i) a)]) := by unfold Hid; rw [List.take_succ_eq_append_getElem hl, runO_snoc]
      generalize b[i] = x at *
      generalize runL false (b.take i) a = lf at *
      generalize runO false (b.take i) a = o at *
      have hXB : Hid (Blk (wr.alloc (.cells #[.int .i64 x.kind, .int .i64 x.pos, .int .u8 x.b] 64)) wr.heap.size 64 #[.int .i64 x.kind, .int .i64 x.pos, .int .u8 x.b]) := Blk.new_ _ _ _
      have hgx : wr.heap.size < (wr.alloc (.cells #[.int .i64 x.kind, .int .i64 x.pos, .int .u8 x.b] 64)).heap.size := by simp
      have hbx : Below w.heap.size w (wr.alloc (.cells #[.int .i64 x.kind, .int .i64 x.pos, .int .u8 x.b] 64)) := hb.alloc hbs _
      have R0 : Hid (RowSt false x lf w.heap.size (.slice AL na cL) na wr.heap.size (wr.alloc (.cells #[.int .i64 x.kind, .int .i64 x.pos, .int .u8 x.b] 64)) u7 i o 0) :=
        ⟨by rw [List.take_zero, List.drop_zero]; exact HSl.out.alloc _, HSo.out.alloc _, HSa.out, by rw [List.take_zero]; exact hXB.out, fun e => by have := (HSl.out.lt _ e).2; omega, fun e => by have := (HSo.out.lt _ e).2; omega⟩
      generalize hwx : wr.alloc (.cells #[.int .i64 x.kind, .int .i64 x.pos, .int .u8 x.b] 64) = wx at *
      have HWX := Lib.hid hwx
      clear hwx hXB HS HSl HSo HSa hb
      obtain ⟨gx, hgxe⟩ : ∃ gx, gx = wr.heap.size := ⟨_, rfl⟩
      rw [← hgxe] at R0 hgx
      have HGXB : Hid (w.heap.size ≤ gx) := by unfold Hid; omega
      have HGX := Lib.hid hgxe
      clear hgxe
      go_wp2_with fail
      rw [HWX.out, ← HGX.out]
      go_loopw [22] (fun k wr => ∃ k' : Nat, k' ≤ na ∧ k = .int .i64 k' ∧ RowSt false x lf w.heap.size (.slice AL na cL) na gx wr u7 i o k' ∧ Below w.heap.size w wr) (fun k _ => na - (intOf k).toNat)
      case atStart => exact ⟨0, Nat.zero_le _, rfl, R0.out, hbx⟩
      case round =>
        clear R0 hbx c0 c1 c2 HWX HGX hgx
        obtain ⟨k, hk, rfl, hR, hb⟩ := hrel
        have HRS := Lib.hid hR
        have hbs := hb.size
        clear hR
        by_cases hkn : k < na
        · have g4 : decide ((k : Int) < (na : Int)) = true := decide_eq_true (by omega)
          obtain ⟨gL, rfl⟩ : ∃ gL, AL = some ⟨gL, 0, none⟩ := by
            rcases HRS.out.left.2 with ⟨_, h0⟩ | ⟨gL, cap, cur, hv, _⟩
            · omega
            · injection hv with hv; exact ⟨gL, hv⟩
          have HROW : Hid (OpRow wr w.heap.size gL na cL (rowL false x (lf.take k) ++ lf.drop k)) := HRS.out.left
          obtain ⟨hkl, m, he1, he2⟩ := HG.out k hkn
          obtain ⟨hk', hat, hset⟩ := rowstep false x lf k hkl
          obtain ⟨_, c0, c1, c2, f0, f1, f2⟩ := HROW.out.at_ hkn
          rw [hat] at c0 c1 c2
          have HXN : Hid (rowX false x (lf.take (k + 1)) = past (rowX false x (lf.take k)) lf[k] false) := by unfold Hid; rw [List.take_succ_eq_append_getElem hkl, rowX_snoc]
          have HSET := Lib.hid hset
          have HXB : Hid (Blk wr gx 64 #[.int .i64 (rowX false x (lf.take k)).kind, .int .i64 (rowX false x (lf.take k)).pos, .int .u8 (rowX false x (lf.take k)).b]) := HRS.out.xb
          have HOUT := Lib.hid HRS.out.out
          have hnL : gL ≠ gx := fun e => HRS.out.nL (by rw [e]; rfl)
          have HAP := Lib.hid HRS.out.ap
          have HNL := Lib.hid HRS.out.nL
          have HNOL : Hid (u7.ownBlock = none ∨ u7.ownBlock ≠ some gL) := HRS.out.ap
          have HNO := Lib.hid HRS.out.nO
          clear hat hset hk' HRS
          generalize lf[k] = y at *
          generalize hX : rowX false x (lf.take k) = X at *
          clear hX
          obtain ⟨x0, x1, x2, xf0, xf1, xf2⟩ := HXB.out.cells3
          have hgxl := HXB.out.lt
          have hgLl := HROW.out.lt.2
          have hgLb := HROW.out.lt.1
          have HY0 : Hid (Blk (wr.alloc (.cells #[.int .i64 y.kind, .int .i64 y.pos, .int .u8 y.b] 64)) wr.heap.size 64 #[.int .i64 y.kind, .int .i64 y.pos, .int .u8 y.b]) := Blk.new_ _ _ _
          have HX0 := Lib.hid (HXB.out.alloc (.cells #[.int .i64 y.kind, .int .i64 y.pos, .int .u8 y.b] 64))
          have HR0 := Lib.hid (HROW.out.below ((Below.refl wr.heap.size wr).alloc (Nat.le_refl _) (.cells #[.int .i64 y.kind, .int .i64 y.pos, .int .u8 y.b] 64)))
          have HO0 := Lib.hid (HOUT.out.alloc (.cells #[.int .i64 y.kind, .int .i64 y.pos, .int .u8 y.b] 64))
          have hB0 := hb.alloc hbs (.cells #[.int .i64 y.kind, .int .i64 y.pos, .int .u8 y.b] 64)
          have hgLy : wr.heap.size ≠ gL := by omega
          have hgxb : w.heap.size ≤ gx := HGXB.out
          go_wp2_with fail
          clear c0 c1 c2 f0 f1 f2 x0 x1 x2 xf0 xf1 xf2 HXB HROW HOUT hb hgxl hgLl hbs
          generalize wr.heap.size = gy at *
          generalize (wr.alloc (.cells #[.int .i64 y.kind, .int .i64 y.pos, .int .u8 y.b] 64)) = w0 at *
          obtain ⟨x0, x1, x2, xf0, xf1, xf2⟩ := HX0.out.cells3
          obtain ⟨y0, y1, y2, yf0, yf1, yf2⟩ := HY0.out.cells3
          obtain ⟨F1, hFd⟩ : ∃ F : World → Prop, F = fun w' => w'.cell? ⟨gx, 0, none⟩ = some (.int .i64 X.kind) ∧ w'.cell? ⟨gx, 1, none⟩ = some (.int .i64 X.pos) ∧ w'.cell? ⟨gx, 2, none⟩ = some (.int .u8 X.b) ∧ w'.cell? ⟨gy, 0, none⟩ = some (.int .i64 y.kind) ∧ w'.cell? ⟨gy, 1, none⟩ = some (.int .i64 y.pos) ∧ w'.cell? ⟨gy, 2, none⟩ = some (.int .u8 y.b) := ⟨_, rfl⟩
          have HF1 := Lib.hid hFd
          clear hFd
          have hcell10 : ∀ p' : Wof F1, p'.w.cell? ⟨gx, 0, none⟩ = some (.int .i64 X.kind) := fun ⟨x, hx⟩ => by rw [HF1.out] at hx; exact hx.1
          have hcell11 : ∀ p' : Wof F1, p'.w.cell? ⟨gx, 1, none⟩ = some (.int .i64 X.pos) := fun ⟨x, hx⟩ => by rw [HF1.out] at hx; exact hx.2.1
          have hcell12 : ∀ p' : Wof F1, p'.w.cell? ⟨gx, 2, none⟩ = some (.int .u8 X.b) := fun ⟨x, hx⟩ => by rw [HF1.out] at hx; exact hx.2.2.1
          have hcell13 : ∀ p' : Wof F1, p'.w.cell? ⟨gy, 0, none⟩ = some (.int .i64 y.kind) := fun ⟨x, hx⟩ => by rw [HF1.out] at hx; exact hx.2.2.2.1
          have hcell14 : ∀ p' : Wof F1, p'.w.cell? ⟨gy, 1, none⟩ = some (.int .i64 y.pos) := fun ⟨x, hx⟩ => by rw [HF1.out] at hx; exact hx.2.2.2.2.1
          have hcell15 : ∀ p' : Wof F1, p'.w.cell? ⟨gy, 2, none⟩ = some (.int .u8 y.b) := fun ⟨x, hx⟩ => by rw [HF1.out] at hx; exact hx.2.2.2.2.2
          refine wp_region_schedZ [(0, true), (1, true), (2, true), (3, true), (5, true), (6, true), (4, false), (7, false), (8, true), (9, false)] 10 _ F1 (by kernel_rfl) (by kernel_rfl) rfl (by kernel_rfl) rfl (fun _ _ _ _ _ h => h) (by kernel_rfl) (by rw [HF1.out]; first | trivial | (repeat' apply And.intro) <;> assumption | (simp; done) | (simp [*]; done)) (by rw [HF1.out]; exact fun h => h) ?_
          intro hne1
          simp only [opersOf, List.getElem?_toArray, List.getElem?_cons_succ, List.getElem?_cons_zero]
          repeat (first | (refine wpSched_want rfl ?_; intro K hK; go_big_quiet_op; go_big_quiet_on) | (refine wpSched_skip rfl ?_; simp only [Act.put, List.setIfInBounds_toArray, List.set_cons_zero, List.set_cons_succ]))
          refine wpSched_other ?_
          clear x0 x1 x2 xf0 xf1 xf2 y0 y1 y2 yf0 yf1 yf2
          go_wp2_with fail
          refine (shPastOf_ok y X true _ m he2 he1).mono ?_
          rintro e w1 ⟨rfl, hb1⟩
          have hb1' : Below w0.heap.size w0 w1 := (Below.drew (Below.refl _ _)).trans hb1
          have HX1 := Lib.hid (HX0.out.below' hb1')
          have HY1 := Lib.hid (HY0.out.below' hb1')
          have HR1 := Lib.hid (HR0.out.below hb1')
          have HO1 := Lib.hid (own_below HO0.out hb1')
          have hB1 := bthen hB0 hb1'
          clear HX0 HY0 HR0 HO0 hb1 hb1' hB0
          obtain ⟨x0, x1, x2, xf0, xf1, xf2⟩ := HX1.out.cells3
          obtain ⟨y0, y1, y2, yf0, yf1, yf2⟩ := HY1.out.cells3
          generalize hp1 : past y X true = y' at *
          have HP1 := Lib.hid hp1
          clear hp1
          go_wp2_with fail
          refine sched_back (by rw [HF1.out]; exact ⟨x0, x1, x2, y0, y1, y2⟩) ?_
          repeat (first | (refine wpSched_want rfl ?_; intro K hK; go_big_quiet_op; go_big_quiet_on) | (refine wpSched_skip rfl ?_; simp only [Act.put, List.setIfInBounds_toArray, List.set_cons_zero, List.set_cons_succ]))
          refine wpSched_other ?_
          clear x0 x1 x2 xf0 xf1 xf2 y0 y1 y2 yf0 yf1 yf2
          go_wp2_with fail
          refine (shPastOf_ok X y false _ m he1 he2).mono ?_
          rintro e w2 ⟨rfl, hb2⟩
          have HX2 := Lib.hid (HX1.out.below' hb2)
          have HY2 := Lib.hid (HY1.out.below' hb2)
          have HR2 := Lib.hid (HR1.out.below hb2)
          have HO2 := Lib.hid (own_below HO1.out hb2)
          have hB2 := bthen hB1 hb2
          clear HX1 HY1 HR1 HO1 hb2 hB1
          obtain ⟨x0, x1, x2, xf0, xf1, xf2⟩ := HX2.out.cells3
          obtain ⟨y0, y1, y2, yf0, yf1, yf2⟩ := HY2.out.cells3
          generalize hp2 : past X y false = X' at *
          have HP2 := Lib.hid hp2
          clear hp2
          go_wp2_with fail
          refine sched_back (by rw [HF1.out]; exact ⟨x0, x1, x2, y0, y1, y2⟩) ?_
          repeat (first | (refine wpSched_want rfl ?_; intro K hK; go_big_quiet_op; go_big_quiet_on) | (refine wpSched_skip rfl ?_; simp only [Act.put, List.setIfInBounds_toArray, List.set_cons_zero, List.set_cons_succ]))
          refine wpSched_other ?_
          obtain ⟨_, c0, c1, c2, f0, f1, f2⟩ := HR2.out.at_ hkn
          have HRS3 := Lib.hid (HR2.out.set_ hkn y')
          have HYS := Lib.hid (((HY2.out.far (p := ⟨gL, k * 3, none⟩) hgLy (.int .i64 y'.kind)).far (p := ⟨gL, k * 3 + 1, none⟩) hgLy (.int .i64 y'.pos)).far (p := ⟨gL, k * 3 + 2, none⟩) hgLy (.int .u8 y'.b))
          have HXS := Lib.hid (((HX2.out.far (p := ⟨gL, k * 3, none⟩) hnL.symm (.int .i64 y'.kind)).far (p := ⟨gL, k * 3 + 1, none⟩) hnL.symm (.int .i64 y'.pos)).far (p := ⟨gL, k * 3 + 2, none⟩) hnL.symm (.int .u8 y'.b))
          have HOS := Lib.hid (own_far (own_far (own_far HO2.out (p := ⟨gL, k * 3, none⟩) HNOL.out (.int .i64 y'.kind)) (p := ⟨gL, k * 3 + 1, none⟩) HNOL.out (.int .i64 y'.pos)) (p := ⟨gL, k * 3 + 2, none⟩) HNOL.out (.int .u8 y'.b))
          have hBS := Below.setCell (Below.setCell (Below.setCell hB2 (p := ⟨gL, k * 3, none⟩) hgLb (.int .i64 y'.kind)) (p := ⟨gL, k * 3 + 1, none⟩) hgLb (.int .i64 y'.pos)) (p := ⟨gL, k * 3 + 2, none⟩) hgLb (.int .u8 y'.b)
          go_wp2_with fail
          clear c0 c1 c2 f0 f1 f2 x0 x1 x2 xf0 xf1 xf2 y0 y1 y2 yf0 yf1 yf2
          generalize (((w2.setCell ⟨gL, k * 3, none⟩ (.int .i64 y'.kind)).setCell ⟨gL, k * 3 + 1, none⟩ (.int .i64 y'.pos)).setCell ⟨gL, k * 3 + 2, none⟩ (.int .u8 y'.b)) = wS at *
          obtain ⟨x0, x1, x2, xf0, xf1, xf2⟩ := HXS.out.cells3
          obtain ⟨y0, y1, y2, yf0, yf1, yf2⟩ := HYS.out.cells3
          refine sched_back (by rw [HF1.out]; exact ⟨x0, x1, x2, y0, y1, y2⟩) ?_
          repeat (first | (refine wpSched_want rfl ?_; intro K hK; go_big_quiet_op; go_big_quiet_on) | (refine wpSched_skip rfl ?_; simp only [Act.put, List.setIfInBounds_toArray, List.set_cons_zero, List.set_cons_succ]))
          refine wpSched_nil ?_
          refine qz_nil ?_
          clear HF1
          go_wp2_with fail
          go_roundw
          case rel =>
            refine ⟨k + 1, by omega, by go_num, ⟨?_, own_far (own_far (own_far HOS.out (.inr HNO.out) _) (.inr HNO.out) _) (.inr HNO.out) _, HAP.out, ?_, HNL.out, HNO.out⟩, Below.setCell (Below.setCell (Below.setCell hBS hgxb _) hgxb _) hgxb _⟩
            · have := ((HRS3.out.far (p := ⟨gx, 0, none⟩) hnL (.int .i64 X'.kind)).far (p := ⟨gx, 1, none⟩) hnL (.int .i64 X'.pos)).far (p := ⟨gx, 2, none⟩) hnL (.int .u8 X'.b)
              have e := HSET.out
              rw [Bool.not_false, HP1.out] at e
              rw [e] at this
              exact this
            · rw [HXN.out]; exact HXS.out.set3 _ _ _
          case measure => simp [intOf]; omega
        · obtain rfl : k = na := by omega
          have g4 : decide ((k : Int) < (k : Int)) = false := decide_eq_false (by omega)
          have hlft : lf.take k = lf := by rw [← hll.out, List.take_length]
          have hlfd : lf.drop k = [] := by rw [← hll.out, List.drop_length]
          have hL := HRS.out.left
          have hX := HRS.out.xb
          rw [hlft, hlfd, List.append_nil] at hL
          rw [hlft] at hX
          have HL := Lib.hid hL
          have HX := Lib.hid hX
          have HOUT := Lib.hid HRS.out.out
          have HAP := Lib.hid HRS.out.ap
          clear hL hX hlft hlfd HRS
          generalize rowX false x lf = X at *
          obtain ⟨x0, x1, x2, xf0, xf1, xf2⟩ := HX.out.cells3
          have hgxl := HX.out.lt
          have hz2 := hb.size
          go_wp2_with (at_builtin; go_must (refine wpList_appN rfl _ _ _ rfl w.heap.size 64 i0 _ 3 24 Try.underlying56 hi0 hz0 hz1 hz2' rfl (by omega) _ i (opCells o) rfl (HOUT.out.alloc _) ⟨_, 0, none⟩ 1 1 [.int .i64 X.kind, .int .i64 X.pos, .int .u8 X.b] rfl rfl (cells_new3 _ _ _ _ _) (by simp [Value.oneCell']) (by omega) (by omega) (by simp; omega) ?_); intro v6 w6 hown6 hg6 hb6 ha6; have hL6 := Lib.hid (own_apart (HL.out.alloc _) HAP.out.comm hg6); have hap6 := Lib.hid (apart_new (HL.out.alloc _) HAP.out.comm ha6); have hbw6 : Below w.heap.size w w6 := (hb.alloc hz2 _).trans hb6; have HO6 := Lib.hid hown6; clear hown6 x0 x1 x2 xf0 xf1 xf2 hg6 hb6 ha6)
          go_roundw
          case rel =>
            refine ⟨i + 1, by omega, by go_num, ⟨?_, ?_, hap6.out.comm⟩, hbw6⟩
            · rw [hTL.out]; exact hL6.out
            · rw [hTO.out, opCells_append]; exact HO6.out
          case measure => simp [intOf]; omega
    · obtain rfl : i = nb := by omega
      have g3 : decide ((i : Int) < (i : Int)) = false := decide_eq_false (by omega)
      have ht : Hid (b.take i = b) := by unfold Hid; rw [← HLB.out, List.take_length]
      have hO := HS.out.out
      have hL := HS.out.left
      rw [ht.out] at hO hL
      have HO := Lib.hid hO
      have HL := Lib.hid hL
      clear hO hL
      go_wp2_with fail
      go_ret2
      exact ⟨_, _, rfl, HL.out, HO.out, hb⟩
end Go.Proofs.Ytolnhplgaolieaa
