/- shift.All: the walk. -/
import Derived.Test.YtllcmmpepchieaaShA3
namespace Go.Proofs.Ytllcmmpepchieaa
open Go.RowKit
set_option maxRecDepth 100000 in
set_option maxHeartbeats 8000000 in
theorem shAll_any (n : Int) (a b : List Op) (A B : Option Addr) (na ca nb cb D : Nat) (w : World) (ha : Rd w D 3 A na (opCells a)) (hb : Rd w D 3 B nb (opCells b)) (hD : D ≤ w.heap.size)
    (hna : na ≤ 140737488351232) (hnb : nb ≤ 140737488351232) (hoa : OpsOk a) (hob : OpsOk b) :
    Calls Try.prog 14 #[.int .i64 n, .slice A na ca, .slice B nb cb] w fun e w' => ∃ u v, e = .returned (.tuple #[u, v, .int .i64 (allErr n a b)]) ∧ (allErr n a b ≠ 0 → u = .slice none 0 0 ∧ v = .slice none 0 0) ∧
      (allErr n a b = 0 → w'.ownsRow w.heap.size 43 3 u na (opCells (runO true a b)) ∧ w'.ownsRow w.heap.size 43 3 v nb (opCells (runL true a b))) ∧ Below w.heap.size w w' := by
  have hla := Rd.rec_len op_len (by omega) ha
  have hlb := Rd.rec_len op_len (by omega) hb
  by_cases h30 : 30 < na ∨ 30 < nb
  · have HE : Hid (allErr n a b = 2) := by unfold Hid allErr; rw [if_pos (by omega)]
    by_cases ho : 30 < na
    all_goals
      first
        | (have g1' : decide ((30 : Int) < (na : Int)) = true := decide_eq_true (by omega))
        | (have g1' : decide ((30 : Int) < (na : Int)) = false := decide_eq_false (by omega)
           have g2 : decide ((30 : Int) < (nb : Int)) = true := decide_eq_true (by omega))
      clear ha hb
      go_enter Try.func14, Try.ntmps14
      go_wp2
      all_goals first
        | (go_ret3; exact ⟨_, _, by rw [HE.out]; rfl, fun _ => ⟨rfl, rfl⟩, fun h => absurd (HE.out.symm.trans h) (by decide), (by repeat (first | exact Below.refl _ _ | assumption | refine Below.alloc ?_ (by first | exact Nat.le_refl _ | assumption | omega | (simp <;> omega)) _ | refine Below.setCell ?_ (by first | exact Nat.le_refl _ | assumption | omega | (simp <;> omega)) _ | refine Below.drew ?_ | refine below_drewN ?_ _))⟩)
        | (exfalso; omega)
  · have ha30 : na ≤ 30 := by omega
    have hb30 : nb ≤ 30 := by omega
    have HE := Lib.hid (allErr_zero (n := n) (a := a) (b := b) (by omega))
    rw [hla, hlb] at HE
    have HA := Lib.hid ha
    have HB := Lib.hid hb
    have HLA := Lib.hid hla
    have HLB := Lib.hid hlb
    clear ha hb hla hlb h30
    have g1 : decide ((30 : Int) < (na : Int)) = false := decide_eq_false (by omega)
    have g2 : decide ((30 : Int) < (nb : Int)) = false := decide_eq_false (by omega)
    obtain ⟨i0, hi0, hz0, hz1, hz2'⟩ := info_parts info_op
    go_enter Try.func14, Try.ntmps14
    go_wp2_with fail
    all_goals
      obtain ⟨d0, d1⟩ := two_rows w (.slice A na ca) (.slice B nb cb) 35
      have hb1 : Below w.heap.size w (w.alloc (.cells #[.slice A na ca, .slice B nb cb] 35)) := (by repeat (first | exact Below.refl _ _ | assumption | refine Below.alloc ?_ (by first | exact Nat.le_refl _ | assumption | omega | (simp <;> omega)) _ | refine Below.setCell ?_ (by first | exact Nat.le_refl _ | assumption | omega | (simp <;> omega)) _ | refine Below.drew ?_ | refine below_drewN ?_ _))
      have D0 := Lib.hid d0
      have D1 := Lib.hid d1
      have hgl : w.heap.size < (w.alloc (.cells #[.slice A na ca, .slice B nb cb] 35)).heap.size := by simp
      clear d0 d1
      generalize (w.alloc (.cells #[.slice A na ca, .slice B nb cb] 35)) = w2 at *
      go_loopw [36] (fun k wr => ∃ k' : Nat, k' ≤ 2 ∧ k = .int .i64 k' ∧ (0 < k' → chk na nb n a = 0) ∧ (1 < k' → chk na nb n b = 0) ∧ Below w2.heap.size w2 wr) (fun k _ => 2 - (intOf k).toNat)
      case atStart => exact ⟨0, by omega, rfl, fun h => by omega, fun h => by omega, Below.refl _ _⟩
      case round =>
        obtain ⟨k, hk, rfl, hk0, hk1, hb⟩ := hrel
        have HK0 := Lib.hid hk0
        have HK1 := Lib.hid hk1
        clear hk0 hk1
        by_cases hk2 : k < 2
        · have g1 : decide ((k : Int) < 2) = true := decide_eq_true (by omega)
          have hpk : ∃ (l : List Op) (X : Option Addr) (nx cx : Nat), w2.cell? ⟨w.heap.size, k, none⟩ = some (.slice X nx cx) ∧ Rd w D 3 X nx (opCells l) ∧ l.length = nx ∧ nx ≤ 30 ∧ OpsOk l ∧
              (chk na nb n l = 0 → (0 < k + 1 → chk na nb n a = 0) ∧ (1 < k + 1 → chk na nb n b = 0)) ∧ (chk na nb n l ≠ 0 → allErr n a b = chk na nb n l) := by
            by_cases h0 : k = 0
            · subst h0
              exact ⟨a, A, na, ca, D0.out, HA.out, HLA.out, ha30, hoa, fun h => ⟨fun _ => h, fun h => by omega⟩, fun h => by rw [HE.out, if_neg h]⟩
            · obtain rfl : k = 1 := by omega
              have hz := HK0.out (by omega)
              exact ⟨b, B, nb, cb, D1.out, HB.out, HLB.out, hb30, hob, fun h => ⟨fun _ => hz, fun _ => h⟩, fun h => by rw [HE.out, if_pos hz]⟩
          obtain ⟨l, X, nx, cx, hcx, hrx, hlx, hnx, hox, hp1, hp2⟩ := hpk
          have hcx' := (hb.cell (p := ⟨w.heap.size, k, none⟩) hgl).trans hcx
          have HX := Lib.hid hrx
          have HLX := Lib.hid hlx
          have HP1 := Lib.hid hp1
          have HP2 := Lib.hid hp2
          clear hcx hrx hlx hp1 hp2
          go_wp2_with fail
          go_loopw [11, 43] (fun m i wr => ∃ (j : Nat) (m' : Int), j ≤ nx ∧ i = .int .i64 j ∧ m = .int .i64 m' ∧ m' = n + szs (l.take j) ∧ chk na nb n l = chk na nb m' (l.drop j) ∧ Below w2.heap.size w2 wr) (fun _ i _ => nx - (intOf i).toNat)
          case atStart => exact ⟨0, n, Nat.zero_le _, rfl, rfl, by simp [szs], by simp, hb⟩
          case round =>
            clear hb hcx'
            obtain ⟨j, m, hj, rfl, rfl, hm, hch, hb⟩ := hrel
            have HM := Lib.hid hm
            have HCH := Lib.hid hch
            clear hm hch
            have hbw := bthen hb1 hb
            by_cases hlt : j < nx
            · have g2 : decide ((j : Int) < (nx : Int)) = true := decide_eq_true (by omega)
              obtain ⟨ad, hl, rfl, hab, c0, c1, c2⟩ := (HX.out.below (hbw.mono hD)).at_op hlt
              have hxk := hox.k l[j] (List.getElem_mem hl)
              have hxb := hox.b l[j] (List.getElem_mem hl)
              have HST : Hid (opErr m l[j] = 0 → chk na nb n l = chk na nb (m + opSz l[j]) (l.drop (j + 1)) ∧ m + opSz l[j] = n + szs (l.take (j + 1))) := fun h => by
                rw [HM.out] at h
                obtain ⟨h1, h2⟩ := chk_step (la := na) (lb := nb) hl h
                rw [HCH.out, HM.out, h1, h2]
                exact ⟨rfl, rfl⟩
              have HBD : Hid (opErr m l[j] ≠ 0 → chk na nb n l = opErr m l[j]) := fun h => by
                rw [HM.out] at h
                rw [HCH.out, HM.out, chk_bad hl h]
              generalize l[j] = x at *
              have hsz := opSz_bd x
              have HA0 : Hid (Blk (wr.alloc (.cells #[.int .i64 x.kind, .int .i64 x.pos, .int .u8 x.b] 43)) wr.heap.size 43 #[.int .i64 x.kind, .int .i64 x.pos, .int .u8 x.b]) := Blk.new_ _ _ _
              go_wp2_with fail
              refine (shCheck_b m x _).mono ?_
              rintro e w4 ⟨rfl, hb4⟩
              have H4 := HA0.out.below' hb4
              have hb4' : Below wr.heap.size wr w4 := ((Below.refl _ _).alloc (Nat.le_refl _) _).trans (hb4.mono (by simp))
              have q0 := Blk.cell0 H4; have q1 := Blk.cell1 H4; have q2 := Blk.cell2 H4
              clear H4 HA0 hb4
              by_cases he : opErr m x = 0
              · rw [he]
                obtain ⟨v1, v2, v3, v4, v5⟩ := vld_of_err he
                have HST2 := Lib.hid (HST.out he)
                clear he HST HBD v1
                go_wp2_with fail
                refine (shSize_any x _).mono ?_
                rintro e w5 ⟨rfl, hb5⟩
                clear q0 q1 q2
                go_wp2_with fail
                go_roundw
                case rel => exact ⟨j + 1, m + opSz x, by omega, by go_num, rfl, HST2.out.2, HST2.out.1, bthen hb (bthen hb4' hb5)⟩
                case measure => simp [intOf]; omega
              · have hbd := HBD.out he
                have HR : Hid (allErr n a b = opErr m x) := by unfold Hid; rw [HP2.out (by rw [hbd]; exact he), hbd]
                have g3 : (opErr m x != 0) = true := by rw [bne_iff_ne]; exact he
                have HEE := Lib.hid he
                clear hbd he HBD HST
                generalize opErr m x = ee at *
                go_wp2_with fail
                go_ret3
                exact ⟨_, _, by rw [HR.out]; rfl, fun _ => ⟨rfl, rfl⟩, fun h => absurd (HR.out.symm.trans h) HEE.out, bthen hbw hb4'⟩
            · obtain rfl : j = nx := by omega
              have g2 : decide ((j : Int) < (j : Int)) = false := decide_eq_false (by omega)
              have hend : chk na nb n l = if 200 < wrap64 (wrap64 (m + na) + nb) then 11 else 0 := by
                have e := chk_end (la := na) (lb := nb) (m := n) (l := l)
                rw [HLX.out] at e
                have e2 : m = n + szs l := by rw [HM.out, ← HLX.out, List.take_length]
                rw [← HM.out, ← e2] at e
                rw [HCH.out, e]
              by_cases hf : 200 < wrap64 (wrap64 (m + na) + nb)
              · rw [if_pos hf] at hend
                have HR : Hid (allErr n a b = 11) := by unfold Hid; rw [HP2.out (by rw [hend]; decide), hend]
                have g4 : decide (200 < wrap64 (wrap64 (m + na) + nb)) = true := decide_eq_true hf
                clear hend hf
                go_wp2_with fail
                go_ret3
                exact ⟨_, _, by rw [HR.out]; rfl, fun _ => ⟨rfl, rfl⟩, fun h => absurd (HR.out.symm.trans h) (by decide), hbw⟩
              · rw [if_neg hf] at hend
                have g4 : decide (200 < wrap64 (wrap64 (m + na) + nb)) = false := decide_eq_false hf
                have HZ := Lib.hid (HP1.out hend)
                clear hend hf
                go_wp2_with fail
                go_roundw
                case rel => exact ⟨k + 1, by omega, by go_num, HZ.out.1, HZ.out.2, hb⟩
                case measure => simp [intOf]; omega
        · obtain rfl : k = 2 := by omega
          have HR : Hid (allErr n a b = 0) := by
            unfold Hid; rw [HE.out, if_pos (HK0.out (by omega))]; exact HK1.out (by omega)
          have hbw := bthen hb1 hb
          have hb' := HB.out.below (hbw.mono hD)
          have hown0 : (wr.alloc (.cells #[] 43)).ownsRow w.heap.size 43 3 (.slice (some ⟨wr.heap.size, 0, none⟩) 0 0) 0 [] := World.ownsRow_made wr #[] 0 hbw.size (by unfold maxLen; omega) rfl
          have hb'' : Rd (wr.alloc (.cells #[] 43)) D 3 B nb (opCells b) := hb'.alloc (Nat.le_trans hD hbw.size) _
          have h1c : ∀ u ∈ opCells b, u.oneCell' = true := fun u hu => by
            obtain ⟨x, _, hx⟩ := List.mem_flatMap.1 hu
            simp only [Op.cells, List.mem_cons, List.not_mem_nil, or_false] at hx
            rcases hx with rfl | rfl | rfl <;> rfl
          go_wp2_with (at_builtin; go_must (refine wpList_appRd rfl _ _ _ rfl w.heap.size 43 i0 _ 3 24 Try.underlying35 hi0 hz0 hz1 hz2' rfl (by omega) _ 0 [] rfl hown0 D B nb cb (opCells b) rfl hb'' h1c (by omega) (by omega) (by have := hbw.size; simp; omega) ?_); intro v3 w3 hown3 hb3)
          rw [Nat.zero_add, List.nil_append] at hown3
          have hbw3 : Below w.heap.size w w3 := (hbw.alloc hbw.size _).trans hb3
          obtain ⟨AL, cL, rfl, hncL, hcmL, _⟩ := own_form hown3
          have H0 : Hid (AllSt true a b w.heap.size (.slice AL nb cL) nb w3 (.slice none 0 0) 0) := ⟨by rw [List.take_zero]; exact hown3, World.ownsRow_nil _ _ _ _, Apart.none_left _⟩
          have hz3 := hbw3.size
          clear hown3 hb' hb'' hown0 hb3 hb1 hbw hb h1c HK0 HK1
          go_loopw [0, 16, 72] (fun m o i wr => ∃ i' : Nat, i' ≤ na ∧ i = .int .i64 i' ∧ m = .int .i64 (n + szs (a.take i')) ∧ AllSt true a b w.heap.size (.slice AL nb cL) nb wr o i' ∧ Below w.heap.size w wr) (fun _ _ i _ => na - (intOf i).toNat)
          case atStart => exact ⟨0, Nat.zero_le _, rfl, by simp [szs], H0.out, hbw3⟩
          case round =>
            clear H0 hbw3 hz3
            obtain ⟨i, hi, rfl, rfl, hS, hb⟩ := hrel
            have HS := Lib.hid hS
            have hbs := hb.size
            clear hS
            by_cases hlt : i < na
            · have g3 : decide ((i : Int) < (na : Int)) = true := decide_eq_true (by omega)
              obtain ⟨ad, hl, rfl, hab, c0, c1, c2⟩ := (HA.out.below (hb.mono hD)).at_op hlt
              have hxi : Hid (a[i]? = some a[i]) := List.getElem?_eq_getElem hl
              have HSl := Lib.hid HS.out.left
              have HSo := Lib.hid HS.out.out
              have HSa := Lib.hid HS.out.ap
              have hgrid : 0 < nb → AllOk n a b := fun h => (allOk HR.out (by omega) (by rw [HLB.out]; exact h)).1
              have HGR := Lib.hid hgrid
              clear hgrid
              have HG : Hid (∀ k, k < nb → ∃ hk : k < (runL true (a.take i) b).length, 0 ≤ n + szs (a.take i) + szs ((runL true (a.take i) b).take k) ∧ n + szs (a.take i) + szs ((runL true (a.take i) b).take k) < 200 ∧
                  opErr (n + szs (a.take i) + szs ((runL true (a.take i) b).take k)) (rowX true a[i] ((runL true (a.take i) b).take k)) = 0 ∧ opErr (n + szs (a.take i) + szs ((runL true (a.take i) b).take k)) (runL true (a.take i) b)[k] = 0) := fun k hk => by
                have G := HGR.out (by omega)
                have hlb := HLB.out
                have hlr : (runL true (a.take i) b).length = nb := by rw [runL_length]; exact hlb
                have h1 := run_ok true G.oa G.ob G.n0 i (by omega)
                have h2 := okL_at G.oa hl
                have h3 := okL_pos G.oa G.n0 i
                have h4 := (row_ok true h1 h3 h2).2 k (by omega)
                have h5 := okL_at h1 (k := k) (by omega)
                have h6 := okL_pos h1 h3 k
                have h7 := G.ra i (by omega)
                have h8 := (szs_bd ((runL true (a.take i) b).take k)).2
                rw [List.length_take] at h8
                have h9 : n + szs (a.take i) + szs ((runL true (a.take i) b).take k) < 200 := by omega
                exact ⟨by omega, h6, h9, err_of_vld h4 h6 h9, err_of_vld h5 h6 h9⟩
              have hszr := szs_bd (a.take i)
              have hll : Hid ((runL true (a.take i) b).length = nb) := by unfold Hid; rw [runL_length]; exact HLB.out
              have hTL : Hid (runL true (a.take (i + 1)) b = rowL true a[i] (runL true (a.take i) b)) := by unfold Hid; rw [List.take_succ_eq_append_getElem hl, runL_snoc]
              have hTO : Hid (runO true (a.take (i + 1)) b = runO true (a.take i) b ++ [rowX true a[i] (runL true (a.take i) b)]) := by unfold Hid; rw [List.take_succ_eq_append_getElem hl, runO_snoc]
              have hSZ : Hid (szs (a.take (i + 1)) = szs (a.take i) + opSz a[i]) := by unfold Hid; rw [List.take_succ_eq_append_getElem hl, szs_append]; simp [szs]
              have hnn : Hid (0 ≤ n + szs (a.take i) ∧ n + szs (a.take i) ≤ 200) := by
                unfold Hid
                have hz := HR.out
                rw [HE.out] at hz
                have hc : chk na nb n a = 0 := by
                  by_cases hc : chk na nb n a = 0
                  · exact hc
                  · rw [if_neg hc] at hz; exact hz
                exact ⟨okL_pos (chk_ok hc).1 ((chk_ok hc).2.2 (by omega)).1 i, by
                  have h1 := (chk_ok hc).2.1
                  obtain ⟨h2, h3, h4⟩ := (chk_ok hc).2.2 (by omega)
                  have := wrap_room h3 h4 (by omega) (by omega) (by omega) (by omega) h1
                  have e : szs a = szs (a.take i) + szs (a.drop i) := by rw [← szs_append, List.take_append_drop]
                  have h5 := (szs_bd (a.drop i)).1
                  rw [List.length_drop] at h5
                  have := HLA.out
                  omega⟩
              have hsa := opSz_bd a[i]
              generalize a[i] = x at *
              generalize runL true (a.take i) b = lf at *
              generalize runO true (a.take i) b = o at *
              obtain ⟨hn0, hn2⟩ := hnn.out
              generalize hns : n + szs (a.take i) = ni at *
              have hXB : Hid (Blk (wr.alloc (.cells #[.int .i64 x.kind, .int .i64 x.pos, .int .u8 x.b] 43)) wr.heap.size 43 #[.int .i64 x.kind, .int .i64 x.pos, .int .u8 x.b]) := Blk.new_ _ _ _
              have HNS := Lib.hid hns
              clear hns hnn HGR hszr
              have hgx : wr.heap.size < (wr.alloc (.cells #[.int .i64 x.kind, .int .i64 x.pos, .int .u8 x.b] 43)).heap.size := by simp
              have hbx : Below w.heap.size w (wr.alloc (.cells #[.int .i64 x.kind, .int .i64 x.pos, .int .u8 x.b] 43)) := hb.alloc hbs _
              have R0 : Hid (RowSt true x lf w.heap.size (.slice AL nb cL) nb wr.heap.size (wr.alloc (.cells #[.int .i64 x.kind, .int .i64 x.pos, .int .u8 x.b] 43)) u16 i o 0) :=
                ⟨by rw [List.take_zero, List.drop_zero]; exact HSl.out.alloc _, HSo.out.alloc _, HSa.out, by rw [List.take_zero]; exact hXB.out, fun e => by have := (HSl.out.lt _ e).2; omega, fun e => by have := (HSo.out.lt _ e).2; omega⟩
              generalize hwx : wr.alloc (.cells #[.int .i64 x.kind, .int .i64 x.pos, .int .u8 x.b] 43) = wx at *
              have HWX := Lib.hid hwx
              clear hwx hXB HS HSl HSo HSa hb
              obtain ⟨gx, hgxe⟩ : ∃ gx, gx = wr.heap.size := ⟨_, rfl⟩
              rw [← hgxe] at R0 hgx
              have HGXB : Hid (w.heap.size ≤ gx) := by unfold Hid; omega
              have HGX := Lib.hid hgxe
              clear hgxe
              go_wp2_with fail
              rw [HWX.out, ← HGX.out]
              go_loopw [19, 79] (fun m k wr => ∃ k' : Nat, k' ≤ nb ∧ k = .int .i64 k' ∧ m = .int .i64 (ni + szs (lf.take k')) ∧ RowSt true x lf w.heap.size (.slice AL nb cL) nb gx wr u16 i o k' ∧ Below w.heap.size w wr) (fun _ k _ => nb - (intOf k).toNat)
              case atStart => exact ⟨0, Nat.zero_le _, rfl, by simp [szs], R0.out, hbx⟩
              case round =>
                clear R0 hbx c0 c1 c2 HWX HGX hgx
                obtain ⟨k, hk, rfl, rfl, hR, hb⟩ := hrel
                have HRS := Lib.hid hR
                have hbs := hb.size
                clear hR
                by_cases hkn : k < nb
                · have g4 : decide ((k : Int) < (nb : Int)) = true := decide_eq_true (by omega)
                  obtain ⟨gL, rfl⟩ : ∃ gL, AL = some ⟨gL, 0, none⟩ := by
                    rcases HRS.out.left.2 with ⟨_, h0⟩ | ⟨gL, cap, cur, hv, _⟩
                    · omega
                    · injection hv with hv; exact ⟨gL, hv⟩
                  have HROW : Hid (OpRow wr w.heap.size gL nb cL (rowL true x (lf.take k) ++ lf.drop k)) := HRS.out.left
                  obtain ⟨hkl, _, _, he1, he2⟩ := HG.out k hkn
                  obtain ⟨hm0, hm2⟩ : 0 ≤ ni + szs (lf.take k) ∧ ni + szs (lf.take k) < 200 := by obtain ⟨_, h1, h2, _⟩ := HG.out k hkn; exact ⟨h1, h2⟩
                  obtain ⟨hk', hat, hset⟩ := rowstep true x lf k hkl
                  obtain ⟨_, c0, c1, c2, f0, f1, f2⟩ := HROW.out.at_ hkn
                  rw [hat] at c0 c1 c2
                  have HXN : Hid (rowX true x (lf.take (k + 1)) = past (rowX true x (lf.take k)) lf[k] true) := by unfold Hid; rw [List.take_succ_eq_append_getElem hkl, rowX_snoc]
                  have HSN : Hid (szs (lf.take (k + 1)) = szs (lf.take k) + opSz lf[k]) := by unfold Hid; rw [List.take_succ_eq_append_getElem hkl, szs_append]; simp [szs]
                  have HSET := Lib.hid hset
                  have HXB : Hid (Blk wr gx 43 #[.int .i64 (rowX true x (lf.take k)).kind, .int .i64 (rowX true x (lf.take k)).pos, .int .u8 (rowX true x (lf.take k)).b]) := HRS.out.xb
                  have HOUT := Lib.hid HRS.out.out
                  have hAP := HRS.out.ap
                  have hnL : gL ≠ gx := fun e => HRS.out.nL (by rw [e]; rfl)
                  have hnO := HRS.out.nO
                  have hnOL : u16.ownBlock = none ∨ u16.ownBlock ≠ some gL := hAP
                  have HAP := Lib.hid hAP
                  have HNL := Lib.hid HRS.out.nL
                  have HNOL := Lib.hid hnOL
                  have HNO := Lib.hid hnO
                  clear hat hset hk' hAP hnOL hnO HRS
                  have hsy := opSz_bd lf[k]
                  generalize lf[k] = y at *
                  generalize hX : rowX true x (lf.take k) = X at *
                  clear hX
                  generalize hmm : ni + szs (lf.take k) = m at *
                  have HMM := Lib.hid hmm
                  clear hmm
                  obtain ⟨x0, x1, x2, xf0, xf1, xf2⟩ := HXB.out.cells3
                  have hgxl := HXB.out.lt
                  have hgLl := HROW.out.lt.2
                  have hgLb := HROW.out.lt.1
                  have HY0 : Hid (Blk (wr.alloc (.cells #[.int .i64 y.kind, .int .i64 y.pos, .int .u8 y.b] 43)) wr.heap.size 43 #[.int .i64 y.kind, .int .i64 y.pos, .int .u8 y.b]) := Blk.new_ _ _ _
                  go_wp2_with fail
                  refine (shPast_ok m X y true _ he1 he2).mono ?_
                  rintro e w1 ⟨rfl, hb1⟩
                  clear c0 c1 c2 f0 f1 f2 x0 x1 x2 xf0 xf1 xf2
                  have hb1' : Below wr.heap.size wr w1 := ((Below.refl _ _).alloc (Nat.le_refl _) _).trans (hb1.mono (by simp))
                  have HY1 := Lib.hid (HY0.out.below' hb1)
                  have HX1 := Lib.hid (HXB.out.below' hb1')
                  have HR1 := Lib.hid (HROW.out.below hb1')
                  have HO1 := Lib.hid (own_below HOUT.out hb1')
                  have hB1 := bthen hb hb1'
                  have hgyl := HY1.out.lt
                  have hgLy : gL ≠ wr.heap.size := by omega
                  have hgxy : gx ≠ wr.heap.size := by omega
                  clear HY0 HXB HROW HOUT hb1 hb1' hb
                  generalize wr.heap.size = gy at *
                  generalize hp1 : past X y true = X' at *
                  have HP1 := Lib.hid hp1
                  clear hp1
                  obtain ⟨x0, x1, x2, xf0, xf1, xf2⟩ := HX1.out.cells3
                  obtain ⟨y0, y1, y2, yf0, yf1, yf2⟩ := HY1.out.cells3
                  have HZ0 : Hid (Blk (w1.alloc (.cells #[.int .i64 X'.kind, .int .i64 X'.pos, .int .u8 X'.b] 43)) w1.heap.size 43 #[.int .i64 X'.kind, .int .i64 X'.pos, .int .u8 X'.b]) := Blk.new_ _ _ _
                  have hgx1 := HX1.out.lt
                  go_wp2_with fail
                  refine (shPast_ok m y X false _ he2 he1).mono ?_
                  rintro e w2 ⟨rfl, hb2⟩
                  clear x0 x1 x2 xf0 xf1 xf2 y0 y1 y2 yf0 yf1 yf2
                  have hb2' : Below w1.heap.size w1 w2 := ((Below.refl _ _).alloc (Nat.le_refl _) _).trans (hb2.mono (by simp))
                  have HZ2 := Lib.hid (HZ0.out.below' hb2)
                  have HY2 := Lib.hid (HY1.out.below' hb2')
                  have HX2 := Lib.hid (HX1.out.below' hb2')
                  have HR2 := Lib.hid (HR1.out.below hb2')
                  have HO2 := Lib.hid (own_below HO1.out hb2')
                  have hB2 := bthen hB1 hb2'
                  have hgL1 := HR1.out.lt.2
                  have hgLz : gL ≠ w1.heap.size := by omega
                  have hgxz : gx ≠ w1.heap.size := by omega
                  have hgyz : gy ≠ w1.heap.size := by omega
                  clear HZ0 HY1 HX1 HR1 HO1 hb2 hb2' hB1
                  generalize w1.heap.size = gz at *
                  generalize hp2 : past y X false = y' at *
                  have HP2 := Lib.hid hp2
                  clear hp2
                  obtain ⟨_, c0, c1, c2, f0, f1, f2⟩ := HR2.out.at_ hkn
                  obtain ⟨y0, y1, y2, yf0, yf1, yf2⟩ := HY2.out.cells3
                  have hgyL : gy ≠ gL := fun e => hgLy e.symm
                  have HRS3 := Lib.hid (HR2.out.set_ hkn y')
                  have HYS := Lib.hid (((HY2.out.far (p := ⟨gL, k * 3, none⟩) hgyL (.int .i64 y'.kind)).far (p := ⟨gL, k * 3 + 1, none⟩) hgyL (.int .i64 y'.pos)).far (p := ⟨gL, k * 3 + 2, none⟩) hgyL (.int .u8 y'.b))
                  have HXS := Lib.hid (((HX2.out.far (p := ⟨gL, k * 3, none⟩) hnL.symm (.int .i64 y'.kind)).far (p := ⟨gL, k * 3 + 1, none⟩) hnL.symm (.int .i64 y'.pos)).far (p := ⟨gL, k * 3 + 2, none⟩) hnL.symm (.int .u8 y'.b))
                  have HZS := Lib.hid (((HZ2.out.far (p := ⟨gL, k * 3, none⟩) hgLz.symm (.int .i64 y'.kind)).far (p := ⟨gL, k * 3 + 1, none⟩) hgLz.symm (.int .i64 y'.pos)).far (p := ⟨gL, k * 3 + 2, none⟩) hgLz.symm (.int .u8 y'.b))
                  have HOS := Lib.hid (own_far (own_far (own_far HO2.out (p := ⟨gL, k * 3, none⟩) HNOL.out (.int .i64 y'.kind)) (p := ⟨gL, k * 3 + 1, none⟩) HNOL.out (.int .i64 y'.pos)) (p := ⟨gL, k * 3 + 2, none⟩) HNOL.out (.int .u8 y'.b))
                  have hBS := Below.setCell (Below.setCell (Below.setCell hB2 (p := ⟨gL, k * 3, none⟩) hgLb (.int .i64 y'.kind)) (p := ⟨gL, k * 3 + 1, none⟩) hgLb (.int .i64 y'.pos)) (p := ⟨gL, k * 3 + 2, none⟩) hgLb (.int .u8 y'.b)
                  go_wp2_with fail
                  generalize (((w2.setCell ⟨gL, k * 3, none⟩ (.int .i64 y'.kind)).setCell ⟨gL, k * 3 + 1, none⟩ (.int .i64 y'.pos)).setCell ⟨gL, k * 3 + 2, none⟩ (.int .u8 y'.b)) = wS at *
                  refine (shSize_any y _).mono ?_
                  rintro e w3' ⟨rfl, hb3⟩
                  clear c0 c1 c2 f0 f1 f2 y0 y1 y2 yf0 yf1 yf2
                  have HR3 := Lib.hid (HRS3.out.below hb3)
                  have HX3 := Lib.hid (HXS.out.below' hb3)
                  have HZ3 := Lib.hid (HZS.out.below' hb3)
                  have HO3 := Lib.hid (own_below HOS.out hb3)
                  have hB3 := bthen hBS hb3
                  have hgxb : w.heap.size ≤ gx := HGXB.out
                  obtain ⟨x0, x1, x2, xf0, xf1, xf2⟩ := HX3.out.cells3
                  obtain ⟨z0, z1, z2, zf0, zf1, zf2⟩ := HZ3.out.cells3
                  have hgzx : gz ≠ gx := fun e => hgxz e.symm
                  clear HRS3 HXS HZS HOS HYS hb3 hBS hB2
                  go_wp2_with fail
                  go_roundw
                  case rel =>
                    refine ⟨k + 1, by omega, by go_num, by rw [HSN.out, ← HMM.out]; go_num, ⟨?_, own_far (own_far (own_far HO3.out (.inr HNO.out) _) (.inr HNO.out) _) (.inr HNO.out) _, HAP.out, ?_, HNL.out, HNO.out⟩, Below.setCell (Below.setCell (Below.setCell hB3 hgxb _) hgxb _) hgxb _⟩
                    · have := ((HR3.out.far (p := ⟨gx, 0, none⟩) hnL (.int .i64 X'.kind)).far (p := ⟨gx, 1, none⟩) hnL (.int .i64 X'.pos)).far (p := ⟨gx, 2, none⟩) hnL (.int .u8 X'.b)
                      rw [← HP2.out] at this
                      have e := HSET.out
                      rw [Bool.not_true] at e
                      rw [e] at this
                      exact this
                    · rw [HXN.out]; exact HX3.out.set3 _ _ _
                  case measure => simp [intOf]; omega
                · obtain rfl : k = nb := by omega
                  have g4 : decide ((k : Int) < (k : Int)) = false := decide_eq_false (by omega)
                  have hlft : lf.take k = lf := by rw [← hll.out, List.take_length]
                  have hlfd : lf.drop k = [] := by rw [← hll.out, List.drop_length]
                  have hL := HRS.out.left
                  have hX := HRS.out.xb
                  rw [hlft, hlfd, List.append_nil] at hL
                  rw [hlft] at hX
                  have HL := Lib.hid hL
                  have HX := Lib.hid hX
                  have HOUT := Lib.hid HRS.out.out
                  have HAP := Lib.hid HRS.out.ap
                  clear hL hX hlft hlfd HRS
                  generalize rowX true x lf = X at *
                  obtain ⟨x0, x1, x2, xf0, xf1, xf2⟩ := HX.out.cells3
                  have hgxl := HX.out.lt
                  have hz2 := hb.size
                  have tok1 : True := trivial
                  go_wp2_with (at_builtin; have _t := tok1; go_must (refine wpList_appN rfl _ _ _ rfl w.heap.size 43 i0 _ 3 24 Try.underlying35 hi0 hz0 hz1 hz2' rfl (by omega) _ i (opCells o) rfl (HOUT.out.alloc _) ⟨_, 0, none⟩ 1 1 [.int .i64 X.kind, .int .i64 X.pos, .int .u8 X.b] rfl rfl (cells_new3 _ _ _ _ _) (by simp [Value.oneCell']) (by omega) (by omega) (by simp; omega) ?_); intro v6 w6 hown6 hg6 hb6 ha6; have hL6 := own_apart (HL.out.alloc _) HAP.out.comm hg6; have hap6 := apart_new (HL.out.alloc _) HAP.out.comm ha6; have hbw6 : Below w.heap.size w w6 := (hb.alloc hz2 _).trans hb6; obtain ⟨A6, c6, rfl, hnc6, _, _⟩ := own_form hown6; obtain ⟨_, hl6, e6, hab6, c0, c1, c2⟩ := (HA.out.below (hbw6.mono hD)).at_op hlt; cases e6; have hx6 : a[i] = x := Option.some.inj ((List.getElem?_eq_getElem hl6).symm.trans hxi.out); rw [hx6] at c0 c1 c2; clear tok1 hx6 x0 x1 x2 xf0 xf1 xf2 hg6 hb6)
                  refine (shSize_any x _).mono ?_
                  rintro e w7 ⟨rfl, hb7⟩
                  clear c0 c1 c2
                  have hL7 := Lib.hid (own_below hL6 hb7)
                  have hO7 := Lib.hid (own_below hown6 hb7)
                  have hB7 := bthen hbw6 hb7
                  have HAP6 := Lib.hid hap6
                  clear hL6 hown6 hap6 hbw6 hb7 ha6
                  go_wp2_with fail
                  go_roundw
                  case rel =>
                    refine ⟨i + 1, by omega, by go_num, by rw [hSZ.out, ← HNS.out]; go_num, ⟨?_, ?_, HAP6.out.comm⟩, hB7⟩
                    · rw [hTL.out]; exact hL7.out
                    · rw [hTO.out, opCells_append]; exact hO7.out
                  case measure => simp [intOf]; omega
            · obtain rfl : i = na := by omega
              have g3 : decide ((i : Int) < (i : Int)) = false := decide_eq_false (by omega)
              have ht : Hid (a.take i = a) := by unfold Hid; rw [← HLA.out, List.take_length]
              have hO := HS.out.out
              have hL := HS.out.left
              rw [ht.out] at hO hL
              have HO := Lib.hid hO
              have HL := Lib.hid hL
              clear hO hL
              go_wp2_with fail
              go_ret3
              exact ⟨_, _, by rw [HR.out]; rfl, fun h => absurd HR.out h, fun _ => ⟨HO.out, HL.out⟩, hb⟩
end Go.Proofs.Ytllcmmpepchieaa
