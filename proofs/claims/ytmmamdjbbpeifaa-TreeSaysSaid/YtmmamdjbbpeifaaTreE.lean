/- The sort of piles: at most twelve: the insertion sort. -/
import Derived.Test.YtmmamdjbbpeifaaTreE0
import Derived.Test.YtmmamdjbbpeifaaSched
import Derived.Test.YtmmamdjbbpeifaaSchedT
import Derived.Lib.QuietBelow
namespace Go.Proofs.Ytmmamdjbbpeifaa
open Go.RowKit
theorem own_drewT {w : World} {base : Nat} {e : TypeId} {size : Nat} {v : Value} {n : Nat} {xs : List Value} (h : OwnO w base e size v n xs) : OwnO w.drew base e size v n xs := h
set_option maxHeartbeats 1000000 in
theorem lens1_any (a b : Nat) (A A' : Option Addr) (n c n' c' : Nat) (ha : a ≤ 1000000) (hb : b ≤ 1000000) (w : World) :
    Calls Try.prog 60 #[.agg #[.int .i64 (a : Int), .slice A n c], .agg #[.int .i64 (b : Int), .slice A' n' c']] w fun e w' => e = .returned (.int .i64 ((a : Int) - (b : Int))) ∧ Below w.heap.size w w' := by
  go_enter Try.func60, Try.ntmps60
  go_wp2_with fail
  go_ret
  exact ⟨rfl, (by repeat (first | exact Below.refl _ _ | assumption | refine Below.alloc ?_ (by first | exact Nat.le_refl _ | assumption | omega | (simp <;> omega)) _ | refine Below.setCell ?_ (by first | exact Nat.le_refl _ | assumption | omega | (simp <;> omega)) _ | refine Below.drew ?_ | refine below_drewN ?_ _))⟩
theorem pm_at {w : World} {base : Nat} {ad : Addr} {c : Nat} {l : List Pm} (h : OwnO w base 82 2 (.slice (some ad) l.length c) l.length (pmCells l)) {j : Nat} {x : Pm} (hx : l[j]? = some x) :
    w.cell? (ad.add (j * 2)) = some (.int .i64 (x.wt : Int)) ∧ w.cell? ⟨(ad.add (j * 2)).block, (ad.add (j * 2)).off + 1, none⟩ = some (.slice x.A x.mem.length x.c) := by
  obtain ⟨A', c', hv, _, _, hr⟩ := h.form
  cases hv
  have hj : j < l.length := (List.getElem?_eq_some_iff.1 hx).1
  obtain ⟨ad', hl, e, _, hc⟩ := Rd.at_rec pm_len (by omega) hr hj
  cases e
  have he : l[j] = x := (List.getElem?_eq_some_iff.1 hx).2
  rw [he] at hc
  refine ⟨hc 0 _ rfl, ?_⟩
  have h1 := hc 1 _ rfl
  rwa [← add_add] at h1
set_option maxRecDepth 100000 in
set_option maxHeartbeats 16000000 in
theorem insPile_any (l : List Pm) (ad : Addr) (c base : Nat) (w : World) (h : OwnO w base 82 2 (.slice (some ad) l.length c) l.length (pmCells l)) (hn : l.length ≤ 12) (hw : ∀ x ∈ l, x.wt ≤ 1000000) :
    Calls Try.prog 122 #[.slice (some ad) l.length c, .int .i64 0, .int .i64 (l.length : Int), .func (.func 60) #[] #[]] w fun e w' => e = .returned (.tuple #[]) ∧
      OwnO w' base 82 2 (.slice (some ad) l.length c) l.length (pmCells (isrtM l)) ∧ w.grownBy w' (some ad.block) := by
  have HW := Lib.hid hw
  clear hw
  go_enter Try.func122, Try.ntmps122
  go_wp2_with fail
  go_loopw [8] (fun iv wr => ∃ i : Nat, iv = .int .i64 (i : Int) ∧ 1 ≤ i ∧ (i ≤ l.length ∨ i = 1) ∧ OwnO wr base 82 2 (.slice (some ad) l.length c) l.length (pmCells (isrtM (l.take i) ++ l.drop i)) ∧ w.grownBy wr (some ad.block)) (fun iv _ => l.length + 1 - (intOf iv).toNat)
  case atStart =>
    refine ⟨1, rfl, Nat.le_refl _, .inr rfl, ?_, gb_refl _ _⟩
    have e : isrtM (l.take 1) ++ l.drop 1 = l := by
      cases l with
      | nil => rfl
      | cons x l => rfl
    rw [e]; exact h
  case round =>
    clear h
    obtain ⟨i, rfl, hi1, hi, hown, hgb⟩ := hrel
    by_cases hlt : i < l.length
    · have g1 : decide ((i : Int) < (l.length : Int)) = true := decide_eq_true (by omega)
      have g1' : decide (i < l.length) = true := decide_eq_true hlt
      have hsl : (isrtM (l.take i)).length = i := by rw [isrtM_len, List.length_take]; omega
      have hup := isrtM_up (l.take i)
      have hws : ∀ y ∈ isrtM (l.take i), y.wt ≤ 1000000 := fun y hy => HW.out y (List.mem_of_mem_take ((isrtM_perm _).mem_iff.1 hy))
      have hwx : (l[i]'hlt).wt ≤ 1000000 := HW.out _ (List.getElem_mem _)
      have hnx : isrtM (l.take (i + 1)) = insM (l[i]'hlt) (isrtM (l.take i)) := by
        rw [List.take_add_one, List.getElem?_eq_getElem hlt]
        exact isrtM_snoc _ _
      have hdr : l.drop i = (l[i]'hlt) :: l.drop (i + 1) := List.drop_eq_getElem_cons hlt
      have hdl : (l.drop (i + 1)).length = l.length - (i + 1) := List.length_drop
      rw [hdr] at hown
      have HNX := Lib.hid hnx
      have HUP := Lib.hid hup
      have HWS := Lib.hid hws
      clear hnx hup hws hdr
      generalize (l[i]'hlt) = x at *
      generalize isrtM (l.take i) = s at *
      generalize hrr : l.drop (i + 1) = r at *
      have HRR := Lib.hid hrr
      clear hrr
      have hown0 : OwnO wr base 82 2 (.slice (some ad) l.length c) l.length (pmCells (mid s x i ++ r)) := by
        have e : mid s x i ++ r = s ++ x :: r := by rw [← hsl, mid_end]; simp
        rw [e]; exact hown
      clear hown
      have HSL := Lib.hid hsl
      go_wp2_with fail
      go_loopw [9] (fun jv w2 => ∃ j : Nat, jv = .int .i64 (j : Int) ∧ j ≤ i ∧ OwnO w2 base 82 2 (.slice (some ad) l.length c) l.length (pmCells (mid s x j ++ r)) ∧ w.grownBy w2 (some ad.block) ∧ Hid (∀ y ∈ s.drop j, x.wt < y.wt)) (fun jv _ => (intOf jv).toNat)
      case atStart => exact ⟨i, rfl, Nat.le_refl _, hown0, hgb, fun y hy => by rw [List.drop_of_length_le (by rw [HSL.out]; exact Nat.le_refl _)] at hy; cases hy⟩
      case round =>
        clear hown0 hgb
        obtain ⟨j, rfl, hji, hown, hgb, HB⟩ := hrel
        rcases Nat.eq_zero_or_pos j with hj0 | hj0
        · have HJ := Lib.hid hj0
          have g2 : decide ((0 : Int) < (j : Int)) = false := decide_eq_false (by omega)
          have g2' : decide (0 < j) = false := decide_eq_false (by omega)
          have HF : Hid (mid s x j = isrtM (l.take (i + 1))) := by
            rw [Hid, HNX.out]
            exact (insM_at HUP.out (by omega) HB.out (fun h0 => by omega)).symm
          clear hj0
          go_wp2_with fail
          go_quiet (fail)
          go_wp2_with fail
          go_roundw
          case rel =>
            refine ⟨i + 1, by go_num, by omega, .inl (by omega), ?_, gb_drewN hgb _⟩
            rw [← HF.out, HRR.out]
            exact hown
          case measure => simp [intOf]; omega
        · obtain ⟨q, rfl⟩ : ∃ q, j = q + 1 := ⟨j - 1, by omega⟩
          have hqs : q < s.length := by omega
          have hmx : (mid s x (q + 1) ++ r)[q + 1]? = some x := by
            rw [List.getElem?_append_left (by rw [mid_len (by omega)]; omega)]
            exact mid_at (by omega)
          have hmy : (mid s x (q + 1) ++ r)[q]? = some (s[q]'hqs) := by
            rw [List.getElem?_append_left (by rw [mid_len (by omega)]; omega), mid_ahead (by omega), List.getElem?_eq_getElem hqs]
          have hml : (mid s x (q + 1) ++ r).length = l.length := by
            rw [List.length_append, mid_len (by omega)]; omega
          have hown' : OwnO wr base 82 2 (.slice (some ad) (mid s x (q + 1) ++ r).length c) (mid s x (q + 1) ++ r).length (pmCells (mid s x (q + 1) ++ r)) := by rw [hml]; exact hown
          obtain ⟨c0, c1⟩ := pm_at hown' hmx
          obtain ⟨d0, d1⟩ := pm_at hown' hmy
          have hwy := HWS.out _ (List.getElem_mem hqs)
          have HY : Hid (∀ h : x.wt < (s[q]'hqs).wt, ∀ y ∈ s.drop q, x.wt < y.wt) := fun h y hy => by
            rw [List.drop_eq_getElem_cons hqs] at hy
            rcases List.mem_cons.1 hy with rfl | hy
            · exact h
            · exact HB.out y hy
          have HST : Hid ((s[q]'hqs).wt ≤ x.wt → mid s x (q + 1) = isrtM (l.take (i + 1))) := fun h => by
            rw [HNX.out]
            exact (insM_at HUP.out (by omega) HB.out (fun _ _ => h)).symm
          have HSW : Hid (((mid s x (q + 1) ++ r).set (q + 1) (s[q]'hqs)).set q x = mid s x q ++ r) := by
            unfold Hid
            rw [List.set_append_left _ _ (by rw [mid_len (by omega)]; omega), List.set_append_left _ _ (by rw [List.length_set, mid_len (by omega)]; omega), mid_swap hqs]
          have g2 : decide ((0 : Int) < ((q + 1 : Nat) : Int)) = true := decide_eq_true (by omega)
          have g2' : decide (0 < q + 1) = true := decide_eq_true (by omega)
          have g2'' : decide ((0 : Int) < (q : Int) + 1) = true := decide_eq_true (by omega)
          have HOWN := Lib.hid hown'
          have HML := Lib.hid hml
          have HMX := Lib.hid hmx
          have HMY := Lib.hid hmy
          have hq12 : q + 1 < l.length := by omega
          clear hown hown' hmx hmy hml
          generalize (s[q]'hqs) = y at *
          obtain ⟨xw, xA, xc, xm⟩ := x
          obtain ⟨yw, yA, yc, ym⟩ := y
          simp only at c0 c1 d0 d1 hwx hwy
          have HC := Lib.hid (lens1_any xw yw xA yA xm.length xc ym.length yc hwx hwy)
          have c0r := cell_regrown c0
          have c1r := cell_regrown c1
          have d0r := cell_regrown d0
          have d1r := cell_regrown d1
          by_cases hxy : xw < yw
          · have g3 : decide ((xw : Int) - (yw : Int) < 0) = true := decide_eq_true (by omega)
            go_wp2_with fail
            refine wp_region_quiet_below (by kernel_rfl) (by kernel_rfl) ?_
            repeat (go_big_quiet_step ((go_at_call 60; exact Calls.regrown_of (HC.out _))))
            refine wpQuiet_nil ?_
            intro w5 hb50
            have hb5 := below_of_regrown hb50
            clear hb50
            have HO5 := Lib.hid (HOWN.out.below hb5)
            obtain ⟨c0, c1⟩ := pm_at HO5.out HMX.out
            obtain ⟨d0, d1⟩ := pm_at HO5.out HMY.out
            have hg5 := gb_below hgb hb5
            have hL2 : (mid s ⟨xw, xA, xc, xm⟩ (q + 1) ++ r).length * 2 = l.length * 2 := by rw [HML.out]
            obtain ⟨s1, f1⟩ := own_set HO5.out (j := (q + 1) * 2) (by omega) (.int .i64 (yw : Int))
            obtain ⟨s2, f2⟩ := own_set s1 (j := (q + 1) * 2 + 1) (by omega) (.slice yA ym.length yc)
            obtain ⟨s3, f3⟩ := own_set s2 (j := q * 2) (by omega) (.int .i64 (xw : Int))
            obtain ⟨s4, f4⟩ := own_set s3 (j := q * 2 + 1) (by omega) (.slice xA xm.length xc)
            rw [pmCells_set (x := ⟨yw, yA, yc, ym⟩) (by omega), pmCells_set (x := ⟨xw, xA, xc, xm⟩) (by rw [List.length_set]; omega), HSW.out, HML.out] at s4
            have ee : ∀ k, ad.add (k + 1) = ⟨(ad.add k).block, (ad.add k).off + 1, none⟩ := fun k => by rw [← add_add]; rfl
            have k1 := (own_set HO5.out (j := (q + 1) * 2 + 1) (by omega) (.int .i64 0)).2
            have k2 := (own_set HO5.out (j := q * 2) (by omega) (.int .i64 0)).2
            have k3 := (own_set HO5.out (j := q * 2 + 1) (by omega) (.int .i64 0)).2
            rw [ee] at k1 k3
            rw [ee ((q + 1) * 2), ee (q * 2)] at s4
            have hna := own_addr HO5.out
            have n12 : (ad.add ((q + 1) * 2)) ≠ (⟨(ad.add ((q + 1) * 2)).block, (ad.add ((q + 1) * 2)).off + 1, none⟩ : Addr) := by rw [← ee]; exact hna _ _ (by omega)
            have n13 : (ad.add ((q + 1) * 2)) ≠ (ad.add (q * 2)) := hna _ _ (by omega)
            have n23 : (⟨(ad.add ((q + 1) * 2)).block, (ad.add ((q + 1) * 2)).off + 1, none⟩ : Addr) ≠ (ad.add (q * 2)) := by rw [← ee]; exact hna _ _ (by omega)
            have n14 : (ad.add ((q + 1) * 2)) ≠ (⟨(ad.add (q * 2)).block, (ad.add (q * 2)).off + 1, none⟩ : Addr) := by rw [← ee (q * 2)]; exact hna _ _ (by omega)
            have n24 : (⟨(ad.add ((q + 1) * 2)).block, (ad.add ((q + 1) * 2)).off + 1, none⟩ : Addr) ≠ (⟨(ad.add (q * 2)).block, (ad.add (q * 2)).off + 1, none⟩ : Addr) := by rw [← ee, ← ee]; exact hna _ _ (by omega)
            have n34 : (ad.add (q * 2)) ≠ (⟨(ad.add (q * 2)).block, (ad.add (q * 2)).off + 1, none⟩ : Addr) := by rw [← ee]; exact hna _ _ (by omega)
            have m1 : (w5.setCell (ad.add ((q + 1) * 2)) (.int .i64 (yw : Int))).cell? ⟨(ad.add ((q + 1) * 2)).block, (ad.add ((q + 1) * 2)).off + 1, none⟩ = some (.slice xA xm.length xc) := (World.cell?_setCell_other _ _ _ _ n12).trans c1
            have m2 : ((w5.setCell (ad.add ((q + 1) * 2)) (.int .i64 (yw : Int))).setCell ⟨(ad.add ((q + 1) * 2)).block, (ad.add ((q + 1) * 2)).off + 1, none⟩ (.slice yA ym.length yc)).cell? (ad.add (q * 2)) = some (.int .i64 (yw : Int)) := (World.cell?_setCell_other _ _ _ _ n23).trans ((World.cell?_setCell_other _ _ _ _ n13).trans d0)
            have m3 : (((w5.setCell (ad.add ((q + 1) * 2)) (.int .i64 (yw : Int))).setCell ⟨(ad.add ((q + 1) * 2)).block, (ad.add ((q + 1) * 2)).off + 1, none⟩ (.slice yA ym.length yc)).setCell (ad.add (q * 2)) (.int .i64 (xw : Int))).cell? ⟨(ad.add (q * 2)).block, (ad.add (q * 2)).off + 1, none⟩ = some (.slice yA ym.length yc) := (World.cell?_setCell_other _ _ _ _ n34).trans ((World.cell?_setCell_other _ _ _ _ n24).trans ((World.cell?_setCell_other _ _ _ _ n14).trans d1))
            have m4 : ((w5.setCell (ad.add ((q + 1) * 2)) (.int .i64 (yw : Int))).setCell ⟨(ad.add ((q + 1) * 2)).block, (ad.add ((q + 1) * 2)).off + 1, none⟩ (.slice yA ym.length yc)).cell? ⟨(ad.add (q * 2)).block, (ad.add (q * 2)).off + 1, none⟩ = some (.slice yA ym.length yc) := (World.cell?_setCell_other _ _ _ _ n24).trans ((World.cell?_setCell_other _ _ _ _ n14).trans d1)
            clear hna n12 n13 n23 n14 n24 n34
            obtain ⟨W4, hW4⟩ : ∃ W4, W4 = ((((w5.setCell (ad.add ((q + 1) * 2)) (.int .i64 (yw : Int))).setCell ⟨(ad.add ((q + 1) * 2)).block, (ad.add ((q + 1) * 2)).off + 1, none⟩ (.slice yA ym.length yc)).setCell (ad.add (q * 2)) (.int .i64 (xw : Int))).setCell ⟨(ad.add (q * 2)).block, (ad.add (q * 2)).off + 1, none⟩ (.slice xA xm.length xc)) := ⟨_, rfl⟩
            rw [← hW4] at s4
            have hgF : w.grownBy W4 (some ad.block) := by
              have e1 : ∀ k, (ad.add k).block = ad.block := fun k => by unfold Addr.add; split <;> rfl
              have q1 : ∀ (v : World) (p : Addr) (u : Value), p.block = ad.block → v.grownBy (v.setCell p u) (some ad.block) := fun v p u hp => ⟨rfl, rfl, rfl, by simp [World.setCell], fun k _ hk => Below.heap_setCell v p u k (fun e => hk (by rw [e, hp]))⟩
              rw [hW4]
              refine gb_trans (gb_trans (gb_trans (gb_trans hg5 (q1 w5 _ _ (e1 _))) (q1 _ _ _ ?_)) (q1 _ _ _ (e1 _))) (q1 _ _ _ ?_)
              · exact e1 _
              · exact e1 _
            have HW4 := Lib.hid hW4
            clear hW4
            have HS4 := Lib.hid s4
            clear s1 s2 s3 s4 c0r c1r d0r d1r f2 f3 f4 ee
            go_wp2_with fail
            have p0 : ((w5.setCell (ad.add ((q + 1) * 2)) (.int .i64 (yw : Int))).setCell ⟨(ad.add ((q + 1) * 2)).block, (ad.add ((q + 1) * 2)).off + 1, none⟩ (.slice yA ym.length yc)).cell? (ad.add (q * 2)) = some (.int .i64 (yw : Int)) := m2
            have p1 : ((w5.setCell (ad.add ((q + 1) * 2)) (.int .i64 (yw : Int))).setCell ⟨(ad.add ((q + 1) * 2)).block, (ad.add ((q + 1) * 2)).off + 1, none⟩ (.slice yA ym.length yc)).cell? ⟨(ad.add (q * 2)).block, (ad.add (q * 2)).off + 1, none⟩ = some (.slice yA ym.length yc) := m4
            obtain ⟨F1, hFd⟩ : ∃ F : World → Prop, F = fun w' => w'.cell? (ad.add (q * 2)) = some (.int .i64 (yw : Int)) ∧ w'.cell? ⟨(ad.add (q * 2)).block, (ad.add (q * 2)).off + 1, none⟩ = some (.slice yA ym.length yc) := ⟨_, rfl⟩
            have HF1 := Lib.hid hFd
            clear hFd
            have hcell10 : ∀ p' : Wof F1, p'.w.cell? (ad.add (q * 2)) = some (.int .i64 (yw : Int)) := fun ⟨x, hx⟩ => by rw [HF1.out] at hx; exact hx.1
            have hcell11 : ∀ p' : Wof F1, p'.w.cell? ⟨(ad.add (q * 2)).block, (ad.add (q * 2)).off + 1, none⟩ = some (.slice yA ym.length yc) := fun ⟨x, hx⟩ => by rw [HF1.out] at hx; exact hx.2
            refine wp_region_schedT (.op 0 true (.op 1 true (.op 2 true (.op 3 true (.op 4 true (.op 5 true (.op 6 true (.op 7 true (.op 8 true (.op 9 true (.op 10 true (.op 11 true (.op 12 true (.op 13 false (.op 14 true (.op 15 false .nil)))))))))))))))) 16 16 [17] F1 (by kernel_rfl) (by kernel_rfl) (by kernel_rfl) rfl (fun _ _ _ _ _ h => h) (by kernel_rfl) (by rw [HF1.out]; first | trivial | (repeat' apply And.intro) <;> assumption | (simp; done) | (simp [*]; done)) (by rw [HF1.out]; exact fun h => h) ?_
            intro hne1
            simp only [opersT, opsAt, List.getElem?_toArray, List.getElem?_cons_succ, List.getElem?_cons_zero]
            repeat (first | (refine wpT_free rfl ?_; intro K hK; go_big_quiet_op; go_big_quiet_on) | (refine wpT_wantS _ rfl rfl rfl ?_; intro K hK; go_big_quiet_op; go_big_quiet_on) | (refine wpT_skipS _ rfl rfl rfl rfl ?_; simp only [Act.put, List.setIfInBounds_toArray, List.set_cons_zero, List.set_cons_succ]) | (refine wpT_skipU _ rfl rfl rfl ?_; simp only [Act.put, List.setIfInBounds_toArray, List.set_cons_zero, List.set_cons_succ]))
            refine wpT_other ?_
            go_wp2_with fail
            refine sched_back (by rw [HF1.out]; first | trivial | (repeat' apply And.intro) <;> assumption | (simp; done) | (go_simp; done) | (simp [*]; done)) ?_
            repeat (first | (refine wpT_free rfl ?_; intro K hK; go_big_quiet_op; go_big_quiet_on) | (refine wpT_wantS _ rfl rfl rfl ?_; intro K hK; go_big_quiet_op; go_big_quiet_on) | (refine wpT_skipS _ rfl rfl rfl rfl ?_; simp only [Act.put, List.setIfInBounds_toArray, List.set_cons_zero, List.set_cons_succ]) | (refine wpT_skipU _ rfl rfl rfl ?_; simp only [Act.put, List.setIfInBounds_toArray, List.set_cons_zero, List.set_cons_succ]))
            refine wpT_other ?_
            go_wp2_with fail
            refine sched_back (by rw [HF1.out]; exact ⟨p0, p1⟩) ?_
            repeat (first | (refine wpT_free rfl ?_; intro K hK; go_big_quiet_op; go_big_quiet_on) | (refine wpT_wantS _ rfl rfl rfl ?_; intro K hK; go_big_quiet_op; go_big_quiet_on) | (refine wpT_skipS _ rfl rfl rfl rfl ?_; simp only [Act.put, List.setIfInBounds_toArray, List.set_cons_zero, List.set_cons_succ]) | (refine wpT_skipU _ rfl rfl rfl ?_; simp only [Act.put, List.setIfInBounds_toArray, List.set_cons_zero, List.set_cons_succ]))
            refine wpT_nil ?_
            refine wpTail_cons ?_
            go_wp2_with fail
            refine tail_back ?_
            refine wpTail_cons ?_
            go_wp2_with fail
            refine tail_back ?_
            refine wpTail_nil ?_
            clear m1 m2 m3 m4 p0 p1 k1 k2 k3 f1
            go_wp2_with fail
            rw [← HW4.out]
            exact ⟨⟨q, rfl, by omega, own_drewT HS4.out, gb_drew hgF, HY.out hxy⟩, by simp [intOf]⟩
          · have g3 : decide ((xw : Int) - (yw : Int) < 0) = false := decide_eq_false (by omega)
            have HFS := Lib.hid (HST.out (show yw ≤ xw by omega))
            go_wp2_with fail
            refine wp_region_quiet_below (by kernel_rfl) (by kernel_rfl) ?_
            repeat (go_big_quiet_step ((go_at_call 60; exact Calls.regrown_of (HC.out _))))
            refine wpQuiet_nil ?_
            intro w5 hb50
            have hb5 := below_of_regrown hb50
            clear hb50
            have HO5 := HOWN.out.below hb5
            rw [HML.out, HFS.out, ← HRR.out] at HO5
            have hg5 := gb_below hgb hb5
            have HO5' := Lib.hid HO5
            clear HO5
            go_wp2_with fail
            go_roundw
            case rel => exact ⟨i + 1, by go_num, by omega, .inl (by omega), HO5'.out, hg5⟩
            case measure => simp [intOf]; omega
    · have g1 : decide ((i : Int) < (l.length : Int)) = false := decide_eq_false (by omega)
      have g1' : decide (i < l.length) = false := decide_eq_false hlt
      rw [List.take_of_length_le (by omega), List.drop_of_length_le (by omega), List.append_nil] at hown
      have HO := Lib.hid hown
      clear hown
      go_wp2_with fail
      go_end0
      exact ⟨rfl, HO.out, hgb⟩
set_option maxRecDepth 100000 in
set_option maxHeartbeats 4000000 in
theorem stablePile_any (l : List Pm) (ad : Addr) (c base : Nat) (w : World) (h : OwnO w base 82 2 (.slice (some ad) l.length c) l.length (pmCells l)) (hn : l.length ≤ 12) (hw : ∀ x ∈ l, x.wt ≤ 1000000) :
    Calls Try.prog 59 #[.slice (some ad) l.length c, .func (.func 60) #[] #[]] w fun e w' => e = .returned (.tuple #[]) ∧
      OwnO w' base 82 2 (.slice (some ad) l.length c) l.length (pmCells (isrtM l)) ∧ w.grownBy w' (some ad.block) := by
  have HI := Lib.hid (insPile_any l ad c base w h hn hw)
  clear h hw
  have HS : Hid (Calls Try.prog 89 #[.slice (some ad) l.length c, .int .i64 (l.length : Int), .func (.func 60) #[] #[]] w fun e w' => e = .returned (.tuple #[]) ∧
      OwnO w' base 82 2 (.slice (some ad) l.length c) l.length (pmCells (isrtM l)) ∧ w.grownBy w' (some ad.block)) := by
    unfold Hid
    have g1 : decide ((20 : Int) ≤ (l.length : Int)) = false := decide_eq_false (by omega)
    have g1' : decide (20 ≤ l.length) = false := decide_eq_false (by omega)
    have g2 : decide ((20 : Int) < (l.length : Int)) = false := decide_eq_false (by omega)
    have g2' : decide (20 < l.length) = false := decide_eq_false (by omega)
    go_enter Try.func89, Try.ntmps89
    go_wp2_with fail
    refine wp_loop_rounds 1 ?_
    rw [rounds_succ]
    go_wp2_with fail
    refine HI.out.mono ?_
    rintro e w1 ⟨rfl, ho1, hg1⟩
    have HO1 := Lib.hid ho1
    clear ho1
    go_wp2_with fail
    refine wp_loop_rounds 1 ?_
    rw [rounds_succ]
    go_wp2_with fail
    go_end0
    exact ⟨rfl, HO1.out, hg1⟩
  go_enter Try.func59, Try.ntmps59
  go_wp2_with fail
  refine HS.out.mono ?_
  rintro e w1 ⟨rfl, ho1, hg1⟩
  have HO1 := Lib.hid ho1
  clear ho1
  go_wp2_with fail
  go_end0
  exact ⟨rfl, HO1.out, hg1⟩
end Go.Proofs.Ytmmamdjbbpeifaa
