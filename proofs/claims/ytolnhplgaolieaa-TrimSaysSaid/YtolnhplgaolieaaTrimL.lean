/- The law TrimSays, walked. -/
import Derived.Test.YtolnhplgaolieaaTrimD
import Derived.Test.YtolnhplgaolieaaOpenRows
namespace Go.Proofs.Ytolnhplgaolieaa
open Go.RowKit
set_option maxHeartbeats 400000 in
theorem equalEd_true (A B : Option Addr) (n c d BA BB : Nat) (l : List Ed) (w : World) (hn : n ≤ 9223372036854775807)
    (ha : Rd w BA 3 A n (edCells l)) (hb : Rd w BB 3 B n (edCells l)) :
    Calls Try.prog 110 #[.slice A n c, .slice B n d] w fun e w' => e = .returned (.bool true) ∧ Below w.heap.size w w' := by
  have Ha := Lib.hid ha; clear ha
  have Hb := Lib.hid hb; clear hb
  go_enter Try.func110, Try.ntmps110
  go_wp2
  go_loopw [13] (fun i wr => ∃ k m : Nat, k ≤ n ∧ i = .int .i64 k ∧ wr = w.drewN m) (fun i _ => n - (intOf i).toNat)
  case atStart => exact ⟨0, 0, Nat.zero_le _, rfl, rfl⟩
  case round =>
    obtain ⟨k, m, hk, rfl, rfl⟩ := hrel
    by_cases hlt : k < n
    · obtain ⟨ad, hl, rfl, _, c0, c1, c2⟩ := Ha.out.at_ed hlt
      obtain ⟨bd, hl', rfl, _, d0, d1, d2⟩ := Hb.out.at_ed hlt
      generalize l[k] = x at *
      obtain ⟨xa, xd, xi⟩ := x
      simp only at c0 c1 c2 d0 d1 d2
      generalize S xi = si at *
      go_wp2
      go_quiet (fail)
      go_wp2
      go_roundw
      case rel => exact ⟨k + 1, _, by omega, by go_num, rfl⟩
      case measure => simp [intOf]; omega
    · go_wp2
      go_ret
      exact ⟨rfl, below_drewN (Below.refl _ _) _⟩
theorem alikeEd_true (A B : Option Addr) (n c d BA BB : Nat) (l : List Ed) (w : World) (hn : n ≤ 9223372036854775807)
    (ha : Rd w BA 3 A n (edCells l)) (hb : Rd w BB 3 B n (edCells l)) :
    Calls Try.prog 47 #[.slice A n c, .slice B n d] w fun e w' => e = .returned (.bool true) ∧ Below w.heap.size w w' := by
  have Ha := Lib.hid ha; clear ha
  have Hb := Lib.hid hb; clear hb
  go_enter Try.func47, Try.ntmps47
  go_wp2_with fail
  refine (equalEd_true A B n c d BA BB l w hn Ha.out Hb.out).mono ?_
  rintro e w1 ⟨rfl, hb1⟩
  go_wp2_with fail
  go_ret
  exact ⟨rfl, hb1⟩
/-- Scripts that come in, opened. -/
theorem open_scs {H : Type} {enc : TypeId × Value → H} {W : World} {fuel : Nat} {cs : List Value} {y : DataW H × List MemPlace} (h : DataW.trod enc Try.prog W 0 (fun _ => true) true fuel 109 cs = some y) :
    ∃ (A : Option Addr) (n c : Nat) (l : List Sc), cs = [.slice A n c] ∧ n ≤ c ∧ c ≤ maxLen ∧ l.length = n ∧ Rd W W.heap.size 1 A n (scCells l) ∧ (∀ x ∈ l, ScOk W W.heap.size x) ∧
      ((y.1 = .nil ∧ c = 0) ∨ ∃ el sp, y.1 = .slice el sp ∧ el.length + sp.length = c) := by
  refine open_rd (e := 66) (size := 1) Try.underlying109 (by kernel_rfl) (by omega) (fun _ => rfl) ?_ h
  intro fuel cs y hl hy
  obtain ⟨A, n, c, l, rfl, hn, hc, hlen, hrd, _, _⟩ := open_eds hy
  exact ⟨⟨A, n, c, l⟩, rfl, hn, hc, hrd⟩
theorem ScOk.more {w : World} {B B' : Nat} {x : Sc} (h : ScOk w B x) (hB : B ≤ B') : ScOk w B' x := ⟨h.nc, h.cm, h.rd.more hB⟩
theorem ScOk.drew {w : World} {B : Nat} {x : Sc} (h : ScOk w B x) : ScOk w.drew B x := ⟨h.nc, h.cm, h.rd.drew⟩
set_option maxRecDepth 100000 in
set_option maxHeartbeats 4000000 in
theorem trimSays_any (n : Int) (l : List Sc) (A : Option Addr) (m c : Nat) (w : World) (hr : Rd w w.heap.size 1 A m (scCells l)) (hq : ∀ x ∈ l, ScOk w w.heap.size x) (hm : m ≤ 9223372036854775807) :
    Calls Try.prog 12 #[.int .i64 n, .slice A m c] w fun e w' => e = .returned (.bool true) ∧ Below w.heap.size w w' := by
  have hlen := Rd.rec_len sc_len (by omega) hr
  have HR := Lib.hid hr; clear hr
  have HQ := Lib.hid hq; clear hq
  have HL := Lib.hid hlen; clear hlen
  have HM1 := Lib.hid (trimMany_any n l A m c w.heap.size w HR.out HQ.out (Nat.le_refl _) hm)
  have HMB : Hid (manyErr n l = 0 → (manyOut n l).length ≤ 20) := fun h => by
    unfold manyErr at h
    split at h
    · cases h
    · split at h
      · cases h
      · split at h
        · rename_i h9; exact absurd h h9
        · exact (edErr_zero.1 h).2.2.1
  have HTW : Hid (m = 2 → ∃ x y, l = [x, y]) := fun h => by
    have h9 := HL.out
    match l, h9 with
    | [x, y], _ => exact ⟨x, y, rfl⟩
    | [], e => simp at e; omega
    | [_], e => simp at e; omega
    | _ :: _ :: _ :: _, e => simp at e; omega
  go_enter Try.func12, Try.ntmps12
  go_wp2_with fail
  refine (HM1.out).mono ?_
  rintro e w1 ⟨v1, rfl, h10, h11, hb1⟩
  have H10 := Lib.hid h10
  have H11 := Lib.hid h11
  clear h10 h11 HM1
  have HM2 := Lib.hid (manyOf_any n l A m c w.heap.size w1 (HR.out.below hb1) (fun x hx => (HQ.out x hx).below hb1) hb1.size hm)
  go_wp2_with fail
  refine (HM2.out).mono ?_
  rintro e w2 ⟨v2, rfl, h21, hb2⟩
  have H21 := Lib.hid h21
  have hb2' := bthen hb1 hb2
  clear h21 HM2
  by_cases he : manyErr n l = 0
  · have hlen20 := HMB.out he
    obtain ⟨A1, c1, rfl, hc1, hcm1, hrd1⟩ := own_form (H11.out he)
    obtain ⟨A2, c2, rfl, hc2, hcm2, hrd2⟩ := own_form (H21.out he)
    have HD1 := Lib.hid (hrd1.below hb2)
    have HD2 := Lib.hid hrd2
    have HE := Lib.hid he
    have hw12 := hb2.size
    rw [he]
    clear he hrd1 hrd2 H10 H11 H21 HMB
    by_cases hm2 : m = 2
    · obtain ⟨x, y, hl⟩ := HTW.out hm2
      subst hl
      have hx := (HQ.out x (by simp)).below hb2'
      have hy := (HQ.out y (by simp)).below hb2'
      have HX := Lib.hid hx
      have HY := Lib.hid hy
      obtain ⟨ad, _, hA, hab, cx⟩ := (HR.out.below hb2').at_sc (k := 0) (by omega)
      obtain ⟨ad', _, hA', _, cy⟩ := (HR.out.below hb2').at_sc (k := 1) (by omega)
      subst hA
      cases hA'
      clear hx hy HQ hm HTW
      subst hm2
      have hwW : w.heap.size ≤ w2.heap.size := hb2'.size
      go_wp2_with fail
      refine (alikeEd_true A1 A2 _ c1 c2 _ _ (manyOut n [x, y]) _ (by omega) HD1.out HD2.out).mono ?_
      rintro e w3 ⟨rfl, hb9⟩
      have HD23 := Lib.hid (HD2.out.below hb9)
      have hb3' := bthen hb2' hb9
      go_wp2_with fail
      have cx3 := (hb9.cell (show (ad.add 0).block < w2.heap.size by rw [blk_add]; omega)).trans cx
      have cy3 := (hb9.cell (show (ad.add 1).block < w2.heap.size by rw [blk_add]; omega)).trans cy
      have ea0 : ad.add 0 = ad := by unfold Addr.add; rw [if_pos rfl]
      have ea1 : ad.add 1 = ⟨ad.block, ad.off + 1, none⟩ := by unfold Addr.add; rw [if_neg (by omega)]
      rw [ea0] at cx3
      rw [ea1] at cy3
      clear ea0 ea1
      have HX3 := Lib.hid ((HX.out.below (hb9.mono hwW)).more (Nat.le_trans hwW hb9.size))
      have HY3 := Lib.hid ((HY.out.below (hb9.mono hwW)).more (Nat.le_trans hwW hb9.size))
      clear HX HY cx cy
      obtain ⟨F1, hFd⟩ : ∃ F : World → Prop, F = fun w' => w'.cell? ad = some (.slice x.A x.n x.c) ∧ w'.cell? ⟨ad.block, ad.off + 1, none⟩ = some (.slice y.A y.n y.c) := ⟨_, rfl⟩
      have HF1 := Lib.hid hFd
      clear hFd
      have hcell10 : ∀ p' : Wof F1, p'.w.cell? ad = some (.slice x.A x.n x.c) := fun ⟨x, hx⟩ => by rw [HF1.out] at hx; exact hx.1
      have hcell11 : ∀ p' : Wof F1, p'.w.cell? ⟨ad.block, ad.off + 1, none⟩ = some (.slice y.A y.n y.c) := fun ⟨x, hx⟩ => by rw [HF1.out] at hx; exact hx.2
      refine wp_region_schedF [(0, true), (1, true), (2, true), (3, true), (4, true), (5, true), (6, true), (7, false), (8, true), (9, true), (10, true), (11, true), (12, true)] F1 (by kernel_rfl) (by kernel_rfl) rfl (fun _ _ _ _ _ h => h) (by kernel_rfl) (by rw [HF1.out]; first | trivial | (repeat' apply And.intro) <;> assumption | (simp; done) | (simp [*]; done)) (by rw [HF1.out]; exact fun h => h) ?_
      intro hne1
      simp only [opersOf, List.getElem?_toArray, List.getElem?_cons_succ, List.getElem?_cons_zero]
      repeat (first | (refine wpSched_free rfl ?_; intro K hK; go_big_quiet_op; go_big_quiet_on) | (refine wpSched_wantS _ rfl rfl rfl ?_; intro K hK; go_big_quiet_op; go_big_quiet_on) | (refine wpSched_skipS _ rfl rfl rfl rfl ?_; simp only [Act.put, List.setIfInBounds_toArray, List.set_cons_zero, List.set_cons_succ]) | (refine wpSched_skipU _ rfl rfl rfl ?_; simp only [Act.put, List.setIfInBounds_toArray, List.set_cons_zero, List.set_cons_succ]))
      refine wpSched_other ?_
      go_wp2_with fail
      refine (trimTwo_any n x y w3.drew HX3.out.drew HY3.out.drew).mono ?_
      rintro e w5 ⟨v5, rfl, h50, h51, hb50⟩
      have hb5 : Below w3.heap.size w3 w5 := (Below.drew (Below.refl w3.heap.size w3)).trans hb50
      have H50 := Lib.hid h50
      have H51 := Lib.hid h51
      have cx5 := (hb5.cell (show ad.block < w3.heap.size from Nat.lt_of_lt_of_le hab (Nat.le_trans hwW hb9.size))).trans cx3
      have cy5 := (hb5.cell (p := ⟨ad.block, ad.off + 1, none⟩) (show ad.block < w3.heap.size from Nat.lt_of_lt_of_le hab (Nat.le_trans hwW hb9.size))).trans cy3
      clear h50 h51 HX3 HY3
      go_wp2_with fail
      refine sched_back (by rw [HF1.out]; first | trivial | (repeat' apply And.intro) <;> assumption | (simp; done) | (go_simp; done) | (simp [*]; done)) ?_
      repeat (first | (refine wpSched_free rfl ?_; intro K hK; go_big_quiet_op; go_big_quiet_on) | (refine wpSched_wantS _ rfl rfl rfl ?_; intro K hK; go_big_quiet_op; go_big_quiet_on) | (refine wpSched_skipS _ rfl rfl rfl rfl ?_; simp only [Act.put, List.setIfInBounds_toArray, List.set_cons_zero, List.set_cons_succ]) | (refine wpSched_skipU _ rfl rfl rfl ?_; simp only [Act.put, List.setIfInBounds_toArray, List.set_cons_zero, List.set_cons_succ]))
      refine wpSched_nil ?_
      obtain ⟨A5, c5, rfl, hc5, hcm5, hrd5⟩ := own_form (H51.out HE.out)
      have HD5 := Lib.hid hrd5
      have hbD : Below w3.heap.size w3 w5 := hb5
      have HD25 := Lib.hid (HD23.out.below (hbD.mono hb9.size))
      have hb5' := bthen hb3' hbD
      rw [HE.out]
      clear H50 H51 hrd5
      go_wp2_with fail
      refine (alikeEd_true A5 A2 _ c5 c2 _ _ (manyOut n [x, y]) _ (by omega) HD5.out HD25.out).mono ?_
      rintro e w6 ⟨rfl, hb6⟩
      have hb6' := bthen hb5' hb6
      go_wp2_with fail
      go_ret
      exact ⟨rfl, hb6'⟩
    · have g1 : ((m : Int) != 2) = true := by rw [bne_iff_ne]; omega
      have g1' : (m != 2) = true := by rw [bne_iff_ne]; omega
      go_wp2_with fail
      refine (alikeEd_true A1 A2 _ c1 c2 _ _ (manyOut n l) _ (by omega) HD1.out HD2.out).mono ?_
      rintro e w3 ⟨rfl, hb3⟩
      have hb3' := bthen hb2' hb3
      go_wp2_with fail
      go_ret
      exact ⟨rfl, hb3'⟩
  · obtain rfl := H10.out he
    have g0 : (manyErr n l != 0) = true := by simpa using he
    have g0' : (manyErr n l == 0) = false := by simpa using he
    have HNE := Lib.hid he
    clear he H10 H11 H21 HMB
    by_cases hm2 : m = 2
    · obtain ⟨x, y, hl⟩ := HTW.out hm2
      subst hl
      have hx := (HQ.out x (by simp)).below hb2'
      have hy := (HQ.out y (by simp)).below hb2'
      have HX := Lib.hid hx
      have HY := Lib.hid hy
      obtain ⟨ad, _, hA, hab, cx⟩ := (HR.out.below hb2').at_sc (k := 0) (by omega)
      obtain ⟨ad', _, hA', _, cy⟩ := (HR.out.below hb2').at_sc (k := 1) (by omega)
      subst hA
      cases hA'
      clear hx hy HQ hm HTW
      subst hm2
      have hwW : w.heap.size ≤ w2.heap.size := hb2'.size
      have hb9 := Below.refl w2.heap.size w2
      go_wp2_with fail
      have cx3 := (hb9.cell (show (ad.add 0).block < w2.heap.size by rw [blk_add]; omega)).trans cx
      have cy3 := (hb9.cell (show (ad.add 1).block < w2.heap.size by rw [blk_add]; omega)).trans cy
      have ea0 : ad.add 0 = ad := by unfold Addr.add; rw [if_pos rfl]
      have ea1 : ad.add 1 = ⟨ad.block, ad.off + 1, none⟩ := by unfold Addr.add; rw [if_neg (by omega)]
      rw [ea0] at cx3
      rw [ea1] at cy3
      clear ea0 ea1
      have HX3 := Lib.hid ((HX.out.below (hb9.mono hwW)).more (Nat.le_trans hwW hb9.size))
      have HY3 := Lib.hid ((HY.out.below (hb9.mono hwW)).more (Nat.le_trans hwW hb9.size))
      clear HX HY cx cy
      obtain ⟨F1, hFd⟩ : ∃ F : World → Prop, F = fun w' => w'.cell? ad = some (.slice x.A x.n x.c) ∧ w'.cell? ⟨ad.block, ad.off + 1, none⟩ = some (.slice y.A y.n y.c) := ⟨_, rfl⟩
      have HF1 := Lib.hid hFd
      clear hFd
      have hcell10 : ∀ p' : Wof F1, p'.w.cell? ad = some (.slice x.A x.n x.c) := fun ⟨x, hx⟩ => by rw [HF1.out] at hx; exact hx.1
      have hcell11 : ∀ p' : Wof F1, p'.w.cell? ⟨ad.block, ad.off + 1, none⟩ = some (.slice y.A y.n y.c) := fun ⟨x, hx⟩ => by rw [HF1.out] at hx; exact hx.2
      refine wp_region_schedF [(0, true), (1, true), (2, true), (3, true), (4, true), (5, true), (6, true), (7, false), (8, true), (9, true), (10, true), (11, true), (12, true)] F1 (by kernel_rfl) (by kernel_rfl) rfl (fun _ _ _ _ _ h => h) (by kernel_rfl) (by rw [HF1.out]; first | trivial | (repeat' apply And.intro) <;> assumption | (simp; done) | (simp [*]; done)) (by rw [HF1.out]; exact fun h => h) ?_
      intro hne1
      simp only [opersOf, List.getElem?_toArray, List.getElem?_cons_succ, List.getElem?_cons_zero]
      repeat (first | (refine wpSched_free rfl ?_; intro K hK; go_big_quiet_op; go_big_quiet_on) | (refine wpSched_wantS _ rfl rfl rfl ?_; intro K hK; go_big_quiet_op; go_big_quiet_on) | (refine wpSched_skipS _ rfl rfl rfl rfl ?_; simp only [Act.put, List.setIfInBounds_toArray, List.set_cons_zero, List.set_cons_succ]) | (refine wpSched_skipU _ rfl rfl rfl ?_; simp only [Act.put, List.setIfInBounds_toArray, List.set_cons_zero, List.set_cons_succ]))
      refine wpSched_other ?_
      go_wp2_with fail
      refine (trimTwo_any n x y w2.drew HX3.out.drew HY3.out.drew).mono ?_
      rintro e w5 ⟨v5, rfl, h50, h51, hb50⟩
      have hb5 : Below w2.heap.size w2 w5 := (Below.drew (Below.refl w2.heap.size w2)).trans hb50
      have H50 := Lib.hid h50
      have H51 := Lib.hid h51
      have cx5 := (hb5.cell (show ad.block < w2.heap.size from Nat.lt_of_lt_of_le hab (Nat.le_trans hwW hb9.size))).trans cx3
      have cy5 := (hb5.cell (p := ⟨ad.block, ad.off + 1, none⟩) (show ad.block < w2.heap.size from Nat.lt_of_lt_of_le hab (Nat.le_trans hwW hb9.size))).trans cy3
      clear h50 h51 HX3 HY3
      go_wp2_with fail
      refine sched_back (by rw [HF1.out]; first | trivial | (repeat' apply And.intro) <;> assumption | (simp; done) | (go_simp; done) | (simp [*]; done)) ?_
      repeat (first | (refine wpSched_free rfl ?_; intro K hK; go_big_quiet_op; go_big_quiet_on) | (refine wpSched_wantS _ rfl rfl rfl ?_; intro K hK; go_big_quiet_op; go_big_quiet_on) | (refine wpSched_skipS _ rfl rfl rfl rfl ?_; simp only [Act.put, List.setIfInBounds_toArray, List.set_cons_zero, List.set_cons_succ]) | (refine wpSched_skipU _ rfl rfl rfl ?_; simp only [Act.put, List.setIfInBounds_toArray, List.set_cons_zero, List.set_cons_succ]))
      refine wpSched_nil ?_
      obtain rfl := H50.out HNE.out
      have hbD : Below w2.heap.size w2 w5 := hb5
      have hb5' := bthen hb2' hbD
      clear H50 H51
      go_wp2_with fail
      go_ret
      exact ⟨rfl, hb5'⟩
    · have g1 : ((m : Int) != 2) = true := by rw [bne_iff_ne]; omega
      have g1' : (m != 2) = true := by rw [bne_iff_ne]; omega
      go_wp2_with fail
      go_ret
      exact ⟨rfl, hb2'⟩
end Go.Proofs.Ytolnhplgaolieaa
