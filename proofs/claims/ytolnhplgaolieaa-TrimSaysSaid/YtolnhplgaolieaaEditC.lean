/- The reference's PlaceOf; the question for an edit that takes much. -/
import Derived.Test.YtolnhplgaolieaaEditB
namespace Go.Proofs.Ytolnhplgaolieaa
open Go.RowKit
theorem Rd.take_ed {w : World} {B n : Nat} {A : Option Addr} {l : List Ed} (h : Rd w B 3 A n (edCells l)) {k : Nat} (hk : k ≤ n) : Rd w B 3 A k (edCells (l.take k)) := by
  have hl := Rd.rec_len ed_len (by omega) h
  have hsp : edCells l = edCells (l.take k) ++ edCells (l.drop k) := by rw [← edCells_append, List.take_append_drop]
  refine ⟨by unfold edCells; rw [flat_len ed_len, List.length_take]; congr 1; omega, fun hn => ?_⟩
  obtain ⟨ad, e, hb, hc⟩ := h.2 (by omega)
  refine ⟨ad, e, hb, fun j u hu => hc j u ?_⟩
  rw [hsp, List.getElem?_append_left (List.getElem?_eq_some_iff.1 hu).1]
  exact hu
def hitB (at_ : Int) (x : Ed) : Prop := x.at_ ≤ at_ ∧ at_ < x.at_ + x.del
theorem place_hit {n at_ : Int} {l : List Ed} (h : edErr n l = 0) {k : Nat} (hk : k < l.length) (hh : hitB at_ l[k]) : plc at_ 0 l = (l[k].at_ + grows (l.take k), false) := by
  have hc := (edErr_zero.1 h).2.2.2.1
  rw [plc_steps at_ l 0 k (by omega) (fun j hj hjk => by
    have h1 := hc.lt j k hj hk hjk
    have h2 := hc.mem l[j] (List.getElem_mem hj)
    have h3 := hh.1
    omega), drop_cons_get hk, plc, if_neg (by have := hh.1; omega), if_pos hh.2, Int.zero_add]
theorem place_none {n at_ : Int} {l : List Ed} (h : edErr n l = 0) {k : Nat} (hk : k ≤ l.length) (hno : ∀ j (h : j < l.length), ¬ hitB at_ l[j]) (hj : ∀ j (h : j < l.length), j < k → l[j].at_ + l[j].del ≤ at_)
    (he : ∀ h : k < l.length, at_ < l[k].at_ + l[k].del) : plc at_ 0 l = (at_ + grows (l.take k), true) := by
  have hc := (edErr_zero.1 h).2.2.2.1
  rw [plc_steps at_ l 0 k hk (fun j hj' hjk => by
    have h1 := hj j hj' hjk
    have h2 := hc.mem l[j] (List.getElem_mem hj')
    omega), Int.zero_add]
  by_cases hk2 : k < l.length
  · have h1 := he hk2
    have h2 := hno k hk2
    unfold hitB at h2
    rw [drop_cons_get hk2, plc, if_pos (by omega)]
  · rw [List.drop_of_length_le (by omega), plc]
theorem ret_ib {a b : Int} {x y : Bool} (h : a = b) (k : x = y) : Ending.returned (.tuple #[.int .i64 a, .bool x]) = .returned (.tuple #[.int .i64 b, .bool y]) := by rw [h, k]
set_option maxRecDepth 100000 in
set_option maxHeartbeats 4000000 in
theorem edPlaceOf_any (n at_ : Int) (l : List Ed) (A : Option Addr) (m c B : Nat) (w : World) (hr : Rd w B 3 A m (edCells l)) (hB : B ≤ w.heap.size) (hmc : m ≤ c) (hE : edErr n l = 0) (h0 : 0 ≤ at_) (h1 : at_ ≤ n) :
    Calls Try.prog 123 #[.slice A m c, .int .i64 at_] w fun e w' => e = .returned (.tuple #[.int .i64 (plc at_ 0 l).1, .bool (plc at_ 0 l).2]) ∧ Below w.heap.size w w' := by
  have hlen := Rd.rec_len ed_len (by omega) hr
  have HR := Lib.hid hr; clear hr
  have HL := Lib.hid hlen; clear hlen
  have hn2 := (edErr_zero.1 hE).2.1
  have HM : Hid (∀ x ∈ l, 0 ≤ x.at_ ∧ 0 ≤ x.del ∧ x.at_ + x.del ≤ n ∧ x.ins.length ≤ 40) := fun x hx => by
    obtain ⟨a, b, c, d, _⟩ := (edErr_zero.1 hE).2.2.2.1.mem x hx; exact ⟨a, b, c, d⟩
  have HSM := Lib.hid (edErr_small hE)
  have hl20 : m ≤ 20 := by rw [← HL.out]; exact (edErr_zero.1 hE).2.2.1
  have HE := Lib.hid hE
  clear hE
  go_enter Try.func123, Try.ntmps123
  go_wp2_with fail
  go_loopw [11] (fun i wr => ∃ k : Nat, k ≤ m ∧ (∀ j (h : j < l.length), j < k → ¬ hitB at_ l[j]) ∧ i = .int .i64 k ∧ Below w.heap.size w wr) (fun i _ => m - (intOf i).toNat)
  case atStart => exact ⟨0, Nat.zero_le _, fun _ _ h => absurd h (by omega), rfl, Below.refl _ _⟩
  case round =>
    obtain ⟨k, hk, hno, rfl, hb⟩ := hrel
    have HNO := Lib.hid hno; clear hno
    have hbs := hb.size
    by_cases hlt : k < m
    · have HRb := Lib.hid (HR.out.below (hb.mono hB))
      obtain ⟨ad, hl, rfl, hab, c0, c1, c2⟩ := HRb.out.at_ed hlt
      obtain ⟨b0, b1, b2, b3⟩ := HM.out l[k] (List.getElem_mem hl)
      have HHIT := Lib.hid (fun hh => place_hit (at_ := at_) HE.out hl hh)
      have HNX : Hid (¬ hitB at_ l[k] → ∀ j (h : j < l.length), j < k + 1 → ¬ hitB at_ l[j]) := fun h j hj hjk => by
        by_cases hjk2 : j = k
        · subst hjk2; exact h
        · exact HNO.out j hj (by omega)
      unfold hitB at HHIT HNX
      have hgb := (HSM.out.take k).grows
      have hkl : (l.take k).length ≤ 20 := by rw [List.length_take]; omega
      obtain ⟨hg0, hg1⟩ := hgb
      have hg2 : -4000 ≤ grows (l.take k) := by omega
      have hg3 : grows (l.take k) ≤ 800 := by omega
      clear hg0 hg1
      generalize l[k] = x at *
      obtain ⟨xa, xd, xi⟩ := x
      simp only at c0 c1 c2 b0 b1 b2 b3 HHIT HNX
      by_cases hh : xa ≤ at_ ∧ at_ < xa + xd
      · obtain ⟨hh1, hh2⟩ := hh
        have HP := Lib.hid (HHIT.out ⟨hh1, hh2⟩)
        clear HHIT HNX
        go_wp2_with fail
        obtain ⟨F1, hFd⟩ : ∃ F : World → Prop, F = fun w' => w'.cell? ⟨wr.heap.size, 0, none⟩ = some (.int .i64 xa) := ⟨_, rfl⟩
        have HF1 := Lib.hid hFd
        clear hFd
        have hcell10 : ∀ p' : Wof F1, p'.w.cell? ⟨wr.heap.size, 0, none⟩ = some (.int .i64 xa) := fun ⟨x, hx⟩ => by rw [HF1.out] at hx; exact hx
        refine wp_region_schedF [(0, true), (1, true), (2, true), (3, true), (4, true), (5, false), (6, true), (7, true), (8, true)] F1 (by kernel_rfl) (by kernel_rfl) rfl (fun _ _ _ _ _ h => h) (by kernel_rfl) (by rw [HF1.out]; first | trivial | (repeat' apply And.intro) <;> assumption | (simp; done) | (simp [*]; done)) (by rw [HF1.out]; exact fun h => h) ?_
        intro hne1
        simp only [opersOf, List.getElem?_toArray, List.getElem?_cons_succ, List.getElem?_cons_zero]
        repeat (first | (refine wpSched_free rfl ?_; intro K hK; go_big_quiet_op; go_big_quiet_on) | (refine wpSched_wantS _ rfl rfl rfl ?_; intro K hK; go_big_quiet_op; go_big_quiet_on) | (refine wpSched_skipS _ rfl rfl rfl rfl ?_; simp only [Act.put, List.setIfInBounds_toArray, List.set_cons_zero, List.set_cons_succ]) | (refine wpSched_skipU _ rfl rfl rfl ?_; simp only [Act.put, List.setIfInBounds_toArray, List.set_cons_zero, List.set_cons_succ]))
        refine wpSched_other ?_
        go_wp2_with fail
        have hbA : Below wr.heap.size wr (wr.alloc (.cells #[.int .i64 xa, .int .i64 xd, .string (S xi)] 73)).drew := (by repeat (first | exact Below.refl _ _ | assumption | refine Below.alloc ?_ (by first | exact Nat.le_refl _ | assumption | omega | (simp <;> omega)) _ | refine Below.setCell ?_ (by first | exact Nat.le_refl _ | assumption | omega | (simp <;> omega)) _ | refine Below.drew ?_ | refine below_drewN ?_ _))
        refine (grows_any (l.take k) (some ad) k c B _ ((HRb.out.take_ed hk).below (hbA.mono (Nat.le_trans hB hbs))) (Nat.le_trans (Nat.le_trans hB hbs) hbA.size) (by omega) (HSM.out.take k)).mono ?_
        rintro e w2 ⟨rfl, hb2⟩
        have e0 : w2.cell? ⟨wr.heap.size, 0, none⟩ = some (.int .i64 xa) := (hb2.cell (p := ⟨wr.heap.size, 0, none⟩) (by simp)).trans (by simp)
        have hb3 := bthen hb (bthen hbA hb2)
        generalize grows (l.take k) = g at *
        clear hb2 hbA
        go_wp2_with fail
        refine sched_back (by rw [HF1.out]; exact e0) ?_
        repeat (first | (refine wpSched_free rfl ?_; intro K hK; go_big_quiet_op; go_big_quiet_on) | (refine wpSched_wantS _ rfl rfl rfl ?_; intro K hK; go_big_quiet_op; go_big_quiet_on) | (refine wpSched_skipS _ rfl rfl rfl rfl ?_; simp only [Act.put, List.setIfInBounds_toArray, List.set_cons_zero, List.set_cons_succ]) | (refine wpSched_skipU _ rfl rfl rfl ?_; simp only [Act.put, List.setIfInBounds_toArray, List.set_cons_zero, List.set_cons_succ]))
        refine wpSched_nil ?_
        go_wp2_with fail
        go_ret2
        exact ⟨ret_ib (by rw [HP.out]) (by rw [HP.out]), hb3⟩
      · have HNX' := Lib.hid (HNX.out hh)
        clear HNX HHIT
        go_wp2_with fail
        all_goals first
          | (exfalso; omega)
          | (go_roundw
             case rel => exact ⟨k + 1, by omega, (fun j hj hjk => by first | exact HNX'.out j hj hjk | (have := HNX'.out j hj hjk; unfold hitB at this ⊢; omega)), by go_num, (by repeat (first | exact Below.refl _ _ | assumption | refine Below.alloc ?_ (by first | exact Nat.le_refl _ | assumption | omega | (simp <;> omega)) _ | refine Below.setCell ?_ (by first | exact Nat.le_refl _ | assumption | omega | (simp <;> omega)) _ | refine Below.drew ?_ | refine below_drewN ?_ _))⟩
             case measure => simp [intOf]; omega)
    · obtain rfl : k = m := by omega
      go_wp2_with fail
      go_loopw [8] (fun i wr => ∃ j : Nat, j ≤ k ∧ (∀ i (h : i < l.length), i < j → l[i].at_ + l[i].del ≤ at_) ∧ i = .int .i64 j ∧ Below w.heap.size w wr) (fun i _ => k - (intOf i).toNat)
      case atStart => exact ⟨0, Nat.zero_le _, fun _ _ h => absurd h (by omega), rfl, hb⟩
      case round =>
        obtain ⟨j, hj, hend, rfl, hb⟩ := hrel
        have HEND := Lib.hid hend; clear hend
        have hbs2 := hb.size
        by_cases hjk : j < k
        · obtain ⟨ad, hl, hAd, hab, c0, c1, c2⟩ := (HR.out.below (hb.mono hB)).at_ed hjk
          obtain ⟨b0, b1, b2, b3⟩ := HM.out l[j] (List.getElem_mem hl)
          by_cases he : l[j].at_ + l[j].del ≤ at_
          · have HNX : Hid (∀ i (h : i < l.length), i < j + 1 → l[i].at_ + l[i].del ≤ at_) := fun i hi hij => by
              by_cases h2 : i = j
              · subst h2; exact he
              · exact HEND.out i hi (by omega)
            subst hAd
            generalize l[j] = x at *
            obtain ⟨xa, xd, xi⟩ := x
            simp only at c0 c1 c2 b0 b1 b2 b3 he
            have g1 : decide (j < k) = true := decide_eq_true hjk
            go_wp2_with fail
            go_quiet (fail)
            go_wp2_with fail
            go_roundw
            case rel => exact ⟨j + 1, by omega, HNX.out, by go_num, (by repeat (first | exact Below.refl _ _ | assumption | refine Below.alloc ?_ (by first | exact Nat.le_refl _ | assumption | omega | (simp <;> omega)) _ | refine Below.setCell ?_ (by first | exact Nat.le_refl _ | assumption | omega | (simp <;> omega)) _ | refine Below.drew ?_ | refine below_drewN ?_ _))⟩
            case measure => simp [intOf]; omega
          · have HP := Lib.hid (place_none HE.out (by rw [HL.out]; exact hj) (fun i hi => HNO.out i hi (by rw [← HL.out]; exact hi)) HEND.out (fun _ => Int.not_le.1 he))
            subst hAd
            have he' : at_ < l[j].at_ + l[j].del := Int.not_le.1 he
            clear he
            generalize l[j] = x at *
            obtain ⟨xa, xd, xi⟩ := x
            simp only at c0 c1 c2 b0 b1 b2 b3 he'
            have g1 : decide (j < k) = true := decide_eq_true hjk
            have g2 : decide (xa + xd ≤ at_) = false := decide_eq_false (by omega)
            go_wp2_with fail
            go_quiet (fail)
            have hgb := (HSM.out.take j).grows
            have hkl : (l.take j).length ≤ 20 := by rw [List.length_take]; omega
            obtain ⟨hg0, hg1⟩ := hgb
            have hg2 : -4000 ≤ grows (l.take j) := by omega
            have hg3 : grows (l.take j) ≤ 800 := by omega
            clear hg0 hg1
            have hb9 := below_drewN hb nq
            generalize World.drewN wr nq = w9 at *
            clear hb
            go_wp2_with fail
            refine (grows_any (l.take j) (some ad) j c B _ (((HR.out.take_ed hj).below (hb9.mono hB))) (Nat.le_trans hB hb9.size) (by omega) (HSM.out.take j)).mono ?_
            rintro e w2 ⟨rfl, hb2⟩
            generalize grows (l.take j) = g at *
            go_wp2_with fail
            go_ret2
            exact ⟨ret_ib (by rw [HP.out]) (by rw [HP.out]), bthen hb9 hb2⟩
        · obtain rfl : j = k := by omega
          have HP := Lib.hid (place_none HE.out (by rw [HL.out]; exact hj) (fun i hi => HNO.out i hi (by rw [← HL.out]; exact hi)) HEND.out (fun h => by rw [HL.out] at h; omega))
          have g1 : decide (j < j) = false := by simp
          go_wp2_with fail
          go_quiet (fail)
          have hgb := (HSM.out.take j).grows
          have hkl : (l.take j).length ≤ 20 := by rw [List.length_take]; omega
          obtain ⟨hg0, hg1⟩ := hgb
          have hg2 : -4000 ≤ grows (l.take j) := by omega
          have hg3 : grows (l.take j) ≤ 800 := by omega
          clear hg0 hg1
          have hb9 := below_drewN hb nq
          generalize World.drewN wr nq = w9 at *
          clear hb
          go_wp2_with fail
          refine (grows_any (l.take j) A j c B _ (((HR.out.take_ed hj).below (hb9.mono hB))) (Nat.le_trans hB hb9.size) (by omega) (HSM.out.take j)).mono ?_
          rintro e w2 ⟨rfl, hb2⟩
          generalize grows (l.take j) = g at *
          go_wp2_with fail
          go_ret2
          exact ⟨ret_ib (by rw [HP.out]) (by rw [HP.out]), bthen hb9 hb2⟩
end Go.Proofs.Ytolnhplgaolieaa
