/- The reference's Grows and EditsErr. -/
import Derived.Test.YtmikckhihfcooaaGreatDoorEditW
namespace Go.Proofs.YtmikckhihfcooaaGreatDoor
open Go.RowKit
/-- Edits that are small. -/
def Small (l : List Ed) : Prop := ∀ x ∈ l, 0 ≤ x.del ∧ x.del ≤ 200 ∧ x.ins.length ≤ 40
theorem Small.grows {l : List Ed} (h : Small l) : -(200 * l.length : Int) ≤ grows l ∧ grows l ≤ 40 * l.length := by
  induction l with
  | nil => simp [Go.Proofs.YtmikckhihfcooaaGreatDoor.grows]
  | cons x r ih =>
    have h1 := h x (by simp)
    have h2 := ih (fun y hy => h y (by simp [hy]))
    simp only [Go.Proofs.YtmikckhihfcooaaGreatDoor.grows, List.length_cons]
    omega
theorem grows_take_succ (l : List Ed) (k : Nat) (hk : k < l.length) : grows (l.take (k + 1)) = grows (l.take k) + (l[k].ins.length - l[k].del) := by
  rw [List.take_succ_eq_append_getElem hk, grows_append]; simp [grows]
theorem Small.take {l : List Ed} (h : Small l) (k : Nat) : Small (l.take k) := fun x hx => h x (List.mem_of_mem_take hx)
set_option maxRecDepth 100000 in
set_option maxHeartbeats 1000000 in
theorem grows_any (l : List Ed) (A : Option Addr) (m c B : Nat) (w : World) (hr : Rd w B 3 A m (edCells l)) (hB : B ≤ w.heap.size) (hm : m ≤ 1000) (hs : Small l) :
    Calls Tryz.prog 38 #[.slice A m c] w fun e w' => e = .returned (.int .i64 (grows l)) ∧ Below w.heap.size w w' := by
  have hlen := Rd.rec_len ed_len (by omega) hr
  have HR := Lib.hid hr; clear hr
  have HL := Lib.hid hlen; clear hlen
  have HS := Lib.hid hs; clear hs
  go_enter Tryz.func38, Tryz.ntmps38
  go_wp2
  go_loopw [3, 8] (fun s i wr => ∃ k : Nat, k ≤ m ∧ i = .int .i64 k ∧ s = .int .i64 (grows (l.take k)) ∧ Below w.heap.size w wr) (fun _ i _ => m - (intOf i).toNat)
  case atStart => exact ⟨0, Nat.zero_le _, rfl, rfl, Below.refl _ _⟩
  case round =>
    obtain ⟨k, hk, rfl, rfl, hb⟩ := hrel
    have hbs := hb.size
    by_cases hlt : k < m
    · obtain ⟨ad, hl, rfl, hab, c0, c1, c2⟩ := (HR.out.below (hb.mono hB)).at_ed hlt
      have HG := Lib.hid (grows_take_succ l k hl)
      have hg := (HS.out.take k).grows
      have hkl : (l.take k).length = k := by rw [List.length_take]; omega
      rw [hkl] at hg
      obtain ⟨hd0, hd1, hi⟩ := HS.out l[k] (List.getElem_mem hl)
      obtain ⟨g0, g1⟩ := hg
      have hz : (S l[k].ins).size = l[k].ins.length := S_size _
      have HZ := Lib.hid hz
      have hz2 : (S l[k].ins).size ≤ 40 := by omega
      clear hz hkl
      generalize l[k] = x at *
      generalize grows (l.take k) = g at *
      obtain ⟨xa, xd, xi⟩ := x
      simp only at c0 c1 c2 HG HZ hd0 hd1 hi hz2
      go_wp2
      go_roundw
      case rel => exact ⟨k + 1, by omega, by go_num, by rw [HG.out, HZ.out], (by repeat (first | exact Below.refl _ _ | assumption | refine Below.alloc ?_ (by first | exact Nat.le_refl _ | assumption | omega | (simp <;> omega)) _ | refine Below.setCell ?_ (by first | exact Nat.le_refl _ | assumption | omega | (simp <;> omega)) _ | refine Below.drew ?_ | refine below_drewN ?_ _))⟩
      case measure => simp [intOf]; omega
    · obtain rfl : k = m := by omega
      have HT : Hid (l.take k = l) := by unfold Hid; rw [List.take_of_length_le (by rw [HL.out]; omega)]
      go_wp2
      go_ret
      exact ⟨ret_int (by rw [HT.out]), hb⟩
theorem EdAt.lastE {n : Int} {l : List Ed} {k : Nat} {e : Int} (h : EdAt n l k e) (hk : 0 < k) : ∃ hl : k - 1 < l.length, e = l[k - 1].at_ + l[k - 1].del ∧ 0 ≤ l[k - 1].del ∧ l[k - 1].del ≤ 200 := by
  have hle := h.le
  have h1 := h.last
  obtain ⟨j, rfl⟩ : ∃ j, k = j + 1 := ⟨k - 1, by omega⟩
  have h2 := lastEnd_take l j (by omega)
  rw [h1, if_neg (by omega)] at h2
  injection h2 with h2
  have h3 := h.chain l[j] (by rw [List.take_succ_eq_append_getElem (show j < l.length by omega)]; exact List.mem_append_right _ (by simp))
  exact ⟨by omega, h2, h3.1, h3.2.1⟩
set_option maxRecDepth 100000 in
set_option maxHeartbeats 4000000 in
theorem editsErr_any (n : Int) (l : List Ed) (A : Option Addr) (m c B : Nat) (w : World) (hr : Rd w B 3 A m (edCells l)) (hB : B ≤ w.heap.size) (hm : m ≤ 9223372036854775807) :
    Calls Tryz.prog 25 #[.int .i64 n, .slice A m c] w fun e w' => e = .returned (.int .i64 (edErr n l)) ∧ Below w.heap.size w w' := by
  have hlen := Rd.rec_len ed_len (by omega) hr
  by_cases hn : n < 0 ∨ 200 < n
  · have HE : Hid (edErr n l = 1) := by unfold Hid edErr; rw [if_pos hn]
    have HN := Lib.hid hn; clear hn hr
    go_enter Tryz.func25, Tryz.ntmps25
    go_wp2
    all_goals first
      | (go_ret; exact ⟨ret_int HE.out.symm, Below.refl _ _⟩)
      | (exfalso; have := HN.out; omega)
  have hn0 : 0 ≤ n := by omega
  have hn1 : n ≤ 200 := by omega
  have HN := Lib.hid hn; clear hn
  by_cases h20 : 20 < m
  · have HE : Hid (edErr n l = 2) := by unfold Hid edErr; rw [if_neg HN.out, if_pos (by omega)]
    clear hr
    go_enter Tryz.func25, Tryz.ntmps25
    go_wp2
    go_ret
    exact ⟨ret_int HE.out.symm, Below.refl _ _⟩
  have HR := Lib.hid hr; clear hr
  have HL := Lib.hid hlen; clear hlen
  go_enter Tryz.func25, Tryz.ntmps25
  go_wp2
  go_loopw [18] (fun i wr => ∃ (k : Nat) (e' : Int), EdAt n l k e' ∧ i = .int .i64 k ∧ Below w.heap.size w wr)
    (fun i _ => m - (intOf i).toNat)
  case atStart => exact ⟨0, 0, EdAt.start hn0 l, rfl, Below.refl _ _⟩
  case round =>
    obtain ⟨k, e', HA, rfl, hb⟩ := hrel
    have hk := HA.le
    rw [HL.out] at hk
    have hbs := hb.size
    have he0 := HA.e0
    have he1 := HA.e1
    by_cases hlt : k < m
    · have HRb := Lib.hid (HR.out.below (hb.mono hB))
      obtain ⟨ad, hl, rfl, hab, c0, c1, c2⟩ := HRb.out.at_ed hlt
      have HSt : Hid (edAt n k e' l[k] = 0 → EdAt n l (k + 1) (l[k].at_ + l[k].del) ∧ grows (l.take (k + 1)) = grows (l.take k) + (l[k].ins.length - l[k].del)) := HA.step hn1 hl
      have HBd : Hid (∀ c, edAt n k e' l[k] = c → c ≠ 0 → edErr n l = c) := fun c => HA.bad hn0 hn1 (by rw [HL.out]; omega) hl
      have hz : (S l[k].ins).size = l[k].ins.length := S_size _
      have HZ := Lib.hid hz; clear hz
      have HZ1 : Hid ((S l[k].ins).toList.isEmpty = decide (l[k].ins.length = 0)) := isEmpty_size _
      by_cases hk0 : k = 0
      · have HK0 := Lib.hid hk0
        have g0 : decide ((0 : Int) < (k : Int)) = false := by simp; omega
        have g1 : decide (0 < k) = false := by simp; omega
        clear hk0
        generalize l[k] = x at *
        obtain ⟨xa, xd, xi⟩ := x
        simp only at c0 c1 c2 HSt HBd HZ HZ1
        clear HA
        go_wp2
        all_goals first
        | (go_ret
           refine ⟨ret_int (HBd.out _ ?_ (by decide)).symm, (by repeat (first | exact Below.refl _ _ | assumption | refine Below.alloc ?_ (by first | exact Nat.le_refl _ | assumption | omega | (simp <;> omega)) _ | refine Below.setCell ?_ (by first | exact Nat.le_refl _ | assumption | omega | (simp <;> omega)) _ | refine Below.drew ?_ | refine below_drewN ?_ _))⟩
           go_light
           have hz := HZ.out; have hz1 := HZ1.out; have hk0 := HK0.out
           clear HBd HSt HZ HZ1 HK0
           unfold edAt
           grind)
        | (go_quiet (fail)
           go_wp2_with fail
           go_roundw
           case rel =>
             go_light
             have hz := HZ.out; have hz1 := HZ1.out; have hk0 := HK0.out
             have h0 : edAt n k e' ⟨xa, xd, xi⟩ = 0 := by
               clear HBd HSt HZ HZ1 HK0
               unfold edAt
               grind
             exact ⟨k + 1, _, (HSt.out h0).1, by go_num, below_drewN (by repeat (first | exact Below.refl _ _ | assumption | refine Below.alloc ?_ (by first | exact Nat.le_refl _ | assumption | omega | (simp <;> omega)) _ | refine Below.setCell ?_ (by first | exact Nat.le_refl _ | assumption | omega | (simp <;> omega)) _ | refine Below.drew ?_ | refine below_drewN ?_ _)) _⟩
           case measure => simp [intOf]; omega)
      · have HLE := Lib.hid (HA.lastE (by omega))
        obtain ⟨ad', hl', hA', ha', d0, d1, d2⟩ := HRb.out.at_ed (k := k - 1) (by omega)
        cases hA'
        have d0 : ∀ o, (wr.alloc o).cell? (ad.add ((k - 1) * 3)) = some (.int .i64 (l[k - 1]'hl').at_) := fun o => (World.cell?_alloc_lt wr o _ (by rw [blk_add]; omega)).trans d0
        have d1 : ∀ o, (wr.alloc o).cell? ⟨(ad.add ((k - 1) * 3)).block, (ad.add ((k - 1) * 3)).off + 1, none⟩ = some (.int .i64 (l[k - 1]'hl').del) := fun o => (World.cell?_alloc_lt wr o _ (by show (ad.add ((k - 1) * 3)).block < _; rw [blk_add]; omega)).trans d1
        clear ha' d2
        have HK0 := Lib.hid hk0
        obtain ⟨hz9, hpe9, hp0, hp1⟩ := HLE.out
        have hpE := Lib.hid hpe9
        clear hpe9
        have hpA : 0 ≤ l[k - 1].at_ + l[k - 1].del := by rw [← hpE.out]; exact he0
        have hpB : l[k - 1].at_ + l[k - 1].del ≤ 200 := by rw [← hpE.out]; omega
        clear HLE
        have hk1 : 1 ≤ k := by omega
        have g0 : decide ((0 : Int) < (k : Int)) = true := by simp; omega
        have g1 : decide (0 < k) = true := by simp; omega
        generalize l[k - 1] = y at *
        generalize l[k] = x at *
        obtain ⟨xa, xd, xi⟩ := x
        obtain ⟨ya, yd, yi⟩ := y
        simp only at c0 c1 c2 HSt HBd HZ HZ1 d0 d1 hp0 hp1 hpE hpA hpB
        clear HA
        have hpE' := hpE
        go_wp2
        all_goals first
        | (go_ret
           refine ⟨ret_int (HBd.out _ ?_ (by decide)).symm, (by repeat (first | exact Below.refl _ _ | assumption | refine Below.alloc ?_ (by first | exact Nat.le_refl _ | assumption | omega | (simp <;> omega)) _ | refine Below.setCell ?_ (by first | exact Nat.le_refl _ | assumption | omega | (simp <;> omega)) _ | refine Below.drew ?_ | refine below_drewN ?_ _))⟩
           go_light
           have hz := HZ.out; have hz1 := HZ1.out; have hk0 := HK0.out
           clear HBd HSt HZ HZ1 HK0
           unfold edAt; have he := hpE'.out
           grind)
        | (by_cases hov : xa ≤ ya + yd
           · have g2 : decide (xa ≤ ya + yd) = true := decide_eq_true hov
             go_quiet (fail)
             go_wp2_with fail
             go_ret
             refine ⟨ret_int (HBd.out _ ?_ (by decide)).symm, below_drewN (by repeat (first | exact Below.refl _ _ | assumption | refine Below.alloc ?_ (by first | exact Nat.le_refl _ | assumption | omega | (simp <;> omega)) _ | refine Below.setCell ?_ (by first | exact Nat.le_refl _ | assumption | omega | (simp <;> omega)) _ | refine Below.drew ?_ | refine below_drewN ?_ _)) _⟩
             go_light
             have hz := HZ.out; have hz1 := HZ1.out; have hk0 := HK0.out; have he := hpE'.out
             clear HBd HSt HZ HZ1 HK0
             unfold edAt
             grind
           · have g2 : decide (xa ≤ ya + yd) = false := decide_eq_false hov
             go_quiet (fail)
             go_wp2_with fail
             go_roundw
             case rel =>
               go_light
               have hz := HZ.out; have hz1 := HZ1.out; have hk0 := HK0.out
               have h0 : edAt n k e' ⟨xa, xd, xi⟩ = 0 := by
                 clear HBd HSt HZ HZ1 HK0
                 unfold edAt; have he := hpE'.out
                 grind
               exact ⟨k + 1, _, (HSt.out h0).1, by go_num, below_drewN (by repeat (first | exact Below.refl _ _ | assumption | refine Below.alloc ?_ (by first | exact Nat.le_refl _ | assumption | omega | (simp <;> omega)) _ | refine Below.setCell ?_ (by first | exact Nat.le_refl _ | assumption | omega | (simp <;> omega)) _ | refine Below.drew ?_ | refine below_drewN ?_ _)) _⟩
             case measure => simp [intOf]; omega)
    · have HF := Lib.hid (HA.fin hn0 hn1 (by rw [HL.out]; omega) (by rw [HL.out]; omega))
      obtain rfl : k = m := by omega
      have HT : Hid (l.take k = l) := by unfold Hid; rw [List.take_of_length_le (by rw [HL.out]; omega)]
      rw [HT.out] at HF
      have hsm : Small l := by have := HA.chain; rw [HT.out] at this; exact this
      have glo := HA.lo
      have ghi := HA.hi
      rw [HT.out] at glo ghi
      have HSM := Lib.hid hsm
      clear HA hsm
      go_wp2_with fail
      refine (grows_any l A k c B wr (HR.out.below (hb.mono hB)) (Nat.le_trans hB hbs) (by omega) HSM.out).mono ?_
      rintro e w2 ⟨rfl, hb2⟩
      have hb3 := hb.trans (hb2.mono hbs)
      generalize grows l = g at *
      go_wp2
      all_goals go_ret
      all_goals refine ⟨ret_int ?_, hb3⟩
      all_goals (rw [HF.out]; split <;> first | rfl | omega)
end Go.Proofs.YtmikckhihfcooaaGreatDoor
