/- The law TreeSays, walked: wrong weights. -/
import Derived.Test.YtmmamdjbbpeifaaTreL0
import Derived.Test.YtmmamdjbbpeifaaTreD
import Derived.Test.YtmmamdjbbpeifaaCodeN
import Derived.Test.YtmmamdjbbpeifaaLogW
namespace Go.Proofs.Ytmmamdjbbpeifaa
open Go.RowKit
set_option maxRecDepth 100000 in
set_option maxHeartbeats 4000000 in
theorem treeBad_any (ws ls : List Int) (A A2 : Option Addr) (m c m2 c2 : Nat) (w : World) (hr : Rd w w.heap.size 1 A m (ints ws)) (hm : m ≤ 9223372036854775807) (hr2 : Rd w w.heap.size 1 A2 m2 (ints ls)) (hm2 : m2 ≤ 9223372036854775807) (h : wErr ws ≠ 0) :
    Calls Try.prog 6 #[.slice A m c, .slice A2 m2 c2] w fun e w' => e = .returned (.bool true) ∧ Below w.heap.size w w' := by
  have HCA := Lib.hid (costAns_w (ls := ls) h)
  have HNE := Lib.hid h
  have g1 : (wErr ws != (0 : Int)) = true := by rw [bne_iff_ne]; exact h
  clear h
  have HB0 : Hid (Below w.heap.size w (w.alloc (.cells #[.slice A m c] 22))) := (Below.refl _ _).alloc (Nat.le_refl _) _
  have hbk := Blk.new_ w 22 #[.slice A m c]
  have H1 : Hid (∀ W, Below w.heap.size w W → Rd W w.heap.size 1 A m (ints ws)) := fun W hW => hr.below hW
  have H2 : Hid (∀ W, Below w.heap.size w W → Rd W w.heap.size 1 A2 m2 (ints ls)) := fun W hW => hr2.below hW
  clear hr hr2
  obtain ⟨wb, hwb⟩ : ∃ wb, wb = w.alloc (.cells #[.slice A m c] 22) := ⟨_, rfl⟩
  rw [← hwb] at HB0 hbk
  have HWB := Lib.hid hwb
  clear hwb
  go_enter Try.func6, Try.ntmps6
  go_wp2_with fail
  rw [← HWB.out]
  refine (lensErr_walk ws A m c w.heap.size wb (H1.out wb HB0.out) hm HNE.out).mono ?_
  rintro e w1 ⟨rfl, hw1⟩
  rw [hw1]
  clear hw1 w1
  have k0 := hbk.cell0
  go_wp2_with fail
  refine (treeCost_any ws ls A A2 m c m2 c2 w.heap.size wb (H1.out wb HB0.out) (H2.out wb HB0.out) HB0.out.size hm hm2).mono ?_
  rintro e w2 ⟨rfl, hb2⟩
  rw [HCA.out]
  have hB2 := HB0.out.trans (hb2.mono HB0.out.size)
  have hbk2 := hbk.below' hb2
  have k2 := hbk2.cell0
  go_wp2_with fail
  refine (makeErr_any ws A m c w.heap.size w2 (H1.out w2 hB2) hm HNE.out).mono ?_
  rintro e w1 ⟨rfl, hw1⟩
  rw [hw1]
  clear hw1 w1
  go_wp2_with fail
  refine (weightErr_any ws A m c w.heap.size w2 (H1.out w2 hB2) hm).mono ?_
  rintro e w1 ⟨rfl, hw1⟩
  rw [hw1]
  clear hw1 w1
  go_wp2_with fail
  refine (treeCheck_any ws A m c w.heap.size w2 (H1.out w2 hB2) hm).mono ?_
  rintro e w1 ⟨rfl, hw1⟩
  rw [hw1]
  clear hw1 w1
  go_wp2_with fail
  go_ret
  exact ⟨ret_bool (by simp), hB2⟩
set_option maxRecDepth 100000 in
set_option maxHeartbeats 8000000 in
theorem treeFine_any (ns : List Nat) (ls : List Int) (A A2 : Option Addr) (m c m2 c2 : Nat) (w : World) (hr : Rd w w.heap.size 1 A m (ints (intN ns))) (hm : m ≤ 9223372036854775807) (hr2 : Rd w w.heap.size 1 A2 m2 (ints ls)) (hm2 : m2 ≤ 9223372036854775807) (h : wErr (intN ns) = 0) :
    Calls Try.prog 6 #[.slice A m c, .slice A2 m2 c2] w fun e w' => e = .returned (.bool true) ∧ Below w.heap.size w w' := by
  have hwl : ns.length = m := by have := hr.1; simpa [ints, intN] using this
  have hll : ls.length = m2 := by have := hr2.1; simpa [ints] using this
  obtain ⟨hm12', hbw⟩ := wErr_bd h
  rw [intN_len] at hm12' hbw
  have hm12 : m ≤ 12 := by omega
  obtain ⟨q1, q2, q3, q4⟩ := lensOf_err (ws := ns) hm12'
  have HQ := Lib.hid (And.intro q1 (And.intro q2 (And.intro q3 q4)))
  have HWL := Lib.hid hwl
  have HLL := Lib.hid hll
  have HBW := Lib.hid hbw
  have HZ := Lib.hid h
  have HB0 : Hid (Below w.heap.size w (w.alloc (.cells #[.slice A m c] 22))) := (Below.refl _ _).alloc (Nat.le_refl _) _
  have hbk := Blk.new_ w 22 #[.slice A m c]
  have H1 : Hid (∀ W, Below w.heap.size w W → Rd W w.heap.size 1 A m (ints (intN ns))) := fun W hW => hr.below hW
  have H2 : Hid (∀ W, Below w.heap.size w W → Rd W w.heap.size 1 A2 m2 (ints ls)) := fun W hW => hr2.below hW
  clear hr hr2 hwl hll hbw q1 q2 q3 h
  by_cases hE : (lensErr ls).2 = 0
  · obtain ⟨x, hx⟩ : ∃ x, lensErr ls = (x, 0) := ⟨(lensErr ls).1, by rw [← hE]⟩
    by_cases hml : m2 = m
    · obtain rfl : m = m2 := hml.symm
      obtain ⟨ct, hct⟩ : ∃ ct, costTo (intN ns) ls m = ct := ⟨_, rfl⟩
      have HCA : Hid (costAns (intN ns) ls = (ct, 0)) := by
        have h1 := costAns_ok (ws := intN ns) (ls := ls) HZ.out hE (by rw [HLL.out, intN_len, HWL.out])
        rw [intN_len, HWL.out, hct] at h1
        exact h1
      have HCT := Lib.hid hct
      clear hct
      have HX := Lib.hid hx
      have HBL := Lib.hid (lensErr_bd hE)
      clear hx hE
      obtain ⟨wb, hwb⟩ : ∃ wb, wb = w.alloc (.cells #[.slice A m c] 22) := ⟨_, rfl⟩
      rw [← hwb] at HB0 hbk
      have HWB := Lib.hid hwb
      clear hwb
      go_enter Try.func6, Try.ntmps6
      go_wp2_with fail
      rw [← HWB.out]
      refine (lens_any ns A m c w.heap.size wb (H1.out wb HB0.out) HB0.out.size HZ.out hm12).mono ?_
      rintro e w1 ⟨v, rfl, hown1, hb1⟩
      obtain ⟨A1, c1, rfl, hn1, hm1, hrd1⟩ := own_form hown1
      have HLS : Hid (∀ W, Below w1.heap.size w1 W → Rd W w1.heap.size 1 A1 m (ints (intN (lensOf ns)))) := fun W hW => hrd1.below hW
      clear hown1 hrd1 hn1 hm1
      have hB1 := HB0.out.trans (hb1.mono HB0.out.size)
      have hbk1 := hbk.below' hb1
      have k1 := hbk1.cell0
      go_wp2_with fail
      refine (treeCost_any (intN ns) ls A A2 m c m c2 w.heap.size w1 (H1.out w1 hB1) (H2.out w1 hB1) hB1.size hm hm).mono ?_
      rintro e w2 ⟨rfl, hb2⟩
      rw [HCA.out]
      have hB2 := bthen hB1 hb2
      have hbk2 := hbk1.below' hb2
      have k2 := hbk2.cell0
      go_wp2_with fail
      refine (make_any ns A m c w.heap.size w2 (H1.out w2 hB2) hB2.size HZ.out hm12).mono ?_
      rintro e w3 ⟨v, rfl, hown3, hb3⟩
      obtain ⟨A3, c3, rfl, hn3, hm3, hrd3⟩ := own_form hown3
      have HMK : Hid (∀ W, Below w3.heap.size w3 W → Rd W w3.heap.size 1 A3 m (strCells (codesL (lensOf ns)))) := fun W hW => hrd3.below hW
      clear hown3 hrd3 hn3 hm3
      have hB3 := bthen hB2 hb3
      have hb13 := bthen hb2 hb3
      have hbk3 := hbk2.below' hb3
      have k3 := hbk3.cell0
      go_wp2_with fail
      refine (weightErr_any (intN ns) A m c w.heap.size w3 (H1.out w3 hB3) hm).mono ?_
      rintro e w4 ⟨rfl, hw4⟩
      rw [hw4, HZ.out]
      clear hw4 w4
      go_wp2_with fail
      refine (treeCheck_any (intN ns) A m c w.heap.size w3 (H1.out w3 hB3) hm).mono ?_
      rintro e w4 ⟨rfl, hw4⟩
      rw [hw4, HZ.out]
      clear hw4 w4
      go_wp2_with fail
      refine (coLens_any ls A2 m c2 w.heap.size w3 (H2.out w3 hB3) hm).mono ?_
      rintro e w6 ⟨rfl, hb6⟩
      have hb16 := bthen hb13 hb6
      have hB6 := bthen hB3 hb6
      have hbk6 := hbk3.below' hb6
      have k6 := hbk6.cell0
      rw [HX.out]
      have HCL : Hid (∀ W, Below w6.heap.size w6 W → Calls Try.prog 35 #[.slice A2 m c2, .pointer (some ⟨w.heap.size, 0, none⟩)] W fun e w' => e = .returned (.int .i64 ct) ∧ Below W.heap.size W w') := fun W hW => HCT.out ▸
        lawCost_below (intN ns) ls A A2 m c m c2 w.heap.size w.heap.size W (H1.out W (bthen hB6 hW)) (H2.out W (bthen hB6 hW)) rfl hm12
          (fun k hk => by have := HBW.out k (by rw [HWL.out]; exact hk); omega)
          (fun k hk => by have := HBL.out.2 k (by rw [HLL.out]; exact hk); omega)
          ((hbk6.below' hW).cell0)
      go_wp2_with fail
      refine (HCL.out _ (Below.refl _ _)).mono ?_
      rintro e w66 ⟨rfl, hb66⟩
      have hbk6 := hbk6.below' hb66
      have k6 := hbk6.cell0
      have hb16 := bthen hb16 hb66
      have hb6 := bthen hb6 hb66
      go_wp2_with fail
      refine (coLens_any (nInts (lensOf ns)) A1 m c1 w1.heap.size w66 (HLS.out w66 hb16) (by omega)).mono ?_
      rintro e w7 ⟨rfl, hb7⟩
      rw [HQ.out.1]
      have hb17 := bthen hb16 hb7
      have hB7 := bthen hB1 hb17
      have hbk7 := hbk1.below' hb17
      have k7 := hbk7.cell0
      have HCC : Hid (∀ W, Below w1.heap.size w1 W → Calls Try.prog 38 #[.slice A1 m c1] W fun e w' => ∃ v, e = .returned (.tuple #[v, .bool true]) ∧ w'.ownsRow W.heap.size 9 1 v m (strCells (codesL (lensOf ns))) ∧ Below W.heap.size W w') := fun W hW =>
        (coCodes_any (lensOf ns) A1 m c1 w1.heap.size W (HLS.out W hW) hW.size HQ.out.2.1 (by rw [HQ.out.2.2.1, HWL.out]; exact hm12)).mono fun e w' ⟨v, b, h1, h2, h3⟩ => by
          obtain ⟨rfl, h4⟩ := h2 HQ.out.2.2.2
          exact ⟨v, h1, h4, h3⟩
      have htot := HQ.out.2.2.2
      have g5 : decide ((4096 : Int) < ((total (lensOf ns) : Nat) : Int)) = false := decide_eq_false (by omega)
      have g5' : decide (4096 < total (lensOf ns)) = false := decide_eq_false (by omega)
      generalize total (lensOf ns) = tot at *
      have HMB : Hid (∀ (w8 w9 : World), Below w7.heap.size w7 w8 → Below w8.heap.size w8 w9 → Below w3.heap.size w3 w9) := fun _ _ h8 h9 => bthen (bthen (bthen hb6 hb7) h8) h9
      by_cases hm0 : m = 0
      · have g6 : decide ((0 : Int) < (m : Int)) = false := decide_eq_false (by omega)
        have g6' : decide (0 < m) = false := decide_eq_false (by omega)
        have HM0 := Lib.hid hm0
        clear hm0
        go_wp2_with fail
        have kq := cell_regrown k7
        refine wp_region_quiet_below (by kernel_rfl) (by kernel_rfl) ?_
        repeat (go_big_quiet_step (fail))
        refine wpQuiet_nil ?_
        intro w8 hb80
        have hb8 := below_of_regrown hb80
        clear hb80
        have hB8 := bthen hB7 hb8
        have hb18 := bthen hb17 hb8
        go_wp2_with fail
        refine (HCC.out w8 hb18).mono ?_
        rintro e w9 ⟨v9, rfl, hown9, hb9⟩
        obtain ⟨A9, c9, rfl, hn9, hm9, hrd9⟩ := own_form hown9
        have hb39 := HMB.out _ _ hb8 hb9
        have HAL := Lib.hid (alike_str_true A3 A9 m c3 c9 _ _ _ w9 (by omega) (HMK.out w9 hb39) hrd9)
        clear hown9 hrd9
        go_wp2_with fail
        refine HAL.out.mono ?_
        rintro e w10 ⟨rfl, hb10⟩
        go_wp2_with fail
        go_ret
        exact ⟨rfl, bthen (bthen hB8 hb9) hb10⟩
      · have g6 : decide ((0 : Int) < (m : Int)) = true := decide_eq_true (by omega)
        have g6' : decide (0 < m) = true := decide_eq_true (by omega)
        have HCO : Hid (∀ W, Below w7.heap.size w7 W → Calls Try.prog 35 #[.slice A1 m c1, .pointer (some ⟨w.heap.size, 0, none⟩)] W fun e w' => e = .returned (.int .i64 ((leastC ns : Nat) : Int)) ∧ Below W.heap.size W w') := fun W hW => by
          have h1 := lawCost_below (intN ns) (intN (lensOf ns)) A A1 m c m c1 w1.heap.size w.heap.size W ((H1.out W (bthen hB7 hW)).more hB1.size) (HLS.out W (bthen hb17 hW)) rfl hm12
            (fun k hk => by have := HBW.out k (by rw [HWL.out]; exact hk); omega)
            (fun k hk => by
              have := HQ.out.2.1 ((lensOf ns).getD k 0) (by rw [List.getD_eq_getElem?_getD, List.getElem?_eq_getElem (by rw [HQ.out.2.2.1, HWL.out]; exact hk)]; exact List.getElem_mem _)
              rw [intN_get0]
              omega)
            ((hbk7.below' hW).cell0)
          have h2 := lensOf_cost (ws := ns) (by rw [HWL.out]; exact hm12) (by rw [HWL.out]; omega)
          rw [HWL.out] at h2
          rw [h2] at h1
          exact h1
        have HLC : Hid (∀ W, Below w7.heap.size w7 W → Calls Try.prog 37 #[.slice A m c] W fun e w' => e = .returned (.int .i64 ((leastC ns : Nat) : Int)) ∧ Below W.heap.size W w') := fun W hW =>
          leastCost_any ns A m c w.heap.size W (H1.out W (bthen hB7 hW)) (Nat.le_trans hB7.size hW.size) hm12 (leastC_bound HZ.out (by rw [HWL.out]; omega))
        generalize leastC ns = lc at *
        go_wp2_with fail
        have kq := cell_regrown k7
        refine wp_region_quiet_below (by kernel_rfl) (by kernel_rfl) ?_
        repeat (go_big_quiet_step ((first
          | (go_at_call 35; exact Calls.regrown_of (HCO.out _ (below_regrown _ _ _)))
          | (go_at_call 37; exact Calls.regrown_of (HLC.out _ (below_regrown _ _ _))))))
        refine wpQuiet_nil ?_
        intro w8 hb80
        have hb8 := below_of_regrown hb80
        clear hb80
        have hB8 := bthen hB7 hb8
        have hb18 := bthen hb17 hb8
        go_wp2_with fail
        refine (HCC.out w8 hb18).mono ?_
        rintro e w9 ⟨v9, rfl, hown9, hb9⟩
        obtain ⟨A9, c9, rfl, hn9, hm9, hrd9⟩ := own_form hown9
        have hb39 := HMB.out _ _ hb8 hb9
        have HAL := Lib.hid (alike_str_true A3 A9 m c3 c9 _ _ _ w9 (by omega) (HMK.out w9 hb39) hrd9)
        clear hown9 hrd9
        go_wp2_with fail
        refine HAL.out.mono ?_
        rintro e w10 ⟨rfl, hb10⟩
        go_wp2_with fail
        go_ret
        exact ⟨rfl, bthen (bthen hB8 hb9) hb10⟩
    · have HCA := Lib.hid (costAns_n (ws := intN ns) (ls := ls) HZ.out hE (by rw [HLL.out, intN_len, HWL.out]; exact hml))
      have HX := Lib.hid hx
      have g2 : ((m2 : Int) != (m : Int)) = true := by rw [bne_iff_ne]; omega
      have g2' : (m2 != m) = true := by rw [bne_iff_ne]; exact hml
      clear hx hE
      obtain ⟨wb, hwb⟩ : ∃ wb, wb = w.alloc (.cells #[.slice A m c] 22) := ⟨_, rfl⟩
      rw [← hwb] at HB0 hbk
      have HWB := Lib.hid hwb
      clear hwb
      go_enter Try.func6, Try.ntmps6
      go_wp2_with fail
      rw [← HWB.out]
      refine (lens_any ns A m c w.heap.size wb (H1.out wb HB0.out) HB0.out.size HZ.out hm12).mono ?_
      rintro e w1 ⟨v, rfl, hown1, hb1⟩
      obtain ⟨A1, c1, rfl, hn1, hm1, hrd1⟩ := own_form hown1
      have HLS : Hid (∀ W, Below w1.heap.size w1 W → Rd W w1.heap.size 1 A1 m (ints (intN (lensOf ns)))) := fun W hW => hrd1.below hW
      clear hown1 hrd1 hn1 hm1
      have hB1 := HB0.out.trans (hb1.mono HB0.out.size)
      have hbk1 := hbk.below' hb1
      have k1 := hbk1.cell0
      go_wp2_with fail
      refine (treeCost_any (intN ns) ls A A2 m c m2 c2 w.heap.size w1 (H1.out w1 hB1) (H2.out w1 hB1) hB1.size hm hm2).mono ?_
      rintro e w2 ⟨rfl, hb2⟩
      rw [HCA.out]
      have hB2 := bthen hB1 hb2
      have hbk2 := hbk1.below' hb2
      have k2 := hbk2.cell0
      go_wp2_with fail
      refine (make_any ns A m c w.heap.size w2 (H1.out w2 hB2) hB2.size HZ.out hm12).mono ?_
      rintro e w3 ⟨v, rfl, hown3, hb3⟩
      obtain ⟨A3, c3, rfl, hn3, hm3, hrd3⟩ := own_form hown3
      have HMK : Hid (∀ W, Below w3.heap.size w3 W → Rd W w3.heap.size 1 A3 m (strCells (codesL (lensOf ns)))) := fun W hW => hrd3.below hW
      clear hown3 hrd3 hn3 hm3
      have hB3 := bthen hB2 hb3
      have hb13 := bthen hb2 hb3
      have hbk3 := hbk2.below' hb3
      have k3 := hbk3.cell0
      go_wp2_with fail
      refine (weightErr_any (intN ns) A m c w.heap.size w3 (H1.out w3 hB3) hm).mono ?_
      rintro e w4 ⟨rfl, hw4⟩
      rw [hw4, HZ.out]
      clear hw4 w4
      go_wp2_with fail
      refine (treeCheck_any (intN ns) A m c w.heap.size w3 (H1.out w3 hB3) hm).mono ?_
      rintro e w4 ⟨rfl, hw4⟩
      rw [hw4, HZ.out]
      clear hw4 w4
      go_wp2_with fail
      refine (coLens_any ls A2 m2 c2 w.heap.size w3 (H2.out w3 hB3) hm2).mono ?_
      rintro e w6 ⟨rfl, hb6⟩
      have hb16 := bthen hb13 hb6
      have hB6 := bthen hB3 hb6
      have hbk6 := hbk3.below' hb6
      have k6 := hbk6.cell0
      rw [HX.out]
      go_wp2_with fail
      refine (coLens_any (nInts (lensOf ns)) A1 m c1 w1.heap.size w6 (HLS.out w6 hb16) (by omega)).mono ?_
      rintro e w7 ⟨rfl, hb7⟩
      rw [HQ.out.1]
      have hb17 := bthen hb16 hb7
      have hB7 := bthen hB1 hb17
      have hbk7 := hbk1.below' hb17
      have k7 := hbk7.cell0
      have HCC : Hid (∀ W, Below w1.heap.size w1 W → Calls Try.prog 38 #[.slice A1 m c1] W fun e w' => ∃ v, e = .returned (.tuple #[v, .bool true]) ∧ w'.ownsRow W.heap.size 9 1 v m (strCells (codesL (lensOf ns))) ∧ Below W.heap.size W w') := fun W hW =>
        (coCodes_any (lensOf ns) A1 m c1 w1.heap.size W (HLS.out W hW) hW.size HQ.out.2.1 (by rw [HQ.out.2.2.1, HWL.out]; exact hm12)).mono fun e w' ⟨v, b, h1, h2, h3⟩ => by
          obtain ⟨rfl, h4⟩ := h2 HQ.out.2.2.2
          exact ⟨v, h1, h4, h3⟩
      have htot := HQ.out.2.2.2
      have g5 : decide ((4096 : Int) < ((total (lensOf ns) : Nat) : Int)) = false := decide_eq_false (by omega)
      have g5' : decide (4096 < total (lensOf ns)) = false := decide_eq_false (by omega)
      generalize total (lensOf ns) = tot at *
      have HMB : Hid (∀ (w8 w9 : World), Below w7.heap.size w7 w8 → Below w8.heap.size w8 w9 → Below w3.heap.size w3 w9) := fun _ _ h8 h9 => bthen (bthen (bthen hb6 hb7) h8) h9
      by_cases hm0 : m = 0
      · have g6 : decide ((0 : Int) < (m : Int)) = false := decide_eq_false (by omega)
        have g6' : decide (0 < m) = false := decide_eq_false (by omega)
        have HM0 := Lib.hid hm0
        clear hm0
        go_wp2_with fail
        have kq := cell_regrown k7
        refine wp_region_quiet_below (by kernel_rfl) (by kernel_rfl) ?_
        repeat (go_big_quiet_step (fail))
        refine wpQuiet_nil ?_
        intro w8 hb80
        have hb8 := below_of_regrown hb80
        clear hb80
        have hB8 := bthen hB7 hb8
        have hb18 := bthen hb17 hb8
        go_wp2_with fail
        refine (HCC.out w8 hb18).mono ?_
        rintro e w9 ⟨v9, rfl, hown9, hb9⟩
        obtain ⟨A9, c9, rfl, hn9, hm9, hrd9⟩ := own_form hown9
        have hb39 := HMB.out _ _ hb8 hb9
        have HAL := Lib.hid (alike_str_true A3 A9 m c3 c9 _ _ _ w9 (by omega) (HMK.out w9 hb39) hrd9)
        clear hown9 hrd9
        go_wp2_with fail
        refine HAL.out.mono ?_
        rintro e w10 ⟨rfl, hb10⟩
        go_wp2_with fail
        go_ret
        exact ⟨rfl, bthen (bthen hB8 hb9) hb10⟩
      · have g6 : decide ((0 : Int) < (m : Int)) = true := decide_eq_true (by omega)
        have g6' : decide (0 < m) = true := decide_eq_true (by omega)
        have HCO : Hid (∀ W, Below w7.heap.size w7 W → Calls Try.prog 35 #[.slice A1 m c1, .pointer (some ⟨w.heap.size, 0, none⟩)] W fun e w' => e = .returned (.int .i64 ((leastC ns : Nat) : Int)) ∧ Below W.heap.size W w') := fun W hW => by
          have h1 := lawCost_below (intN ns) (intN (lensOf ns)) A A1 m c m c1 w1.heap.size w.heap.size W ((H1.out W (bthen hB7 hW)).more hB1.size) (HLS.out W (bthen hb17 hW)) rfl hm12
            (fun k hk => by have := HBW.out k (by rw [HWL.out]; exact hk); omega)
            (fun k hk => by
              have := HQ.out.2.1 ((lensOf ns).getD k 0) (by rw [List.getD_eq_getElem?_getD, List.getElem?_eq_getElem (by rw [HQ.out.2.2.1, HWL.out]; exact hk)]; exact List.getElem_mem _)
              rw [intN_get0]
              omega)
            ((hbk7.below' hW).cell0)
          have h2 := lensOf_cost (ws := ns) (by rw [HWL.out]; exact hm12) (by rw [HWL.out]; omega)
          rw [HWL.out] at h2
          rw [h2] at h1
          exact h1
        have HLC : Hid (∀ W, Below w7.heap.size w7 W → Calls Try.prog 37 #[.slice A m c] W fun e w' => e = .returned (.int .i64 ((leastC ns : Nat) : Int)) ∧ Below W.heap.size W w') := fun W hW =>
          leastCost_any ns A m c w.heap.size W (H1.out W (bthen hB7 hW)) (Nat.le_trans hB7.size hW.size) hm12 (leastC_bound HZ.out (by rw [HWL.out]; omega))
        generalize leastC ns = lc at *
        go_wp2_with fail
        have kq := cell_regrown k7
        refine wp_region_quiet_below (by kernel_rfl) (by kernel_rfl) ?_
        repeat (go_big_quiet_step ((first
          | (go_at_call 35; exact Calls.regrown_of (HCO.out _ (below_regrown _ _ _)))
          | (go_at_call 37; exact Calls.regrown_of (HLC.out _ (below_regrown _ _ _))))))
        refine wpQuiet_nil ?_
        intro w8 hb80
        have hb8 := below_of_regrown hb80
        clear hb80
        have hB8 := bthen hB7 hb8
        have hb18 := bthen hb17 hb8
        go_wp2_with fail
        refine (HCC.out w8 hb18).mono ?_
        rintro e w9 ⟨v9, rfl, hown9, hb9⟩
        obtain ⟨A9, c9, rfl, hn9, hm9, hrd9⟩ := own_form hown9
        have hb39 := HMB.out _ _ hb8 hb9
        have HAL := Lib.hid (alike_str_true A3 A9 m c3 c9 _ _ _ w9 (by omega) (HMK.out w9 hb39) hrd9)
        clear hown9 hrd9
        go_wp2_with fail
        refine HAL.out.mono ?_
        rintro e w10 ⟨rfl, hb10⟩
        go_wp2_with fail
        go_ret
        exact ⟨rfl, bthen (bthen hB8 hb9) hb10⟩
  · have HCA := Lib.hid (costAns_l (ws := intN ns) HZ.out hE)
    have g1 : ((lensErr ls).2 != 0) = true := by rw [bne_iff_ne]; exact hE
    have g1' : ((lensErr ls).2 == 0) = false := by rw [beq_eq_false_iff_ne]; exact hE
    clear hE
    obtain ⟨wb, hwb⟩ : ∃ wb, wb = w.alloc (.cells #[.slice A m c] 22) := ⟨_, rfl⟩
    rw [← hwb] at HB0 hbk
    have HWB := Lib.hid hwb
    clear hwb
    go_enter Try.func6, Try.ntmps6
    go_wp2_with fail
    rw [← HWB.out]
    refine (lens_any ns A m c w.heap.size wb (H1.out wb HB0.out) HB0.out.size HZ.out hm12).mono ?_
    rintro e w1 ⟨v, rfl, hown1, hb1⟩
    obtain ⟨A1, c1, rfl, hn1, hm1, hrd1⟩ := own_form hown1
    have HLS : Hid (∀ W, Below w1.heap.size w1 W → Rd W w1.heap.size 1 A1 m (ints (intN (lensOf ns)))) := fun W hW => hrd1.below hW
    clear hown1 hrd1 hn1 hm1
    have hB1 := HB0.out.trans (hb1.mono HB0.out.size)
    have hbk1 := hbk.below' hb1
    have k1 := hbk1.cell0
    go_wp2_with fail
    refine (treeCost_any (intN ns) ls A A2 m c m2 c2 w.heap.size w1 (H1.out w1 hB1) (H2.out w1 hB1) hB1.size hm hm2).mono ?_
    rintro e w2 ⟨rfl, hb2⟩
    rw [HCA.out]
    have hB2 := bthen hB1 hb2
    have hbk2 := hbk1.below' hb2
    have k2 := hbk2.cell0
    go_wp2_with fail
    refine (make_any ns A m c w.heap.size w2 (H1.out w2 hB2) hB2.size HZ.out hm12).mono ?_
    rintro e w3 ⟨v, rfl, hown3, hb3⟩
    obtain ⟨A3, c3, rfl, hn3, hm3, hrd3⟩ := own_form hown3
    have HMK : Hid (∀ W, Below w3.heap.size w3 W → Rd W w3.heap.size 1 A3 m (strCells (codesL (lensOf ns)))) := fun W hW => hrd3.below hW
    clear hown3 hrd3 hn3 hm3
    have hB3 := bthen hB2 hb3
    have hb13 := bthen hb2 hb3
    have hbk3 := hbk2.below' hb3
    have k3 := hbk3.cell0
    go_wp2_with fail
    refine (weightErr_any (intN ns) A m c w.heap.size w3 (H1.out w3 hB3) hm).mono ?_
    rintro e w4 ⟨rfl, hw4⟩
    rw [hw4, HZ.out]
    clear hw4 w4
    go_wp2_with fail
    refine (treeCheck_any (intN ns) A m c w.heap.size w3 (H1.out w3 hB3) hm).mono ?_
    rintro e w4 ⟨rfl, hw4⟩
    rw [hw4, HZ.out]
    clear hw4 w4
    go_wp2_with fail
    refine (coLens_any ls A2 m2 c2 w.heap.size w3 (H2.out w3 hB3) hm2).mono ?_
    rintro e w6 ⟨rfl, hb6⟩
    have hb16 := bthen hb13 hb6
    have hB6 := bthen hB3 hb6
    have hbk6 := hbk3.below' hb6
    have k6 := hbk6.cell0
    go_wp2_with fail
    refine (coLens_any (nInts (lensOf ns)) A1 m c1 w1.heap.size w6 (HLS.out w6 hb16) (by omega)).mono ?_
    rintro e w7 ⟨rfl, hb7⟩
    rw [HQ.out.1]
    have hb17 := bthen hb16 hb7
    have hB7 := bthen hB1 hb17
    have hbk7 := hbk1.below' hb17
    have k7 := hbk7.cell0
    have HCC : Hid (∀ W, Below w1.heap.size w1 W → Calls Try.prog 38 #[.slice A1 m c1] W fun e w' => ∃ v, e = .returned (.tuple #[v, .bool true]) ∧ w'.ownsRow W.heap.size 9 1 v m (strCells (codesL (lensOf ns))) ∧ Below W.heap.size W w') := fun W hW =>
      (coCodes_any (lensOf ns) A1 m c1 w1.heap.size W (HLS.out W hW) hW.size HQ.out.2.1 (by rw [HQ.out.2.2.1, HWL.out]; exact hm12)).mono fun e w' ⟨v, b, h1, h2, h3⟩ => by
        obtain ⟨rfl, h4⟩ := h2 HQ.out.2.2.2
        exact ⟨v, h1, h4, h3⟩
    have htot := HQ.out.2.2.2
    have g5 : decide ((4096 : Int) < ((total (lensOf ns) : Nat) : Int)) = false := decide_eq_false (by omega)
    have g5' : decide (4096 < total (lensOf ns)) = false := decide_eq_false (by omega)
    generalize total (lensOf ns) = tot at *
    have HMB : Hid (∀ (w8 w9 : World), Below w7.heap.size w7 w8 → Below w8.heap.size w8 w9 → Below w3.heap.size w3 w9) := fun _ _ h8 h9 => bthen (bthen (bthen hb6 hb7) h8) h9
    by_cases hm0 : m = 0
    · have g6 : decide ((0 : Int) < (m : Int)) = false := decide_eq_false (by omega)
      have g6' : decide (0 < m) = false := decide_eq_false (by omega)
      have HM0 := Lib.hid hm0
      clear hm0
      go_wp2_with fail
      have kq := cell_regrown k7
      refine wp_region_quiet_below (by kernel_rfl) (by kernel_rfl) ?_
      repeat (go_big_quiet_step (fail))
      refine wpQuiet_nil ?_
      intro w8 hb80
      have hb8 := below_of_regrown hb80
      clear hb80
      have hB8 := bthen hB7 hb8
      have hb18 := bthen hb17 hb8
      go_wp2_with fail
      refine (HCC.out w8 hb18).mono ?_
      rintro e w9 ⟨v9, rfl, hown9, hb9⟩
      obtain ⟨A9, c9, rfl, hn9, hm9, hrd9⟩ := own_form hown9
      have hb39 := HMB.out _ _ hb8 hb9
      have HAL := Lib.hid (alike_str_true A3 A9 m c3 c9 _ _ _ w9 (by omega) (HMK.out w9 hb39) hrd9)
      clear hown9 hrd9
      go_wp2_with fail
      refine HAL.out.mono ?_
      rintro e w10 ⟨rfl, hb10⟩
      go_wp2_with fail
      go_ret
      exact ⟨rfl, bthen (bthen hB8 hb9) hb10⟩
    · have g6 : decide ((0 : Int) < (m : Int)) = true := decide_eq_true (by omega)
      have g6' : decide (0 < m) = true := decide_eq_true (by omega)
      have HCO : Hid (∀ W, Below w7.heap.size w7 W → Calls Try.prog 35 #[.slice A1 m c1, .pointer (some ⟨w.heap.size, 0, none⟩)] W fun e w' => e = .returned (.int .i64 ((leastC ns : Nat) : Int)) ∧ Below W.heap.size W w') := fun W hW => by
        have h1 := lawCost_below (intN ns) (intN (lensOf ns)) A A1 m c m c1 w1.heap.size w.heap.size W ((H1.out W (bthen hB7 hW)).more hB1.size) (HLS.out W (bthen hb17 hW)) rfl hm12
          (fun k hk => by have := HBW.out k (by rw [HWL.out]; exact hk); omega)
          (fun k hk => by
            have := HQ.out.2.1 ((lensOf ns).getD k 0) (by rw [List.getD_eq_getElem?_getD, List.getElem?_eq_getElem (by rw [HQ.out.2.2.1, HWL.out]; exact hk)]; exact List.getElem_mem _)
            rw [intN_get0]
            omega)
          ((hbk7.below' hW).cell0)
        have h2 := lensOf_cost (ws := ns) (by rw [HWL.out]; exact hm12) (by rw [HWL.out]; omega)
        rw [HWL.out] at h2
        rw [h2] at h1
        exact h1
      have HLC : Hid (∀ W, Below w7.heap.size w7 W → Calls Try.prog 37 #[.slice A m c] W fun e w' => e = .returned (.int .i64 ((leastC ns : Nat) : Int)) ∧ Below W.heap.size W w') := fun W hW =>
        leastCost_any ns A m c w.heap.size W (H1.out W (bthen hB7 hW)) (Nat.le_trans hB7.size hW.size) hm12 (leastC_bound HZ.out (by rw [HWL.out]; omega))
      generalize leastC ns = lc at *
      go_wp2_with fail
      have kq := cell_regrown k7
      refine wp_region_quiet_below (by kernel_rfl) (by kernel_rfl) ?_
      repeat (go_big_quiet_step ((first
        | (go_at_call 35; exact Calls.regrown_of (HCO.out _ (below_regrown _ _ _)))
        | (go_at_call 37; exact Calls.regrown_of (HLC.out _ (below_regrown _ _ _))))))
      refine wpQuiet_nil ?_
      intro w8 hb80
      have hb8 := below_of_regrown hb80
      clear hb80
      have hB8 := bthen hB7 hb8
      have hb18 := bthen hb17 hb8
      go_wp2_with fail
      refine (HCC.out w8 hb18).mono ?_
      rintro e w9 ⟨v9, rfl, hown9, hb9⟩
      obtain ⟨A9, c9, rfl, hn9, hm9, hrd9⟩ := own_form hown9
      have hb39 := HMB.out _ _ hb8 hb9
      have HAL := Lib.hid (alike_str_true A3 A9 m c3 c9 _ _ _ w9 (by omega) (HMK.out w9 hb39) hrd9)
      clear hown9 hrd9
      go_wp2_with fail
      refine HAL.out.mono ?_
      rintro e w10 ⟨rfl, hb10⟩
      go_wp2_with fail
      go_ret
      exact ⟨rfl, bthen (bthen hB8 hb9) hb10⟩
/-- The law's call returns true. -/
theorem treeSays_any (A : Option Addr) (m c : Nat) (ws : List Int) (A2 : Option Addr) (m2 c2 : Nat) (ls : List Int) (w : World) (hm : m ≤ 9223372036854775807) (hm2 : m2 ≤ 9223372036854775807) (hr : Rd w w.heap.size 1 A m (ints ws)) (hr2 : Rd w w.heap.size 1 A2 m2 (ints ls)) :
    Calls Try.prog 6 #[.slice A m c, .slice A2 m2 c2] w fun e w' => e = .returned (.bool true) ∧ Below w.heap.size w w' := by
  by_cases h : wErr ws = 0
  · obtain ⟨ns, rfl, _⟩ := wErr_nat h
    exact treeFine_any ns ls A A2 m c m2 c2 w hr hm hr2 hm2 h
  · exact treeBad_any ws ls A A2 m c m2 c2 w hr hm hr2 hm2 h
end Go.Proofs.Ytmmamdjbbpeifaa
