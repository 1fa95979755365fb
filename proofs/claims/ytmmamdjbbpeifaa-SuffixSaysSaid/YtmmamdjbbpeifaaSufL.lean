/- The law SuffixSays, walked. -/
import Derived.Test.YtmmamdjbbpeifaaSufH
import Derived.Test.YtmmamdjbbpeifaaSufE
import Derived.Test.YtmmamdjbbpeifaaMirrE
namespace Go.Proofs.Ytmmamdjbbpeifaa
open Go.RowKit
set_option maxRecDepth 100000 in
set_option maxHeartbeats 4000000 in
theorem suffixSays_any (s : ByteArray) (w : World) (hz : s.size ≤ 140737488351232) :
    Calls Try.prog 4 #[.string s] w fun e w' => e = .returned (.bool true) ∧ Below w.heap.size w w' := by
  have HL : Hid (longAll [s] = longErr s.size) := longAll_one s
  by_cases hs : 200 < s.size
  · have HE : Hid (longErr s.size = 2) := by unfold Hid longErr; rw [if_pos hs]
    go_enter Try.func4, Try.ntmps4
    go_wp2_with fail
    refine (order_large s hs _).mono ?_
    rintro e w1 ⟨rfl, hb1⟩
    go_wp2_with fail
    refine (common_large s hs _).mono ?_
    rintro e w2 ⟨rfl, hb2⟩
    go_wp2_with fail
    refine (sufUnlike_large s hs _).mono ?_
    rintro e w3 ⟨rfl, hb3⟩
    go_wp2_with fail
    refine (sufTwice_large s hs _).mono ?_
    rintro e w3' ⟨rfl, hb3'⟩
    go_wp2_with fail
    refine (long_any [s] _ 1 _ (w3'.heap.size + 1) _ (Rd.new_ (size := 1) (n := 1) w3' _ _ (Nat.lt_succ_self _) rfl) (by omega)).mono ?_
    rintro e w4 ⟨rfl, hb4⟩
    rw [HL.out, HE.out]
    have hb5 : Below w3'.heap.size w3' w4 := ((Below.refl _ _).alloc (Nat.le_refl _) _).trans (hb4.mono (by simp))
    clear hb4
    go_wp2_with fail
    go_ret
    exact ⟨rfl, bthen hb1 (bthen hb2 (bthen hb3 (bthen hb3' hb5)))⟩
  have hs : s.size ≤ 200 := by omega
  have HE : Hid (longErr s.size = 0) := by unfold Hid longErr; rw [if_neg (by omega)]
  have HZ : Hid ((L s).length = s.size) := L_len s
  have HO1 := Lib.hid (order_any s hs)
  have HC1 := Lib.hid (common_any s hs)
  have HU1 := Lib.hid (sufUnlike_any s hs)
  have HT1 := Lib.hid (sufTwice_any s hs)
  have HE2 := Lib.hid (ends_any s hs)
  have HF2 := Lib.hid (factors_any s hs)
  have HT2 := Lib.hid (twiceOf_any s hs)
  obtain ⟨N, hN⟩ : ∃ N, (fact (L s)).length = N := ⟨_, rfl⟩
  rw [hN] at HU1 HF2
  clear hN
  go_enter Try.func4, Try.ntmps4
  go_wp2_with fail
  refine (HO1.out _).mono ?_
  rintro e w1 ⟨g1, rfl, hord, hb1⟩
  have HORD := Lib.hid hord
  clear hord
  go_wp2_with fail
  refine (HC1.out _).mono ?_
  rintro e w2 ⟨g2, rfl, hcom, hb2⟩
  have HORD2 := Lib.hid (HORD.out.below hb2)
  have HCOM := Lib.hid hcom
  have hz2 := hb2.size
  clear HORD hcom
  go_wp2_with fail
  refine (HU1.out _).mono ?_
  rintro e w3 ⟨rfl, hb3⟩
  have hz3 := hb3.size
  go_wp2_with fail
  refine (HT1.out _).mono ?_
  rintro e w4 ⟨t1, ht1, rfl, hb4⟩
  have HTW1 := Lib.hid ht1
  clear ht1
  have hz4 := hb4.size
  go_wp2_with fail
  refine (long_any [s] _ 1 _ (w4.heap.size + 1) _ (Rd.new_ (size := 1) (n := 1) w4 _ _ (Nat.lt_succ_self _) rfl) (by omega)).mono ?_
  rintro e w5 ⟨rfl, hb5⟩
  rw [HL.out, HE.out]
  have hb5' : Below w4.heap.size w4 w5 := ((Below.refl _ _).alloc (Nat.le_refl _) _).trans (hb5.mono (by simp))
  clear hb5
  have hz5 := hb5'.size
  have hb25 : Below w2.heap.size w2 w5 := bthen hb3 (bthen hb4 hb5')
  have hall := bthen hb1 (bthen hb2 hb25)
  clear hb3 hb4 hb5' hb1 hb2
  go_wp2_with fail
  refine (HE2.out _).mono ?_
  rintro e w6 ⟨v6, rfl, hown, hb6⟩
  obtain ⟨A6, c6, rfl, hn6, hm6, hrd6⟩ := own_form hown
  have HENDS := Lib.hid hrd6
  have hb26 := bthen hb25 hb6
  have hall6 := bthen hall hb6
  have hz6 := hb6.size
  clear hown hrd6 hb25 hall hb6 hn6 hm6
  have HORD6 : Hid (ArrI w6 w.heap.size g1 s.size (ordI (L s))) := HORD2.out.below hb26
  have HCOM6 : Hid (ArrI w6 w1.heap.size g2 s.size (comI (L s))) := HCOM.out.below hb26
  clear HORD2 HCOM
  go_wp2_with fail
  go_loopw [98] (fun iv wr => ∃ k : Nat, k ≤ s.size ∧ iv = .int .i64 (k : Int) ∧ Below w6.heap.size w6 wr) (fun iv _ => s.size - (intOf iv).toNat)
  case atStart => exact ⟨0, Nat.zero_le _, rfl, Below.refl _ _⟩
  case round =>
    obtain ⟨k, hk, rfl, hb⟩ := hrel
    by_cases hlt : k < s.size
    · have g1' : decide ((k : Int) < (s.size : Int)) = true := decide_eq_true (by omega)
      have g1'' : decide (k < s.size) = true := decide_eq_true hlt
      have co := (HORD6.out.below hb).at_ (k := k) hlt
      rw [ordI_at _ (by rw [HZ.out]; exact hlt)] at co
      have cc := (HCOM6.out.below hb).at_ (k := k) hlt
      rw [comI_at _ (by rw [HZ.out]; exact hlt)] at cc
      obtain ⟨ad, u, hA, hab, hu, ce⟩ := (HENDS.out.below hb).at_ hlt
      rw [strCells, List.getElem?_map, endsL_at _ (by rw [HZ.out]; exact hlt)] at hu
      obtain rfl := Option.some.inj hu
      clear hu
      obtain ⟨X, hX⟩ : ∃ X, S (sufA (L s) k) = X := ⟨_, rfl⟩
      have hxz : X.size = s.size - oS (L s) k := by rw [← hX, S_size, sufA_len, HZ.out]
      have hol := oS_lt (s := L s) (k := k) (by rw [HZ.out]; exact hlt)
      rw [HZ.out] at hol
      have ce9 : wr.cell? (ad.add k) = some (.string X) := by rw [← hX]; exact ce
      clear ce
      have ce := ce9
      clear ce9
      have HLX : Hid (L X = sufA (L s) k) := by rw [← hX]; exact L_S _
      have gz : (s.size : Int) - (X.size : Int) = (oS (L s) k : Int) := by omega
      have hxs : X.size ≤ 200 := by omega
      clear hX hxz
      generalize oS (L s) k = o at *
      subst hA
      rcases Nat.eq_zero_or_pos k with hk0 | hk0
      · have hl0 : lcpA (L s) k = 0 := by rw [hk0]; rfl
        rw [hl0] at cc
        have cc : wr.cell? ⟨g2, k, none⟩ = some (.int .i64 0) := cc
        have gk : ((k : Int) == 0) = true := by rw [beq_iff_eq]; omega
        have gk' : (k == 0) = true := by rw [beq_iff_eq]; exact hk0
        have gq : decide ((0 : Int) < (k : Int)) = false := decide_eq_false (by omega)
        have gq' : decide (0 < k) = false := decide_eq_false (by omega)
        clear hl0 hk0
        go_wp2_with fail
        go_quiet (fail)
        go_wp2_with fail
        go_roundw
        case rel => exact ⟨k + 1, by omega, by go_num, below_drewN hb _⟩
        case measure => simp [intOf]; omega
      · obtain ⟨j, hj⟩ : ∃ j, j = k - 1 := ⟨_, rfl⟩
        have gj : (k : Int) - 1 = (j : Int) := by omega
        have hjs : j < s.size := by omega
        have hl0 : lcpA (L s) k = lcpL (sufA (L s) j) (sufA (L s) k) := by rw [hj]; exact lcpA_pos (by omega)
        obtain ⟨ad', u, hA, _, hu, ce'⟩ := (HENDS.out.below hb).at_ hjs
        cases hA
        rw [strCells, List.getElem?_map, endsL_at _ (by rw [HZ.out]; exact hjs)] at hu
        obtain rfl := Option.some.inj hu
        clear hu
        obtain ⟨Y, hY⟩ : ∃ Y, S (sufA (L s) j) = Y := ⟨_, rfl⟩
        have hyz : Y.size = s.size - oS (L s) j := by rw [← hY, S_size, sufA_len, HZ.out]
        have ce9 : wr.cell? (ad.add j) = some (.string Y) := by rw [← hY]; exact ce'
        clear ce'
        have ce' := ce9
        clear ce9
        have HAL : Hid (∀ W, Calls Try.prog 19 #[.string Y, .string X] W fun e w' => e = .returned (.int .i64 (lcpA (L s) k : Nat)) ∧ Below W.heap.size W w') := fun W => by
          have h := alikeB_any Y X (by omega) hxs W
          rw [HLX.out, ← hY, L_S, ← hl0] at h
          rw [← hY]; exact h
        have gk : ((k : Int) == 0) = false := by rw [beq_eq_false_iff_ne]; omega
        have gk' : (k == 0) = false := by rw [beq_eq_false_iff_ne]; omega
        have gq : decide ((0 : Int) < (k : Int)) = true := decide_eq_true (by omega)
        have gq' : decide (0 < k) = true := decide_eq_true (by omega)
        clear hl0 hyz hY hj
        generalize lcpA (L s) k = x at *
        have co' := cell_regrown co
        have cc' := cell_regrown cc
        have ce0 := cell_regrown ce
        have ce1 := cell_regrown ce'
        go_wp2_with fail
        refine wp_region_quiet_below (by kernel_rfl) (by kernel_rfl) ?_
        repeat (go_big_quiet_step ((go_at_call 19; exact Calls.regrown_of (HAL.out _))))
        refine wpQuiet_nil ?_
        intro w9 hb90
        have hb9 := below_of_regrown hb90
        clear hb90
        go_wp2_with fail
        go_roundw
        case rel => exact ⟨k + 1, by omega, by go_num, bthen hb hb9⟩
        case measure => simp [intOf]; omega
    · obtain rfl : k = s.size := by omega
      have g1' : decide ((s.size : Int) < (s.size : Int)) = false := decide_eq_false (by omega)
      have g1'' : decide (s.size < s.size) = false := decide_eq_false hlt
      clear HENDS HORD6 HCOM6
      go_wp2_with fail
      refine (HF2.out _).mono ?_
      rintro e w7 ⟨A7, c7, rfl, hown7, hb7⟩
      clear hown7
      go_wp2_with fail
      refine (HT2.out _).mono ?_
      rintro e w8 ⟨t2, ht2, rfl, hb8⟩
      obtain rfl := HTW1.out.uniq ht2
      go_wp2_with fail
      go_ret
      exact ⟨rfl, bthen (bthen (bthen hall6 hb) hb7) hb8⟩
end Go.Proofs.Ytmmamdjbbpeifaa
