/- The law FrontSays, walked. -/
import Derived.Test.YtolnhplgaolieaaFrontC
import Derived.Test.YtolnhplgaolieaaFrontA
import Derived.Test.YtolnhplgaolieaaFrontV
import Derived.Test.YtolnhplgaolieaaFrontX
namespace Go.Proofs.Ytolnhplgaolieaa
open Go.RowKit
theorem putV_zero {s : ByteArray} (h : 200 < s.size) : (putV s).length = 0 := by unfold putV; rw [if_pos h]; rfl
theorem getV_ages {l : List Int} (h : getE l = 0) : agesI (getV l) (getV l).length = l ∧ (getV l).length = l.length := by
  have h1 : getV l = gets (natsOf l) := by unfold getV; rw [if_pos h]
  have h2 : inB l = true := by
    unfold getE at h
    split at h
    · cases h
    · split at h
      · assumption
      · cases h
  have hx : ∀ x ∈ l, 0 ≤ x ∧ x ≤ 255 := fun x hx => by
    unfold inB at h2
    have := List.all_eq_true.1 h2 x hx
    simpa using this
  have e1 : (gets (natsOf l)).length = (natsOf l).length := gets_len _
  have e2 : (natsOf l).length = l.length := by simp [natsOf]
  rw [h1]
  refine ⟨?_, by rw [e1, e2]⟩
  unfold agesI
  rw [e1, ages_gets (natsOf l) (fun k hk => by
    unfold natsOf at hk
    obtain ⟨x, hxm, rfl⟩ := List.mem_map.1 hk
    have := hx x hxm; omega)]
  unfold natsOf
  rw [List.map_map]
  conv => rhs; rw [← List.map_id l]
  refine List.map_congr_left fun x hxm => ?_
  have := hx x hxm
  simp only [Function.comp, id]; omega
set_option maxRecDepth 100000 in
set_option maxHeartbeats 4000000 in
theorem frontSays_any (s : ByteArray) (A : Option Addr) (n c : Nat) (l : List Int) (R : Option Addr) (m d : Nat) (runs : List Rn) (w : World) (hr : Rd w w.heap.size 1 A n (ints l)) (hn : n ≤ 9223372036854775807)
    (hq : Rd w w.heap.size 2 R m (runCells runs)) (hm : m ≤ 9223372036854775807) (hz : ∀ r ∈ runs, -9223372036854775808 ≤ r.2 ∧ r.2 ≤ 9223372036854775807) :
    Calls Try.prog 9 #[.string s, .slice A n c, .slice R m d] w fun e w' => e = .returned (.bool true) ∧ Below w.heap.size w w' := by
  have hl := ints_len hr
  have hlr := Rd.rec_len run_len (by omega) hq
  have HR := Lib.hid hr; clear hr
  have HQ := Lib.hid hq; clear hq
  have HL := Lib.hid hl; clear hl
  have HLR := Lib.hid hlr; clear hlr
  have HZ := Lib.hid hz; clear hz
  go_enter Try.func9, Try.ntmps9
  go_wp2_with fail
  refine (frontPut_any s _).mono ?_
  rintro e w1 ⟨v1, rfl, hown1, hb1⟩
  obtain ⟨A1, c1, rfl, hn1, hm1, hrd1⟩ := own_form hown1
  have HW1 := Lib.hid hrd1
  clear hown1 hrd1
  go_wp2_with fail
  refine (frontGet_any l A n c w1 ((HR.out.below hb1).more hb1.size) hn).mono ?_
  rintro e w2 ⟨rfl, hb2⟩
  go_wp2_with fail
  refine (frontRuns_any s _).mono ?_
  rintro e w3 ⟨v3, lr, rfl, hlr0, hlrok, hown3, hb3⟩
  obtain ⟨A3, c3, rfl, hn3, hm3, hrd3⟩ := own_form hown3
  have HW3 := Lib.hid hrd3
  have HLR0 := Lib.hid hlr0
  have HLROK := Lib.hid hlrok
  clear hown3 hrd3 hlr0 hlrok
  have hb3' := bthen (bthen hb1 hb2) hb3
  go_wp2_with fail
  refine (frontWhole_any runs R m d w3 ((HQ.out.below hb3').more hb3'.size) hm HZ.out).mono ?_
  rintro e w4 ⟨rfl, hb4⟩
  go_wp2_with fail
  refine (long_any [s] _ 1 _ (w4.heap.size + 1) _ (Rd.new_ (size := 1) (n := 1) w4 _ _ (Nat.lt_succ_self _) rfl) (by omega)).mono ?_
  rintro e w5 ⟨rfl, hb5⟩
  have hb5' : Below w4.heap.size w4 w5 := ((Below.refl _ _).alloc (Nat.le_refl _) _).trans (hb5.mono (by simp))
  rw [longAll_one]
  have H1 := Lib.hid (HW1.out.below (bthen (bthen (bthen hb2 hb3) hb4) hb5'))
  have H3 := Lib.hid (HW3.out.below (bthen hb4 hb5'))
  have hB5 := bthen (bthen hb3' hb4) hb5'
  have hw15 : w1.heap.size ≤ w5.heap.size := Nat.le_trans (Nat.le_trans hb2.size hb3.size) (Nat.le_trans hb4.size hb5'.size)
  have hw35 : w3.heap.size ≤ w5.heap.size := Nat.le_trans hb4.size hb5'.size
  clear HW1 HW3 hb1 hb2 hb3 hb3' hb4 hb5 hb5'
  have HV : Hid ((200 < s.size → longErr s.size = 2 ∧ (putV s).length = 0 ∧ lr.length = 0) ∧ (s.size ≤ 200 → longErr s.size = 0 ∧ (putV s).length = s.size ∧ Rd w5 w1.heap.size 1 A1 s.size (ints (agesI (L s) s.size)) ∧ RunOk lr (L s) ∧ Rd w5 w3.heap.size 2 A3 lr.length (runCells lr))) := by
    refine ⟨fun h => ⟨by unfold longErr; rw [if_pos h], putV_zero h, by rw [HLR0.out h]; rfl⟩, fun h => ?_⟩
    have hp0 : putV s = agesI (L s) s.size := by unfold putV; rw [if_neg (by omega)]
    have h1 := H1.out
    rw [hp0, agesI_len] at h1
    exact ⟨by unfold longErr; rw [if_neg (by omega)], by rw [hp0, agesI_len], h1, HLROK.out h, H3.out⟩
  clear H1 H3 HLR0 HLROK
  generalize longErr s.size = ee at *
  generalize (putV s).length = pl at *
  generalize hrl : lr.length = rl at *
  clear hrl
  have hm1' : pl ≤ 9223372036854775807 := by unfold maxLen at hm1; omega
  clear hn1 hm1 hn3 hm3
  go_upto_if 44 with (fail)
  go_cut [] (fun wx => Below w.heap.size w wx)
  case first =>
    by_cases hs : 200 < s.size
    · obtain ⟨rfl, rfl, rfl⟩ := HV.out.1 hs
      clear HV hs
      go_wp2_with fail
      go_meet
      exact hB5
    · obtain ⟨rfl, rfl, h1, hok, h3⟩ := HV.out.2 (by omega)
      have H1 := Lib.hid h1
      have H3 := Lib.hid h3
      have HOK := Lib.hid hok
      have hs2 : s.size ≤ 200 := by omega
      clear HV hs h1 hok h3
      go_wp2_with fail
      refine (agoOf_any s hs2 _).mono ?_
      rintro e w6 ⟨v6, rfl, hown6, hb6⟩
      obtain ⟨A6, c6, rfl, hn6, hm6, hrd6⟩ := own_form hown6
      have HW6 := Lib.hid hrd6
      clear hown6 hrd6 hn6
      go_wp2_with fail
      refine (alike_int_true _ _ _ _ _ _ _ _ _ (by omega) (H1.out.below (hb6.mono hw15)) HW6.out).mono ?_
      rintro e w7 ⟨rfl, hb7⟩
      have hb7' := bthen hb6 hb7
      go_wp2_with fail
      refine (wholly_any lr _ _ _ s _ ((H3.out.below (hb7'.mono hw35)).more (Nat.le_trans hw35 hb7'.size)) HOK.out hs2).mono ?_
      rintro e w8 ⟨rfl, hb8⟩
      have hb8' := bthen hb7' hb8
      go_wp2_with fail
      go_meet
      exact bthen hB5 hb8'
  case rest =>
    clear HV hB5 hw15 hw35
    have hb0 := hcut
    have hE : (200 < n → getE l = 2) ∧ (n ≤ 200 → getE l = if inB l then 0 else 1) := by
      unfold getE; rw [HL.out]
      exact ⟨fun h => by rw [if_pos h], fun h => by rw [if_neg (by omega)]⟩
    have HE := Lib.hid hE
    have HT : Hid (getE l ≠ 0 → getV l = []) := fun h => by unfold getV; rw [if_neg h]
    have HTA : Hid (getE l = 0 → agesI (getV l) (getV l).length = l ∧ (getV l).length = l.length) := getV_ages
    clear hE
    generalize getE l = ge at *
    generalize getV l = gv at *
    go_upto_if 82 with (fail)
    go_cut [16] (fun x wx => x = .int .i64 ge ∧ Below w.heap.size w wx)
    case first =>
      by_cases h2 : 200 < n
      · obtain rfl := HE.out.1 h2
        have g1 : decide ((200 : Int) < (n : Int)) = true := decide_eq_true (by omega)
        have g1' : decide (200 < n) = true := decide_eq_true h2
        go_wp2_with fail
        go_meet
        exact ⟨rfl, hb0⟩
      · have hge := HE.out.2 (by omega)
        have HGE := Lib.hid hge
        have g1 : decide ((200 : Int) < (n : Int)) = false := decide_eq_false (by omega)
        have g1' : decide (200 < n) = false := decide_eq_false h2
        clear hge HE
        go_wp2_with fail
        refine (out_any l A n c w.heap.size _ (HR.out.below hb0) hb0.size hn).mono ?_
        rintro e w6 ⟨rfl, hb6⟩
        have hb6' := bthen hb0 hb6
        cases hin : inB l with
        | true =>
          have HG0 : Hid (ge = 0) := by unfold Hid; rw [HGE.out, hin]; rfl
          clear hin HGE
          obtain rfl := HG0.out
          go_wp2_with fail
          go_meet
          exact ⟨rfl, hb6'⟩
        | false =>
          have HG0 : Hid (ge = 1) := by unfold Hid; rw [HGE.out, hin]; rfl
          clear hin HGE
          obtain rfl := HG0.out
          go_wp2_with fail
          go_meet
          exact ⟨rfl, hb6'⟩
    case rest =>
      obtain ⟨rfl, hb1⟩ := hcut
      clear hb0
      go_upto_region 16 with (fail)
      go_cut [106] (fun v wx => v = .bool false ∧ Below w.heap.size w wx)
      case first =>
        by_cases h0 : ge = 0
        · obtain ⟨ht1, ht2⟩ := HTA.out h0
          have HT1 := Lib.hid ht1
          have HT2 : Hid (gv.length = n) := by unfold Hid; rw [ht2, HL.out]
          by_cases h200 : n ≤ 200
          · have hgs : (S gv).size ≤ 200 := by rw [S_size, HT2.out]; exact h200
            obtain rfl := h0
            clear ht1 ht2 HTA HT
            go_wp2_with fail
            refine (agoOf_any (S gv) hgs _).mono ?_
            rintro e w6 ⟨v6, rfl, hown6, hb6⟩
            rw [S_size, HT2.out, L_S] at hown6
            have e9 := HT1.out
            rw [HT2.out] at e9
            rw [e9] at hown6
            obtain ⟨A6, c6, rfl, hn6, hm6, hrd6⟩ := own_form hown6
            have HW6 := Lib.hid hrd6
            clear hown6 hrd6 hn6 e9
            have hb6' := bthen hb1 hb6
            go_wp2_with fail
            refine (alike_int_true _ _ _ _ _ _ w.heap.size _ _ hn HW6.out (HR.out.below hb6')).mono ?_
            rintro e w7 ⟨rfl, hb7⟩
            have hb7' := bthen hb6' hb7
            go_wp2_with fail
            go_meet
            exact ⟨rfl, hb7'⟩
          · exfalso
            have := HE.out.1 (by omega)
            omega
        · obtain rfl := HT.out h0
          have g1 : (ge != 0) = true := by simpa using h0
          have g2 : (ge == 0) = false := by simpa using h0
          have g3 : (S []).toList.isEmpty = true := by rw [show (S []).toList = [] from ByteArray.toList_mk []]; rfl
          have g4 : ((S []).toList == []) = true := by rw [show (S []).toList = [] from ByteArray.toList_mk []]; rfl
          clear HTA HT h0
          go_wp2_with fail
          go_meet
          exact ⟨rfl, hb1⟩
      case rest =>
        obtain ⟨rfl, hb2⟩ := hcut
        clear hb1 HTA HT HR HL HE
        have HW : Hid (wholE runs = wholeE runs runs.length 0) := rfl
        have HVV : Hid (wholE runs ≠ 0 → wholV runs = []) := fun h => by unfold wholV; rw [if_neg h]
        have HVE : Hid (wholE runs = 0 → wholV runs = flatR runs) := fun h => by unfold wholV; rw [if_pos h]
        generalize wholE runs = we at *
        generalize wholV runs = wv at *
        go_wp2_with fail
        go_loopw [17, 109] (fun o i wr => ∃ k : Nat, k ≤ m ∧ i = .int .i64 k ∧ o = .string (S (flatR (runs.take k))) ∧ (flatR (runs.take k)).length ≤ 200 ∧ we = wholeE runs (runs.length - k) (flatR (runs.take k)).length ∧ Below w.heap.size w wr) (fun _ i _ => m - (intOf i).toNat)
        case atStart => exact ⟨0, Nat.zero_le _, rfl, rfl, Nat.zero_le _, HW.out, hb2⟩
        case round =>
          clear hb2 HW
          obtain ⟨k, hk, rfl, rfl, h200, hE, hb⟩ := hrel
          by_cases hlt : k < m
          · have g1 : decide ((k : Int) < (m : Int)) = true := decide_eq_true (by omega)
            have HST := Lib.hid (wholeE_step runs (i := k) (m := (flatR (runs.take k)).length) (by rw [HLR.out]; exact hlt))
            have HFT := Lib.hid (flatR_take runs (i := k) (by rw [HLR.out]; exact hlt))
            have HE := Lib.hid hE
            obtain ⟨ad, hkl, rfl, hab, c0, c1⟩ := (HQ.out.below hb).at_run hlt
            have hzk : -9223372036854775808 ≤ (runs.getD k (0, 0)).2 ∧ (runs.getD k (0, 0)).2 ≤ 9223372036854775807 := HZ.out _ (by
              rw [List.getD_eq_getElem?_getD, List.getElem?_eq_getElem hkl]; exact List.getElem_mem _)
            have HPV : Hid (0 < k → wr.cell? (ad.add ((k - 1) * 2)) = some (.int .u8 ((runs.getD (k - 1) (0, 0)).1.toNat : Int))) := fun h => by
              obtain ⟨ad', _, e, _, c, _⟩ := (HQ.out.below hb).at_run (k := k - 1) (by omega)
              cases e
              exact c
            clear hE
            generalize hru : runs.getD k (0, 0) = ru at *
            obtain ⟨b, N⟩ := ru
            have HRU := Lib.hid hru
            clear hru
            simp only at c0 c1 hzk
            have hbs := hb.size
            have hbq : Below w.heap.size w (wr.alloc (.cells #[.int .u8 (b.toNat : Int), .int .i64 N] 85)) := hb.alloc hbs _
            have HRE : Hid (∀ m, runE runs k m = if N < 1 then 1 else if 0 < k ∧ (runs.getD (k - 1) (0, 0)).1 = b then 3 else if (200 : Int) - m < N then 2 else 0) := fun m => by unfold runE; rw [HRU.out]
            have HERR : Hid (∀ e, e ≠ 0 → runE runs k (flatR (runs.take k)).length = e → we = e ∧ wv = []) := fun e h0 h => by
              have h1 : we = e := by rw [HE.out, HST.out, h, if_pos h0]
              exact ⟨h1, HVV.out (by rw [h1]; exact h0)⟩
            have g7 : (S []).toList.isEmpty = true := by rw [show (S []).toList = [] from ByteArray.toList_mk []]; rfl
            have g8 : ((S []).toList == []) = true := by rw [show (S []).toList = [] from ByteArray.toList_mk []]; rfl
            by_cases hN1 : N < 1
            · have g2 : decide (N < 1) = true := decide_eq_true hN1
              obtain ⟨rfl, rfl⟩ := HERR.out 1 (by decide) (by rw [HRE.out, if_pos hN1])
              clear HE HST HRE HERR HVV HVE
              go_wp2_with fail
              go_ret
              exact ⟨ret_bool (by simp), hbq⟩
            · have g2 : decide (N < 1) = false := decide_eq_false hN1
              obtain ⟨N, rfl⟩ : ∃ N' : Nat, N = (N' : Int) := ⟨N.toNat, by omega⟩
              have cq0 : (wr.alloc (.cells #[.int .u8 (b.toNat : Int), .int .i64 (N : Int)] 85)).cell? ⟨wr.heap.size, 0, none⟩ = some (.int .u8 (b.toNat : Int)) := Blk.cell0 (Blk.new_ _ _ _)
              have cq1 : (wr.alloc (.cells #[.int .u8 (b.toNat : Int), .int .i64 (N : Int)] 85)).cell? ⟨wr.heap.size, 1, none⟩ = some (.int .i64 (N : Int)) := Blk.cell1 (Blk.new_ _ _ _)
              have HBK : Hid (Blk (wr.alloc (.cells #[.int .u8 (b.toNat : Int), .int .i64 (N : Int)] 85)) wr.heap.size 85 #[.int .u8 (b.toNat : Int), .int .i64 (N : Int)]) := Blk.new_ _ _ _
              by_cases hpb : 0 < k ∧ (runs.getD (k - 1) (0, 0)).1 = b
              · obtain ⟨rfl, rfl⟩ := HERR.out 3 (by decide) (by rw [HRE.out, if_neg hN1, if_pos hpb])
                obtain ⟨k, rfl⟩ : ∃ k', k = k' + 1 := ⟨k - 1, by omega⟩
                have cp := HPV.out (Nat.succ_pos _)
                rw [Nat.add_sub_cancel] at hpb cp
                rw [hpb.2] at cp
                have cp' := (World.cell?_alloc_lt wr (.cells #[.int .u8 (b.toNat : Int), .int .i64 (N : Int)] 85) (ad.add (k * 2)) (by rw [show (ad.add (k * 2)).block = ad.block from by unfold Addr.add; split <;> rfl]; omega)).trans cp
                have g3 : decide ((0 : Int) < (k : Int) + 1) = true := decide_eq_true (by omega)
                have g3' : decide (0 < k + 1) = true := decide_eq_true (by omega)
                have g4 : ((b.toNat : Int) == (b.toNat : Int)) = true := by simp
                clear HE HST HRE HERR HVV HVE hpb HBK
                go_wp2_with fail
                go_quiet (fail)
                go_wp2_with fail
                go_ret
                exact ⟨ret_bool (by simp), below_drewN hbq _⟩
              · have HRE2 : Hid (runE runs k (flatR (runs.take k)).length = if (200 : Int) - ((flatR (runs.take k)).length : Nat) < (N : Int) then 2 else 0) := by unfold Hid; rw [HRE.out, if_neg hN1, if_neg hpb]
                clear HRE
                go_upto_region 25 with (fail)
                go_cut [127] (fun v wx => v = .bool false ∧ Blk wx wr.heap.size 85 #[.int .u8 (b.toNat : Int), .int .i64 (N : Int)] ∧ Below w.heap.size w wx)
                case first =>
                  rcases Nat.eq_zero_or_pos k with hk0 | hk0
                  · subst hk0
                    have g3 : decide ((0 : Int) < 0) = false := by decide
                    go_quiet (fail)
                    go_wp2_with fail
                    go_meet
                    exact ⟨rfl, HBK.out.drewN _, below_drewN hbq _⟩
                  · obtain ⟨k, rfl⟩ : ∃ k', k = k' + 1 := ⟨k - 1, by omega⟩
                    have cp := HPV.out (Nat.succ_pos _)
                    rw [Nat.add_sub_cancel] at hpb cp
                    have hne : (runs.getD k (0, 0)).1 ≠ b := fun h => hpb ⟨Nat.succ_pos _, h⟩
                    generalize (runs.getD k (0, 0)).1 = pb at *
                    have cp' := (World.cell?_alloc_lt wr (.cells #[.int .u8 (b.toNat : Int), .int .i64 (N : Int)] 85) (ad.add (k * 2)) (by rw [show (ad.add (k * 2)).block = ad.block from by unfold Addr.add; split <;> rfl]; omega)).trans cp
                    have g3 : decide ((0 : Int) < (k : Int) + 1) = true := decide_eq_true (by omega)
                    have g3' : decide (0 < k + 1) = true := decide_eq_true (by omega)
                    have g4 : ((pb.toNat : Int) == (b.toNat : Int)) = false := by rw [beq_eq_false_iff_ne]; exact fun h => hne (UInt8.toNat_inj.1 (by omega))
                    have g4' : (pb.toNat == b.toNat) = false := by rw [beq_eq_false_iff_ne]; exact fun h => hne (UInt8.toNat_inj.1 h)
                    clear hpb hne
                    generalize pb.toNat = pn at *
                    go_quiet (fail)
                    go_wp2_with fail
                    go_meet
                    exact ⟨rfl, HBK.out.drewN _, below_drewN hbq _⟩
                case rest =>
                  obtain ⟨rfl, hBK, hbw⟩ := hcut
                  clear HBK cq0 cq1 hbq HPV
                  have hg6 := hBK.lt
                  generalize wr.heap.size = g6 at *
                  have cq0 := Blk.cell0 hBK
                  have cq1 := Blk.cell1 hBK
                  have hsz9 : (S (flatR (runs.take k))).size = (flatR (runs.take k)).length := S_size _
                  by_cases hbig : (200 : Int) - ((flatR (runs.take k)).length : Nat) < (N : Int)
                  · obtain ⟨rfl, rfl⟩ := HERR.out 2 (by decide) (by rw [HRE2.out, if_pos hbig])
                    have g5 : decide ((200 : Int) - ((S (flatR (runs.take k))).size : Nat) < (N : Int)) = true := by rw [hsz9]; exact decide_eq_true hbig
                    have hs9 : (S (flatR (runs.take k))).size ≤ 200 := by omega
                    clear hpb HE HST HRE2 HERR HVV HVE hsz9
                    go_wp2_with fail
                    go_ret
                    exact ⟨ret_bool (by simp), hbw⟩
                  · have hnoE : runE runs k (flatR (runs.take k)).length = 0 := by rw [HRE2.out, if_neg hbig]
                    have HE2 : Hid (we = wholeE runs (runs.length - (k + 1)) (flatR (runs.take (k + 1))).length) := by
                      unfold Hid
                      rw [HE.out, HST.out, hnoE, if_neg (fun h => h rfl), HFT.out, List.length_append, List.length_replicate]
                    have g5 : decide ((200 : Int) - ((S (flatR (runs.take k))).size : Nat) < (N : Int)) = false := by rw [hsz9]; exact decide_eq_false hbig
                    have hlen2 : (flatR (runs.take (k + 1))).length ≤ 200 := by rw [HFT.out, List.length_append, List.length_replicate]; omega
                    have hN200 : N ≤ 200 := by omega
                    have HFT2 : Hid (S (flatR (runs.take k)) ++ S (List.replicate N b) = S (flatR (runs.take (k + 1)))) := by unfold Hid; rw [HFT.out, append_S, L_S, L_S]; rfl
                    have hs9 : (S (flatR (runs.take k))).size ≤ 200 := by omega
                    have hs8 : (S (List.replicate N b)).size ≤ 200 := by rw [S_size, List.length_replicate]; exact hN200
                    have hRP := Lib.hid (repeatB_any b N hN200)
                    clear HERR HRE2 HST HE HFT hpb hnoE hbig hsz9 h200 hzk
                    generalize S (flatR (runs.take k)) = T at *
                    generalize S (List.replicate N b) = RP at *
                    have hcv := conv_new (P := Try.prog) Try.underlying52 Try.underlying5 Try.underlying9 wc #[.int .u8 (b.toNat : Int)] [b] 1 1 rfl rfl
                    have hbz : Below w.heap.size w (wc.alloc (.cells #[.int .u8 (b.toNat : Int)] 5)) := hbw.alloc hbw.size _
                    have cz := (hBK.alloc (.cells #[.int .u8 (b.toNat : Int)] 5)).cell1
                    go_wp2_with fail
                    refine (hRP.out _).mono ?_
                    rintro e w9 ⟨rfl, hb9⟩
                    have hb9' := bthen hbz hb9
                    go_wp2_with fail
                    go_roundw
                    case rel => exact ⟨k + 1, by omega, by go_num, by rw [HFT2.out], hlen2, HE2.out, hb9'⟩
                    case measure => simp [intOf]; omega
          · obtain rfl : k = m := by omega
            have g1 : decide ((k : Int) < (k : Int)) = false := by simp
            have hw0 : we = 0 := by rw [hE, HLR.out, Nat.sub_self]; rfl
            have hv0 := HVE.out hw0
            subst hw0
            subst hv0
            have e9 : runs.take k = runs := List.take_of_length_le (by rw [HLR.out]; exact Nat.le_refl _)
            rw [e9]
            clear hE h200 e9
            go_wp2_with fail
            go_ret
            exact ⟨ret_bool (by simp), hb⟩
end Go.Proofs.Ytolnhplgaolieaa
