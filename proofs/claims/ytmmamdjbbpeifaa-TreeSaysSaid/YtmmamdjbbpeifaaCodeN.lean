/- The reference's CodesOf. -/
import Derived.Test.YtmmamdjbbpeifaaCodeN0
import Derived.Maps.AppendAt
import Derived.BigRegion
namespace Go.Proofs.Ytmmamdjbbpeifaa
open Go.RowKit
theorem isEmptyS (l : List UInt8) : (S l).toList.isEmpty = decide (l.length = 0) := by
  rw [toListS]; cases l <;> simp
theorem pw_up (n : Nat) (h : n ≤ 12) : wrap64 ((2 : Int) ^ n) = ((2 ^ n : Nat) : Int) := by
  have hp : 2 ^ n ≤ 4096 := Nat.le_trans (Nat.pow_le_pow_right (by omega) h) (by decide)
  have e : (2 : Int) ^ n = ((2 ^ n : Nat) : Int) := by rw [Int.natCast_pow]; rfl
  rw [e]
  generalize 2 ^ n = p at *
  rw [IntWalk.wrap64_in _ ⟨by omega, by omega⟩]
set_option maxRecDepth 100000 in
set_option maxHeartbeats 8000000 in
theorem coCodes_any (ns : List Nat) (A : Option Addr) (m c B : Nat) (w : World) (hr : Rd w B 1 A m (ints (nInts ns))) (hB : B ≤ w.heap.size) (hns : ∀ m ∈ ns, 1 ≤ m ∧ m ≤ 12) (h12 : ns.length ≤ 12) :
    Calls Try.prog 38 #[.slice A m c] w fun e w' => ∃ v b, e = .returned (.tuple #[v, .bool b]) ∧ (total ns ≤ 4096 → b = true ∧ w'.ownsRow w.heap.size 9 1 v m (strCells (codesL ns))) ∧ Below w.heap.size w w' := by
  obtain ⟨i0, hi0, hz0, hz1, hz2⟩ := info_parts info_str
  have hlen := ints_len hr
  rw [nInts_len] at hlen
  have hm12 : m ≤ 12 := by omega
  have HR := Lib.hid hr; clear hr
  have HL := Lib.hid hlen; clear hlen
  have HNS := Lib.hid hns; clear hns
  go_enter Try.func38, Try.ntmps38
  go_wp2_with (at_make; go_must (refine wpList_make_full _ rfl _ _ _ rfl w.heap.size 9 i0 _ 1 Try.underlying36 hi0 hz0 hz1 .i64 .i64 _ _ m rfl rfl rfl rfl (by rw [hz2]; omega) (by unfold maxLen; omega) (Nat.le_refl _) ?_); intro w2 hown2 hg2)
  have hb2 : Below w.heap.size w w2 := (Below.refl _ _).grown hg2 (Nat.le_refl _) (fun _ h => by cases h)
  have hown2 : w2.ownsRow w.heap.size 9 1 (.slice (some ⟨w.heap.size, 0, none⟩) m m) m (strCells (outAt ns 1 0)) := by
    rw [outAt_one (fun y hy => (HNS.out y hy).1), HL.out]
    have e : strCells (List.replicate m []) = List.replicate m (.string ByteArray.empty) := by rw [strCells, List.map_replicate]; rfl
    rw [made_one _ rfl] at hown2
    rw [e]; exact hown2
  clear hg2
  go_loopw [5, 6] (fun al n wr => ∃ (n' : Nat) (all : List (List UInt8)), 1 ≤ n' ∧ n' ≤ 13 ∧ n = .int .i64 n' ∧ AllAt all n' (nx ns n' 0) ∧ all.length ≤ n' * 12 ∧
      wr.ownsRow w.heap.size 9 1 (.slice (some ⟨w.heap.size, 0, none⟩) m m) m (strCells (outAt ns n' 0)) ∧ wr.ownsRow w.heap.size 9 1 al all.length (strCells all) ∧ al.ownBlock ≠ some w.heap.size ∧ Below w.heap.size w wr) (fun _ n _ => 13 - (intOf n).toNat)
  case atStart => exact ⟨1, [], Nat.le_refl _, by omega, rfl, by rw [nx_one (fun y hy => (HNS.out y hy).1)]; exact AllAt.start, Nat.zero_le _, hown2, World.ownsRow_nil _ _ _ _, by simp [Value.ownBlock], hb2⟩
  case round =>
    obtain ⟨n, all, hn1, hn13, rfl, hAll, hal, hown, hownA, hdis, hb⟩ := hrel
    have HAll := Lib.hid hAll; clear hAll
    by_cases hn12 : n ≤ 12
    · have g12 : decide ((n : Int) ≤ 12) = true := decide_eq_true (by omega)
      go_wp2_with fail
      go_loopw [5, 21] (fun al i wr => ∃ (k : Nat) (all : List (List UInt8)), k ≤ m ∧ i = .int .i64 k ∧ AllAt all n (nx ns n k) ∧ all.length ≤ n * 12 + k ∧
          wr.ownsRow w.heap.size 9 1 (.slice (some ⟨w.heap.size, 0, none⟩) m m) m (strCells (outAt ns n k)) ∧ wr.ownsRow w.heap.size 9 1 al all.length (strCells all) ∧ al.ownBlock ≠ some w.heap.size ∧ Below w.heap.size w wr) (fun _ i _ => m - (intOf i).toNat)
      case atStart => exact ⟨0, all, Nat.zero_le _, rfl, HAll.out, hal, hown, hownA, hdis, hb⟩
      case round =>
        clear hown hownA hdis hb hal HAll
        obtain ⟨k, all, hk, rfl, hAll, hal, hown, hownA, hdis, hb⟩ := hrel
        have HAll := Lib.hid hAll; clear hAll
        have hbs := hb.size
        by_cases hlt : k < m
        · obtain ⟨ad, hl, rfl, hab, c0⟩ := int_cell (HR.out.below (hb.mono hB)) hlt
          rw [nInts_get] at c0
          by_cases hkn : ns.getD k 0 = n
          · rw [hkn] at c0
            have hW : Hid (bw (nx ns n k / 2 ^ (12 - n)) n = wdAt ns k) := by unfold Hid wdAt; rw [hkn]
            have hOH := Lib.hid (outAt_hit (ns := ns) (n := n) (i := k) hkn)
            have hNH := Lib.hid (nx_hit (ns := ns) (n := n) (i := k) (by rw [← hkn, List.getD_eq_getElem?_getD, List.getElem?_eq_getElem (by rw [HL.out]; exact hlt)]; rfl))
            have hNL := Lib.hid (nx_le ns n (k + 1))
            have hDV := Lib.hid (nx_dvd (ns := ns) (n := n) (i := k) hn12)
            have hE0 := Lib.hid (outAt_at ns n k (by rw [HL.out]; exact hlt) hkn)
            clear hkn
            obtain ⟨A5, c5, rfl, hn5, hm5, hrd5⟩ := own_form hownA
            have hpn : 2 ^ n ≤ 4096 := Nat.le_trans (Nat.pow_le_pow_right (by omega) hn12) (by decide)
            clear hrd5
            have HP := Lib.hid (pw_up n hn12)
            go_wp2_with fail
            rw [HP.out]
            have HBR : Hid (∀ x, x < 2 ^ n → all.any (barB (bw x n)) = decide (x * 2 ^ (12 - n) < nx ns n k)) := fun x hx => HAll.out.bars hn12 hx
            have HFI : Hid (∀ x, (∀ y, y < x → y * 2 ^ (12 - n) < nx ns n k) → ¬ x * 2 ^ (12 - n) < nx ns n k → x * 2 ^ (12 - n) = nx ns n k ∧ x = nx ns n k / 2 ^ (12 - n)) := fun x => first_is hDV.out
            have HNO : Hid ((∀ y, y < 2 ^ n → y * 2 ^ (12 - n) < nx ns n k) → 4096 ≤ nx ns n k) := none_left hn12 hDV.out
            clear HP
            have HPW : Hid (2 ^ n = 2 ^ n) := rfl
            have hp1 : 1 ≤ 2 ^ n := Nat.one_le_two_pow
            obtain ⟨P, hP⟩ : ∃ P, P = 2 ^ n := ⟨_, rfl⟩
            rw [← hP]
            rw [← hP] at hpn hp1
            have HPE := Lib.hid hP; clear hP HPW
            go_loopw [31] (fun i wq => ∃ x : Nat, x ≤ P ∧ i = .int .i64 x ∧ (∀ y, y < x → y * 2 ^ (12 - n) < nx ns n k) ∧ wq.ownsRow w.heap.size 9 1 (.slice (some ⟨w.heap.size, 0, none⟩) m m) m (strCells (outAt ns n k)) ∧ wq.ownsRow w.heap.size 9 1 (.slice A5 all.length c5) all.length (strCells all) ∧ Below w.heap.size w wq) (fun i _ => P - (intOf i).toNat)
            case atStart => exact ⟨0, Nat.zero_le _, rfl, fun _ h => absurd h (by omega), hown, hownA, hb⟩
            case round =>
              clear hown hownA hb hbs
              obtain ⟨x, hxP, rfl, hlow, hown, hownA, hb⟩ := hrel
              obtain ⟨wo, hwo⟩ : ∃ wo : World, wo = wr := ⟨_, rfl⟩
              subst hwo
              have HLOW := Lib.hid hlow; clear hlow
              have hbs := hb.size
              by_cases hxl : x < P
              · have hx40 : x < 4096 := by omega
                go_wp2_with fail
                have HW1 : Blk (wo.alloc (.cells #[.string ⟨#[]⟩] 9)) wo.heap.size 9 #[.string (S [])] := Blk.new_ wo _ _
                have hbA : Below wo.heap.size wo (wo.alloc (.cells #[.string ⟨#[]⟩] 9)) := (by repeat (first | exact Below.refl _ _ | assumption | refine Below.alloc ?_ (by first | exact Nat.le_refl _ | assumption | omega | (simp <;> omega)) _ | refine Below.setCell ?_ (by first | exact Nat.le_refl _ | assumption | omega | (simp <;> omega)) _ | refine Below.drew ?_ | refine below_drewN ?_ _))
                generalize (wo.alloc (.cells #[.string ⟨#[]⟩] 9)) = wa at *
                have HOW := Lib.hid hown; have HOA := Lib.hid hownA
                clear hown hownA
                go_loopw [11] (fun i wq => ∃ (j : Nat) (o : List UInt8), j ≤ n ∧ i = .int .i64 ((j : Int) - 1) ∧ Blk wq wo.heap.size 9 #[.string (S o)] ∧ o ++ bw x j = bw x n ∧ o.length + j = n ∧ Below wo.heap.size wo wq) (fun i _ => (intOf i + 1).toNat)
                case atStart => exact ⟨n, [], Nat.le_refl _, rfl, HW1, rfl, by simp, hbA⟩
                case round =>
                  clear HW1 hbA
                  obtain ⟨j, o, hj, rfl, hBk, ho, hol, hbq⟩ := hrel
                  have HO := Lib.hid ho; clear ho
                  have HBk := Lib.hid hBk
                  have hol2 : o.length ≤ 12 := by omega
                  have HOL := Lib.hid hol; clear hol
                  have hbqs := hbq.size
                  have cq := Blk.cell0 hBk
                  have fq := Blk.frozen hBk 0
                  have hlq := Blk.lt hBk
                  clear hBk
                  have hos : (S o).size ≤ 12 := by rw [S_size]; exact hol2
                  by_cases hj0 : 0 < j
                  · obtain ⟨j, rfl⟩ : ∃ k, j = k + 1 := ⟨j - 1, by omega⟩
                    have e0 : (((j + 1 : Nat) : Int) - 1) = (j : Int) := by omega
                    rw [e0]
                    have hd : x / 2 ^ j < 4096 := Nat.lt_of_le_of_lt (Nat.div_le_self _ _) hx40
                    have HB : Hid ((x : Int) / 2 ^ j = ((x / 2 ^ j : Nat) : Int)) := by unfold Hid; rw [Int.natCast_ediv, Int.natCast_pow]; rfl
                    have HST : Hid (bw x (j + 1) = UInt8.ofNat (48 + x / 2 ^ j % 2) :: bw x j) := rfl
                    generalize x / 2 ^ j = y at *
                    rcases Nat.mod_two_eq_zero_or_one y with hm | hm
                    · have h1 : bits BinOp.and IntKind.i64 ((x : Int) / 2 ^ j) 1 = 0 := by
                        have := i64_and_nat y 1 (by omega) (by omega)
                        rw [nat_mask1, hm] at this
                        rw [HB.out]; exact this
                      have hz1 : (S [48]).size ≤ 1 := by rw [S_size]; exact Nat.le_refl _
                      have HN : Hid ((o ++ [48]) ++ bw x j = bw x n) := by
                        unfold Hid
                        rw [← HO.out, HST.out, hm]; simp
                      clear hm
                      have hcv : (convert 68 9 (.slice (some ⟨wr.heap.size, 0, none⟩) 1 1)).run Try.prog ((wr.alloc (.cells #[.int .u8 48] 5)).drew) = .ok (.string (S [48])) ((wr.alloc (.cells #[.int .u8 48] 5)).drew) :=
                        run_bytes_string _ Try.underlying68 Try.underlying5 Try.underlying9 (B := wr.heap.size + 1) (l := [48]) (Rd.new_ (n := 1) (size := 1) wr #[.int .u8 48] 5 (Nat.lt_succ_self _) rfl).drew
                      go_wp2_with fail
                      go_region
                      go_wp2_with fail
                      go_roundw
                      case rel =>
                        have hbk := Blk.drew (Blk.alloc (Blk.set_ HBk.out 0 (.string (S o ++ S [48]))) (.cells #[.int .u8 48] 5))
                        rw [append_S, L_S, L_S] at hbk
                        exact ⟨j, o ++ [48], by omega, rfl, by rw [append_S, L_S, L_S]; exact hbk, HN.out, by have := HOL.out; simp; omega, (by repeat (first | exact Below.refl _ _ | assumption | refine Below.alloc ?_ (by first | exact Nat.le_refl _ | assumption | omega | (simp <;> omega)) _ | refine Below.setCell ?_ (by first | exact Nat.le_refl _ | assumption | omega | (simp <;> omega)) _ | refine Below.drew ?_ | refine below_drewN ?_ _))⟩
                      case measure => simp [intOf]
                    · have h1 : bits BinOp.and IntKind.i64 ((x : Int) / 2 ^ j) 1 = 1 := by
                        have := i64_and_nat y 1 (by omega) (by omega)
                        rw [nat_mask1, hm] at this
                        rw [HB.out]; exact this
                      have hz1 : (S [49]).size ≤ 1 := by rw [S_size]; exact Nat.le_refl _
                      have HN : Hid ((o ++ [49]) ++ bw x j = bw x n) := by
                        unfold Hid
                        rw [← HO.out, HST.out, hm]; simp
                      clear hm
                      have hcv : (convert 68 9 (.slice (some ⟨wr.heap.size, 0, none⟩) 1 1)).run Try.prog ((wr.alloc (.cells #[.int .u8 49] 5)).drew) = .ok (.string (S [49])) ((wr.alloc (.cells #[.int .u8 49] 5)).drew) :=
                        run_bytes_string _ Try.underlying68 Try.underlying5 Try.underlying9 (B := wr.heap.size + 1) (l := [49]) (Rd.new_ (n := 1) (size := 1) wr #[.int .u8 49] 5 (Nat.lt_succ_self _) rfl).drew
                      go_wp2_with fail
                      go_region
                      go_wp2_with fail
                      go_roundw
                      case rel =>
                        have hbk := Blk.drew (Blk.alloc (Blk.set_ HBk.out 0 (.string (S o ++ S [49]))) (.cells #[.int .u8 49] 5))
                        rw [append_S, L_S, L_S] at hbk
                        exact ⟨j, o ++ [49], by omega, rfl, by rw [append_S, L_S, L_S]; exact hbk, HN.out, by have := HOL.out; simp; omega, (by repeat (first | exact Below.refl _ _ | assumption | refine Below.alloc ?_ (by first | exact Nat.le_refl _ | assumption | omega | (simp <;> omega)) _ | refine Below.setCell ?_ (by first | exact Nat.le_refl _ | assumption | omega | (simp <;> omega)) _ | refine Below.drew ?_ | refine below_drewN ?_ _))⟩
                      case measure => simp [intOf]
                  · obtain rfl : j = 0 := by omega
                    have HOX : Hid (o = bw x n) := by unfold Hid; rw [← HO.out, bw, List.append_nil]
                    rw [HOX.out] at cq
                    have hB9 := bthen hb hbq
                    have hAll := (own_form (own_below HOA.out hbq))
                    obtain ⟨A6, c6, hA6, _, _, hrd6⟩ := hAll
                    cases hA6
                    have HRD := Lib.hid hrd6
                    clear hrd6
                    have hbar := HBR.out x (by rw [← HPE.out]; exact hxl)
                    have HBAR := Lib.hid hbar; clear hbar
                    go_wp2_with fail
                    refine (coBars_any all (bw x n) A5 all.length c5 wr.heap.size wo.heap.size wr HRD.out (Nat.le_refl _) hlq (by unfold maxLen at hm5; omega) cq).mono ?_
                    rintro e w5 ⟨rfl, hb5⟩
                    rw [HBAR.out]
                    have hB5 := bthen hB9 hb5
                    have hbo := bthen hbq hb5
                    have hown5 := own_below HOW.out hbo
                    have hownA5 := own_below HOA.out hbo
                    have cq5 := (hb5.cell (p := ⟨wo.heap.size, 0, none⟩) hlq).trans cq
                    clear cq fq hbqs hbq
                    by_cases hlt2 : x * 2 ^ (12 - n) < nx ns n k
                    · have g7 : decide (x * 2 ^ (12 - n) < nx ns n k) = true := decide_eq_true hlt2
                      have HLN : Hid (∀ y, y < x + 1 → y * 2 ^ (12 - n) < nx ns n k) := fun y hy => by
                        by_cases hyx : y = x
                        · subst hyx; exact hlt2
                        · exact HLOW.out y (by omega)
                      clear hlt2
                      rw [g7]
                      go_wp2_with fail
                      go_roundw
                      case rel => exact ⟨x + 1, by omega, by go_num, HLN.out, hown5, hownA5, hB5⟩
                      case measure => simp [intOf]; omega
                    · have HF := Lib.hid (HFI.out x HLOW.out hlt2)
                      have g7 : decide (x * 2 ^ (12 - n) < nx ns n k) = false := decide_eq_false hlt2
                      clear hlt2
                      rw [g7]
                      have k0 := hown5.cellAt k (by omega)
                      rw [strCells_at _ _ (by rw [outAt_len, HL.out]; exact hlt), hE0.out] at k0
                      have k1 := hown5.frozenAt k
                      have hst := (hown5.stored k (.string (S (bw x n)))).1
                      have hxw : bw x n = wdAt ns k := by rw [← hW.out, ← HF.out.2]
                      have HX1 : Hid (AllAt (all ++ [bw x n]) n (nx ns n (k + 1))) := by
                        unfold Hid; rw [hNH.out]; exact HAll.out.add (by rw [← HPE.out]; exact hxl) HF.out.1
                      rw [hxw, ← strCells_set, ← hOH.out, ← hxw] at hst
                      have HST := Lib.hid hst
                      have HAK := Lib.hid (hownA5.kept (gb_set (gb_refl w5 (some w.heap.size)) k (.string (S (bw x n)))) (.inr hdis))
                      have hne : (S (bw x n)).toList.isEmpty = false := by rw [isEmptyS, decide_eq_false_iff_not]; exact bw_nonempty x n hn1
                      have hs5 := hB5.size
                      have hB6 : Below w.heap.size w ((w5.setCell ⟨w.heap.size, k, none⟩ (.string (S (bw x n)))).alloc (.cells #[.string (S (bw x n))] 9)) := (by repeat (first | exact Below.refl _ _ | assumption | refine Below.alloc ?_ (by first | exact Nat.le_refl _ | assumption | omega | (simp <;> omega)) _ | refine Below.setCell ?_ (by first | exact Nat.le_refl _ | assumption | omega | (simp <;> omega)) _ | refine Below.drew ?_ | refine below_drewN ?_ _))
                      have hlw : w.heap.size < w5.heap.size := (hown5.lt w.heap.size rfl).2
                      clear hst hxw hown5 hownA5
                      generalize bw x n = wd at *
                      go_wp2_with (at_builtin; go_must (refine wpList_append_own_at _ rfl _ _ _ rfl w.heap.size 9 i0 _ 1 16 Try.underlying36 hi0 hz0 hz1 hz2 rfl (by omega) _ all.length (strCells all) rfl (HAK.out.alloc _) ⟨w5.heap.size, 0, none⟩ 1 1 [.string (S wd)] rfl rfl ?hnews (by simp [Value.oneCell']) (by unfold maxLen; omega) (by omega) (by simp; omega) ?hgo))
                      case hnews =>
                        intro j u hj
                        have := cell_one_new (w5.setCell ⟨w.heap.size, k, none⟩ (.string (S wd))) (.string (S wd)) 9 j u hj
                        simpa using this
                      case hgo =>
                        intro v7 w7 hownA7 hg7 _ hat7
                        have hB7 := hB6.grown hg7 hB6.size (fun j hj => by
                          have := (HAK.out.lt j hj).1; omega)
                        have hown7 := (HST.out.alloc (.cells #[.string (S wd)] 9)).kept hg7 (.inr (fun e => hdis e.symm))
                        have hdis7 : v7.ownBlock ≠ some w.heap.size := by
                          rcases hat7 with h | h
                          · rw [h]; exact hdis
                          · rw [h]; simp; omega
                        clear hat7 hg7
                        go_wp2_with fail
                        go_roundw
                        case rel => exact ⟨k + 1, all ++ [wd], by omega, by go_num, HX1.out, by simp; omega, hown7, by simpa [strCells] using hownA7, hdis7, hB7⟩
                        case measure => simp [intOf]; omega
              · obtain rfl : x = P := by omega
                have k0 := hown.cellAt k (by omega)
                rw [strCells_at _ _ (by rw [outAt_len, HL.out]; exact hlt), hE0.out] at k0
                have hne : (S []).toList.isEmpty = true := by rw [isEmptyS]; rfl
                have h4096 := HNO.out (fun y hy => HLOW.out y (by rw [HPE.out]; exact hy))
                have h1 := hNL.out
                rw [hNH.out] at h1
                have hp := pw_bd n
                have HT : Hid (¬ total ns ≤ 4096) := fun h => by omega
                clear h4096 h1 hp
                go_wp2_with fail
                go_ret2
                exact ⟨_, _, rfl, fun h => absurd h HT.out, hb⟩
          · have hOM := Lib.hid (outAt_miss (ns := ns) (n := n) (i := k) hkn)
            have hNM := Lib.hid (nx_miss (ns := ns) (n := n) (i := k) (fun h => hkn (by rw [List.getD_eq_getElem?_getD, h]; rfl)))
            have g2 : (((ns.getD k 0 : Nat) : Int) != (n : Int)) = true := by rw [bne_iff_ne]; omega
            clear hkn
            generalize ns.getD k 0 = q at *
            go_wp2_with fail
            go_roundw
            case rel => exact ⟨k + 1, all, by omega, by go_num, by rw [hNM.out]; exact HAll.out, by omega, by rw [hOM.out]; exact hown, hownA, hdis, hb⟩
            case measure => simp [intOf]; omega
        · obtain rfl : k = m := by omega
          have hNN : Hid (nx ns (n + 1) 0 = nx ns n k) := by unfold Hid; rw [nx_next, HL.out]
          have hON : Hid (outAt ns (n + 1) 0 = outAt ns n k) := by unfold Hid; rw [outAt_next, HL.out]
          go_wp2_with fail
          go_roundw
          case rel => exact ⟨n + 1, all, by omega, by omega, by go_num, by rw [hNN.out]; exact HAll.out.up, by omega, by rw [hON.out]; exact hown, hownA, hdis, hb⟩
          case measure => simp [intOf]; omega
    · obtain rfl : n = 13 := by omega
      have hOE : Hid (outAt ns 13 0 = codesL ns) := outAt_end (fun y hy => (HNS.out y hy).2)
      go_wp2_with fail
      go_ret2
      exact ⟨_, _, rfl, fun _ => ⟨rfl, by rw [← hOE.out]; exact hown⟩, hb⟩
end Go.Proofs.Ytmmamdjbbpeifaa
