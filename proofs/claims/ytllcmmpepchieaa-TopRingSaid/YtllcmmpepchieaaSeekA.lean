/- seek.check and seek.Find. -/
import Derived.Test.YtllcmmpepchieaaSeek1
import Derived.Test.YtllcmmpepchieaaWord1
namespace Go.Proofs.Ytllcmmpepchieaa
open Go.RowKit
def seekErr (s p : ByteArray) : Int := if longErr s.size = 0 then (if longErr p.size = 0 then (if p.size = 0 then 5 else 0) else longErr p.size) else longErr s.size
theorem longErr_cases (n : Nat) : (200 < n ∧ longErr n = 2) ∨ (n ≤ 200 ∧ longErr n = 0) := by
  unfold longErr
  by_cases h : 200 < n
  · rw [if_pos h]; exact .inl ⟨h, rfl⟩
  · rw [if_neg h]; exact .inr ⟨by omega, rfl⟩
set_option maxHeartbeats 2000000 in
theorem seekCheck_any (s p : ByteArray) (w : World) : Calls Try.prog 45 #[.string s, .string p] w fun e w' => e = .returned (.int .i64 (seekErr s p)) ∧ Below w.heap.size w w' := by
  rcases longErr_cases s.size with ⟨_, h1⟩ | ⟨_, h1⟩
  · have HE : Hid (seekErr s p = 2) := by unfold Hid seekErr; rw [h1]; rfl
    have H1 := Lib.hid h1
    clear h1
    go_enter Try.func45, Try.ntmps45
    go_wp2_with fail
    refine (wordCheck_any s _).mono ?_
    rintro e w1 ⟨rfl, hb1⟩
    rw [H1.out]
    go_wp2_with fail
    go_ret
    rw [HE.out]
    exact ⟨rfl, hb1⟩
  rcases longErr_cases p.size with ⟨_, h2⟩ | ⟨_, h2⟩
  · have HE : Hid (seekErr s p = 2) := by unfold Hid seekErr; rw [h1, h2]; rfl
    have H1 := Lib.hid h1
    have H2 := Lib.hid h2
    clear h1 h2
    go_enter Try.func45, Try.ntmps45
    go_wp2_with fail
    refine (wordCheck_any s _).mono ?_
    rintro e w1 ⟨rfl, hb1⟩
    rw [H1.out]
    go_wp2_with fail
    refine (wordCheck_any p _).mono ?_
    rintro e w2 ⟨rfl, hb2⟩
    rw [H2.out]
    go_wp2_with fail
    go_ret
    rw [HE.out]
    exact ⟨rfl, bthen hb1 hb2⟩
  by_cases h0 : p.size = 0
  · have HE : Hid (seekErr s p = 5) := by unfold Hid seekErr; rw [h1, h2, h0]; rfl
    have hpe : p.data.toList = [] := List.eq_nil_of_length_eq_zero (by rw [blen]; exact h0)
    have g1 : (p.toList == []) = true := by rw [ByteArray.toList_eq]; rw [hpe]; rfl
    have g2 : p.toList.isEmpty = true := by rw [ByteArray.toList_eq]; rw [hpe]; rfl
    clear hpe h0
    have H1 := Lib.hid h1
    have H2 := Lib.hid h2
    clear h1 h2
    go_enter Try.func45, Try.ntmps45
    go_wp2_with fail
    refine (wordCheck_any s _).mono ?_
    rintro e w1 ⟨rfl, hb1⟩
    rw [H1.out]
    go_wp2_with fail
    refine (wordCheck_any p _).mono ?_
    rintro e w2 ⟨rfl, hb2⟩
    rw [H2.out]
    go_wp2_with fail
    go_ret
    rw [HE.out]
    exact ⟨rfl, bthen hb1 hb2⟩
  · have HE : Hid (seekErr s p = 0) := by unfold Hid seekErr; rw [h1, h2, if_pos rfl, if_pos rfl, if_neg h0]
    have hpe : p.data.toList ≠ [] := fun h => h0 (by rw [← blen, h]; rfl)
    have g1 : (p.toList == []) = false := by rw [ByteArray.toList_eq, beq_eq_false_iff_ne]; exact hpe
    have g2 : p.toList.isEmpty = false := by rw [ByteArray.toList_eq, List.isEmpty_eq_false_iff]; exact hpe
    clear hpe h0
    have H1 := Lib.hid h1
    have H2 := Lib.hid h2
    clear h1 h2
    go_enter Try.func45, Try.ntmps45
    go_wp2_with fail
    refine (wordCheck_any s _).mono ?_
    rintro e w1 ⟨rfl, hb1⟩
    rw [H1.out]
    go_wp2_with fail
    refine (wordCheck_any p _).mono ?_
    rintro e w2 ⟨rfl, hb2⟩
    rw [H2.out]
    go_wp2_with fail
    go_ret
    rw [HE.out]
    exact ⟨rfl, bthen hb1 hb2⟩
def findI (s p : List UInt8) (n : Nat) : List Int := (finds s p n).map fun (k : Nat) => (k : Int)
theorem findI_len (s p : List UInt8) (n : Nat) : (findI s p n).length = (finds s p n).length := by simp [findI]
theorem findI_at (s p : List UInt8) (n : Nat) {q : Nat} (h : q < (finds s p n).length) : (findI s p n).getD q 0 = (((finds s p n).getD q 0 : Nat) : Int) := by
  unfold findI
  rw [List.getD_eq_getElem?_getD, List.getElem?_map, List.getD_eq_getElem?_getD, List.getElem?_eq_getElem h]; rfl
theorem ints_snoc (l : List Int) (x : Int) : ints (l ++ [x]) = ints l ++ [.int .i64 x] := by simp [ints]
set_option maxHeartbeats 2000000 in
theorem seekFind_err (s p : ByteArray) (h : seekErr s p ≠ 0) (w : World) : Calls Try.prog 18 #[.string s, .string p] w fun e w' => e = .returned (.tuple #[.slice none 0 0, .int .i64 (seekErr s p)]) ∧ Below w.heap.size w w' := by
  have HC := Lib.hid (seekCheck_any s p)
  generalize seekErr s p = E at *
  have g1 : (E == 0) = false := by rw [beq_eq_false_iff_ne]; exact h
  have g2 : (E != 0) = true := by rw [bne, g1]; rfl
  clear h
  go_enter Try.func18, Try.ntmps18
  go_wp2_with fail
  refine (HC.out _).mono ?_
  rintro e w1 ⟨rfl, hb1⟩
  go_wp2_with fail
  go_ret2
  exact ⟨rfl, hb1⟩
set_option maxRecDepth 100000 in
set_option maxHeartbeats 8000000 in
theorem seekFind_any (s p : ByteArray) (hs : s.size ≤ 200) (hp : p.size ≤ 200) (hp0 : 0 < p.size) (w : World) :
    Calls Try.prog 18 #[.string s, .string p] w fun e w' => ∃ v, e = .returned (.tuple #[v, .int .i64 0]) ∧ w'.ownsRow w.heap.size 3 1 v (findI (L s) (L p) (s.size + 1 - p.size)).length (ints (findI (L s) (L p) (s.size + 1 - p.size))) ∧ Below w.heap.size w w' := by
  obtain ⟨i0, hi0, hz0, hz1, hz2⟩ := info_parts info_int
  have HS : Hid ((L s).length = s.size) := L_len s
  have HP : Hid ((L p).length = p.size) := L_len p
  have HE : Hid (seekErr s p = 0) := by
    unfold Hid seekErr longErr
    rw [if_neg (show ¬ 200 < s.size by omega), if_neg (show ¬ 200 < p.size by omega), if_pos rfl, if_pos rfl, if_neg (by omega)]
  go_enter Try.func18, Try.ntmps18
  go_wp2_with fail
  refine (seekCheck_any s p _).mono ?_
  rintro e w1 ⟨rfl, hb1⟩
  rw [HE.out]
  go_wp2_with fail
  refine (wordBorders_any p hp _).mono ?_
  rintro e w2 ⟨gb, rfl, hbrow, hb2⟩
  have HB := Lib.hid hbrow
  clear hbrow
  have hb12 := bthen hb1 hb2
  clear hb1 hb2
  go_wp2_with fail
  go_loopw [25, 9, 10] (fun iv ov kv wr => ∃ i k : Nat, i ≤ s.size ∧ iv = .int .i64 (i : Int) ∧ kv = .int .i64 (k : Int) ∧ Hid (Sk (L s) (L p) i k) ∧ wr.ownsRow w2.heap.size 3 1 ov (findI (L s) (L p) (i + 1 - p.size)).length (ints (findI (L s) (L p) (i + 1 - p.size))) ∧ Below w2.heap.size w2 wr) (fun iv _ _ _ => s.size - (intOf iv).toNat)
  case atStart =>
    refine ⟨0, 0, Nat.zero_le _, rfl, rfl, Lib.hid (Sk.start _ _), ?_, Below.refl _ _⟩
    rw [show 0 + 1 - p.size = 0 by omega]
    exact World.ownsRow_nil _ _ _ _
  case round =>
    obtain ⟨i, k, hi, rfl, rfl, HK, hown, hb⟩ := hrel
    by_cases hlt : i < s.size
    · have g1 : decide ((i : Int) < (s.size : Int)) = true := decide_eq_true (by omega)
      have g1' : decide (i < s.size) = true := decide_eq_true hlt
      have hfl := finds_len (L s) (L p) (i + 1 - p.size)
      have HST : Hid (∀ k', Sk (L s) (L p) (i + 1) k' → findI (L s) (L p) (i + 2 - p.size) = findI (L s) (L p) (i + 1 - p.size) ++ if k' = p.size then [((i + 1 - p.size : Nat) : Int)] else []) := fun k' hk' => by
        have h := finds_step hk' (by rw [HS.out]; exact hlt)
        rw [HP.out] at h
        unfold findI
        rw [h, List.map_append]
        congr 1
        split <;> rfl
      have hfl2 := findI_len (L s) (L p) (i + 1 - p.size)
      obtain ⟨F, hF⟩ : ∃ F, findI (L s) (L p) (i + 1 - p.size) = F := ⟨_, rfl⟩
      rw [hF] at hfl2 hown HST
      have hFb : F.length ≤ 201 := by omega
      clear hfl hfl2 hF
      have HOWN := Lib.hid hown
      clear hown
      have hka := HK.out.1.1
      rw [HP.out] at hka
      obtain ⟨wo, hwo⟩ : ∃ wo : World, wo = wr := ⟨_, rfl⟩
      subst hwo
      have hb0 := hb
      clear hb
      go_wp2_with fail
      go_loopw [10] (fun kv wr => ∃ k m : Nat, kv = .int .i64 (k : Int) ∧ k ≤ p.size ∧ Hid (Ki (L s) (L p) i k) ∧ wr = wo.drewN m) (fun kv _ => (intOf kv).toNat)
      case atStart => exact ⟨k, 0, rfl, hka, Lib.hid HK.out.ki, rfl⟩
      case round =>
        clear hka HK
        obtain ⟨k, m, rfl, hk, HK, rfl⟩ := hrel
        have e2 := getB s i hlt
        by_cases hk0 : 0 < k
        · have g2 : decide ((0 : Int) < (k : Int)) = true := decide_eq_true (by omega)
          have g2' : decide (0 < k) = true := decide_eq_true hk0
          by_cases hkp0 : k = p.size
          · have g3 : ((k : Int) == (p.size : Int)) = true := by rw [beq_iff_eq]; omega
            have HKP := Lib.hid hkp0
            clear hkp0
            obtain ⟨j, hj⟩ : ∃ j, j = k - 1 := ⟨_, rfl⟩
            have gj : (k : Int) - 1 = (j : Int) := by omega
            have hjp : j < p.size := by omega
            have cb := (HB.out.below hb0).at_ (k := j) hjp
            rw [bI_at _ _ _ hjp, show j + 1 = k by omega] at cb
            have HN := Lib.hid (HK.out.next hk0 (.inl (by rw [HP.out]; exact HKP.out)))
            have hfb := fb_lt (L p) hk0
            generalize fb (L p) k = f at *
            clear e2 hj
            go_wp2_with fail
            go_quiet (fail)
            go_wp2_with fail
            go_roundw
            case rel => exact ⟨f, _, rfl, by omega, HN, rfl⟩
            case measure => simp [intOf]; omega
          · have hkl : k < p.size := by omega
            have g3 : ((k : Int) == (p.size : Int)) = false := by rw [beq_eq_false_iff_ne]; omega
            have e1 := getB p k hkl
            by_cases he : p[k] = s[i]
            · have g4 : ((p[k].toNat : Int) == (s[i].toNat : Int)) = true := by rw [he]; exact beq_self_eq_true _
              have HSK := Lib.hid (HK.out.hit (by rw [HP.out]; exact hkl) (by rw [← e1, ← e2]; exact he))
              clear e1 e2 he
              go_wp2_with fail
              go_quiet (fail)
              obtain ⟨n1, hn1⟩ : ∃ n1, n1 = nq := ⟨_, rfl⟩
              rw [← hn1]
              clear hn1
              go_wp2_with fail
              go_quiet (fail)
              have HNX := Lib.hid (HST.out _ HSK.out)
              have hb9 := below_drewN hb0 (m + n1 + nq)
              have hown9 := own_drewN HOWN.out (m + n1 + nq)
              by_cases hkp : (k + 1) = p.size
              · have g7 : (((k + 1) : Int) == (p.size : Int)) = true := by rw [beq_iff_eq]; omega
                have g7' : (((k : Int) + 1) == (p.size : Int)) = true := by rw [beq_iff_eq]; omega
                have hle := HSK.out.1.2.1
                have gx : (i : Int) + 1 - (p.size : Int) = ((i + 1 - p.size : Nat) : Int) := by omega
                have HNY : Hid (findI (L s) (L p) (i + 2 - p.size) = F ++ [((i + 1 - p.size : Nat) : Int)]) := by
                  have h := HNX.out
                  rw [if_pos hkp] at h
                  exact h
                clear HNX
                go_wp2_with (at_builtin; go_must (refine wpList_appG rfl _ _ _ rfl w2.heap.size 3 i0 _ 1 8 Try.underlying45 hi0 hz0 hz1 hz2 rfl (by omega) _ F.length (ints F) rfl (World.ownsRow.alloc (w := (wo.drewN (m + n1 + nq))) hown9 _) ⟨(wo.drewN (m + n1 + nq)).heap.size, 0, none⟩ 1 1 [.int .i64 (((i + 1 - p.size : Nat) : Int))] rfl rfl (cell_one_new _ _ _) (by simp [Value.oneCell']) (by omega) (by omega) (by have := (hb9).size; simp at this ⊢; omega) ?_); intro v6 w6 hown6 hg6 hb6; have hb6' := ((hb9).alloc (hb9).size _).trans hb6)
                clear hg6 hb6
                go_roundw
                case rel =>
                  refine ⟨i + 1, (k + 1), by omega, by go_num, by go_num, HSK, ?_, hb6'⟩
                  rw [show i + 1 + 1 - p.size = i + 2 - p.size by omega, HNY.out, List.length_append, List.length_singleton, ints_snoc]
                  exact hown6
                case measure => simp [intOf]; omega
              · have g7 : (((k + 1) : Int) == (p.size : Int)) = false := by rw [beq_eq_false_iff_ne]; omega
                have g7' : (((k : Int) + 1) == (p.size : Int)) = false := by rw [beq_eq_false_iff_ne]; omega
                have HNY : Hid (findI (L s) (L p) (i + 2 - p.size) = F) := by
                  have h := HNX.out
                  rw [if_neg hkp, List.append_nil] at h
                  exact h
                clear HNX
                go_wp2_with fail
                go_roundw
                case rel =>
                  refine ⟨i + 1, (k + 1), by omega, by go_num, by go_num, HSK, ?_, hb9⟩
                  rw [show i + 1 + 1 - p.size = i + 2 - p.size by omega, HNY.out]
                  exact hown9
                case measure => simp [intOf]; omega
            · have g4 : ((p[k].toNat : Int) == (s[i].toNat : Int)) = false := by
                rw [beq_eq_false_iff_ne]; intro h; exact he (UInt8.toNat_inj.1 (by omega))
              have HNEQ : Hid ((L p).getD k 0 ≠ (L s).getD i 0) := by unfold Hid; rw [← e1, ← e2]; exact he
              clear e1 he
              obtain ⟨j, hj⟩ : ∃ j, j = k - 1 := ⟨_, rfl⟩
              have gj : (k : Int) - 1 = (j : Int) := by omega
              have hjp : j < p.size := by omega
              have cb := (HB.out.below hb0).at_ (k := j) hjp
              rw [bI_at _ _ _ hjp, show j + 1 = k by omega] at cb
              have HN := Lib.hid (HK.out.next hk0 (.inr HNEQ.out))
              have hfb := fb_lt (L p) hk0
              generalize fb (L p) k = f at *
              clear e2 hj
              go_wp2_with fail
              go_quiet (fail)
              go_wp2_with fail
              go_roundw
              case rel => exact ⟨f, _, rfl, by omega, HN, rfl⟩
              case measure => simp [intOf]; omega
        · have g2 : decide ((0 : Int) < (k : Int)) = false := decide_eq_false (by omega)
          have g2' : decide (0 < k) = false := decide_eq_false hk0
          have hkl : k < p.size := by omega
          have e1 := getB p k hkl
          by_cases he : p[k] = s[i]
          · have g4 : ((p[k].toNat : Int) == (s[i].toNat : Int)) = true := by rw [he]; exact beq_self_eq_true _
            have HSK := Lib.hid (HK.out.hit (by rw [HP.out]; exact hkl) (by rw [← e1, ← e2]; exact he))
            clear e1 e2 he
            go_wp2_with fail
            go_quiet (fail)
            obtain ⟨n1, hn1⟩ : ∃ n1, n1 = nq := ⟨_, rfl⟩
            rw [← hn1]
            clear hn1
            go_wp2_with fail
            go_quiet (fail)
            have HNX := Lib.hid (HST.out _ HSK.out)
            have hb9 := below_drewN hb0 (m + n1 + nq)
            have hown9 := own_drewN HOWN.out (m + n1 + nq)
            by_cases hkp : (k + 1) = p.size
            · have g7 : (((k + 1) : Int) == (p.size : Int)) = true := by rw [beq_iff_eq]; omega
              have g7' : (((k : Int) + 1) == (p.size : Int)) = true := by rw [beq_iff_eq]; omega
              have hle := HSK.out.1.2.1
              have gx : (i : Int) + 1 - (p.size : Int) = ((i + 1 - p.size : Nat) : Int) := by omega
              have HNY : Hid (findI (L s) (L p) (i + 2 - p.size) = F ++ [((i + 1 - p.size : Nat) : Int)]) := by
                have h := HNX.out
                rw [if_pos hkp] at h
                exact h
              clear HNX
              go_wp2_with (at_builtin; go_must (refine wpList_appG rfl _ _ _ rfl w2.heap.size 3 i0 _ 1 8 Try.underlying45 hi0 hz0 hz1 hz2 rfl (by omega) _ F.length (ints F) rfl (World.ownsRow.alloc (w := (wo.drewN (m + n1 + nq))) hown9 _) ⟨(wo.drewN (m + n1 + nq)).heap.size, 0, none⟩ 1 1 [.int .i64 (((i + 1 - p.size : Nat) : Int))] rfl rfl (cell_one_new _ _ _) (by simp [Value.oneCell']) (by omega) (by omega) (by have := (hb9).size; simp at this ⊢; omega) ?_); intro v6 w6 hown6 hg6 hb6; have hb6' := ((hb9).alloc (hb9).size _).trans hb6)
              clear hg6 hb6
              go_roundw
              case rel =>
                refine ⟨i + 1, (k + 1), by omega, by go_num, by go_num, HSK, ?_, hb6'⟩
                rw [show i + 1 + 1 - p.size = i + 2 - p.size by omega, HNY.out, List.length_append, List.length_singleton, ints_snoc]
                exact hown6
              case measure => simp [intOf]; omega
            · have g7 : (((k + 1) : Int) == (p.size : Int)) = false := by rw [beq_eq_false_iff_ne]; omega
              have g7' : (((k : Int) + 1) == (p.size : Int)) = false := by rw [beq_eq_false_iff_ne]; omega
              have HNY : Hid (findI (L s) (L p) (i + 2 - p.size) = F) := by
                have h := HNX.out
                rw [if_neg hkp, List.append_nil] at h
                exact h
              clear HNX
              go_wp2_with fail
              go_roundw
              case rel =>
                refine ⟨i + 1, (k + 1), by omega, by go_num, by go_num, HSK, ?_, hb9⟩
                rw [show i + 1 + 1 - p.size = i + 2 - p.size by omega, HNY.out]
                exact hown9
              case measure => simp [intOf]; omega
          · have g4 : ((p[k].toNat : Int) == (s[i].toNat : Int)) = false := by
              rw [beq_eq_false_iff_ne]; intro h; exact he (UInt8.toNat_inj.1 (by omega))
            have HSK : Hid (Sk (L s) (L p) (i + 1) k) := by
              have hk00 : k = 0 := by omega
              have h := HK.out
              have he' : (L p).getD k 0 ≠ (L s).getD i 0 := by rw [← e1, ← e2]; exact he
              rw [hk00] at h he' ⊢
              exact h.miss he'
            clear e1 e2 he
            go_wp2_with fail
            go_quiet (fail)
            obtain ⟨n1, hn1⟩ : ∃ n1, n1 = nq := ⟨_, rfl⟩
            rw [← hn1]
            clear hn1
            go_wp2_with fail
            go_quiet (fail)
            have HNX := Lib.hid (HST.out _ HSK.out)
            have hb9 := below_drewN hb0 (m + n1 + nq)
            have hown9 := own_drewN HOWN.out (m + n1 + nq)
            have hkp : ¬ k = p.size := by omega
            have g7 : ((k : Int) == (p.size : Int)) = false := by rw [beq_eq_false_iff_ne]; omega
            have g7' : ((k : Int) == (p.size : Int)) = false := by rw [beq_eq_false_iff_ne]; omega
            have HNY : Hid (findI (L s) (L p) (i + 2 - p.size) = F) := by
              have h := HNX.out
              rw [if_neg hkp, List.append_nil] at h
              exact h
            clear HNX
            go_wp2_with fail
            go_roundw
            case rel =>
              refine ⟨i + 1, k, by omega, by go_num, by go_num, HSK, ?_, hb9⟩
              rw [show i + 1 + 1 - p.size = i + 2 - p.size by omega, HNY.out]
              exact hown9
            case measure => simp [intOf]; omega
    · obtain rfl : i = s.size := by omega
      have g1 : decide ((s.size : Int) < (s.size : Int)) = false := decide_eq_false (by omega)
      have g1' : decide (s.size < s.size) = false := decide_eq_false hlt
      go_wp2_with fail
      go_ret2
      exact ⟨_, rfl, own_lower hown (by have := hb12.size; omega), bthen hb12 hb⟩
end Go.Proofs.Ytllcmmpepchieaa
