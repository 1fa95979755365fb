/- The law SeekSays, walked. -/
import Derived.Test.YtolnhplgaolieaaDoorShelf
import Derived.Test.YtolnhplgaolieaaDoorSeekC
import Derived.Test.YtolnhplgaolieaaDoorSeekB
import Derived.Test.YtolnhplgaolieaaDoorWord3
namespace Go.Proofs.YtolnhplgaolieaaDoor
open Go.RowKit
theorem empty_facts (p : ByteArray) : (p.size = 0 → (p.toList == []) = true ∧ p.toList.isEmpty = true) ∧ (p.size ≠ 0 → (p.toList == []) = false ∧ p.toList.isEmpty = false) := by
  constructor
  · intro h0
    have hpe : p.data.toList = [] := List.eq_nil_of_length_eq_zero (by rw [blen]; exact h0)
    rw [ByteArray.toList_eq, hpe]
    exact ⟨rfl, rfl⟩
  · intro h0
    have hpe : p.data.toList ≠ [] := fun h => h0 (by rw [← blen, h]; rfl)
    rw [ByteArray.toList_eq]
    exact ⟨by rw [beq_eq_false_iff_ne]; exact hpe, by rw [List.isEmpty_eq_false_iff]; exact hpe⟩
theorem ArrI.rd {w : World} {base g n : Nat} {l : List Int} (h : ArrI w base g n l) : Rd w w.heap.size 1 (some ⟨g, 0, none⟩) n (ints l) := Rd.of_own h
set_option maxRecDepth 100000 in
set_option maxHeartbeats 8000000 in
theorem seekSays_any (s p by_ : ByteArray) (w : World) (m0 : Int) (hm0 : w.cell? ⟨0, 0, none⟩ = some (.int .i64 m0)) :
    Calls Tryd.prog 3 #[.string s, .string p, .string by_] w fun e w' => e = .returned (.bool true) ∧ Below w.heap.size w w' := by
  have HLS : Hid (longAll [s] = longErr s.size) := longAll_one s
  have HLP : Hid (longAll [p] = longErr p.size) := longAll_one p
  have HLY : Hid (longAll [by_] = longErr by_.size) := longAll_one by_
  by_cases hs : 200 < s.size
  · have HES : Hid (longErr s.size = 2) := by unfold Hid longErr; rw [if_pos hs]
    have HE : seekErr s p = 2 := by unfold seekErr; rw [HES.out]; rfl
    have HF := seekFind_err s p (by rw [HE]; decide)
    rw [HE] at HF
    have HF := Lib.hid HF
    have HT := seekPut_err s p by_ (by rw [HE]; decide)
    rw [HE] at HT
    have HT := Lib.hid HT
    clear HE hm0
    go_enter Tryd.func3, Tryd.ntmps3
    go_wp2_with fail
    refine (HF.out _).mono ?_
    rintro e w1 ⟨rfl, hb1⟩
    go_wp2_with fail
    refine (seekFronts_large s hs _).mono ?_
    rintro e w2 ⟨rfl, hb2⟩
    go_wp2_with fail
    refine (HT.out _).mono ?_
    rintro e w3 ⟨rfl, hb3⟩
    go_wp2_with fail
    refine (long_any [s] _ 1 _ (w3.heap.size + 1) _ (Rd.new_ (size := 1) (n := 1) w3 _ _ (Nat.lt_succ_self _) rfl) (by omega)).mono ?_
    rintro e w4 ⟨rfl, hb4⟩
    rw [HLS.out, HES.out]
    have hb5 : Below w3.heap.size w3 w4 := ((Below.refl _ _).alloc (Nat.le_refl _) _).trans (hb4.mono (by simp))
    clear hb4
    go_wp2_with fail
    go_ret
    exact ⟨rfl, bthen hb1 (bthen hb2 (bthen hb3 hb5))⟩
  have hs : s.size ≤ 200 := by omega
  have HES : Hid (longErr s.size = 0) := by unfold Hid longErr; rw [if_neg (by omega)]
  have HZ : Hid ((L s).length = s.size) := L_len s
  by_cases hp : 200 < p.size
  · have HEP : Hid (longErr p.size = 2) := by unfold Hid longErr; rw [if_pos hp]
    have HE : seekErr s p = 2 := by unfold seekErr; rw [HES.out, HEP.out]; rfl
    have HF := seekFind_err s p (by rw [HE]; decide)
    rw [HE] at HF
    have HF := Lib.hid HF
    have HT := seekPut_err s p by_ (by rw [HE]; decide)
    rw [HE] at HT
    have HT := Lib.hid HT
    have HZF := Lib.hid (seekFronts_any s hs)
    clear HE hm0
    go_enter Tryd.func3, Tryd.ntmps3
    go_wp2_with fail
    refine (HF.out _).mono ?_
    rintro e w1 ⟨rfl, hb1⟩
    go_wp2_with fail
    refine (HZF.out _).mono ?_
    rintro e w2 ⟨gz, rfl, hz2, hb2⟩
    have HZ2 := Lib.hid hz2
    clear hz2
    have hzz2 := hb2.size
    go_wp2_with fail
    refine (HT.out _).mono ?_
    rintro e w3 ⟨rfl, hb3⟩
    have HZ3 := Lib.hid (HZ2.out.below hb3)
    go_wp2_with fail
    refine (long_any [s] _ 1 _ (w3.heap.size + 1) _ (Rd.new_ (size := 1) (n := 1) w3 _ _ (Nat.lt_succ_self _) rfl) (by omega)).mono ?_
    rintro e w5 ⟨rfl, hb5⟩
    rw [HLS.out, HES.out]
    have hb5' : Below w3.heap.size w3 w5 := ((Below.refl _ _).alloc (Nat.le_refl _) _).trans (hb5.mono (by simp))
    clear hb5
    have HZ5 := Lib.hid (HZ3.out.below hb5')
    have hall := bthen hb1 (bthen hb2 (bthen hb3 hb5'))
    clear HZ2 HZ3
    go_wp2_with fail
    go_loopw [82] (fun iv wr => ∃ k : Nat, k ≤ s.size ∧ iv = .int .i64 (k : Int) ∧ Below w5.heap.size w5 wr) (fun iv _ => s.size - (intOf iv).toNat)
    case atStart => exact ⟨0, Nat.zero_le _, rfl, Below.refl _ _⟩
    case round =>
      obtain ⟨k, hk, rfl, hbz⟩ := hrel
      by_cases hlt : k < s.size
      · have g1 : decide ((k : Int) < (s.size : Int)) = true := decide_eq_true (by omega)
        have g1' : decide (k < s.size) = true := decide_eq_true hlt
        have cz := (HZ5.out.below hbz).at_ (k := k) hlt
        rw [zI_at _ (by rw [HZ.out]; exact hlt)] at cz
        have hxl : L (s.extract k s.size) = (L s).drop k := by rw [L_extract, List.take_of_length_le (by rw [List.length_drop, HZ.out]; exact Nat.le_refl _)]
        have HAL := fun W => alikeZ_any s (s.extract k s.size) hs (by rw [ByteArray.size_extract]; omega) W
        rw [hxl] at HAL
        have HAL : Hid (∀ W, Calls Tryd.prog 8 #[.string s, .string (s.extract k s.size)] W fun e w' => e = .returned (.int .i64 (zAt (L s) k : Nat)) ∧ Below W.heap.size W w') := HAL
        clear hxl
        generalize zAt (L s) k = z at *
        go_wp2_with fail
        refine (HAL.out _).mono ?_
        rintro e w6 ⟨rfl, hb6⟩
        go_wp2_with fail
        go_roundw
        case rel => exact ⟨k + 1, by omega, by go_num, bthen hbz hb6⟩
        case measure => simp [intOf]; omega
      · obtain rfl : k = s.size := by omega
        have g1 : decide ((s.size : Int) < (s.size : Int)) = false := decide_eq_false (by omega)
        have g1' : decide (s.size < s.size) = false := decide_eq_false hlt
        clear HZ5
        go_wp2_with fail
        refine (long_any [p] _ 1 _ (wr.heap.size + 1) _ (Rd.new_ (size := 1) (n := 1) wr _ _ (Nat.lt_succ_self _) rfl) (by omega)).mono ?_
        rintro e w7 ⟨rfl, hb7⟩
        rw [HLP.out, HEP.out]
        have hb7' : Below wr.heap.size wr w7 := ((Below.refl _ _).alloc (Nat.le_refl _) _).trans (hb7.mono (by simp))
        clear hb7
        have hall7 := bthen hall (bthen hbz hb7')
        go_wp2_with fail
        go_ret
        exact ⟨rfl, hall7⟩
  have hp : p.size ≤ 200 := by omega
  have HEP : Hid (longErr p.size = 0) := by unfold Hid longErr; rw [if_neg (by omega)]
  by_cases hp0 : p.size = 0
  · have HE : seekErr s p = 5 := by unfold seekErr; rw [HES.out, HEP.out, hp0]; rfl
    obtain ⟨g8, g9⟩ := (empty_facts p).1 hp0
    have HF := seekFind_err s p (by rw [HE]; decide)
    rw [HE] at HF
    have HF := Lib.hid HF
    have HT := seekPut_err s p by_ (by rw [HE]; decide)
    rw [HE] at HT
    have HT := Lib.hid HT
    have HZF := Lib.hid (seekFronts_any s hs)
    clear HE hm0
    go_enter Tryd.func3, Tryd.ntmps3
    go_wp2_with fail
    refine (HF.out _).mono ?_
    rintro e w1 ⟨rfl, hb1⟩
    go_wp2_with fail
    refine (HZF.out _).mono ?_
    rintro e w2 ⟨gz, rfl, hz2, hb2⟩
    have HZ2 := Lib.hid hz2
    clear hz2
    have hzz2 := hb2.size
    go_wp2_with fail
    refine (HT.out _).mono ?_
    rintro e w3 ⟨rfl, hb3⟩
    have HZ3 := Lib.hid (HZ2.out.below hb3)
    go_wp2_with fail
    refine (long_any [s] _ 1 _ (w3.heap.size + 1) _ (Rd.new_ (size := 1) (n := 1) w3 _ _ (Nat.lt_succ_self _) rfl) (by omega)).mono ?_
    rintro e w5 ⟨rfl, hb5⟩
    rw [HLS.out, HES.out]
    have hb5' : Below w3.heap.size w3 w5 := ((Below.refl _ _).alloc (Nat.le_refl _) _).trans (hb5.mono (by simp))
    clear hb5
    have HZ5 := Lib.hid (HZ3.out.below hb5')
    have hall := bthen hb1 (bthen hb2 (bthen hb3 hb5'))
    clear HZ2 HZ3
    go_wp2_with fail
    go_loopw [82] (fun iv wr => ∃ k : Nat, k ≤ s.size ∧ iv = .int .i64 (k : Int) ∧ Below w5.heap.size w5 wr) (fun iv _ => s.size - (intOf iv).toNat)
    case atStart => exact ⟨0, Nat.zero_le _, rfl, Below.refl _ _⟩
    case round =>
      obtain ⟨k, hk, rfl, hbz⟩ := hrel
      by_cases hlt : k < s.size
      · have g1 : decide ((k : Int) < (s.size : Int)) = true := decide_eq_true (by omega)
        have g1' : decide (k < s.size) = true := decide_eq_true hlt
        have cz := (HZ5.out.below hbz).at_ (k := k) hlt
        rw [zI_at _ (by rw [HZ.out]; exact hlt)] at cz
        have hxl : L (s.extract k s.size) = (L s).drop k := by rw [L_extract, List.take_of_length_le (by rw [List.length_drop, HZ.out]; exact Nat.le_refl _)]
        have HAL := fun W => alikeZ_any s (s.extract k s.size) hs (by rw [ByteArray.size_extract]; omega) W
        rw [hxl] at HAL
        have HAL : Hid (∀ W, Calls Tryd.prog 8 #[.string s, .string (s.extract k s.size)] W fun e w' => e = .returned (.int .i64 (zAt (L s) k : Nat)) ∧ Below W.heap.size W w') := HAL
        clear hxl
        generalize zAt (L s) k = z at *
        go_wp2_with fail
        refine (HAL.out _).mono ?_
        rintro e w6 ⟨rfl, hb6⟩
        go_wp2_with fail
        go_roundw
        case rel => exact ⟨k + 1, by omega, by go_num, bthen hbz hb6⟩
        case measure => simp [intOf]; omega
      · obtain rfl : k = s.size := by omega
        have g1 : decide ((s.size : Int) < (s.size : Int)) = false := decide_eq_false (by omega)
        have g1' : decide (s.size < s.size) = false := decide_eq_false hlt
        clear HZ5
        go_wp2_with fail
        refine (long_any [p] _ 1 _ (wr.heap.size + 1) _ (Rd.new_ (size := 1) (n := 1) wr _ _ (Nat.lt_succ_self _) rfl) (by omega)).mono ?_
        rintro e w7 ⟨rfl, hb7⟩
        rw [HLP.out, HEP.out]
        have hb7' : Below wr.heap.size wr w7 := ((Below.refl _ _).alloc (Nat.le_refl _) _).trans (hb7.mono (by simp))
        clear hb7
        have hall7 := bthen hall (bthen hbz hb7')
        go_wp2_with fail
        go_ret
        exact ⟨rfl, hall7⟩
  obtain ⟨g8, g9⟩ := (empty_facts p).2 hp0
  have HF := Lib.hid (seekFind_any s p hs hp (by omega))
  have HFO := Lib.hid (findOf_any s p hs hp)
  have hFb := findI_len (L s) (L p) (s.size + 1 - p.size)
  have hFb2 := finds_len (L s) (L p) (s.size + 1 - p.size)
  obtain ⟨F, hF⟩ : ∃ F, findI (L s) (L p) (s.size + 1 - p.size) = F := ⟨_, rfl⟩
  rw [hF] at HF HFO hFb
  have hFb3 : F.length ≤ 201 := by omega
  clear hF hFb hFb2
  by_cases hy : 200 < by_.size
  · have HEY : Hid (longErr by_.size = 2) := by unfold Hid longErr; rw [if_pos hy]
    have HT := Lib.hid (seekPut_by s p by_ hs hp (by omega) hy)
    clear hm0
    have HZF := Lib.hid (seekFronts_any s hs)
    go_enter Tryd.func3, Tryd.ntmps3
    go_wp2_with fail
    refine (HF.out _).mono ?_
    rintro e w1 ⟨v1, rfl, hown1, hb1⟩
    obtain ⟨A1, c1, rfl, _, _, hrd1⟩ := own_form hown1
    have HR1 := Lib.hid hrd1
    clear hown1 hrd1
    go_wp2_with fail
    refine (HZF.out _).mono ?_
    rintro e w2 ⟨gz, rfl, hz2, hb2⟩
    have HZ2 := Lib.hid hz2
    clear hz2
    have hzz2 := hb2.size
    go_wp2_with fail
    refine (HT.out _).mono ?_
    rintro e w3 ⟨rfl, hb3⟩
    have HZ3 := Lib.hid (HZ2.out.below hb3)
    have hzz3 := hb3.size
    go_wp2_with fail
    refine (long_any [s] _ 1 _ (w3.heap.size + 1) _ (Rd.new_ (size := 1) (n := 1) w3 _ _ (Nat.lt_succ_self _) rfl) (by omega)).mono ?_
    rintro e w5 ⟨rfl, hb5⟩
    rw [HLS.out, HES.out]
    have hb5' : Below w3.heap.size w3 w5 := ((Below.refl _ _).alloc (Nat.le_refl _) _).trans (hb5.mono (by simp))
    clear hb5
    have hzz5' := hb5'.size
    have hzz5 : w1.heap.size ≤ w5.heap.size := by omega
    have HZ5 := Lib.hid (HZ3.out.below hb5')
    have HR5 := Lib.hid (HR1.out.below (bthen hb2 (bthen hb3 hb5')))
    have hall := bthen hb1 (bthen hb2 (bthen hb3 hb5'))
    clear HZ2 HZ3 HR1
    go_wp2_with fail
    go_loopw [82] (fun iv wr => ∃ k : Nat, k ≤ s.size ∧ iv = .int .i64 (k : Int) ∧ Below w5.heap.size w5 wr) (fun iv _ => s.size - (intOf iv).toNat)
    case atStart => exact ⟨0, Nat.zero_le _, rfl, Below.refl _ _⟩
    case round =>
      obtain ⟨k, hk, rfl, hbz⟩ := hrel
      by_cases hlt : k < s.size
      · have g1 : decide ((k : Int) < (s.size : Int)) = true := decide_eq_true (by omega)
        have g1' : decide (k < s.size) = true := decide_eq_true hlt
        have cz := (HZ5.out.below hbz).at_ (k := k) hlt
        rw [zI_at _ (by rw [HZ.out]; exact hlt)] at cz
        have hxl : L (s.extract k s.size) = (L s).drop k := by rw [L_extract, List.take_of_length_le (by rw [List.length_drop, HZ.out]; exact Nat.le_refl _)]
        have HAL := fun W => alikeZ_any s (s.extract k s.size) hs (by rw [ByteArray.size_extract]; omega) W
        rw [hxl] at HAL
        have HAL : Hid (∀ W, Calls Tryd.prog 8 #[.string s, .string (s.extract k s.size)] W fun e w' => e = .returned (.int .i64 (zAt (L s) k : Nat)) ∧ Below W.heap.size W w') := HAL
        clear hxl
        generalize zAt (L s) k = z at *
        go_wp2_with fail
        refine (HAL.out _).mono ?_
        rintro e w6 ⟨rfl, hb6⟩
        go_wp2_with fail
        go_roundw
        case rel => exact ⟨k + 1, by omega, by go_num, bthen hbz hb6⟩
        case measure => simp [intOf]; omega
      · obtain rfl : k = s.size := by omega
        have g1 : decide ((s.size : Int) < (s.size : Int)) = false := decide_eq_false (by omega)
        have g1' : decide (s.size < s.size) = false := decide_eq_false hlt
        clear HZ5
        go_wp2_with fail
        refine (long_any [p] _ 1 _ (wr.heap.size + 1) _ (Rd.new_ (size := 1) (n := 1) wr _ _ (Nat.lt_succ_self _) rfl) (by omega)).mono ?_
        rintro e w7 ⟨rfl, hb7⟩
        rw [HLP.out, HEP.out]
        have hb7' : Below wr.heap.size wr w7 := ((Below.refl _ _).alloc (Nat.le_refl _) _).trans (hb7.mono (by simp))
        clear hb7
        have hall7 := bthen hall (bthen hbz hb7')
        go_wp2_with fail
        refine (HFO.out _).mono ?_
        rintro e w8 ⟨v8, rfl, hown8, hb8⟩
        obtain ⟨A8, c8, rfl, _, _, hrd8⟩ := own_form hown8
        have h1 := HR5.out.below ((hbz.trans (hb7'.mono hbz.size)).mono hzz5)
        have hzz7 : w1.heap.size ≤ w7.heap.size := by have := hbz.size; have := hb7'.size; omega
        have h1 := h1.below (hb8.mono hzz7)
        have hall8 := bthen hall7 hb8
        clear hown8 hall7 hb8
        go_wp2_with fail
        refine (alike_int_true _ _ _ _ _ _ _ F _ (by omega) h1 hrd8).mono ?_
        rintro e w9 ⟨rfl, hb9⟩
        have hall9 := bthen hall8 hb9
        clear hb9 hall8 h1 hrd8
        go_wp2_with fail
        refine (long_any [by_] _ 1 _ (w9.heap.size + 1) _ (Rd.new_ (size := 1) (n := 1) w9 _ _ (Nat.lt_succ_self _) rfl) (by omega)).mono ?_
        rintro e w10 ⟨rfl, hb10⟩
        rw [HLY.out, HEY.out]
        have hb10' : Below w9.heap.size w9 w10 := ((Below.refl _ _).alloc (Nat.le_refl _) _).trans (hb10.mono (by simp))
        clear hb10
        have hall10 := bthen hall9 hb10'
        go_wp2_with fail
        go_ret
        exact ⟨rfl, hall10⟩
  have hy : by_.size ≤ 200 := by omega
  have HEY : Hid (longErr by_.size = 0) := by unfold Hid longErr; rw [if_neg (by omega)]
  have HT := seekPut_any s p by_ hs hp (by omega) hy
  have h0 : (0 : Nat) < w.heap.size := by
    rcases Nat.eq_zero_or_pos w.heap.size with h | h
    · exfalso
      have : w.heap[0]? = none := Array.getElem?_eq_none (by omega)
      simp [World.cell?, this] at hm0
    · exact h
  have hcb := Lib.countB_le p (by omega) s.size s (Nat.le_refl _)
  have hcm : Lib.countB s p * by_.size ≤ 200 * 200 := Nat.mul_le_mul (by omega) hy
  have HRA : ∀ W, Below w.heap.size w W → Calls Tryd.prog 11 #[.string s, .string p, .string by_] W fun e W' => e = .returned (.string (S (Lib.replaceAll (L s) (L p) (L by_)))) ∧ Below W.heap.size W W' := fun W hW =>
    Tryd.strings_ReplaceAll s p by_ m0 W (by omega) ((hW.cell (p := ⟨0, 0, none⟩) h0).trans hm0) (by omega) (by omega)
  have HCO : ∀ W, Below w.heap.size w W → Calls Tryd.prog 12 #[.string s, .string p] W fun e W' => e = .returned (.int .i64 (Lib.count (L s) (L p) : Nat)) ∧ Below W.heap.size W W' := fun W hW =>
    (Tryd.strings_Count_any s p m0 W (by omega) ((hW.cell (p := ⟨0, 0, none⟩) h0).trans hm0) (by omega)).mono fun e W' h => ⟨h.1, by rw [h.2]; exact Below.refl _ _⟩
  generalize S (Lib.replaceAll (L s) (L p) (L by_)) = T at *
  generalize Lib.count (L s) (L p) = C at *
  have HT := Lib.hid HT
  have HRA := Lib.hid HRA
  have HCO := Lib.hid HCO
  clear hm0 hcm hcb
  have HZF := Lib.hid (seekFronts_any s hs)
  go_enter Tryd.func3, Tryd.ntmps3
  go_wp2_with fail
  refine (HF.out _).mono ?_
  rintro e w1 ⟨v1, rfl, hown1, hb1⟩
  obtain ⟨A1, c1, rfl, _, _, hrd1⟩ := own_form hown1
  have HR1 := Lib.hid hrd1
  clear hown1 hrd1
  go_wp2_with fail
  refine (HZF.out _).mono ?_
  rintro e w2 ⟨gz, rfl, hz2, hb2⟩
  have HZ2 := Lib.hid hz2
  clear hz2
  have hzz2 := hb2.size
  go_wp2_with fail
  refine (HT.out _).mono ?_
  rintro e w3 ⟨rfl, hb3⟩
  have HZ3 := Lib.hid (HZ2.out.below hb3)
  have hzz3 := hb3.size
  go_wp2_with fail
  refine (long_any [s] _ 1 _ (w3.heap.size + 1) _ (Rd.new_ (size := 1) (n := 1) w3 _ _ (Nat.lt_succ_self _) rfl) (by omega)).mono ?_
  rintro e w5 ⟨rfl, hb5⟩
  rw [HLS.out, HES.out]
  have hb5' : Below w3.heap.size w3 w5 := ((Below.refl _ _).alloc (Nat.le_refl _) _).trans (hb5.mono (by simp))
  clear hb5
  have hzz5' := hb5'.size
  have hzz5 : w1.heap.size ≤ w5.heap.size := by omega
  have HZ5 := Lib.hid (HZ3.out.below hb5')
  have HR5 := Lib.hid (HR1.out.below (bthen hb2 (bthen hb3 hb5')))
  have hall := bthen hb1 (bthen hb2 (bthen hb3 hb5'))
  clear HZ2 HZ3 HR1
  go_wp2_with fail
  go_loopw [82] (fun iv wr => ∃ k : Nat, k ≤ s.size ∧ iv = .int .i64 (k : Int) ∧ Below w5.heap.size w5 wr) (fun iv _ => s.size - (intOf iv).toNat)
  case atStart => exact ⟨0, Nat.zero_le _, rfl, Below.refl _ _⟩
  case round =>
    obtain ⟨k, hk, rfl, hbz⟩ := hrel
    by_cases hlt : k < s.size
    · have g1 : decide ((k : Int) < (s.size : Int)) = true := decide_eq_true (by omega)
      have g1' : decide (k < s.size) = true := decide_eq_true hlt
      have cz := (HZ5.out.below hbz).at_ (k := k) hlt
      rw [zI_at _ (by rw [HZ.out]; exact hlt)] at cz
      have hxl : L (s.extract k s.size) = (L s).drop k := by rw [L_extract, List.take_of_length_le (by rw [List.length_drop, HZ.out]; exact Nat.le_refl _)]
      have HAL := fun W => alikeZ_any s (s.extract k s.size) hs (by rw [ByteArray.size_extract]; omega) W
      rw [hxl] at HAL
      have HAL : Hid (∀ W, Calls Tryd.prog 8 #[.string s, .string (s.extract k s.size)] W fun e w' => e = .returned (.int .i64 (zAt (L s) k : Nat)) ∧ Below W.heap.size W w') := HAL
      clear hxl
      generalize zAt (L s) k = z at *
      go_wp2_with fail
      refine (HAL.out _).mono ?_
      rintro e w6 ⟨rfl, hb6⟩
      go_wp2_with fail
      go_roundw
      case rel => exact ⟨k + 1, by omega, by go_num, bthen hbz hb6⟩
      case measure => simp [intOf]; omega
    · obtain rfl : k = s.size := by omega
      have g1 : decide ((s.size : Int) < (s.size : Int)) = false := decide_eq_false (by omega)
      have g1' : decide (s.size < s.size) = false := decide_eq_false hlt
      clear HZ5
      go_wp2_with fail
      refine (long_any [p] _ 1 _ (wr.heap.size + 1) _ (Rd.new_ (size := 1) (n := 1) wr _ _ (Nat.lt_succ_self _) rfl) (by omega)).mono ?_
      rintro e w7 ⟨rfl, hb7⟩
      rw [HLP.out, HEP.out]
      have hb7' : Below wr.heap.size wr w7 := ((Below.refl _ _).alloc (Nat.le_refl _) _).trans (hb7.mono (by simp))
      clear hb7
      have hall7 := bthen hall (bthen hbz hb7')
      go_wp2_with fail
      refine (HFO.out _).mono ?_
      rintro e w8 ⟨v8, rfl, hown8, hb8⟩
      obtain ⟨A8, c8, rfl, _, _, hrd8⟩ := own_form hown8
      have h1 := HR5.out.below ((hbz.trans (hb7'.mono hbz.size)).mono hzz5)
      have hzz7 : w1.heap.size ≤ w7.heap.size := by have := hbz.size; have := hb7'.size; omega
      have h1 := h1.below (hb8.mono hzz7)
      have hall8 := bthen hall7 hb8
      clear hown8 hall7 hb8
      go_wp2_with fail
      refine (alike_int_true _ _ _ _ _ _ _ F _ (by omega) h1 hrd8).mono ?_
      rintro e w9 ⟨rfl, hb9⟩
      have hall9 := bthen hall8 hb9
      clear hb9 hall8 h1 hrd8
      go_wp2_with fail
      refine (long_any [by_] _ 1 _ (w9.heap.size + 1) _ (Rd.new_ (size := 1) (n := 1) w9 _ _ (Nat.lt_succ_self _) rfl) (by omega)).mono ?_
      rintro e w10 ⟨rfl, hb10⟩
      rw [HLY.out, HEY.out]
      have hb10' : Below w9.heap.size w9 w10 := ((Below.refl _ _).alloc (Nat.le_refl _) _).trans (hb10.mono (by simp))
      clear hb10
      have hall10 := bthen hall9 hb10'
      go_wp2_with fail
      refine (HRA.out _ hall10).mono ?_
      rintro e w11 ⟨rfl, hb11⟩
      have hall11 := bthen hall10 hb11
      go_wp2_with fail
      refine (HCO.out _ hall11).mono ?_
      rintro e w12 ⟨rfl, hb12⟩
      go_wp2_with fail
      go_ret
      exact ⟨rfl, bthen hall11 hb12⟩
end Go.Proofs.YtolnhplgaolieaaDoor
