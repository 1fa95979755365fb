/- TurnSays: what the code and the reference answer, at every input. The law TurnSays, walked. How arguments are opened to plain data (slices of any element as lists of cells), and how a law's row is closed from: the call returns true and nothing that was there has turned. -/
import Derived.Test.YtncakjchaniheaaPk13
import Derived.Test.YtncakjchaniheaaPk01
import Derived.ProofKit
import Derived.OpenShut
import Derived.SizedLaws
import Derived.Deep.Slices
import Derived.Deep.Fields
import Derived.Lib.SmallJoins
namespace Go.Proofs.Ytncakjchaniheaa
open Go.RowKit
theorem turnPutL_any (s : ByteArray) (hs : 200 < s.size) (w : World) :
    Calls Try.prog 4 #[.string s] w fun e w' => e = .returned (.tuple #[.string ⟨#[]⟩, .int .i64 0, .int .i64 2]) ∧ Below w.heap.size w w' := by
  have HE : Hid (longErr s.size = 2) := by unfold Hid longErr; rw [if_pos hs]
  go_enter Try.func4, Try.ntmps4
  go_wp2_with fail
  refine (wordCheck_any s _).mono ?_
  rintro e w1 ⟨rfl, hb1⟩
  rw [HE.out]
  have hb1' : Below w.heap.size w w1 := bthen ((Below.refl _ _).alloc (Nat.le_refl _) _) hb1
  go_wp2_with fail
  (apply bodyPost_ret; (simp [results, Try.results4, go_sem]; rfl); rfl)
  exact ⟨rfl, hb1'⟩
theorem turnCountL_any (t p : ByteArray) (h : 200 < t.size ∨ 200 < p.size) (w : World) :
    Calls Try.prog 6 #[.string t, .string p] w fun e w' => e = .returned (.tuple #[.int .i64 0, .int .i64 2]) ∧ Below w.heap.size w w' := by
  by_cases ht : 200 < t.size
  · have HE : Hid (longErr t.size = 2) := by unfold Hid longErr; rw [if_pos ht]
    clear h
    go_enter Try.func6, Try.ntmps6
    go_wp2_with fail
    refine (wordCheck_any t _).mono ?_
    rintro e w1 ⟨rfl, hb1⟩
    rw [HE.out]
    go_wp2_with fail
    (apply bodyPost_ret; (simp [results, Try.results6, go_sem]; rfl); rfl)
    exact ⟨rfl, hb1⟩
  · have HE : Hid (longErr t.size = 0) := by unfold Hid longErr; rw [if_neg ht]
    have HE2 : Hid (longErr p.size = 2) := by unfold Hid longErr; rw [if_pos (by omega)]
    clear h
    go_enter Try.func6, Try.ntmps6
    go_wp2_with fail
    refine (wordCheck_any t _).mono ?_
    rintro e w1 ⟨rfl, hb1⟩
    rw [HE.out]
    go_wp2_with fail
    refine (wordCheck_any p _).mono ?_
    rintro e w2 ⟨rfl, hb2⟩
    rw [HE2.out]
    have hB := bthen hb1 hb2
    go_wp2_with fail
    (apply bodyPost_ret; (simp [results, Try.results6, go_sem]; rfl); rfl)
    exact ⟨rfl, hB⟩
theorem put_says (s : ByteArray) : ∃ (pv : ByteArray) (pk pe : Int), (∀ w, Calls Try.prog 4 #[.string s] w fun e w' => e = .returned (.tuple #[.string pv, .int .i64 pk, .int .i64 pe]) ∧ Below w.heap.size w w') ∧
    (200 < s.size → pv = ⟨#[]⟩ ∧ pk = 0 ∧ pe = 2) ∧ (¬ 200 < s.size → pv = S (turnL (L s)) ∧ pk = ((turnAt (L s) : Nat) : Int) ∧ pe = 0) := by
  by_cases h : 200 < s.size
  · exact ⟨_, _, _, turnPutL_any s h, fun _ => ⟨rfl, rfl, rfl⟩, fun h2 => absurd h h2⟩
  · exact ⟨_, _, _, turnPut_any s (by omega), fun h2 => absurd h2 h, fun _ => ⟨rfl, rfl, rfl⟩⟩
theorem count_says (t p : ByteArray) : ∃ (cv ce : Int), (∀ w, Calls Try.prog 6 #[.string t, .string p] w fun e w' => e = .returned (.tuple #[.int .i64 cv, .int .i64 ce]) ∧ Below w.heap.size w w') ∧
    (200 < t.size ∨ 200 < p.size → cv = 0 ∧ ce = 2) ∧ (¬ 200 < t.size → ¬ 200 < p.size → cv = ((countC (L t) (L p) : Nat) : Int) ∧ ce = 0) := by
  by_cases h : 200 < t.size ∨ 200 < p.size
  · exact ⟨_, _, turnCountL_any t p h, fun _ => ⟨rfl, rfl⟩, fun h2 h3 => absurd h (fun h => h.elim h2 h3)⟩
  · exact ⟨_, _, turnCount_any t p (by omega) (by omega), fun h2 => absurd h2 h, fun _ _ => ⟨rfl, rfl⟩⟩
theorem get_says (t : ByteArray) (at_ : Int) (ha : -9223372036854775808 ≤ at_ ∧ at_ ≤ 9223372036854775807) : ∃ (gv : ByteArray) (ge : Int), (∀ w, Calls Try.prog 5 #[.string t, .int .i64 at_] w fun e w' => e = .returned (.tuple #[.string gv, .int .i64 ge]) ∧ Below w.heap.size w w') ∧
    (200 < t.size → gv = ⟨#[]⟩ ∧ ge = 2) ∧ (¬ 200 < t.size → at_ < 0 ∨ max 1 (t.size : Int) ≤ at_ → gv = ⟨#[]⟩ ∧ ge = 1) ∧
    (¬ 200 < t.size → ¬ (at_ < 0 ∨ max 1 (t.size : Int) ≤ at_) → getOk (L t) at_.toNat → gv = S (getT (L t) at_.toNat) ∧ ge = 0) ∧
    (¬ 200 < t.size → ¬ (at_ < 0 ∨ max 1 (t.size : Int) ≤ at_) → ¬ getOk (L t) at_.toNat → gv = ⟨#[]⟩ ∧ ge = 3) := by
  have hl := L_len t
  refine ⟨_, _, turnGet_any t at_ ha, fun h => ?_, fun h h1 => ?_, fun h h1 h2 => ?_, fun h h1 h2 => ?_⟩
  · have e : tgE (L t) at_ = 2 := by unfold tgE; rw [if_pos (by omega)]
    exact ⟨by unfold tgV; rw [e]; rfl, e⟩
  · have e : tgE (L t) at_ = 1 := by unfold tgE; rw [if_neg (by omega), hl, if_pos h1]
    exact ⟨by unfold tgV; rw [e]; rfl, e⟩
  · have e : tgE (L t) at_ = 0 := by unfold tgE; rw [if_neg (by omega), hl, if_neg h1, if_pos h2]
    exact ⟨by unfold tgV; rw [e]; rfl, e⟩
  · have e : tgE (L t) at_ = 3 := by unfold tgE; rw [if_neg (by omega), hl, if_neg h1, if_neg h2]
    exact ⟨by unfold tgV; rw [e]; rfl, e⟩
theorem backNil_any (w : World) : Calls Try.prog 9 #[.string ⟨#[]⟩, .int .i64 0] w fun e w' => e = .returned (.tuple #[.string ⟨#[]⟩, .bool true]) ∧ Below w.heap.size w w' := by
  go_enter Try.func9, Try.ntmps9
  go_wp2_with fail
  (apply bodyPost_ret; (simp [results, Try.results9, go_sem]; rfl); rfl)
  exact ⟨rfl, Below.refl _ _⟩
theorem getOk_nil : getOk [] 0 ∧ getT [] 0 = [] := by
  have h := get_turn []
  have e1 : turnL [] = [] := turnL_nil
  have e2 : turnAt [] = 0 := rfl
  rw [e1, e2] at h
  refine ⟨?_, h⟩
  unfold getOk
  rw [h]
  exact ⟨e1, e2⟩
theorem back_says (t : ByteArray) (k : Nat) (ht : ¬ 200 < t.size) (hk : k < max 1 t.size) : ∃ bv : ByteArray, (∀ w, Calls Try.prog 9 #[.string t, .int .i64 (k : Int)] w fun e w' => e = .returned (.tuple #[.string bv, .bool (decide (getOk (L t) k))]) ∧ Below w.heap.size w w') ∧
    (getOk (L t) k → bv = S (getT (L t) k)) := by
  by_cases h0 : t.size = 0
  · have e : L t = [] := List.eq_nil_of_length_eq_zero (by rw [L_len]; exact h0)
    have e2 : t = ⟨#[]⟩ := by rw [← S_L t, e]; rfl
    obtain rfl : k = 0 := by omega
    refine ⟨⟨#[]⟩, fun w => ?_, fun _ => ?_⟩
    · rw [e, decide_eq_true getOk_nil.1, e2]
      exact backNil_any w
    · rw [e, getOk_nil.2]; rfl
  · have hne : L t ≠ [] := fun e => h0 (by rw [← L_len, e]; rfl)
    obtain ⟨h1, h2⟩ := get_back (t := L t) (at_ := k) hne
    refine ⟨S (backB (L t) k), fun w => ?_, fun h => by rw [h2 h]⟩
    have h9 := back_any t k (by omega) (by omega) w
    have e : decide (turnL (backB (L t) k) = L t ∧ turnAt (backB (L t) k) = k) = decide (getOk (L t) k) := by
      rw [Bool.eq_iff_iff, decide_eq_true_iff, decide_eq_true_iff]
      exact h1.symm
    rw [e] at h9
    exact h9
theorem long1_any (s : ByteArray) (W : World) :
    Calls Try.prog 7 #[.slice (some ⟨W.heap.size, 0, none⟩) 1 1] (W.alloc (.cells #[.string s] 9)) fun e w' => e = .returned (.int .i64 (longErr s.size)) ∧ Below W.heap.size W w' := by
  refine (long_any [s] (some ⟨W.heap.size, 0, none⟩) 1 1 (W.heap.size + 1) _ (Rd.new_ (size := 1) W _ _ (Nat.lt_succ_self _) rfl) (by decide)).mono ?_
  rintro e w' ⟨rfl, hb⟩
  refine ⟨?_, bthen ((Below.refl _ _).alloc (Nat.le_refl _) _) hb⟩
  have e : longAll [s] = longErr s.size := by simp [longAll, longErr]
  rw [e]
end Go.Proofs.Ytncakjchaniheaa
namespace Go.Proofs.Ytncakjchaniheaa
open Go.RowKit
set_option maxRecDepth 100000 in
set_option maxHeartbeats 16000000 in
theorem turnSays_any (s t : ByteArray) (at_ : Int) (ha : -9223372036854775808 ≤ at_ ∧ at_ ≤ 9223372036854775807) (p : ByteArray) (w : World) :
    Calls Try.prog 3 #[.string s, .string t, .int .i64 at_, .string p] w fun e w' => e = .returned (.bool true) ∧ Below w.heap.size w w' := by
  obtain ⟨pv, pk, pe, hP, hP1, hP2⟩ := put_says s
  obtain ⟨gv, ge, hG, hG1, hG2, hG3, hG4⟩ := get_says t at_ ha
  obtain ⟨cv, ce, hC, hC1, hC2⟩ := count_says t p
  have HP := Lib.hid hP; have HP1 := Lib.hid hP1; have HP2 := Lib.hid hP2
  have HG := Lib.hid hG; have HG1 := Lib.hid hG1; have HG2 := Lib.hid hG2; have HG3 := Lib.hid hG3; have HG4 := Lib.hid hG4
  have HC := Lib.hid hC; have HC1 := Lib.hid hC1; have HC2 := Lib.hid hC2
  have HLS := Lib.hid (fun W => long1_any s W)
  have HLT := Lib.hid (fun W => long1_any t W)
  have HLP := Lib.hid (fun W => long1_any p W)
  clear hP hP1 hP2 hG hG1 hG2 hG3 hG4 hC hC1 hC2
  go_enter Try.func3, Try.ntmps3
  go_wp2_with fail
  refine (HP.out _).mono ?_
  rintro e w1 ⟨rfl, hb1⟩
  go_wp2_with fail
  refine (HG.out _).mono ?_
  rintro e w2 ⟨rfl, hb2⟩
  go_wp2_with fail
  refine (HC.out _).mono ?_
  rintro e w3 ⟨rfl, hb3⟩
  have hB3 := bthen (bthen hb1 hb2) hb3
  clear hb1 hb2 hb3 HP HG HC
  go_wp2_with fail
  refine (HLS.out _).mono ?_
  rintro e w4 ⟨rfl, hb4⟩
  have hB4 := bthen hB3 hb4
  clear hB3 hb4 HLS
  by_cases hs : 200 < s.size
  · have hls : longErr s.size = 2 := by unfold longErr; rw [if_pos hs]
    rw [hls]
    obtain ⟨rfl, rfl, rfl⟩ := HP1.out hs
    have hBS := hB4
    clear hls hB4 HP1 HP2
    go_wp2_with fail
    refine (HLT.out _).mono ?_
    rintro e wt ⟨rfl, hbt⟩
    have hBT := bthen hBS hbt
    clear hBS hbt
    by_cases ht : 200 < t.size
    · have hlt : longErr t.size = 2 := by unfold longErr; rw [if_pos ht]
      rw [hlt]
      obtain ⟨rfl, rfl⟩ := HC1.out (.inl ht)
      obtain ⟨rfl, rfl⟩ := HG1.out ht
      clear hlt HLT HLP
      go_wp2_with fail
      go_ret
      exact ⟨rfl, hBT⟩
    · have hlt : longErr t.size = 0 := by unfold longErr; rw [if_neg ht]
      rw [hlt]
      clear hlt HLT
      by_cases ho : at_ < 0 ∨ max 1 (t.size : Int) ≤ at_
      · obtain ⟨rfl, rfl⟩ := HG2.out ht ho
        have hBY := hBT
        by_cases h0 : at_ < 0
        · have g1 : decide (at_ < 0) = true := decide_eq_true h0
          go_wp2_with fail
          refine (HLP.out _).mono ?_
          rintro e wz ⟨rfl, hbz⟩
          have hBZ := bthen hBY hbz
          by_cases hp : 200 < p.size
          · have hlp : longErr p.size = 2 := by unfold longErr; rw [if_pos hp]
            rw [hlp]
            obtain ⟨rfl, rfl⟩ := HC1.out (.inr hp)
            clear hlp HLP
            go_wp2_with fail
            go_ret
            exact ⟨rfl, hBZ⟩
          · have hlp : longErr p.size = 0 := by unfold longErr; rw [if_neg hp]
            rw [hlp]
            obtain ⟨rfl, rfl⟩ := HC2.out ht hp
            have HRC := Lib.hid (fun W => refCount_any t p (by omega) (by omega) W)
            have y9 : (((countC (L t) (L p) : Nat) : Int) == ((countC (L t) (L p) : Nat) : Int)) = true := beq_self_eq_true _
            clear hlp HLP
            generalize ((countC (L t) (L p) : Nat) : Int) = cc at *
            go_wp2_with fail
            refine (HRC.out _).mono ?_
            rintro e wy ⟨rfl, hby⟩
            have hBW := bthen hBZ hby
            go_wp2_with fail
            go_ret
            exact ⟨rfl, hBW⟩
        · have g1 : decide (at_ < 0) = false := decide_eq_false h0
          have g2 : decide (max 1 (t.size : Int) ≤ at_) = true := decide_eq_true (ho.resolve_left h0)
          go_wp2_with fail
          refine (HLP.out _).mono ?_
          rintro e wz ⟨rfl, hbz⟩
          have hBZ := bthen hBY hbz
          by_cases hp : 200 < p.size
          · have hlp : longErr p.size = 2 := by unfold longErr; rw [if_pos hp]
            rw [hlp]
            obtain ⟨rfl, rfl⟩ := HC1.out (.inr hp)
            clear hlp HLP
            go_wp2_with fail
            go_ret
            exact ⟨rfl, hBZ⟩
          · have hlp : longErr p.size = 0 := by unfold longErr; rw [if_neg hp]
            rw [hlp]
            obtain ⟨rfl, rfl⟩ := HC2.out ht hp
            have HRC := Lib.hid (fun W => refCount_any t p (by omega) (by omega) W)
            have y9 : (((countC (L t) (L p) : Nat) : Int) == ((countC (L t) (L p) : Nat) : Int)) = true := beq_self_eq_true _
            clear hlp HLP
            generalize ((countC (L t) (L p) : Nat) : Int) = cc at *
            go_wp2_with fail
            refine (HRC.out _).mono ?_
            rintro e wy ⟨rfl, hby⟩
            have hBW := bthen hBZ hby
            go_wp2_with fail
            go_ret
            exact ⟨rfl, hBW⟩
      · obtain ⟨k, rfl⟩ := Int.eq_ofNat_of_zero_le (show 0 ≤ at_ by omega)
        have g1 : decide ((k : Int) < 0) = false := decide_eq_false (by omega)
        have g2 : decide (max 1 (t.size : Int) ≤ (k : Int)) = false := decide_eq_false (by omega)
        obtain ⟨bv, hbk, hbv⟩ := back_says t k ht (by omega)
        have HBK := Lib.hid hbk
        by_cases hok : getOk (L t) k
        · obtain ⟨rfl, rfl⟩ := HG3.out ht ho hok
          rw [decide_eq_true hok] at HBK
          have ebv := hbv hok
          rw [ebv] at HBK
          have e9 : ((k : Int)).toNat = k := Int.toNat_natCast k
          rw [e9]
          have y3 : ((S (getT (L t) k)).toList == (S (getT (L t) k)).toList) = true := beq_self_eq_true _
          clear hbv hbk ebv ho e9
          generalize S (getT (L t) k) = gg at *
          go_wp2_with fail
          refine (HBK.out _).mono ?_
          rintro e wk ⟨rfl, hbw⟩
          have hBY := bthen hBT hbw
          go_wp2_with fail
          refine (HLP.out _).mono ?_
          rintro e wz ⟨rfl, hbz⟩
          have hBZ := bthen hBY hbz
          by_cases hp : 200 < p.size
          · have hlp : longErr p.size = 2 := by unfold longErr; rw [if_pos hp]
            rw [hlp]
            obtain ⟨rfl, rfl⟩ := HC1.out (.inr hp)
            clear hlp HLP
            go_wp2_with fail
            go_ret
            exact ⟨rfl, hBZ⟩
          · have hlp : longErr p.size = 0 := by unfold longErr; rw [if_neg hp]
            rw [hlp]
            obtain ⟨rfl, rfl⟩ := HC2.out ht hp
            have HRC := Lib.hid (fun W => refCount_any t p (by omega) (by omega) W)
            have y9 : (((countC (L t) (L p) : Nat) : Int) == ((countC (L t) (L p) : Nat) : Int)) = true := beq_self_eq_true _
            clear hlp HLP
            generalize ((countC (L t) (L p) : Nat) : Int) = cc at *
            go_wp2_with fail
            refine (HRC.out _).mono ?_
            rintro e wy ⟨rfl, hby⟩
            have hBW := bthen hBZ hby
            go_wp2_with fail
            go_ret
            exact ⟨rfl, hBW⟩
        · obtain ⟨rfl, rfl⟩ := HG4.out ht ho hok
          rw [decide_eq_false hok] at HBK
          clear hbv hbk ho
          go_wp2_with fail
          refine (HBK.out _).mono ?_
          rintro e wk ⟨rfl, hbw⟩
          have hBY := bthen hBT hbw
          go_wp2_with fail
          refine (HLP.out _).mono ?_
          rintro e wz ⟨rfl, hbz⟩
          have hBZ := bthen hBY hbz
          by_cases hp : 200 < p.size
          · have hlp : longErr p.size = 2 := by unfold longErr; rw [if_pos hp]
            rw [hlp]
            obtain ⟨rfl, rfl⟩ := HC1.out (.inr hp)
            clear hlp HLP
            go_wp2_with fail
            go_ret
            exact ⟨rfl, hBZ⟩
          · have hlp : longErr p.size = 0 := by unfold longErr; rw [if_neg hp]
            rw [hlp]
            obtain ⟨rfl, rfl⟩ := HC2.out ht hp
            have HRC := Lib.hid (fun W => refCount_any t p (by omega) (by omega) W)
            have y9 : (((countC (L t) (L p) : Nat) : Int) == ((countC (L t) (L p) : Nat) : Int)) = true := beq_self_eq_true _
            clear hlp HLP
            generalize ((countC (L t) (L p) : Nat) : Int) = cc at *
            go_wp2_with fail
            refine (HRC.out _).mono ?_
            rintro e wy ⟨rfl, hby⟩
            have hBW := bthen hBZ hby
            go_wp2_with fail
            go_ret
            exact ⟨rfl, hBW⟩
  · have hls : longErr s.size = 0 := by unfold longErr; rw [if_neg hs]
    rw [hls]
    obtain ⟨rfl, rfl, rfl⟩ := HP2.out hs
    have HRT := Lib.hid (fun W => refTurns_any s (by omega) W)
    have y1 : ((S (turnL (L s))).toList == (S (turnL (L s))).toList) = true := beq_self_eq_true _
    clear hls HP1 HP2
    generalize S (turnL (L s)) = uu at *
    generalize ((turnAt (L s) : Nat) : Int) = ii at *
    go_wp2_with fail
    refine (HRT.out _).mono ?_
    rintro e w5 ⟨rfl, hb5⟩
    have hBS := bthen hB4 hb5
    clear hB4 hb5 HRT
    go_wp2_with fail
    refine (HLT.out _).mono ?_
    rintro e wt ⟨rfl, hbt⟩
    have hBT := bthen hBS hbt
    clear hBS hbt
    by_cases ht : 200 < t.size
    · have hlt : longErr t.size = 2 := by unfold longErr; rw [if_pos ht]
      rw [hlt]
      obtain ⟨rfl, rfl⟩ := HC1.out (.inl ht)
      obtain ⟨rfl, rfl⟩ := HG1.out ht
      clear hlt HLT HLP
      go_wp2_with fail
      go_ret
      exact ⟨rfl, hBT⟩
    · have hlt : longErr t.size = 0 := by unfold longErr; rw [if_neg ht]
      rw [hlt]
      clear hlt HLT
      by_cases ho : at_ < 0 ∨ max 1 (t.size : Int) ≤ at_
      · obtain ⟨rfl, rfl⟩ := HG2.out ht ho
        have hBY := hBT
        by_cases h0 : at_ < 0
        · have g1 : decide (at_ < 0) = true := decide_eq_true h0
          go_wp2_with fail
          refine (HLP.out _).mono ?_
          rintro e wz ⟨rfl, hbz⟩
          have hBZ := bthen hBY hbz
          by_cases hp : 200 < p.size
          · have hlp : longErr p.size = 2 := by unfold longErr; rw [if_pos hp]
            rw [hlp]
            obtain ⟨rfl, rfl⟩ := HC1.out (.inr hp)
            clear hlp HLP
            go_wp2_with fail
            go_ret
            exact ⟨rfl, hBZ⟩
          · have hlp : longErr p.size = 0 := by unfold longErr; rw [if_neg hp]
            rw [hlp]
            obtain ⟨rfl, rfl⟩ := HC2.out ht hp
            have HRC := Lib.hid (fun W => refCount_any t p (by omega) (by omega) W)
            have y9 : (((countC (L t) (L p) : Nat) : Int) == ((countC (L t) (L p) : Nat) : Int)) = true := beq_self_eq_true _
            clear hlp HLP
            generalize ((countC (L t) (L p) : Nat) : Int) = cc at *
            go_wp2_with fail
            refine (HRC.out _).mono ?_
            rintro e wy ⟨rfl, hby⟩
            have hBW := bthen hBZ hby
            go_wp2_with fail
            go_ret
            exact ⟨rfl, hBW⟩
        · have g1 : decide (at_ < 0) = false := decide_eq_false h0
          have g2 : decide (max 1 (t.size : Int) ≤ at_) = true := decide_eq_true (ho.resolve_left h0)
          go_wp2_with fail
          refine (HLP.out _).mono ?_
          rintro e wz ⟨rfl, hbz⟩
          have hBZ := bthen hBY hbz
          by_cases hp : 200 < p.size
          · have hlp : longErr p.size = 2 := by unfold longErr; rw [if_pos hp]
            rw [hlp]
            obtain ⟨rfl, rfl⟩ := HC1.out (.inr hp)
            clear hlp HLP
            go_wp2_with fail
            go_ret
            exact ⟨rfl, hBZ⟩
          · have hlp : longErr p.size = 0 := by unfold longErr; rw [if_neg hp]
            rw [hlp]
            obtain ⟨rfl, rfl⟩ := HC2.out ht hp
            have HRC := Lib.hid (fun W => refCount_any t p (by omega) (by omega) W)
            have y9 : (((countC (L t) (L p) : Nat) : Int) == ((countC (L t) (L p) : Nat) : Int)) = true := beq_self_eq_true _
            clear hlp HLP
            generalize ((countC (L t) (L p) : Nat) : Int) = cc at *
            go_wp2_with fail
            refine (HRC.out _).mono ?_
            rintro e wy ⟨rfl, hby⟩
            have hBW := bthen hBZ hby
            go_wp2_with fail
            go_ret
            exact ⟨rfl, hBW⟩
      · obtain ⟨k, rfl⟩ := Int.eq_ofNat_of_zero_le (show 0 ≤ at_ by omega)
        have g1 : decide ((k : Int) < 0) = false := decide_eq_false (by omega)
        have g2 : decide (max 1 (t.size : Int) ≤ (k : Int)) = false := decide_eq_false (by omega)
        obtain ⟨bv, hbk, hbv⟩ := back_says t k ht (by omega)
        have HBK := Lib.hid hbk
        by_cases hok : getOk (L t) k
        · obtain ⟨rfl, rfl⟩ := HG3.out ht ho hok
          rw [decide_eq_true hok] at HBK
          have ebv := hbv hok
          rw [ebv] at HBK
          have e9 : ((k : Int)).toNat = k := Int.toNat_natCast k
          rw [e9]
          have y3 : ((S (getT (L t) k)).toList == (S (getT (L t) k)).toList) = true := beq_self_eq_true _
          clear hbv hbk ebv ho e9
          generalize S (getT (L t) k) = gg at *
          go_wp2_with fail
          refine (HBK.out _).mono ?_
          rintro e wk ⟨rfl, hbw⟩
          have hBY := bthen hBT hbw
          go_wp2_with fail
          refine (HLP.out _).mono ?_
          rintro e wz ⟨rfl, hbz⟩
          have hBZ := bthen hBY hbz
          by_cases hp : 200 < p.size
          · have hlp : longErr p.size = 2 := by unfold longErr; rw [if_pos hp]
            rw [hlp]
            obtain ⟨rfl, rfl⟩ := HC1.out (.inr hp)
            clear hlp HLP
            go_wp2_with fail
            go_ret
            exact ⟨rfl, hBZ⟩
          · have hlp : longErr p.size = 0 := by unfold longErr; rw [if_neg hp]
            rw [hlp]
            obtain ⟨rfl, rfl⟩ := HC2.out ht hp
            have HRC := Lib.hid (fun W => refCount_any t p (by omega) (by omega) W)
            have y9 : (((countC (L t) (L p) : Nat) : Int) == ((countC (L t) (L p) : Nat) : Int)) = true := beq_self_eq_true _
            clear hlp HLP
            generalize ((countC (L t) (L p) : Nat) : Int) = cc at *
            go_wp2_with fail
            refine (HRC.out _).mono ?_
            rintro e wy ⟨rfl, hby⟩
            have hBW := bthen hBZ hby
            go_wp2_with fail
            go_ret
            exact ⟨rfl, hBW⟩
        · obtain ⟨rfl, rfl⟩ := HG4.out ht ho hok
          rw [decide_eq_false hok] at HBK
          clear hbv hbk ho
          go_wp2_with fail
          refine (HBK.out _).mono ?_
          rintro e wk ⟨rfl, hbw⟩
          have hBY := bthen hBT hbw
          go_wp2_with fail
          refine (HLP.out _).mono ?_
          rintro e wz ⟨rfl, hbz⟩
          have hBZ := bthen hBY hbz
          by_cases hp : 200 < p.size
          · have hlp : longErr p.size = 2 := by unfold longErr; rw [if_pos hp]
            rw [hlp]
            obtain ⟨rfl, rfl⟩ := HC1.out (.inr hp)
            clear hlp HLP
            go_wp2_with fail
            go_ret
            exact ⟨rfl, hBZ⟩
          · have hlp : longErr p.size = 0 := by unfold longErr; rw [if_neg hp]
            rw [hlp]
            obtain ⟨rfl, rfl⟩ := HC2.out ht hp
            have HRC := Lib.hid (fun W => refCount_any t p (by omega) (by omega) W)
            have y9 : (((countC (L t) (L p) : Nat) : Int) == ((countC (L t) (L p) : Nat) : Int)) = true := beq_self_eq_true _
            clear hlp HLP
            generalize ((countC (L t) (L p) : Nat) : Int) = cc at *
            go_wp2_with fail
            refine (HRC.out _).mono ?_
            rintro e wy ⟨rfl, hby⟩
            have hBW := bthen hBZ hby
            go_wp2_with fail
            go_ret
            exact ⟨rfl, hBW⟩
end Go.Proofs.Ytncakjchaniheaa
namespace Go.Proofs.Ytncakjchaniheaa
open Go.ChangeShapes Go.WideShapes Go.ChangeAt Go.RowKit Go.Deep
open Go.ChangeMaps (open_string)

section
variable {H : Type} {enc : TypeId × Value → H} {P : Program} {W : World}

theorem reach_le : reachBytes ≤ 140737488351232 := by decide
/-- A slice, as a list of what its elements decode to. -/
theorem open_rd {α : Type} [Inhabited α] {size : Nat} {ec : α → List Value} {Q : α → Prop} {t e : TypeId} (ht : P.underlying t = some (.slice e)) (hC : P.cellsOf e = size) (hpos : 0 < size)
    (hec : ∀ x, (ec x).length = size)
    (hdec : ∀ fuel cs y, cs.length = size → DataW.trod enc P W 0 (fun _ => true) true fuel e cs = some y → ∃ x, cs = ec x ∧ Q x)
    {fuel : Nat} {cs : List Value} {y : DataW H × List MemPlace} (h : DataW.trod enc P W 0 (fun _ => true) true fuel t cs = some y) :
    ∃ (A : Option Addr) (n c : Nat) (l : List α), cs = [.slice A n c] ∧ n ≤ c ∧ c ≤ maxLen ∧ l.length = n ∧ Rd W W.heap.size size A n (l.flatMap ec) ∧ (∀ x ∈ l, Q x) ∧
      ((y.1 = .nil ∧ c = 0) ∨ ∃ el sp, y.1 = .slice el sp ∧ el.length + sp.length = c) := by
  rcases open_slice ht h with ⟨rfl, rfl⟩ | ⟨a, len, cap, m, n, D, Pl, rfl, hb, hl, hm, hmm, rfl, hi⟩
  · exact ⟨none, 0, 0, [], rfl, Nat.le_refl _, Nat.zero_le _, rfl, Rd.nil_, by simp, .inl ⟨rfl, rfl⟩⟩
  · have hm' : m = cap := by simpa using hmm
    subst hm'
    have key : ∀ i, i < m → ∃ x, Q x ∧ ∀ j u, (ec x)[j]? = some u → W.cell? (a.add (i * size + j)) = some u := by
      intro i him
      obtain ⟨cs', hc, ht'⟩ := hi i him
      rw [hC] at hc
      obtain ⟨_, hcl, hat⟩ := World.cells?_some hc
      obtain ⟨x, rfl, hq⟩ := hdec n cs' _ hcl ht'
      refine ⟨x, hq, fun j u hu => ?_⟩
      have hj : j < size := by rw [← hec x]; exact (List.getElem?_eq_some_iff.1 hu).1
      rw [← add_add, hat j hj, hu]
    have hx : ∀ i : Nat, ∃ x, i < m → (Q x ∧ ∀ j u, (ec x)[j]? = some u → W.cell? (a.add (i * size + j)) = some u) := by
      intro i
      by_cases him : i < m
      · obtain ⟨x, hx⟩ := key i him
        exact ⟨x, fun _ => hx⟩
      · exact ⟨default, fun h => absurd h him⟩
    have hch : ∃ f : Nat → α, ∀ i, i < m → (Q (f i) ∧ ∀ j u, (ec (f i))[j]? = some u → W.cell? (a.add (i * size + j)) = some u) := ⟨fun i => Classical.choose (hx i), fun i => Classical.choose_spec (hx i)⟩
    obtain ⟨f, hf⟩ := hch
    refine ⟨some a, len, m, (List.range len).map f, rfl, hl, hm, by simp, ⟨?_, fun hn => ⟨a, rfl, ?_, ?_⟩⟩, ?_, .inr ⟨_, _, rfl, by simp; omega⟩⟩
    · rw [List.length_flatMap]
      have : (List.map (fun a => (ec a).length) (List.map f (List.range len))) = List.replicate len size := by
        rw [List.map_map]
        apply List.ext_getElem
        · simp
        · intro i h1 h2; simp [hec]
      rw [this]; simp
    · have h1 := (hf 0 (by omega)).2 0 ((ec (f 0))[0]'(by rw [hec]; exact hpos)) (List.getElem?_eq_getElem _)
      have := World.block_lt_of_cell? _ _ h1
      simpa [blk_add] using this
    · have gen : ∀ (k : Nat) (j : Nat) (u : Value), k ≤ m → (((List.range k).map f).flatMap ec)[j]? = some u → W.cell? (a.add j) = some u := by
        intro k
        induction k with
        | zero => intro j u _ hu; simp at hu
        | succ k ih =>
          intro j u hk hu
          rw [List.range_succ, List.map_append, List.flatMap_append, List.getElem?_append] at hu
          have hlen : (((List.range k).map f).flatMap ec).length = k * size := by
            rw [List.length_flatMap]
            have : (List.map (fun a => (ec a).length) (List.map f (List.range k))) = List.replicate k size := by
              rw [List.map_map]
              apply List.ext_getElem
              · simp
              · intro i h1 h2; simp [hec]
            rw [this]; simp
          split at hu
          · exact ih j u (by omega) hu
          · rename_i hge
            rw [hlen] at hu hge
            have := (hf k (by omega)).2 (j - k * size) u (by simpa using hu)
            rwa [show k * size + (j - k * size) = j by omega] at this
      exact fun j u hu => gen len j u hl hu
    · intro x hx
      simp only [List.mem_map, List.mem_range] at hx
      obtain ⟨i, hi', rfl⟩ := hx
      exact (hf i (by omega)).1

/-- A struct of one-cell fields: each field's cell reads by the field's own type. -/
theorem open_fields {e : TypeId} {fs : Array Field} (he : P.underlying e = some (.struct fs)) (hone : oneCellFields P fs = true) {fuel : Nat} {cs : List Value} {y : DataW H × List MemPlace}
    (h : DataW.trod enc P W 0 (fun _ => true) true fuel e cs = some y) (hlen : cs.length = fs.size) :
    ∃ n, ∀ (j : Nat) (f : Field) , fs[j]? = some f → ∃ v x, cs[j]? = some v ∧ DataW.trod enc P W 0 (fun _ => true) true n f.type [v] = some x := by
  obtain ⟨ys, n', hn', hy, hl, hyl, hf⟩ := DataW.trod_struct he h
  refine ⟨n', fun j f hj => ?_⟩
  obtain ⟨ho, hk⟩ := hone_of hone j f hj
  have hjl : j < fs.size := (Array.getElem?_eq_some_iff.1 hj).1
  have h1 := hf j f hj
  rw [ho, hk] at h1
  have hone' : (cs.drop j).take 1 = [cs[j]'(by omega)] := by
    rw [List.drop_eq_getElem_cons (by omega)]
    rfl
  rw [hone'] at h1
  have hys : ys[j]? = some (ys[j]'(by omega)) := List.getElem?_eq_getElem (by omega)
  exact ⟨_, _, List.getElem?_eq_getElem (by omega), h1.trans hys⟩

theorem dec_int {e : TypeId} {k : IntKind} (he : P.underlying e = some (.int k)) : ∀ fuel cs y, DataW.trod enc P W 0 (fun _ => true) true fuel e cs = some y → ∃ x : Int, cs = [.int k x] ∧ (Lit.int k x).wf = true := by
  intro fuel cs y h
  obtain ⟨x, h1, _, h2⟩ := DataW.trod_int he h
  exact ⟨x, h1, h2⟩
theorem dec_str {e : TypeId} (he : P.underlying e = some .string) : ∀ fuel cs y, DataW.trod enc P W 0 (fun _ => true) true fuel e cs = some y → ∃ x : ByteArray, cs = [.string x] ∧ x.size ≤ maxLen := by
  intro fuel cs y h
  obtain ⟨x, h1, _, h2⟩ := DataW.trod_string he h
  exact ⟨x, h1, h2⟩

theorem trodAll_below (hl : laidOutB P = true) {W' : World} (hb : Below W.heap.size W W') : ∀ (ts : List TypeId) (vs : List Value) (ds : List (DataW H)) (ps : List MemPlace),
    (∀ t ∈ ts, P.readableRec t = true ∧ t < P.types.size) → (∀ x ∈ ps, x.block < W.heap.size) → DataW.TrodAll enc P W 0 (fun _ => true) true ts vs ds ps →
    DataW.TrodAll enc P W' 0 (fun b => decide (b < W.heap.size)) true ts vs ds ps
  | [], [], [], _, _, _, h => h
  | t :: ts, v :: vs, d :: ds, ps, hr, hp, h => by
    obtain ⟨p, q, h1, h2, rfl⟩ := h
    exact ⟨p, q, Below.trod hl (hr t (by simp)).1 (hr t (by simp)).2 h1 hb (fun x hx => hp x (by simp [hx])), trodAll_below hl hb ts vs ds q (fun t ht => hr t (by simp [ht])) (fun x hx => hp x (by simp [hx])) h2, rfl⟩
  | [], _ :: _, _, _, _, _, h => by cases h
  | [], [], _ :: _, _, _, _, h => by cases h
  | _ :: _, [], _, _, _, _, h => by cases h
  | _ :: _, _ :: _, [], _, _, _, h => by cases h

/-- A law's row, closed. -/
theorem law_close {f : Func} {s : ChangeSpec} {W' : World} {args : Array Value} {ds : List (DataW H)} {before : List MemPlace} {tb : TypeId}
    (hW : DataW.Whole enc P f.params.toList s.vars false W args.toList ds [] before) (hs : s.vars = []) (hfn : s.fn H (ds ++ []) = { results := [.lit (.bool true)], args := ds })
    (hres : f.resultTypes = #[tb]) (hu : P.underlying tb = some .bool) (hl : laidOutB P = true) (hr : ∀ t ∈ f.params.toList, P.readableRec t = true ∧ t < P.types.size)
    (hb : Below W.heap.size W W') : s.post enc P f false true false false W args (.bool true) W' := by
  have hlt := hW.lt
  have hW' := hW
  obtain ⟨p, q, hA, hV, rfl, _, _⟩ := hW
  rw [hs] at hV
  obtain ⟨_, rfl⟩ := trodVars_none hV
  simp only [List.append_nil] at hW' hlt
  refine ⟨ds, [], p, [], p, [], hW', ?_, ?_, ?_, ?_, fun h => by cases h⟩
  · rw [hfn, hres]
    exact trodAll_mk1 (shut_bool hu true)
  · rw [hfn]
    exact trodAll_below hl hb _ _ _ _ hr hlt hA
  · rw [hfn, hs]
    rfl
  · exact hb.frame _
end
end Go.Proofs.Ytncakjchaniheaa
