/- same.Within and the reference's In. -/
import Derived.Test.YtolnhplgaolieaaShelf
import Derived.Test.YtolnhplgaolieaaSameP
namespace Go.Proofs.Ytolnhplgaolieaa
open Go.RowKit
/-- Does the one lie in the other? -/
def subB : List UInt8 → List UInt8 → Bool
  | [], _ => true
  | _ :: _, [] => false
  | x :: a, y :: b => if x = y then subB a b else subB (x :: a) b
theorem subB_nil (b : List UInt8) : subB [] b = true := by cases b <;> rfl
theorem subB_end (a : List UInt8) : subB a [] = decide (a.length = 0) := by cases a <;> simp [subB]
theorem subB_index (x : UInt8) (a : List UInt8) : ∀ b : List UInt8, subB (x :: a) b = (decide (0 ≤ Lib.indexByte b x) && subB a (b.drop (Lib.indexByte b x + 1).toNat)) := by
  intro b
  induction b with
  | nil => simp [subB, Lib.indexByte]
  | cons y b ih =>
    by_cases h : x = y
    · subst h; simp [subB, Lib.indexByte]
    · have h1 : (y == x) = false := by rw [beq_eq_false_iff_ne]; exact fun e => h e.symm
      simp only [subB, if_neg h, Lib.indexByte, h1, Bool.false_eq_true, if_false]
      rw [ih]
      have hg := Lib.indexByte_ge b x
      by_cases hm : Lib.indexByte b x = -1
      · simp [hm]
      · have h2 : (Lib.indexByte b x == -1) = false := by rw [beq_eq_false_iff_ne]; exact hm
        simp only [h2, Bool.false_eq_true, if_false]
        have h3 : decide (0 ≤ Lib.indexByte b x) = true := decide_eq_true (by omega)
        have h4 : decide (0 ≤ Lib.indexByte b x + 1) = true := decide_eq_true (by omega)
        rw [h3, h4]
        obtain ⟨j, hj⟩ := Int.eq_ofNat_of_zero_le (show 0 ≤ Lib.indexByte b x by omega)
        rw [hj]
        rfl
theorem indexByte_lt (b : List UInt8) (x : UInt8) : Lib.indexByte b x < b.length := by
  induction b with
  | nil => simp [Lib.indexByte]
  | cons y b ih =>
    simp only [Lib.indexByte, List.length_cons]
    split
    · omega
    · split <;> omega
set_option maxRecDepth 100000 in
set_option maxHeartbeats 2000000 in
theorem in_any : ∀ (n : Nat) (s t : ByteArray), s.size ≤ n → t.size ≤ 200 → ∀ w : World,
    Calls Try.prog 20 #[.string s, .string t] w fun e w' => e = .returned (.bool (subB (L s) (L t))) ∧ Below w.heap.size w w' := by
  intro n
  induction n with
  | zero =>
    intro s t hs ht w
    have e0 : s = ⟨#[]⟩ := by
      apply L_inj; apply List.eq_nil_of_length_eq_zero; rw [L_len]; omega
    subst e0
    go_enter Try.func20, Try.ntmps20
    go_wp2_with fail
    go_ret
    exact ⟨by rw [show L ⟨#[]⟩ = [] from rfl, subB_nil]; rfl, Below.refl _ _⟩
  | succ n ih =>
    intro s t hs ht w
    by_cases h0 : s.size = 0
    · have e0 : s = ⟨#[]⟩ := by
        apply L_inj; apply List.eq_nil_of_length_eq_zero; rw [L_len]; omega
      subst e0
      go_enter Try.func20, Try.ntmps20
      go_wp2_with fail
      go_ret
      exact ⟨by rw [show L ⟨#[]⟩ = [] from rfl, subB_nil]; rfl, Below.refl _ _⟩
    · obtain ⟨x, a, hxa⟩ : ∃ x a, L s = x :: a := by
        cases h : L s with
        | nil => exfalso; have := L_len s; rw [h] at this; simp at this; omega
        | cons x a => exact ⟨x, a, rfl⟩
      have hsz : s.size = a.length + 1 := by rw [← L_len, hxa]; rfl
      have g0 : s.toList.isEmpty = false := by rw [ByteArray.toList_eq]; change (L s).isEmpty = false; rw [hxa]; rfl
      have g0' : (s.toList == []) = false := by rw [ByteArray.toList_eq]; change (L s == []) = false; rw [hxa]; rfl
      have hx1 : s.extract 0 1 = ⟨#[x]⟩ := by rw [extract_S, hxa]; rfl
      have hx2 : s.extract 1 s.size = S a := by
        rw [extract_S, hxa, hsz]; show S (a.take (a.length + 1 - 1)) = S a
        rw [List.take_of_length_le (by omega)]
      have hlt := indexByte_lt (L t) x
      have hge := Lib.indexByte_ge (L t) x
      rw [L_len] at hlt
      have HS := Lib.hid (subB_index x a (L t))
      have HX1 := Lib.hid hx1
      have HX2 := Lib.hid hx2
      have HXA := Lib.hid hxa
      have hpos : 0 < s.size := by omega
      clear hx1 hx2 hxa h0
      have hI : Hid (∀ w : World, Calls Try.prog 84 #[.string t, .string (s.extract 0 1)] w fun e w' => e = .returned (.int .i64 (Lib.indexByte (L t) x)) ∧ w' = w) := fun w => by
        rw [HX1.out]; exact Try.strings_Index_one t x w
      have HIH : Hid (∀ (k : Nat) (w : World), Calls Try.prog 20 #[.string (s.extract 1 s.size), .string (t.extract k t.size)] w fun e w' => e = .returned (.bool (subB a ((L t).drop k))) ∧ Below w.heap.size w w') := fun k w => by
        rw [HX2.out]
        have e1 : L (t.extract k t.size) = (L t).drop k := by
          rw [L_extract, List.take_of_length_le (by rw [List.length_drop, L_len]; exact Nat.le_refl _)]
        have := ih (S a) (t.extract k t.size) (by rw [S_size]; omega) (by rw [ByteArray.size_extract]; omega) w
        rw [e1, L_S] at this
        exact this
      clear ih
      have HSZ := Lib.hid hsz
      clear hsz
      generalize Lib.indexByte (L t) x = i at *
      by_cases hi : 0 ≤ i
      · obtain ⟨k, rfl⟩ := Int.eq_ofNat_of_zero_le hi
        have g1 : decide ((0 : Int) ≤ (k : Int)) = true := decide_eq_true hi
        have e3 : ((k : Int) + 1).toNat = k + 1 := by omega
        have HE : Hid (subB (x :: a) (L t) = subB a ((L t).drop (k + 1))) := by unfold Hid; rw [HS.out, e3, g1]; rfl
        have hkl : k + 1 ≤ t.size := by omega
        clear HS
        have hIw := hI.out
        go_enter Try.func20, Try.ntmps20
        go_wp2_with fail
        refine (hI.out _).mono ?_
        rintro e w1 ⟨rfl, rfl⟩
        clear hIw
        have q4 : (k : Int) + 1 ≤ (t.size : Int) := by omega
        go_wp2_with fail
        refine wp_region_quiet_below (by kernel_rfl) (by kernel_rfl) ?_
        repeat (go_big_quiet_step ((go_at_call 20; exact Calls.regrown_of (HIH.out _ _))))
        refine wpQuiet_nil ?_
        intro w2 hb20
        have hb2 := below_of_regrown hb20
        clear hb20
        go_wp2_with fail
        go_ret
        exact ⟨by rw [HXA.out, HE.out]; rfl, hb2⟩
      · have g1 : decide ((0 : Int) ≤ i) = false := decide_eq_false hi
        have HE : Hid (subB (x :: a) (L t) = false) := by unfold Hid; rw [HS.out, g1]; rfl
        clear HS
        go_enter Try.func20, Try.ntmps20
        go_wp2_with fail
        refine (hI.out _).mono ?_
        rintro e w1 ⟨rfl, rfl⟩
        go_wp2_with fail
        refine wp_region_quiet_below (by kernel_rfl) (by kernel_rfl) ?_
        repeat (go_big_quiet_step (fail))
        refine wpQuiet_nil ?_
        intro w2 hb20
        have hb2 := below_of_regrown hb20
        clear hb20
        go_wp2_with fail
        go_ret
        exact ⟨by rw [HXA.out, HE.out]; rfl, hb2⟩
theorem subB_step {a b : List UInt8} {i k : Nat} (hi : i < a.length) (hk : k < b.length) : subB (a.drop i) (b.drop k) = if a[i] = b[k] then subB (a.drop (i + 1)) (b.drop (k + 1)) else subB (a.drop i) (b.drop (k + 1)) := by
  rw [List.drop_eq_getElem_cons hk, List.drop_eq_getElem_cons hi]
  simp only [subB]
theorem within_long (s t : ByteArray) (h : 200 < s.size ∨ 200 < t.size) (w : World) :
    Calls Try.prog 16 #[.string s, .string t] w fun e w' => e = .returned (.tuple #[.bool false, .int .i64 2]) ∧ Below w.heap.size w w' := by
  have HV : Hid (longAll [s, t] = 2) := by unfold Hid; rw [long2, if_pos h]
  clear h
  go_enter Try.func16, Try.ntmps16
  go_wp2_with fail
  refine (sameCheck_any s t _).mono ?_
  rintro e w1 ⟨rfl, hb1⟩
  rw [HV.out]
  go_wp2_with fail
  go_ret2
  exact ⟨rfl, hb1⟩
set_option maxRecDepth 100000 in
set_option maxHeartbeats 2000000 in
theorem within_any (s t : ByteArray) (hs : s.size ≤ 200) (ht : t.size ≤ 200) (w : World) :
    Calls Try.prog 16 #[.string s, .string t] w fun e w' => e = .returned (.tuple #[.bool (subB (L s) (L t)), .int .i64 0]) ∧ Below w.heap.size w w' := by
  have HV : Hid (longAll [s, t] = 0) := by unfold Hid; rw [long2, if_neg (by omega)]
  go_enter Try.func16, Try.ntmps16
  go_wp2_with fail
  refine (sameCheck_any s t _).mono ?_
  rintro e w1 ⟨rfl, hb1⟩
  rw [HV.out]
  go_wp2_with fail
  go_loopw [7, 8] (fun i k wr => ∃ i' k' : Nat, i' ≤ s.size ∧ k' ≤ t.size ∧ i = .int .i64 i' ∧ k = .int .i64 k' ∧ subB (L s) (L t) = subB ((L s).drop i') ((L t).drop k') ∧ Below w.heap.size w wr) (fun _ k _ => t.size - (intOf k).toNat)
  case atStart => exact ⟨0, 0, Nat.zero_le _, Nat.zero_le _, rfl, rfl, rfl, hb1⟩
  case round =>
    clear hb1
    obtain ⟨i, k, hi, hk, rfl, rfl, hE, hb⟩ := hrel
    have HE := Lib.hid hE
    clear hE
    by_cases hlk : k < t.size
    · have g1 : decide ((k : Int) < (t.size : Int)) = true := decide_eq_true (by omega)
      have g1' : decide (k < t.size) = true := decide_eq_true hlk
      by_cases hli : i < s.size
      · have g2 : decide ((i : Int) < (s.size : Int)) = true := decide_eq_true (by omega)
        have g2' : decide (i < s.size) = true := decide_eq_true hli
        have hst := subB_step (a := L s) (b := L t) (i := i) (k := k) (by rw [L_len]; exact hli) (by rw [L_len]; exact hlk)
        by_cases he : s[i] = t[k]
        · have HE2 : Hid (subB (L s) (L t) = subB ((L s).drop (i + 1)) ((L t).drop (k + 1))) := HE.out.trans (hst.trans (if_pos he))
          have g3 : ((s[i].toNat : Int) == (t[k].toNat : Int)) = true := by rw [he]; simp
          clear he hst HE
          go_wp2_with fail
          go_quiet (fail)
          go_wp2_with fail
          go_roundw
          case rel => exact ⟨i + 1, k + 1, by omega, by omega, by go_num, by go_num, HE2.out, below_drewN hb _⟩
          case measure => simp [intOf]; omega
        · have HE2 : Hid (subB (L s) (L t) = subB ((L s).drop i) ((L t).drop (k + 1))) := HE.out.trans (hst.trans (if_neg he))
          have g3 : ((s[i].toNat : Int) == (t[k].toNat : Int)) = false := by
            rw [beq_eq_false_iff_ne]; intro h; exact he (UInt8.toNat_inj.1 (by omega))
          clear he hst HE
          go_wp2_with fail
          go_quiet (fail)
          go_wp2_with fail
          go_roundw
          case rel => exact ⟨i, k + 1, hi, by omega, rfl, by go_num, HE2.out, below_drewN hb _⟩
          case measure => simp [intOf]; omega
      · obtain rfl : i = s.size := by omega
        have g2 : decide ((s.size : Int) < (s.size : Int)) = false := decide_eq_false (by omega)
        have g2' : decide (s.size < s.size) = false := decide_eq_false (by omega)
        have g4 : ((s.size : Int) == (s.size : Int)) = true := beq_self_eq_true _
        have HF : Hid (subB (L s) (L t) = true) := by
          unfold Hid; rw [HE.out, List.drop_of_length_le (by rw [L_len]; exact Nat.le_refl _), subB_nil]
        go_wp2_with fail
        go_ret2
        exact ⟨by rw [HF.out]; rfl, hb⟩
    · obtain rfl : k = t.size := by omega
      have g1 : decide ((t.size : Int) < (t.size : Int)) = false := decide_eq_false (by omega)
      have g1' : decide (t.size < t.size) = false := decide_eq_false (by omega)
      have HF : Hid (subB (L s) (L t) = decide (i = s.size)) := by
        unfold Hid; rw [HE.out, List.drop_of_length_le (l := L t) (by rw [L_len]; exact Nat.le_refl _), subB_end, List.length_drop, L_len]
        exact decide_eq_decide.2 (by omega)
      by_cases his : i = s.size
      · have g4 : ((i : Int) == (s.size : Int)) = true := by rw [his]; exact beq_self_eq_true _
        have HF2 : Hid (subB (L s) (L t) = true) := HF.out.trans (decide_eq_true his)
        clear his
        go_wp2_with fail
        go_ret2
        exact ⟨by rw [HF2.out]; rfl, hb⟩
      · have g4 : ((i : Int) == (s.size : Int)) = false := by rw [beq_eq_false_iff_ne]; omega
        have HF2 : Hid (subB (L s) (L t) = false) := HF.out.trans (decide_eq_false his)
        clear his
        go_wp2_with fail
        go_ret2
        exact ⟨by rw [HF2.out]; rfl, hb⟩
end Go.Proofs.Ytolnhplgaolieaa
