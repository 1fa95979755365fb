/- Package ring but for Line, and the document's question of bounds: walked. -/
import Derived.Test.YtllcmmpepchieaaRing0
import Derived.Test.YtllcmmpepchieaaDistN
import Derived.Deep.LoopGhost
namespace Go.Proofs.Ytllcmmpepchieaa
open Go.RowKit
def rErr (k n : Int) : Int := if k < 1 ∨ 8 < k ∨ n < 1 ∨ 512 < n then 1 else if 512 < kp k.toNat n.toNat then 2 else 0
set_option maxHeartbeats 1000000 in
theorem rpower_ok (k n : Nat) (hk : 1 ≤ k) (h8 : k ≤ 8) (h : kp k n ≤ 512) (hn : n ≤ 512) (w : World) :
    Calls Try.prog 87 #[.int .i64 (k : Int), .int .i64 (n : Int)] w fun e w' => e = .returned (.tuple #[.int .i64 (kp k n : Nat), .bool true]) ∧ Below w.heap.size w w' := by
  have HM : Hid (∀ i, i ≤ n → 1 ≤ kp k i ∧ kp k i ≤ 512) := fun i hi => ⟨kp_pos hk i, Nat.le_trans (kp_mono hk hi) h⟩
  have HS : Hid (∀ i, kp k (i + 1) = kp k i * k) := kp_succ k
  clear h
  go_enter Try.func87, Try.ntmps87
  go_wp2_with fail
  go_loop [6, 8] (fun o i => ∃ j : Nat, j ≤ n ∧ i = .int .i64 j ∧ o = .int .i64 (kp k j : Nat)) (fun _ i => n - (intOf i).toNat)
  case atStart => exact ⟨0, Nat.zero_le _, rfl, by rw [kp_zero]; rfl⟩
  case round =>
    obtain ⟨j, hj, rfl, rfl⟩ := hrel
    obtain ⟨m1, m2⟩ := HM.out j hj
    by_cases hlt : j < n
    · have g1 : decide ((j : Int) < (n : Int)) = true := decide_eq_true (by omega)
      have h9 := (HM.out (j + 1) hlt).2
      have HSJ := Lib.hid (HS.out j)
      rw [HS.out] at h9
      generalize hx : kp k j = x at *
      have hxk : (x : Int) * (k : Int) ≤ 512 := by have : ((x * k : Nat) : Int) ≤ 512 := by omega
                                                   rwa [Int.natCast_mul] at this
      have hx0 : 0 ≤ (x : Int) * (k : Int) := Int.mul_nonneg (by omega) (by omega)
      have g2 : decide ((512 : Int) < (x : Int) * (k : Int)) = false := decide_eq_false (by omega)
      have HX := Lib.hid hx
      clear hx h9
      go_wp2_with fail
      go_round
      case rel => exact ⟨j + 1, hlt, by go_num, by rw [HSJ.out, Int.natCast_mul]⟩
      case measure => simp [intOf]; omega
    · obtain rfl : j = n := by omega
      have g1 : decide ((j : Int) < (j : Int)) = false := by simp
      go_wp2_with fail
      go_ret2
      exact ⟨rfl, Below.refl _ _⟩
set_option maxHeartbeats 1000000 in
theorem rpower_big (k n : Nat) (hk : 1 ≤ k) (h8 : k ≤ 8) (h : 512 < kp k n) (hn : n ≤ 512) (w : World) :
    Calls Try.prog 87 #[.int .i64 (k : Int), .int .i64 (n : Int)] w fun e w' => e = .returned (.tuple #[.int .i64 0, .bool false]) ∧ Below w.heap.size w w' := by
  have HP : Hid (∀ i, 1 ≤ kp k i) := fun i => kp_pos hk i
  have HS : Hid (∀ i, kp k (i + 1) = kp k i * k) := kp_succ k
  have HB := Lib.hid h
  clear h
  go_enter Try.func87, Try.ntmps87
  go_wp2_with fail
  go_loop [6, 8] (fun o i => ∃ j : Nat, j ≤ n ∧ i = .int .i64 j ∧ o = .int .i64 (kp k j : Nat) ∧ kp k j ≤ 512) (fun _ i => n - (intOf i).toNat)
  case atStart => exact ⟨0, Nat.zero_le _, rfl, by rw [kp_zero]; rfl, by rw [kp_zero]; omega⟩
  case round =>
    obtain ⟨j, hj, rfl, rfl, hj5⟩ := hrel
    have m1 := HP.out j
    by_cases hlt : j < n
    · have g1 : decide ((j : Int) < (n : Int)) = true := decide_eq_true (by omega)
      have HSJ := Lib.hid (HS.out j)
      generalize hx : kp k j = x at *
      have hxk : x * k ≤ 4096 := Nat.le_trans (Nat.mul_le_mul hj5 h8) (by omega)
      have hxk' : (x : Int) * (k : Int) ≤ 4096 := by have : ((x * k : Nat) : Int) ≤ 4096 := by omega
                                                     rwa [Int.natCast_mul] at this
      have hx0 : 0 ≤ (x : Int) * (k : Int) := Int.mul_nonneg (by omega) (by omega)
      have HX := Lib.hid hx
      clear hx hxk
      by_cases h5 : (512 : Int) < (x : Int) * (k : Int)
      · have g2 : decide ((512 : Int) < (x : Int) * (k : Int)) = true := decide_eq_true h5
        go_wp2_with fail
        go_ret2
        exact ⟨rfl, Below.refl _ _⟩
      · have g2 : decide ((512 : Int) < (x : Int) * (k : Int)) = false := decide_eq_false h5
        have h6 : Hid (kp k (j + 1) ≤ 512) := by
          unfold Hid; rw [HSJ.out]
          have : ((x * k : Nat) : Int) ≤ 512 := by rw [Int.natCast_mul]; omega
          omega
        clear h5
        go_wp2_with fail
        go_round
        case rel => exact ⟨j + 1, hlt, by go_num, by rw [HSJ.out, Int.natCast_mul], h6.out⟩
        case measure => simp [intOf]; omega
    · exfalso
      obtain rfl : j = n := by omega
      have := HB.out; omega
theorem rErr_bad {k n : Int} (h : k < 1 ∨ 8 < k ∨ n < 1 ∨ 512 < n) : rErr k n = 1 := by unfold rErr; rw [if_pos h]
theorem rErr_nat {k n : Nat} (h1 : 1 ≤ k) (h8 : k ≤ 8) (hn : 1 ≤ n) (hn5 : n ≤ 512) : rErr k n = if 512 < kp k n then 2 else 0 := by
  unfold rErr; rw [if_neg (by omega)]; rfl
/-- The bounds. -/
theorem rErr_cases (k n : Int) : (rErr k n = 1 ∧ (k < 1 ∨ 8 < k ∨ n < 1 ∨ 512 < n)) ∨ ∃ k' n' : Nat, k = k' ∧ n = n' ∧ 1 ≤ k' ∧ k' ≤ 8 ∧ 1 ≤ n' ∧ n' ≤ 512 ∧ ((512 < kp k' n' ∧ rErr k n = 2) ∨ (kp k' n' ≤ 512 ∧ rErr k n = 0)) := by
  by_cases h : k < 1 ∨ 8 < k ∨ n < 1 ∨ 512 < n
  · exact .inl ⟨rErr_bad h, h⟩
  · right
    refine ⟨k.toNat, n.toNat, by omega, by omega, by omega, by omega, by omega, by omega, ?_⟩
    have e1 : k = (k.toNat : Int) := by omega
    have e2 : n = (n.toNat : Int) := by omega
    have h9 := rErr_nat (k := k.toNat) (n := n.toNat) (by omega) (by omega) (by omega) (by omega)
    rw [← e1, ← e2] at h9
    by_cases h5 : 512 < kp k.toNat n.toNat
    · exact .inl ⟨h5, by rw [h9, if_pos h5]⟩
    · exact .inr ⟨by omega, by rw [h9, if_neg h5]⟩
set_option maxHeartbeats 1000000 in
theorem rCheck_any (k n : Int) (w : World) :
    Calls Try.prog 62 #[.int .i64 k, .int .i64 n] w fun e w' => e = .returned (.int .i64 (rErr k n)) ∧ Below w.heap.size w w' := by
  rcases rErr_cases k n with ⟨he, hbad⟩ | ⟨k, n, rfl, rfl, h1, h8, hn1, hn5, h⟩
  · have HE := Lib.hid he
    clear he
    rcases Int.lt_or_le k 1 with h1 | h1
    · have g1 : decide (k < 1) = true := decide_eq_true h1
      clear hbad
      go_enter Try.func62, Try.ntmps62
      go_wp2_with fail
      go_ret
      exact ⟨ret_int HE.out.symm, Below.refl _ _⟩
    · have g1 : decide (k < 1) = false := decide_eq_false (by omega)
      rcases Int.lt_or_le 8 k with h2 | h2
      · have g2 : decide (8 < k) = true := decide_eq_true h2
        clear hbad
        go_enter Try.func62, Try.ntmps62
        go_wp2_with fail
        go_ret
        exact ⟨ret_int HE.out.symm, Below.refl _ _⟩
      · have g2 : decide (8 < k) = false := decide_eq_false (by omega)
        rcases Int.lt_or_le n 1 with h3 | h3
        · have g3 : decide (n < 1) = true := decide_eq_true h3
          clear hbad
          go_enter Try.func62, Try.ntmps62
          go_wp2_with fail
          go_ret
          exact ⟨ret_int HE.out.symm, Below.refl _ _⟩
        · have g3 : decide (n < 1) = false := decide_eq_false (by omega)
          have g4 : decide (512 < n) = true := decide_eq_true (by omega)
          clear hbad
          go_enter Try.func62, Try.ntmps62
          go_wp2_with fail
          go_ret
          exact ⟨ret_int HE.out.symm, Below.refl _ _⟩
  · have g1 : decide ((k : Int) < 1) = false := decide_eq_false (by omega)
    have g2 : decide ((8 : Int) < (k : Int)) = false := decide_eq_false (by omega)
    have g2' : decide (8 < k) = false := decide_eq_false (by omega)
    have g3 : decide ((n : Int) < 1) = false := decide_eq_false (by omega)
    have g4 : decide ((512 : Int) < (n : Int)) = false := decide_eq_false (by omega)
    have g4' : decide (512 < n) = false := decide_eq_false (by omega)
    rcases h with ⟨h5, he⟩ | ⟨h5, he⟩
    · have HE := Lib.hid he
      have H5 := Lib.hid h5
      clear he h5
      go_enter Try.func62, Try.ntmps62
      go_wp2_with fail
      refine (rpower_big k n h1 h8 H5.out hn5 _).mono ?_
      rintro e w1 ⟨rfl, hb1⟩
      go_wp2_with fail
      go_ret
      exact ⟨ret_int HE.out.symm, hb1⟩
    · have HE := Lib.hid he
      have H5 := Lib.hid h5
      clear he h5
      go_enter Try.func62, Try.ntmps62
      go_wp2_with fail
      refine (rpower_ok k n h1 h8 H5.out hn5 _).mono ?_
      rintro e w1 ⟨rfl, hb1⟩
      go_wp2_with fail
      go_ret
      exact ⟨ret_int HE.out.symm, hb1⟩
open Go.RowKit
theorem rCheck_ok {k n : Nat} (h1 : 1 ≤ k) (h8 : k ≤ 8) (hn1 : 1 ≤ n) (hn5 : n ≤ 512) (h : kp k n ≤ 512) : rErr k n = 0 := by rw [rErr_nat h1 h8 hn1 hn5, if_neg (by omega)]
theorem wrap_divB {a b : Nat} (h : a ≤ 262144) : wrap64 ((a : Int) / (b : Int)) = ((a / b : Nat) : Int) := by
  have : a / b ≤ a := Nat.div_le_self _ _
  rw [show (a : Int) / (b : Int) = ((a / b : Nat) : Int) from rfl]
  generalize a / b = q at *
  rw [IntWalk.wrap64_in _ ⟨by omega, by omega⟩]
open Go.RowKit
theorem line_err (k n : Int) (h : rErr k n ≠ 0) (w : World) :
    Calls Try.prog 27 #[.int .i64 k, .int .i64 n] w fun e w' => e = .returned (.tuple #[.string ⟨#[]⟩, .int .i64 (rErr k n)]) ∧ Below w.heap.size w w' := by
  have g1 : (rErr k n != 0) = true := by simpa using h
  clear h
  go_enter Try.func27, Try.ntmps27
  go_wp2_with fail
  refine (rCheck_any k n _).mono ?_
  rintro e w1 ⟨rfl, hb1⟩
  go_wp2_with fail
  go_ret2
  exact ⟨rfl, hb1⟩
theorem line_big (k n : Int) (h : rErr k n = 0) (hn : 200 < n) (w : World) :
    Calls Try.prog 27 #[.int .i64 k, .int .i64 n] w fun e w' => e = .returned (.tuple #[.string ⟨#[]⟩, .int .i64 2]) ∧ Below w.heap.size w w' := by
  have HE := Lib.hid h
  have g1 : decide (200 < n) = true := decide_eq_true hn
  clear h
  go_enter Try.func27, Try.ntmps27
  go_wp2_with fail
  refine (rCheck_any k n _).mono ?_
  rintro e w1 ⟨rfl, hb1⟩
  rw [HE.out]
  go_wp2_with fail
  go_ret2
  exact ⟨rfl, hb1⟩
theorem nextV_len {wl : List UInt8} {n : Nat} {last : UInt8} (h : nextE wl n last = 0) (hn : n ≤ 200) : 1 ≤ (nextV wl n last).length ∧ (nextV wl n last).length ≤ 200 := by
  have h0 : stp (wd wl n) last n ≠ 0 := by
    unfold nextE at h
    split at h
    · cases h
    split at h
    · cases h
    split at h
    · cases h
    split at h
    · cases h
    split at h
    · cases h
    · rename_i h9; simpa using h9
  have h1 := stp_le (wd wl n) last n
  have e : nextV wl n last = nextW wl n last := by unfold nextV; rw [if_pos h]; rfl
  rw [e]
  unfold nextW
  rw [List.length_append, wd_len, List.length_singleton]
  omega
theorem lineRun_step (n : Nat) (last : UInt8) (f : Nat) (wl out : List UInt8) :
    lineRun n last (f + 1) wl out = if nextE wl n last = 0 then lineRun n last f (nextV wl n last) (if n % wl.length = 0 then out ++ wl else out) else some (if n % wl.length = 0 then out ++ wl else out) := rfl
/-- Where the line stands. -/
def LnAt (n : Nat) (last : UInt8) (r : List UInt8) (f : Nat) (o x e : Value) : Prop :=
  ∃ (wl out : List UInt8) (er : Int), o = .string (S out) ∧ x = .string (S wl) ∧ e = .int .i64 er ∧ out.length ≤ (600 - f) * 200 ∧ f ≤ 600 ∧
    ((er = 0 ∧ 1 ≤ wl.length ∧ wl.length ≤ 200 ∧ lineRun n last f wl out = some r) ∨ (er ≠ 0 ∧ out = r))
set_option maxHeartbeats 2000000 in
theorem line_any (k n : Nat) (r : List UInt8) (h1 : 1 ≤ k) (h8 : k ≤ 8) (hn1 : 1 ≤ n) (hn2 : n ≤ 200) (h : kp k n ≤ 512) (hr : lineRun n (sg (k - 1)) 600 [97] [] = some r) (w : World) :
    Calls Try.prog 27 #[.int .i64 (k : Int), .int .i64 (n : Int)] w fun e w' => e = .returned (.tuple #[.string (S r), .int .i64 0]) ∧ Below w.heap.size w w' := by
  have HE := Lib.hid (rCheck_ok h1 h8 hn1 (by omega) h)
  have HR := Lib.hid hr
  have HL : Hid (((sg (k - 1)).toNat : Int) = 96 + k) := by
    unfold Hid sg
    rw [UInt8.toNat_add, UInt8.toNat_ofNat']
    show (((97 + (k - 1) % 256) % 256 : Nat) : Int) = _
    omega
  have g1 : decide ((200 : Int) < (n : Int)) = false := decide_eq_false (by omega)
  have g1' : decide (200 < n) = false := decide_eq_false (by omega)
  generalize sg (k - 1) = last at *
  clear h hr
  go_enter Try.func27, Try.ntmps27
  go_wp2_with fail
  refine (rCheck_any k n _).mono ?_
  rintro e w1 ⟨rfl, hb1⟩
  rw [HE.out]
  have e7 : (97 : Int) + (k : Int) - 1 = (last.toNat : Int) := by have := HL.out; omega
  go_wp2_with fail
  clear e7 HL
  go_loopg [8, 9, 10] 600 (fun f o x e wr => LnAt n last r f o x e ∧ Below w.heap.size w wr)
  case atStart => exact ⟨⟨[97], [], 0, rfl, rfl, rfl, by simp, by omega, .inl ⟨rfl, by simp, by simp, HR.out⟩⟩, hb1⟩
  case round =>
    clear hb1 HR
    obtain ⟨⟨wl, out, er, rfl, rfl, rfl, hol, hf6, hc⟩, hb⟩ := hrel
    rcases hc with ⟨rfl, hw1, hw2, hrun⟩ | ⟨her, hout⟩
    · obtain ⟨f, rfl⟩ : ∃ f, gk = f + 1 := by
        cases gk with
        | zero => rw [lineRun] at hrun; cases hrun
        | succ f => exact ⟨f, rfl⟩
      rw [lineRun_step] at hrun
      have HRUN := Lib.hid hrun
      have hz := S_size wl
      have hzo := S_size out
      have hs1 : 1 ≤ (S wl).size := by omega
      have hs2 : (S wl).size ≤ 200 := by omega
      have hs3 : (S out).size ≤ 120000 := by omega
      have HNX := Lib.hid (lynNext_any (S wl) n last (by omega) (by omega) (by omega))
      have HLN : Hid (nextE wl n last = 0 → 1 ≤ (nextV wl n last).length ∧ (nextV wl n last).length ≤ 200) := fun h => nextV_len h hn2
      clear hrun
      by_cases hd : n % wl.length = 0
      · have hd' : n % (S wl).size = 0 := by rw [hz]; exact hd
        have g3 : (((n % (S wl).size : Nat) : Int) == 0) = true := by rw [hd']; rfl
        have g3' : ((n : Int) % ((S wl).size : Int) == 0) = true := by rw [← Int.natCast_emod]; exact g3
        have g3'' : (n % (S wl).size == 0) = true := by rw [hd']; rfl
        have HR2 : Hid ((if nextE wl n last = 0 then lineRun n last f (nextV wl n last) (out ++ wl) else some (out ++ wl)) = some r) := by have := HRUN.out; rw [if_pos hd] at this; exact this
        have HOL : Hid ((out ++ wl).length ≤ (600 - f) * 200) := by unfold Hid; rw [List.length_append]; omega
        have HAP : Hid (S out ++ S wl = S (out ++ wl)) := by unfold Hid; rw [append_S, L_S, L_S]
        clear hd hd' HRUN hz hzo hol
        generalize out ++ wl = o2 at *
        go_wp2_with fail
        refine (HNX.out _).mono ?_
        rintro e w2 ⟨rfl, hb2⟩
        rw [L_S]
        have hb2' := bthen hb hb2
        clear HNX
        by_cases hne : nextE wl n last = 0
        · have HLN2 := Lib.hid (HLN.out hne)
          have HR3 : Hid (lineRun n last f (nextV wl n last) o2 = some r) := by have := HR2.out; rw [if_pos hne] at this; exact this
          rw [hne]
          clear HR2 HLN hne
          generalize nextV wl n last = w3 at *
          go_wp2_with fail
          go_roundg f
          case measure => omega
          case rel => exact ⟨⟨w3, o2, 0, by first | rfl | rw [HAP.out], rfl, rfl, HOL.out, by omega, .inl ⟨rfl, HLN2.out.1, HLN2.out.2, HR3.out⟩⟩, hb2'⟩
        · have HR3 : Hid (o2 = r) := by have := HR2.out; rw [if_neg hne] at this; exact Option.some.inj this
          have HNE := Lib.hid hne
          clear HR2 HLN hne
          generalize nextV wl n last = w3 at *
          generalize nextE wl n last = er at *
          go_wp2_with fail
          go_roundg f
          case measure => omega
          case rel => exact ⟨⟨w3, o2, er, by first | rfl | rw [HAP.out], rfl, rfl, HOL.out, by omega, .inr ⟨HNE.out, HR3.out⟩⟩, hb2'⟩
      · have hd' : n % (S wl).size ≠ 0 := by rw [hz]; exact hd
        have g3 : (((n % (S wl).size : Nat) : Int) == 0) = false := by rw [beq_eq_false_iff_ne]; omega
        have g3' : ((n : Int) % ((S wl).size : Int) == 0) = false := by rw [← Int.natCast_emod]; exact g3
        have g3'' : (n % (S wl).size == 0) = false := by rw [beq_eq_false_iff_ne]; exact hd'
        have HR2 : Hid ((if nextE wl n last = 0 then lineRun n last f (nextV wl n last) out else some out) = some r) := by have := HRUN.out; rw [if_neg hd] at this; exact this
        have HOL : Hid (out.length ≤ (600 - f) * 200) := by unfold Hid; omega
        have HAP : Hid (S out = S out) := rfl
        clear hd hd' HRUN hz hzo hol
        generalize hq : out = o2 at *
        go_wp2_with fail
        refine (HNX.out _).mono ?_
        rintro e w2 ⟨rfl, hb2⟩
        rw [L_S]
        have hb2' := bthen hb hb2
        clear HNX
        by_cases hne : nextE wl n last = 0
        · have HLN2 := Lib.hid (HLN.out hne)
          have HR3 : Hid (lineRun n last f (nextV wl n last) o2 = some r) := by have := HR2.out; rw [if_pos hne] at this; exact this
          rw [hne]
          clear HR2 HLN hne
          generalize nextV wl n last = w3 at *
          go_wp2_with fail
          go_roundg f
          case measure => omega
          case rel => exact ⟨⟨w3, o2, 0, by first | rfl | rw [HAP.out], rfl, rfl, HOL.out, by omega, .inl ⟨rfl, HLN2.out.1, HLN2.out.2, HR3.out⟩⟩, hb2'⟩
        · have HR3 : Hid (o2 = r) := by have := HR2.out; rw [if_neg hne] at this; exact Option.some.inj this
          have HNE := Lib.hid hne
          clear HR2 HLN hne
          generalize nextV wl n last = w3 at *
          generalize nextE wl n last = er at *
          go_wp2_with fail
          go_roundg f
          case measure => omega
          case rel => exact ⟨⟨w3, o2, er, by first | rfl | rw [HAP.out], rfl, rfl, HOL.out, by omega, .inr ⟨HNE.out, HR3.out⟩⟩, hb2'⟩
    · have g2 : (er == 0) = false := by simpa using her
      subst hout
      clear her
      go_wp2_with fail
      go_ret2
      exact ⟨rfl, hb⟩
end Go.Proofs.Ytllcmmpepchieaa
