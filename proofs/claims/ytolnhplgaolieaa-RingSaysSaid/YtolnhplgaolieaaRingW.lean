/- Package ring but for Line, and the document's question of bounds: walked. -/
import Derived.Test.YtolnhplgaolieaaRing0
import Derived.Test.YtolnhplgaolieaaDistN
import Derived.Deep.LoopGhost
namespace Go.Proofs.Ytolnhplgaolieaa
open Go.RowKit
def rErr (k n : Int) : Int := if k < 1 ∨ 8 < k ∨ n < 1 ∨ 512 < n then 1 else if 512 < kp k.toNat n.toNat then 2 else 0
set_option maxHeartbeats 1000000 in
theorem rpower_ok (k n : Nat) (hk : 1 ≤ k) (h8 : k ≤ 8) (h : kp k n ≤ 512) (hn : n ≤ 512) (w : World) :
    Calls Try.prog 125 #[.int .i64 (k : Int), .int .i64 (n : Int)] w fun e w' => e = .returned (.tuple #[.int .i64 (kp k n : Nat), .bool true]) ∧ Below w.heap.size w w' := by
  have HM : Hid (∀ i, i ≤ n → 1 ≤ kp k i ∧ kp k i ≤ 512) := fun i hi => ⟨kp_pos hk i, Nat.le_trans (kp_mono hk hi) h⟩
  have HS : Hid (∀ i, kp k (i + 1) = kp k i * k) := kp_succ k
  clear h
  go_enter Try.func125, Try.ntmps125
  go_wp2_with fail
  go_loop [6, 8] (fun o i => ∃ j : Nat, j ≤ n ∧ i = .int .i64 j ∧ o = .int .i64 (kp k j : Nat)) (fun _ i => n - (intOf i).toNat)
  case atStart => exact ⟨0, Nat.zero_le _, rfl, by rw [kp_zero]; rfl⟩
  case round =>
    obtain ⟨j, hj, rfl, rfl⟩ := hrel
    obtain ⟨m1, m2⟩ := HM.out j hj
    by_cases hlt : j < n
    · have g1 : decide ((j : Int) < (n : Int)) = true := decide_eq_true (by omega)
      have h9 := (HM.out (j + 1) hlt).2
      have HSJ := Lib.hid (HS.out j)
      rw [HS.out] at h9
      generalize hx : kp k j = x at *
      have hxk : (x : Int) * (k : Int) ≤ 512 := by have : ((x * k : Nat) : Int) ≤ 512 := by omega
                                                   rwa [Int.natCast_mul] at this
      have hx0 : 0 ≤ (x : Int) * (k : Int) := Int.mul_nonneg (by omega) (by omega)
      have g2 : decide ((512 : Int) < (x : Int) * (k : Int)) = false := decide_eq_false (by omega)
      have HX := Lib.hid hx
      clear hx h9
      go_wp2_with fail
      go_round
      case rel => exact ⟨j + 1, hlt, by go_num, by rw [HSJ.out, Int.natCast_mul]⟩
      case measure => simp [intOf]; omega
    · obtain rfl : j = n := by omega
      have g1 : decide ((j : Int) < (j : Int)) = false := by simp
      go_wp2_with fail
      go_ret2
      exact ⟨rfl, Below.refl _ _⟩
set_option maxHeartbeats 1000000 in
theorem rpower_big (k n : Nat) (hk : 1 ≤ k) (h8 : k ≤ 8) (h : 512 < kp k n) (hn : n ≤ 512) (w : World) :
    Calls Try.prog 125 #[.int .i64 (k : Int), .int .i64 (n : Int)] w fun e w' => e = .returned (.tuple #[.int .i64 0, .bool false]) ∧ Below w.heap.size w w' := by
  have HP : Hid (∀ i, 1 ≤ kp k i) := fun i => kp_pos hk i
  have HS : Hid (∀ i, kp k (i + 1) = kp k i * k) := kp_succ k
  have HB := Lib.hid h
  clear h
  go_enter Try.func125, Try.ntmps125
  go_wp2_with fail
  go_loop [6, 8] (fun o i => ∃ j : Nat, j ≤ n ∧ i = .int .i64 j ∧ o = .int .i64 (kp k j : Nat) ∧ kp k j ≤ 512) (fun _ i => n - (intOf i).toNat)
  case atStart => exact ⟨0, Nat.zero_le _, rfl, by rw [kp_zero]; rfl, by rw [kp_zero]; omega⟩
  case round =>
    obtain ⟨j, hj, rfl, rfl, hj5⟩ := hrel
    have m1 := HP.out j
    by_cases hlt : j < n
    · have g1 : decide ((j : Int) < (n : Int)) = true := decide_eq_true (by omega)
      have HSJ := Lib.hid (HS.out j)
      generalize hx : kp k j = x at *
      have hxk : x * k ≤ 4096 := Nat.le_trans (Nat.mul_le_mul hj5 h8) (by omega)
      have hxk' : (x : Int) * (k : Int) ≤ 4096 := by have : ((x * k : Nat) : Int) ≤ 4096 := by omega
                                                     rwa [Int.natCast_mul] at this
      have hx0 : 0 ≤ (x : Int) * (k : Int) := Int.mul_nonneg (by omega) (by omega)
      have HX := Lib.hid hx
      clear hx hxk
      by_cases h5 : (512 : Int) < (x : Int) * (k : Int)
      · have g2 : decide ((512 : Int) < (x : Int) * (k : Int)) = true := decide_eq_true h5
        go_wp2_with fail
        go_ret2
        exact ⟨rfl, Below.refl _ _⟩
      · have g2 : decide ((512 : Int) < (x : Int) * (k : Int)) = false := decide_eq_false h5
        have h6 : Hid (kp k (j + 1) ≤ 512) := by
          unfold Hid; rw [HSJ.out]
          have : ((x * k : Nat) : Int) ≤ 512 := by rw [Int.natCast_mul]; omega
          omega
        clear h5
        go_wp2_with fail
        go_round
        case rel => exact ⟨j + 1, hlt, by go_num, by rw [HSJ.out, Int.natCast_mul], h6.out⟩
        case measure => simp [intOf]; omega
    · exfalso
      obtain rfl : j = n := by omega
      have := HB.out; omega
set_option maxHeartbeats 1000000 in
theorem rgcd_any (a b : Nat) (ha : a ≤ 512) (hb : b ≤ 512) (w : World) :
    Calls Try.prog 126 #[.int .i64 (a : Int), .int .i64 (b : Int)] w fun e w' => e = .returned (.int .i64 (Nat.gcd a b : Nat)) ∧ Below w.heap.size w w' := by
  obtain ⟨G, hG⟩ : ∃ G, G = Nat.gcd a b := ⟨_, rfl⟩
  rw [← hG]
  have HG := Lib.hid hG
  clear hG
  go_enter Try.func126, Try.ntmps126
  go_wp2_with fail
  go_loopw [0, 1] (fun x y wr => ∃ (x' y' : Nat), x' ≤ 512 ∧ y' ≤ 512 ∧ x = .int .i64 x' ∧ y = .int .i64 y' ∧ Nat.gcd x' y' = G ∧ Below w.heap.size w wr) (fun _ y _ => (intOf y).toNat)
  case atStart => exact ⟨a, b, ha, hb, rfl, rfl, HG.out.symm, Below.refl _ _⟩
  case round =>
    clear HG
    obtain ⟨x, y, hx, hy, rfl, rfl, hg, hb9⟩ := hrel
    have HGG := Lib.hid hg
    clear hg
    by_cases h0 : 0 < y
    · have g1 : decide ((0 : Int) < (y : Int)) = true := decide_eq_true (by omega)
      have g1' : decide (0 < y) = true := decide_eq_true h0
      have hml := Nat.mod_lt x h0
      have HN : Hid (Nat.gcd y (x % y) = G) := by unfold Hid; rw [← HGG.out, Nat.gcd_comm x y, Nat.gcd_rec y x, Nat.gcd_comm]
      go_wp2_with fail
      go_quiet (fail)
      go_wp2_with fail
      go_roundw
      case rel => exact ⟨y, x % y, by omega, by omega, by go_num, by go_num, HN.out, below_drewN hb9 _⟩
      case measure => simp [intOf]; omega
    · obtain rfl : y = 0 := by omega
      have hxg : x = G := by rw [← HGG.out]; simp
      subst hxg
      have g1 : decide ((0 : Int) < 0) = false := by decide
      go_wp2_with fail
      go_ret
      exact ⟨rfl, hb9⟩
theorem rErr_bad {k n : Int} (h : k < 1 ∨ 8 < k ∨ n < 1 ∨ 512 < n) : rErr k n = 1 := by unfold rErr; rw [if_pos h]
theorem rErr_nat {k n : Nat} (h1 : 1 ≤ k) (h8 : k ≤ 8) (hn : 1 ≤ n) (hn5 : n ≤ 512) : rErr k n = if 512 < kp k n then 2 else 0 := by
  unfold rErr; rw [if_neg (by omega)]; rfl
/-- The bounds. -/
theorem rErr_cases (k n : Int) : (rErr k n = 1 ∧ (k < 1 ∨ 8 < k ∨ n < 1 ∨ 512 < n)) ∨ ∃ k' n' : Nat, k = k' ∧ n = n' ∧ 1 ≤ k' ∧ k' ≤ 8 ∧ 1 ≤ n' ∧ n' ≤ 512 ∧ ((512 < kp k' n' ∧ rErr k n = 2) ∨ (kp k' n' ≤ 512 ∧ rErr k n = 0)) := by
  by_cases h : k < 1 ∨ 8 < k ∨ n < 1 ∨ 512 < n
  · exact .inl ⟨rErr_bad h, h⟩
  · right
    refine ⟨k.toNat, n.toNat, by omega, by omega, by omega, by omega, by omega, by omega, ?_⟩
    have e1 : k = (k.toNat : Int) := by omega
    have e2 : n = (n.toNat : Int) := by omega
    have h9 := rErr_nat (k := k.toNat) (n := n.toNat) (by omega) (by omega) (by omega) (by omega)
    rw [← e1, ← e2] at h9
    by_cases h5 : 512 < kp k.toNat n.toNat
    · exact .inl ⟨h5, by rw [h9, if_pos h5]⟩
    · exact .inr ⟨by omega, by rw [h9, if_neg h5]⟩
set_option maxHeartbeats 1000000 in
theorem rCheck_any (k n : Int) (w : World) :
    Calls Try.prog 80 #[.int .i64 k, .int .i64 n] w fun e w' => e = .returned (.int .i64 (rErr k n)) ∧ Below w.heap.size w w' := by
  rcases rErr_cases k n with ⟨he, hbad⟩ | ⟨k, n, rfl, rfl, h1, h8, hn1, hn5, h⟩
  · have HE := Lib.hid he
    clear he
    rcases Int.lt_or_le k 1 with h1 | h1
    · have g1 : decide (k < 1) = true := decide_eq_true h1
      clear hbad
      go_enter Try.func80, Try.ntmps80
      go_wp2_with fail
      go_ret
      exact ⟨ret_int HE.out.symm, Below.refl _ _⟩
    · have g1 : decide (k < 1) = false := decide_eq_false (by omega)
      rcases Int.lt_or_le 8 k with h2 | h2
      · have g2 : decide (8 < k) = true := decide_eq_true h2
        clear hbad
        go_enter Try.func80, Try.ntmps80
        go_wp2_with fail
        go_ret
        exact ⟨ret_int HE.out.symm, Below.refl _ _⟩
      · have g2 : decide (8 < k) = false := decide_eq_false (by omega)
        rcases Int.lt_or_le n 1 with h3 | h3
        · have g3 : decide (n < 1) = true := decide_eq_true h3
          clear hbad
          go_enter Try.func80, Try.ntmps80
          go_wp2_with fail
          go_ret
          exact ⟨ret_int HE.out.symm, Below.refl _ _⟩
        · have g3 : decide (n < 1) = false := decide_eq_false (by omega)
          have g4 : decide (512 < n) = true := decide_eq_true (by omega)
          clear hbad
          go_enter Try.func80, Try.ntmps80
          go_wp2_with fail
          go_ret
          exact ⟨ret_int HE.out.symm, Below.refl _ _⟩
  · have g1 : decide ((k : Int) < 1) = false := decide_eq_false (by omega)
    have g2 : decide ((8 : Int) < (k : Int)) = false := decide_eq_false (by omega)
    have g2' : decide (8 < k) = false := decide_eq_false (by omega)
    have g3 : decide ((n : Int) < 1) = false := decide_eq_false (by omega)
    have g4 : decide ((512 : Int) < (n : Int)) = false := decide_eq_false (by omega)
    have g4' : decide (512 < n) = false := decide_eq_false (by omega)
    rcases h with ⟨h5, he⟩ | ⟨h5, he⟩
    · have HE := Lib.hid he
      have H5 := Lib.hid h5
      clear he h5
      go_enter Try.func80, Try.ntmps80
      go_wp2_with fail
      refine (rpower_big k n h1 h8 H5.out hn5 _).mono ?_
      rintro e w1 ⟨rfl, hb1⟩
      go_wp2_with fail
      go_ret
      exact ⟨ret_int HE.out.symm, hb1⟩
    · have HE := Lib.hid he
      have H5 := Lib.hid h5
      clear he h5
      go_enter Try.func80, Try.ntmps80
      go_wp2_with fail
      refine (rpower_ok k n h1 h8 H5.out hn5 _).mono ?_
      rintro e w1 ⟨rfl, hb1⟩
      go_wp2_with fail
      go_ret
      exact ⟨ret_int HE.out.symm, hb1⟩
set_option maxHeartbeats 1000000 in
theorem ringErr_any (k n : Int) (w : World) :
    Calls Try.prog 79 #[.int .i64 k, .int .i64 n] w fun e w' => e = .returned (.int .i64 (rErr k n)) ∧ Below w.heap.size w w' := by
  rcases rErr_cases k n with ⟨he, hbad⟩ | ⟨k, n, rfl, rfl, h1, h8, hn1, hn5, h⟩
  · have HE := Lib.hid he
    clear he
    rcases Int.lt_or_le k 1 with h1 | h1
    · have g1 : decide (k < 1) = true := decide_eq_true h1
      clear hbad
      go_enter Try.func79, Try.ntmps79
      go_wp2_with fail
      go_ret
      exact ⟨ret_int HE.out.symm, Below.refl _ _⟩
    · have g1 : decide (k < 1) = false := decide_eq_false (by omega)
      rcases Int.lt_or_le 8 k with h2 | h2
      · have g2 : decide (8 < k) = true := decide_eq_true h2
        clear hbad
        go_enter Try.func79, Try.ntmps79
        go_wp2_with fail
        go_ret
        exact ⟨ret_int HE.out.symm, Below.refl _ _⟩
      · have g2 : decide (8 < k) = false := decide_eq_false (by omega)
        rcases Int.lt_or_le n 1 with h3 | h3
        · have g3 : decide (n < 1) = true := decide_eq_true h3
          clear hbad
          go_enter Try.func79, Try.ntmps79
          go_wp2_with fail
          go_ret
          exact ⟨ret_int HE.out.symm, Below.refl _ _⟩
        · have g3 : decide (n < 1) = false := decide_eq_false (by omega)
          have g4 : decide (512 < n) = true := decide_eq_true (by omega)
          clear hbad
          go_enter Try.func79, Try.ntmps79
          go_wp2_with fail
          go_ret
          exact ⟨ret_int HE.out.symm, Below.refl _ _⟩
  · have g1 : decide ((k : Int) < 1) = false := decide_eq_false (by omega)
    have g2 : decide ((8 : Int) < (k : Int)) = false := decide_eq_false (by omega)
    have g2' : decide (8 < k) = false := decide_eq_false (by omega)
    have g3 : decide ((n : Int) < 1) = false := decide_eq_false (by omega)
    have g4 : decide ((512 : Int) < (n : Int)) = false := decide_eq_false (by omega)
    have g4' : decide (512 < n) = false := decide_eq_false (by omega)
    have HE : Hid (rErr k n = if 512 < min (kp k n) 513 then 2 else 0) := by
      unfold Hid
      rcases h with ⟨h5, he⟩ | ⟨h5, he⟩
      · rw [he, if_pos (by omega)]
      · rw [he, if_neg (by omega)]
    have HS : Hid (∀ i, min (kp k (i + 1)) 513 = min (min (kp k i) 513 * k) 513) := fun i => by
      rw [kp_succ]
      have := kp_pos h1 i
      rcases Nat.lt_or_ge (kp k i) 513 with h9 | h9
      · rw [Nat.min_eq_left (by omega : kp k i ≤ 513)]
      · rw [Nat.min_eq_right h9, Nat.min_eq_right (Nat.le_trans h9 (Nat.le_mul_of_pos_right _ h1)), Nat.min_eq_right (Nat.le_mul_of_pos_right _ h1)]
    clear h
    go_enter Try.func79, Try.ntmps79
    go_wp2_with fail
    go_loop [5, 21] (fun o i => ∃ j m : Nat, j ≤ n ∧ i = .int .i64 j ∧ m = min (kp k j) 513 ∧ o = .int .i64 (m : Nat)) (fun _ i => n - (intOf i).toNat)
    case atStart => exact ⟨0, 1, Nat.zero_le _, rfl, by rw [kp_zero]; rfl, rfl⟩
    case round =>
      obtain ⟨j, m, hj, rfl, hm, rfl⟩ := hrel
      have hm5 : m ≤ 513 := by rw [hm]; exact Nat.min_le_right _ _
      have HM := Lib.hid hm
      clear hm
      by_cases hlt : j < n
      · have g5 : decide ((j : Int) < (n : Int)) = true := decide_eq_true (by omega)
        have hmk : m * k ≤ 4104 := Nat.le_trans (Nat.mul_le_mul hm5 h8) (by omega)
        have hmk' : (m : Int) * (k : Int) ≤ 4104 := by have : ((m * k : Nat) : Int) ≤ 4104 := by omega
                                                       rwa [Int.natCast_mul] at this
        have hm0 : 0 ≤ (m : Int) * (k : Int) := Int.mul_nonneg (by omega) (by omega)
        have HN : Hid (min (m * k) 513 = min (kp k (j + 1)) 513) := by unfold Hid; rw [HS.out, HM.out]
        clear hmk
        rcases Nat.lt_or_ge (m * k) 513 with h9 | h9
        · have h9' : (m : Int) * (k : Int) < 513 := by have : ((m * k : Nat) : Int) < 513 := by omega
                                                       rwa [Int.natCast_mul] at this
          have HN2 : Hid (m * k = min (kp k (j + 1)) 513) := by unfold Hid; rw [← HN.out, Nat.min_eq_left (by omega)]
          clear h9
          go_wp2_with fail
          go_round
          case rel => exact ⟨j + 1, m * k, hlt, by go_num, HN2.out, by rw [Int.natCast_mul]; congr 1; omega⟩
          case measure => simp [intOf]; omega
        · have h9' : 513 ≤ (m : Int) * (k : Int) := by have : (513 : Int) ≤ ((m * k : Nat) : Int) := by omega
                                                       rwa [Int.natCast_mul] at this
          have HN2 : Hid (513 = min (kp k (j + 1)) 513) := by unfold Hid; rw [← HN.out, Nat.min_eq_right h9]
          clear h9
          go_wp2_with fail
          go_round
          case rel => exact ⟨j + 1, 513, hlt, by go_num, HN2.out, by congr 1; omega⟩
          case measure => simp [intOf]; omega
      · obtain rfl : j = n := by omega
        have g5 : decide ((j : Int) < (j : Int)) = false := by simp
        rw [← HM.out] at HE
        by_cases h9 : 512 < m
        · have g6 : decide ((512 : Int) < (m : Int)) = true := decide_eq_true (by omega)
          have g6' : decide (512 < m) = true := decide_eq_true h9
          rw [if_pos h9] at HE
          go_wp2_with fail
          go_ret
          exact ⟨ret_int HE.out.symm, Below.refl _ _⟩
        · have g6 : decide ((512 : Int) < (m : Int)) = false := decide_eq_false (by omega)
          have g6' : decide (512 < m) = false := decide_eq_false h9
          rw [if_neg h9] at HE
          go_wp2_with fail
          go_ret
          exact ⟨ret_int HE.out.symm, Below.refl _ _⟩
open Go.RowKit
theorem rCheck_ok {k n : Nat} (h1 : 1 ≤ k) (h8 : k ≤ 8) (hn1 : 1 ≤ n) (hn5 : n ≤ 512) (h : kp k n ≤ 512) : rErr k n = 0 := by rw [rErr_nat h1 h8 hn1 hn5, if_neg (by omega)]
theorem wrap_divB {a b : Nat} (h : a ≤ 262144) : wrap64 ((a : Int) / (b : Int)) = ((a / b : Nat) : Int) := by
  have : a / b ≤ a := Nat.div_le_self _ _
  rw [show (a : Int) / (b : Int) = ((a / b : Nat) : Int) from rfl]
  generalize a / b = q at *
  rw [IntWalk.wrap64_in _ ⟨by omega, by omega⟩]
theorem rings_err (k n : Int) (h : rErr k n ≠ 0) (w : World) :
    Calls Try.prog 76 #[.int .i64 k, .int .i64 n] w fun e w' => e = .returned (.tuple #[.int .i64 0, .int .i64 (rErr k n)]) ∧ Below w.heap.size w w' := by
  have g1 : (rErr k n != 0) = true := by simpa using h
  clear h
  go_enter Try.func76, Try.ntmps76
  go_wp2_with fail
  refine (rCheck_any k n _).mono ?_
  rintro e w1 ⟨rfl, hb1⟩
  go_wp2_with fail
  go_ret2
  exact ⟨rfl, hb1⟩
theorem words_err (k n : Int) (h : rErr k n ≠ 0) (w : World) :
    Calls Try.prog 77 #[.int .i64 k, .int .i64 n] w fun e w' => e = .returned (.tuple #[.int .i64 0, .int .i64 (rErr k n)]) ∧ Below w.heap.size w w' := by
  have g1 : (rErr k n != 0) = true := by simpa using h
  clear h
  go_enter Try.func77, Try.ntmps77
  go_wp2_with fail
  refine (rCheck_any k n _).mono ?_
  rintro e w1 ⟨rfl, hb1⟩
  go_wp2_with fail
  go_ret2
  exact ⟨rfl, hb1⟩
set_option maxHeartbeats 1000000 in
theorem rings_any (k n : Nat) (h1 : 1 ≤ k) (h8 : k ≤ 8) (hn1 : 1 ≤ n) (hn5 : n ≤ 512) (h : kp k n ≤ 512) (w : World) :
    Calls Try.prog 76 #[.int .i64 (k : Int), .int .i64 (n : Int)] w fun e w' => e = .returned (.tuple #[.int .i64 (ringsF k n : Nat), .int .i64 0]) ∧ Below w.heap.size w w' := by
  have HE := Lib.hid (rCheck_ok h1 h8 hn1 hn5 h)
  have HB := Lib.hid (ringS_le k n hn1 h1 h)
  have HS : Hid (∀ t, ringS k n (t + 1) = ringS k n t + kp k (Nat.gcd t n)) := fun t => rfl
  have HP : Hid (∀ t, Nat.gcd t n ≤ n ∧ kp k (Nat.gcd t n) ≤ 512) := fun t => by
    have h3 := Nat.le_of_dvd hn1 (Nat.gcd_dvd_right t n)
    exact ⟨h3, Nat.le_trans (kp_mono h1 h3) h⟩
  have HF : Hid (ringsF k n = ringS k n n / n) := rfl
  clear h
  go_enter Try.func76, Try.ntmps76
  go_wp2_with fail
  refine (rCheck_any k n _).mono ?_
  rintro e w1 ⟨rfl, hb1⟩
  rw [HE.out]
  go_wp2_with fail
  go_loopw [7, 18] (fun o i wr => ∃ t : Nat, t ≤ n ∧ i = .int .i64 t ∧ o = .int .i64 (ringS k n t : Nat) ∧ Below w.heap.size w wr) (fun _ i _ => n - (intOf i).toNat)
  case atStart => exact ⟨0, Nat.zero_le _, rfl, rfl, hb1⟩
  case round =>
    clear hb1
    obtain ⟨t, ht, rfl, rfl, hb⟩ := hrel
    have hbt := HB.out t
    have HST := Lib.hid (HS.out t)
    by_cases hlt : t < n
    · have g1 : decide ((t : Int) < (n : Int)) = true := decide_eq_true (by omega)
      obtain ⟨p1, p2⟩ := HP.out t
      have hbt2 : ringS k n t ≤ 262144 := by omega
      clear hbt
      generalize ringS k n t = x at *
      go_wp2_with fail
      refine (rgcd_any t n (by omega) hn5 _).mono ?_
      rintro e w2 ⟨rfl, hb2⟩
      generalize Nat.gcd t n = g at *
      have hb2' := bthen hb hb2
      go_wp2_with fail
      refine (rpower_ok k g h1 h8 p2 (by omega) _).mono ?_
      rintro e w3 ⟨rfl, hb3⟩
      generalize kp k g = y at *
      have hb3' := bthen hb2' hb3
      go_wp2_with fail
      go_roundw
      case rel => exact ⟨t + 1, hlt, by go_num, by rw [HST.out]; go_num, hb3'⟩
      case measure => simp [intOf]; omega
    · obtain rfl : t = n := by omega
      have g1 : decide ((t : Int) < (t : Int)) = false := by simp
      have hbt2 : ringS k t t ≤ 262144 := by omega
      have hdv : ringS k t t / t ≤ 262144 := Nat.le_trans (Nat.div_le_self _ _) hbt2
      clear hbt
      generalize hx9 : ringS k t t = x at *
      clear hx9
      go_wp2_with fail
      go_ret2
      exact ⟨by rw [HF.out, wrap_divB hbt2]; rfl, hb⟩
set_option maxHeartbeats 2000000 in
theorem words_any (k n : Nat) (h1 : 1 ≤ k) (h8 : k ≤ 8) (hn1 : 1 ≤ n) (hn5 : n ≤ 512) (h : kp k n ≤ 512) (w : World) :
    Calls Try.prog 77 #[.int .i64 (k : Int), .int .i64 (n : Int)] w fun e w' => e = .returned (.tuple #[.int .i64 (wv k n), .int .i64 0]) ∧ Below w.heap.size w w' := by
  obtain ⟨i0, hi0, hz0, hz1, hz2⟩ := info_parts info_int
  have HE := Lib.hid (rCheck_ok h1 h8 hn1 hn5 h)
  have HB : Hid (∀ d, d ≤ n → kp k d ≤ 512 ∧ (0 ≤ wv k d ∧ wv k d ≤ 512) ∧ ∀ c, 1 ≤ c → c ≤ d → 0 ≤ wx k d c ∧ wx k d c ≤ 512) := fun d hd => by
    have h9 := Nat.le_trans (kp_mono h1 hd) h
    exact ⟨h9, w_bounds h1 h8 h9⟩
  have HX1 : Hid (∀ d, wx k d 1 = (kp k d : Nat)) := wx_one k
  have HXS : Hid (∀ d c, 0 < c → c < d → wx k d (c + 1) = if d % c = 0 then wx k d c - c * wv k c else wx k d c) := fun d c => wx_step k d
  have HV : Hid (∀ d, 0 < d → wv k d = wx k d d / (d : Int)) := fun d => wv_of k
  have HV0 : Hid (wv k 0 = 0) := rfl
  clear h
  go_enter Try.func77, Try.ntmps77
  go_wp2_with fail
  refine (rCheck_any k n _).mono ?_
  rintro e w1 ⟨rfl, hb1⟩
  rw [HE.out]
  go_wp2_with (at_make; go_must (refine wpList_make_full _ rfl _ _ _ rfl w.heap.size 3 i0 _ 1 Try.underlying25 hi0 hz0 hz1 .i64 .i64 ((n : Int) + 1) ((n : Int) + 1) (n + 1) rfl rfl (by omega) (by omega) (by rw [hz2]; omega) (by unfold maxLen; omega) hb1.size ?_); intro w2 hown2 hg2)
  have hb2 : Below w.heap.size w w2 := hb1.grown hg2 hb1.size (fun _ h => by cases h)
  have HA2 : Hid (ArrI w2 w.heap.size w1.heap.size (n + 1) (List.replicate (n + 1) 0)) := by rw [made_ints] at hown2; exact hown2
  have hg7 : w.heap.size ≤ w1.heap.size := hb1.size
  clear hown2 hg2 hb1
  generalize w1.heap.size = g at *
  go_loopw [8] (fun i wr => ∃ (d : Nat) (q : List Int), 1 ≤ d ∧ d ≤ n + 1 ∧ i = .int .i64 d ∧ ArrI wr w.heap.size g (n + 1) q ∧ (∀ j, j < d → q.getD j 0 = wv k j) ∧ Below w.heap.size w wr) (fun i _ => n + 1 - (intOf i).toNat)
  case atStart => exact ⟨1, _, by omega, by omega, rfl, HA2.out, fun j h => by
    obtain rfl : j = 0 := by omega
    rw [HV0.out]; simp, hb2⟩
  case round =>
    clear HA2 hb2
    obtain ⟨d, q, hd1, hd, rfl, hrow, hl, hb⟩ := hrel
    have HLQ := Lib.hid hl
    have HRO := Lib.hid hrow
    clear hl hrow
    by_cases hlt : d ≤ n
    · have g1 : decide ((d : Int) ≤ (n : Int)) = true := decide_eq_true (by omega)
      have g1' : decide (d ≤ n) = true := decide_eq_true hlt
      obtain ⟨p1, ⟨p2, p3⟩, p4⟩ := HB.out d hlt
      have P4 := Lib.hid p4
      clear p4
      have HXD := Lib.hid (HX1.out d)
      have HVD := Lib.hid (HV.out d hd1)
      go_wp2_with fail
      refine (rpower_ok k d h1 h8 p1 (by omega) _).mono ?_
      rintro e w3 ⟨rfl, hb3⟩
      rw [← HXD.out]
      have HRO3 := Lib.hid (HRO.out.below hb3)
      have hb3' := bthen hb hb3
      clear HRO hb3 hb p1
      go_wp2_with fail
      go_loopw [9, 11] (fun x c w4 => ∃ c' : Nat, 1 ≤ c' ∧ c' ≤ d ∧ c = .int .i64 c' ∧ x = .int .i64 (wx k d c') ∧ w4 = w3) (fun _ c _ => d - (intOf c).toNat)
      case atStart => exact ⟨1, Nat.le_refl _, hd1, rfl, rfl, rfl⟩
      case round =>
        obtain ⟨c, hc1, hcd, rfl, rfl, rfl⟩ := hrel
        obtain ⟨x1, x2⟩ := P4.out c hc1 hcd
        by_cases hlc : c < d
        · have g2 : decide ((c : Int) < (d : Int)) = true := decide_eq_true (by omega)
          have g2' : decide (c < d) = true := decide_eq_true hlc
          have HXC := Lib.hid (HXS.out d c hc1 hlc)
          have c0 := HRO3.out.at_ (k := c) (by omega)
          rw [HLQ.out c hlc] at c0
          obtain ⟨_, ⟨v1, v2⟩, _⟩ := HB.out c (by omega)
          generalize wx k d c = x at *
          generalize wv k c = v at *
          have hcv0 : 0 ≤ (c : Int) * v := Int.mul_nonneg (by omega) v1
          have hcv1 : (c : Int) * v ≤ 512 * 512 := Int.mul_le_mul (by omega) v2 v1 (by omega)
          have hml := Nat.mod_lt d hc1
          by_cases hm0 : d % c = 0
          · have g3 : (((d % c : Nat) : Int) == 0) = true := by rw [hm0]; rfl
            have g3' : ((d : Int) % (c : Int) == 0) = true := by rw [← Int.natCast_emod]; exact g3
            have g3'' : (d % c == 0) = true := by rw [hm0]; rfl
            rw [if_pos hm0] at HXC
            clear hm0
            go_wp2_with fail
            go_roundw
            case rel => exact ⟨c + 1, by omega, hlc, by go_num, by rw [HXC.out], by first | rfl | trivial⟩
            case measure => simp [intOf]; omega
          · have g3 : (((d % c : Nat) : Int) == 0) = false := by rw [beq_eq_false_iff_ne]; omega
            have g3' : ((d : Int) % (c : Int) == 0) = false := by rw [← Int.natCast_emod]; exact g3
            have g3'' : (d % c == 0) = false := by rw [beq_eq_false_iff_ne]; exact hm0
            rw [if_neg hm0] at HXC
            clear hm0
            go_wp2_with fail
            go_roundw
            case rel => exact ⟨c + 1, by omega, hlc, by go_num, by rw [HXC.out], by first | rfl | trivial⟩
            case measure => simp [intOf]; omega
        · obtain rfl : c = d := by omega
          have g2 : decide ((c : Int) < (c : Int)) = false := by simp
          have f0 := HRO3.out.free c
          have c0 := HRO3.out.at_ (k := c) (by omega)
          have hln := HRO3.out.len
          have HRW := Lib.hid (HRO3.out.set_ c (wv k c))
          obtain ⟨y, hy⟩ : ∃ y : Nat, wx k c c = (y : Int) := ⟨(wx k c c).toNat, by omega⟩
          have hy2 : y ≤ 262144 := by omega
          have HWD : Hid (wrap64 ((y : Int) / (c : Int)) = wv k c) := by unfold Hid; rw [HVD.out, hy, wrap_divB hy2]; rfl
          rw [hy]
          clear hy x1 x2
          go_wp2_with fail
          rw [HWD.out]
          go_roundw
          case rel =>
            refine ⟨c + 1, _, by omega, by omega, by go_num, HRW.out, fun j hj => ?_, Below.setCell hb3' hg7 _⟩
            rw [getD_set _ _ _ _ (by omega)]
            split
            · rename_i e; rw [e]
            · exact HLQ.out j (by omega)
          case measure => simp [intOf]; omega
    · obtain rfl : d = n + 1 := by omega
      have g1 : decide ((n : Int) + 1 ≤ (n : Int)) = false := decide_eq_false (by omega)
      have c0 := HRO.out.at_ (k := n) (by omega)
      rw [HLQ.out n (by omega)] at c0
      go_wp2_with fail
      go_ret2
      exact ⟨rfl, hb⟩
open Go.RowKit
theorem line_err (k n : Int) (h : rErr k n ≠ 0) (w : World) :
    Calls Try.prog 78 #[.int .i64 k, .int .i64 n] w fun e w' => e = .returned (.tuple #[.string ⟨#[]⟩, .int .i64 (rErr k n)]) ∧ Below w.heap.size w w' := by
  have g1 : (rErr k n != 0) = true := by simpa using h
  clear h
  go_enter Try.func78, Try.ntmps78
  go_wp2_with fail
  refine (rCheck_any k n _).mono ?_
  rintro e w1 ⟨rfl, hb1⟩
  go_wp2_with fail
  go_ret2
  exact ⟨rfl, hb1⟩
theorem line_big (k n : Int) (h : rErr k n = 0) (hn : 200 < n) (w : World) :
    Calls Try.prog 78 #[.int .i64 k, .int .i64 n] w fun e w' => e = .returned (.tuple #[.string ⟨#[]⟩, .int .i64 2]) ∧ Below w.heap.size w w' := by
  have HE := Lib.hid h
  have g1 : decide (200 < n) = true := decide_eq_true hn
  clear h
  go_enter Try.func78, Try.ntmps78
  go_wp2_with fail
  refine (rCheck_any k n _).mono ?_
  rintro e w1 ⟨rfl, hb1⟩
  rw [HE.out]
  go_wp2_with fail
  go_ret2
  exact ⟨rfl, hb1⟩
theorem nextV_len {wl : List UInt8} {n : Nat} {last : UInt8} (h : nextE wl n last = 0) (hn : n ≤ 200) : 1 ≤ (nextV wl n last).length ∧ (nextV wl n last).length ≤ 200 := by
  have h0 : stp (wd wl n) last n ≠ 0 := by
    unfold nextE at h
    split at h
    · cases h
    split at h
    · cases h
    split at h
    · cases h
    split at h
    · cases h
    split at h
    · cases h
    · rename_i h9; simpa using h9
  have h1 := stp_le (wd wl n) last n
  have e : nextV wl n last = nextW wl n last := by unfold nextV; rw [if_pos h]; rfl
  rw [e]
  unfold nextW
  rw [List.length_append, wd_len, List.length_singleton]
  omega
theorem lineRun_step (n : Nat) (last : UInt8) (f : Nat) (wl out : List UInt8) :
    lineRun n last (f + 1) wl out = if nextE wl n last = 0 then lineRun n last f (nextV wl n last) (if n % wl.length = 0 then out ++ wl else out) else some (if n % wl.length = 0 then out ++ wl else out) := rfl
/-- Where the line stands. -/
def LnAt (n : Nat) (last : UInt8) (r : List UInt8) (f : Nat) (o x e : Value) : Prop :=
  ∃ (wl out : List UInt8) (er : Int), o = .string (S out) ∧ x = .string (S wl) ∧ e = .int .i64 er ∧ out.length ≤ (600 - f) * 200 ∧ f ≤ 600 ∧
    ((er = 0 ∧ 1 ≤ wl.length ∧ wl.length ≤ 200 ∧ lineRun n last f wl out = some r) ∨ (er ≠ 0 ∧ out = r))
set_option maxHeartbeats 2000000 in
theorem line_any (k n : Nat) (r : List UInt8) (h1 : 1 ≤ k) (h8 : k ≤ 8) (hn1 : 1 ≤ n) (hn2 : n ≤ 200) (h : kp k n ≤ 512) (hr : lineRun n (sg (k - 1)) 600 [97] [] = some r) (w : World) :
    Calls Try.prog 78 #[.int .i64 (k : Int), .int .i64 (n : Int)] w fun e w' => e = .returned (.tuple #[.string (S r), .int .i64 0]) ∧ Below w.heap.size w w' := by
  have HE := Lib.hid (rCheck_ok h1 h8 hn1 (by omega) h)
  have HR := Lib.hid hr
  have HL : Hid (((sg (k - 1)).toNat : Int) = 96 + k) := by
    unfold Hid sg
    rw [UInt8.toNat_add, UInt8.toNat_ofNat']
    show (((97 + (k - 1) % 256) % 256 : Nat) : Int) = _
    omega
  have g1 : decide ((200 : Int) < (n : Int)) = false := decide_eq_false (by omega)
  have g1' : decide (200 < n) = false := decide_eq_false (by omega)
  generalize sg (k - 1) = last at *
  clear h hr
  go_enter Try.func78, Try.ntmps78
  go_wp2_with fail
  refine (rCheck_any k n _).mono ?_
  rintro e w1 ⟨rfl, hb1⟩
  rw [HE.out]
  have e7 : (97 : Int) + (k : Int) - 1 = (last.toNat : Int) := by have := HL.out; omega
  go_wp2_with fail
  clear e7 HL
  go_loopg [8, 9, 10] 600 (fun f o x e wr => LnAt n last r f o x e ∧ Below w.heap.size w wr)
  case atStart => exact ⟨⟨[97], [], 0, rfl, rfl, rfl, by simp, by omega, .inl ⟨rfl, by simp, by simp, HR.out⟩⟩, hb1⟩
  case round =>
    clear hb1 HR
    obtain ⟨⟨wl, out, er, rfl, rfl, rfl, hol, hf6, hc⟩, hb⟩ := hrel
    rcases hc with ⟨rfl, hw1, hw2, hrun⟩ | ⟨her, hout⟩
    · obtain ⟨f, rfl⟩ : ∃ f, gk = f + 1 := by
        cases gk with
        | zero => rw [lineRun] at hrun; cases hrun
        | succ f => exact ⟨f, rfl⟩
      rw [lineRun_step] at hrun
      have HRUN := Lib.hid hrun
      have hz := S_size wl
      have hzo := S_size out
      have hs1 : 1 ≤ (S wl).size := by omega
      have hs2 : (S wl).size ≤ 200 := by omega
      have hs3 : (S out).size ≤ 120000 := by omega
      have HNX := Lib.hid (lynNext_any (S wl) n last (by omega) (by omega) (by omega))
      have HLN : Hid (nextE wl n last = 0 → 1 ≤ (nextV wl n last).length ∧ (nextV wl n last).length ≤ 200) := fun h => nextV_len h hn2
      clear hrun
      by_cases hd : n % wl.length = 0
      · have hd' : n % (S wl).size = 0 := by rw [hz]; exact hd
        have g3 : (((n % (S wl).size : Nat) : Int) == 0) = true := by rw [hd']; rfl
        have g3' : ((n : Int) % ((S wl).size : Int) == 0) = true := by rw [← Int.natCast_emod]; exact g3
        have g3'' : (n % (S wl).size == 0) = true := by rw [hd']; rfl
        have HR2 : Hid ((if nextE wl n last = 0 then lineRun n last f (nextV wl n last) (out ++ wl) else some (out ++ wl)) = some r) := by have := HRUN.out; rw [if_pos hd] at this; exact this
        have HOL : Hid ((out ++ wl).length ≤ (600 - f) * 200) := by unfold Hid; rw [List.length_append]; omega
        have HAP : Hid (S out ++ S wl = S (out ++ wl)) := by unfold Hid; rw [append_S, L_S, L_S]
        clear hd hd' HRUN hz hzo hol
        generalize out ++ wl = o2 at *
        go_wp2_with fail
        refine (HNX.out _).mono ?_
        rintro e w2 ⟨rfl, hb2⟩
        rw [L_S]
        have hb2' := bthen hb hb2
        clear HNX
        by_cases hne : nextE wl n last = 0
        · have HLN2 := Lib.hid (HLN.out hne)
          have HR3 : Hid (lineRun n last f (nextV wl n last) o2 = some r) := by have := HR2.out; rw [if_pos hne] at this; exact this
          rw [hne]
          clear HR2 HLN hne
          generalize nextV wl n last = w3 at *
          go_wp2_with fail
          go_roundg f
          case measure => omega
          case rel => exact ⟨⟨w3, o2, 0, by first | rfl | rw [HAP.out], rfl, rfl, HOL.out, by omega, .inl ⟨rfl, HLN2.out.1, HLN2.out.2, HR3.out⟩⟩, hb2'⟩
        · have HR3 : Hid (o2 = r) := by have := HR2.out; rw [if_neg hne] at this; exact Option.some.inj this
          have HNE := Lib.hid hne
          clear HR2 HLN hne
          generalize nextV wl n last = w3 at *
          generalize nextE wl n last = er at *
          go_wp2_with fail
          go_roundg f
          case measure => omega
          case rel => exact ⟨⟨w3, o2, er, by first | rfl | rw [HAP.out], rfl, rfl, HOL.out, by omega, .inr ⟨HNE.out, HR3.out⟩⟩, hb2'⟩
      · have hd' : n % (S wl).size ≠ 0 := by rw [hz]; exact hd
        have g3 : (((n % (S wl).size : Nat) : Int) == 0) = false := by rw [beq_eq_false_iff_ne]; omega
        have g3' : ((n : Int) % ((S wl).size : Int) == 0) = false := by rw [← Int.natCast_emod]; exact g3
        have g3'' : (n % (S wl).size == 0) = false := by rw [beq_eq_false_iff_ne]; exact hd'
        have HR2 : Hid ((if nextE wl n last = 0 then lineRun n last f (nextV wl n last) out else some out) = some r) := by have := HRUN.out; rw [if_neg hd] at this; exact this
        have HOL : Hid (out.length ≤ (600 - f) * 200) := by unfold Hid; omega
        have HAP : Hid (S out = S out) := rfl
        clear hd hd' HRUN hz hzo hol
        generalize hq : out = o2 at *
        go_wp2_with fail
        refine (HNX.out _).mono ?_
        rintro e w2 ⟨rfl, hb2⟩
        rw [L_S]
        have hb2' := bthen hb hb2
        clear HNX
        by_cases hne : nextE wl n last = 0
        · have HLN2 := Lib.hid (HLN.out hne)
          have HR3 : Hid (lineRun n last f (nextV wl n last) o2 = some r) := by have := HR2.out; rw [if_pos hne] at this; exact this
          rw [hne]
          clear HR2 HLN hne
          generalize nextV wl n last = w3 at *
          go_wp2_with fail
          go_roundg f
          case measure => omega
          case rel => exact ⟨⟨w3, o2, 0, by first | rfl | rw [HAP.out], rfl, rfl, HOL.out, by omega, .inl ⟨rfl, HLN2.out.1, HLN2.out.2, HR3.out⟩⟩, hb2'⟩
        · have HR3 : Hid (o2 = r) := by have := HR2.out; rw [if_neg hne] at this; exact Option.some.inj this
          have HNE := Lib.hid hne
          clear HR2 HLN hne
          generalize nextV wl n last = w3 at *
          generalize nextE wl n last = er at *
          go_wp2_with fail
          go_roundg f
          case measure => omega
          case rel => exact ⟨⟨w3, o2, er, by first | rfl | rw [HAP.out], rfl, rfl, HOL.out, by omega, .inr ⟨HNE.out, HR3.out⟩⟩, hb2'⟩
    · have g2 : (er == 0) = false := by simpa using her
      subst hout
      clear her
      go_wp2_with fail
      go_ret2
      exact ⟨rfl, hb⟩
end Go.Proofs.Ytolnhplgaolieaa
