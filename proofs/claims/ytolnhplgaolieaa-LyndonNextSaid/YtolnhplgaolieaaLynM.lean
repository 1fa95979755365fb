/- The law LyndonNext, walked. -/
import Derived.Test.YtolnhplgaolieaaLynY
import Derived.Test.YtolnhplgaolieaaLynU
import Derived.Test.YtolnhplgaolieaaOpenRows
namespace Go.Proofs.Ytolnhplgaolieaa
open Go.RowKit
set_option maxRecDepth 100000 in
set_option maxHeartbeats 8000000 in
theorem lyndonNext_any (s : ByteArray) (n : Int) (last : UInt8) (w : World) (hs : s.size ≤ 140737488351232) (hn0 : -9223372036854775808 ≤ n) (hn1 : n ≤ 9223372036854775807) :
    Calls Try.prog 6 #[.string s, .int .i64 n, .int .u8 (last.toNat : Int)] w fun e w' => e = .returned (.bool true) ∧ Below w.heap.size w w' := by
  have HLL : Hid ((L s).length = s.size) := L_len s
  have HNX := Lib.hid (lynNext_any s n last hs hn0 hn1)
  by_cases hn : n < 1 ∨ 200 < n
  · have HE : Hid (nextE (L s) n last = 1) := by unfold Hid nextE; rw [if_pos hn]
    have HV : Hid (nextV (L s) n last = []) := nextV_err (by rw [HE.out]; decide)
    rw [HE.out, HV.out, show S [] = ⟨#[]⟩ from rfl] at HNX
    by_cases h1 : n < 1
    · have g1 : decide (n < 1) = true := decide_eq_true h1
      go_enter Try.func6, Try.ntmps6
      go_wp2_with fail
      refine (HNX.out _).mono ?_
      rintro e w1 ⟨rfl, hb1⟩
      go_wp2_with fail
      go_ret
      exact ⟨rfl, hb1⟩
    · have g1 : decide (n < 1) = false := decide_eq_false h1
      have g2 : decide ((200 : Int) < n) = true := decide_eq_true (by omega)
      go_enter Try.func6, Try.ntmps6
      go_wp2_with fail
      refine (HNX.out _).mono ?_
      rintro e w1 ⟨rfl, hb1⟩
      go_wp2_with fail
      go_ret
      exact ⟨rfl, hb1⟩
  obtain ⟨N, rfl⟩ : ∃ N : Nat, n = (N : Int) := ⟨n.toNat, by omega⟩
  have g1 : decide ((N : Int) < 1) = false := decide_eq_false (by omega)
  have g2 : decide ((200 : Int) < (N : Int)) = false := decide_eq_false (by omega)
  by_cases hsn : N < s.size
  · have HE : Hid (nextE (L s) (N : Int) last = 2) := by unfold Hid nextE; rw [if_neg hn, if_pos (by rw [HLL.out]; omega)]
    have HV : Hid (nextV (L s) (N : Int) last = []) := nextV_err (by rw [HE.out]; decide)
    rw [HE.out, HV.out, show S [] = ⟨#[]⟩ from rfl] at HNX
    clear hn
    have g3 : decide ((N : Int) < (s.size : Int)) = true := decide_eq_true (by omega)
    have g3' : decide (N < s.size) = true := decide_eq_true (by omega)
    go_enter Try.func6, Try.ntmps6
    go_wp2_with fail
    refine (HNX.out _).mono ?_
    rintro e w1 ⟨rfl, hb1⟩
    go_wp2_with fail
    go_ret
    exact ⟨rfl, hb1⟩
  have g3 : decide ((N : Int) < (s.size : Int)) = false := decide_eq_false (by omega)
  have g3' : decide (N < s.size) = false := decide_eq_false (by omega)
  have hs2 : s.size ≤ 200 := by omega
  have HRL := Lib.hid (refLyndon_any s hs2)
  cases hly : lynB (L s) with
  | false =>
    have HE : Hid (nextE (L s) (N : Int) last = 3) := by unfold Hid nextE; rw [if_neg hn, if_neg (by rw [HLL.out]; omega), if_pos hly]
    have HV : Hid (nextV (L s) (N : Int) last = []) := nextV_err (by rw [HE.out]; decide)
    rw [HE.out, HV.out, show S [] = ⟨#[]⟩ from rfl] at HNX
    rw [hly] at HRL
    clear hn hly
    go_enter Try.func6, Try.ntmps6
    go_wp2_with fail
    refine (HNX.out _).mono ?_
    rintro e w1 ⟨rfl, hb1⟩
    go_wp2_with fail
    refine (HRL.out _).mono ?_
    rintro e w2 ⟨rfl, hb2⟩
    go_wp2_with fail
    go_ret
    exact ⟨rfl, bthen hb1 hb2⟩
  | true =>
  have hpos : 0 < s.size := by
    rcases Nat.eq_zero_or_pos s.size with h | h
    · have h0 : L s = [] := List.eq_nil_of_length_eq_zero (by rw [L_len]; exact h)
      rw [h0] at hly; cases hly
    · exact h
  have hsN : s.size ≤ N := by omega
  have hN200 : N ≤ 200 := by omega
  rw [hly] at HRL
  have hcv := fun W => Lib.run_convert_string_bytes (P := Try.prog) W 9 52 5 s Try.underlying9 Try.underlying52 Try.underlying5
  have HMX : Hid (decide (last < maxB (L s)) = anyGt (L s) last) := maxB_gt (by
    intro h0
    have := HLL.out
    rw [h0] at this; simp at this; omega) last
  cases hag : anyGt (L s) last with
  | true =>
    have HE : Hid (nextE (L s) (N : Int) last = 1) := by unfold Hid nextE; rw [if_neg hn, if_neg (by rw [HLL.out]; omega), if_neg (by rw [hly]; decide), if_pos hag]
    have HV : Hid (nextV (L s) (N : Int) last = []) := nextV_err (by rw [HE.out]; decide)
    rw [HE.out, HV.out, show S [] = ⟨#[]⟩ from rfl] at HNX
    rw [hag] at HMX
    have g4 : decide (last.toNat < (maxB (L s)).toNat) = true := HMX.out
    clear hn hly hag
    go_enter Try.func6, Try.ntmps6
    go_wp2_with fail
    refine (HNX.out _).mono ?_
    rintro e w1 ⟨rfl, hb1⟩
    go_wp2_with fail
    refine (HRL.out _).mono ?_
    rintro e w2 ⟨rfl, hb2⟩
    have hb3 : Below w2.heap.size w2 (Lib.bytesWorld w2 5 s) := bytesWorld_below w2 _ s
    have hrd : Rd (Lib.bytesWorld w2 5 s) (w2.heap.size + 1) 1 (some ⟨w2.heap.size, 0, none⟩) s.size (byteCells (L s)) := bytesWorld_rd w2 _ s (Nat.lt_succ_self _)
    go_wp2_with fail
    refine (maxBytes_any (L s) _ s.size _ _ _ hrd hpos (by omega)).mono ?_
    rintro e w4 ⟨rfl, hb4⟩
    have hb4' := bthen hb3 hb4
    generalize maxB (L s) = mx at *
    clear hrd hb3 hb4
    go_wp2_with fail
    go_ret
    exact ⟨rfl, bthen hb1 (bthen hb2 hb4')⟩
  | false =>
    have HE : Hid (nextE (L s) (N : Int) last = if stp (wd (L s) N) last N = 0 then 4 else 0) := by
      unfold Hid nextE
      rw [if_neg hn, if_neg (by rw [HLL.out]; omega), if_neg (by rw [hly]; decide), if_neg (by rw [hag]; decide)]
      rfl
    have HNO := Lib.hid (nextOf_any s N last hpos hsN hN200 hag)
    rw [hag] at HMX
    have g4 : decide (last.toNat < (maxB (L s)).toNat) = false := HMX.out
    clear hn hly hag
    by_cases hst : stp (wd (L s) N) last N = 0
    · have HE4 : Hid (nextE (L s) (N : Int) last = 4) := by unfold Hid; rw [HE.out, if_pos hst]
      have HV : Hid (nextV (L s) (N : Int) last = []) := nextV_err (by rw [HE4.out]; decide)
      rw [HE4.out, HV.out, show S [] = ⟨#[]⟩ from rfl] at HNX
      have HO : Hid (nextOk (L s) N last = false) := by unfold Hid nextOk; rw [hst]; rfl
      rw [HO.out] at HNO
      clear hst
      go_enter Try.func6, Try.ntmps6
      go_wp2_with fail
      refine (HNX.out _).mono ?_
      rintro e w1 ⟨rfl, hb1⟩
      go_wp2_with fail
      refine (HRL.out _).mono ?_
      rintro e w2 ⟨rfl, hb2⟩
      have hb3 : Below w2.heap.size w2 (Lib.bytesWorld w2 5 s) := bytesWorld_below w2 _ s
      have hrd : Rd (Lib.bytesWorld w2 5 s) (w2.heap.size + 1) 1 (some ⟨w2.heap.size, 0, none⟩) s.size (byteCells (L s)) := bytesWorld_rd w2 _ s (Nat.lt_succ_self _)
      go_wp2_with fail
      refine (maxBytes_any (L s) _ s.size _ _ _ hrd hpos (by omega)).mono ?_
      rintro e w4 ⟨rfl, hb4⟩
      have hb4' := bthen hb3 hb4
      generalize maxB (L s) = mx at *
      clear hrd hb3 hb4
      go_wp2_with fail
      refine (HNO.out _).mono ?_
      rintro e w5 ⟨rfl, hb5⟩
      go_wp2_with fail
      go_ret
      exact ⟨rfl, bthen hb1 (bthen hb2 (bthen hb4' hb5))⟩
    · have HE4 : Hid (nextE (L s) (N : Int) last = 0) := by unfold Hid; rw [HE.out, if_neg hst]
      have HV : Hid (nextV (L s) (N : Int) last = nextW (L s) N last) := by unfold Hid nextV; rw [if_pos HE4.out]; rfl
      rw [HE4.out, HV.out] at HNX
      have HO : Hid (nextOk (L s) N last = true) := by
        unfold Hid nextOk
        rw [Bool.not_eq_true', beq_eq_false_iff_ne]; exact hst
      have HT : Hid (nextT (L s) N last = nextW (L s) N last) := by unfold Hid nextT; rw [if_neg hst]
      rw [HO.out, HT.out] at HNO
      clear hst
      generalize S (nextW (L s) N last) = T at *
      go_enter Try.func6, Try.ntmps6
      go_wp2_with fail
      refine (HNX.out _).mono ?_
      rintro e w1 ⟨rfl, hb1⟩
      go_wp2_with fail
      refine (HRL.out _).mono ?_
      rintro e w2 ⟨rfl, hb2⟩
      have hb3 : Below w2.heap.size w2 (Lib.bytesWorld w2 5 s) := bytesWorld_below w2 _ s
      have hrd : Rd (Lib.bytesWorld w2 5 s) (w2.heap.size + 1) 1 (some ⟨w2.heap.size, 0, none⟩) s.size (byteCells (L s)) := bytesWorld_rd w2 _ s (Nat.lt_succ_self _)
      go_wp2_with fail
      refine (maxBytes_any (L s) _ s.size _ _ _ hrd hpos (by omega)).mono ?_
      rintro e w4 ⟨rfl, hb4⟩
      have hb4' := bthen hb3 hb4
      generalize maxB (L s) = mx at *
      clear hrd hb3 hb4
      go_wp2_with fail
      refine (HNO.out _).mono ?_
      rintro e w5 ⟨rfl, hb5⟩
      go_wp2_with fail
      go_ret
      exact ⟨rfl, bthen hb1 (bthen hb2 (bthen hb4' hb5))⟩
theorem lyndonNext_int (s : ByteArray) (n x : Int) (w : World) (hs : s.size ≤ 140737488351232) (hn : -9223372036854775808 ≤ n ∧ n ≤ 9223372036854775807) (hx : 0 ≤ x ∧ x ≤ 255) :
    Calls Try.prog 6 #[.string s, .int .i64 n, .int .u8 x] w fun e w' => e = .returned (.bool true) ∧ Below w.heap.size w w' := by
  rw [u8_of hx]
  exact lyndonNext_any s n _ w hs hn.1 hn.2
end Go.Proofs.Ytolnhplgaolieaa
