/- The law RingSays, walked. -/
import Derived.Test.YtolnhplgaolieaaRingG
import Derived.Test.YtolnhplgaolieaaRing1
namespace Go.Proofs.Ytolnhplgaolieaa
open Go.RowKit
theorem okB_all {k n : Nat} (h2 : 2 ≤ k) (h8 : k ≤ 8) (hn : 1 ≤ n) (h : k ^ n ≤ 512) : okB k n = true ∧ n ≤ 9 := by
  rcases few h2 h8 h with ⟨rfl, hd⟩ | ⟨rfl, hd⟩ | ⟨rfl, hd⟩ | ⟨rfl, hd⟩ | ⟨rfl, hd⟩ | ⟨rfl, hd⟩ | ⟨rfl, hd⟩ <;> refine ⟨?_, by omega⟩
  · have := List.all_eq_true.1 ok_2 (n - 1) (List.mem_range.2 (by omega)); rwa [show n - 1 + 1 = n by omega] at this
  · have := List.all_eq_true.1 ok_3 (n - 1) (List.mem_range.2 (by omega)); rwa [show n - 1 + 1 = n by omega] at this
  · have := List.all_eq_true.1 ok_4 (n - 1) (List.mem_range.2 (by omega)); rwa [show n - 1 + 1 = n by omega] at this
  · have := List.all_eq_true.1 ok_5 (n - 1) (List.mem_range.2 (by omega)); rwa [show n - 1 + 1 = n by omega] at this
  · have := List.all_eq_true.1 ok_6 (n - 1) (List.mem_range.2 (by omega)); rwa [show n - 1 + 1 = n by omega] at this
  · have := List.all_eq_true.1 ok_7 (n - 1) (List.mem_range.2 (by omega)); rwa [show n - 1 + 1 = n by omega] at this
  · have := List.all_eq_true.1 ok_8 (n - 1) (List.mem_range.2 (by omega)); rwa [show n - 1 + 1 = n by omega] at this
/-- One sign. -/
theorem allW_one : ∀ n, allW 1 n = [List.replicate n 97]
  | 0 => rfl
  | n + 1 => by
    rw [allW_succ, allW_one n]
    simp only [List.flatMap_cons, List.flatMap_nil, List.append_nil, rowW]
    show [List.replicate n 97 ++ [sg 0]] = _
    rw [List.replicate_succ']; rfl
theorem turn_one (n k : Nat) : turn (List.replicate n (97 : UInt8)) k = List.replicate n 97 := by
  unfold turn
  rw [List.drop_replicate, List.take_replicate, List.replicate_append_replicate]
  congr 1; omega
theorem isLst_one (n : Nat) : isLst (List.replicate n 97) = true := by
  unfold isLst; rw [turn_one]; simp
theorem lynB_oneS (n : Nat) : lynB (List.replicate n 97) = decide (n = 1) := by
  rcases Nat.lt_or_ge n 2 with h | h
  · have : n = 0 ∨ n = 1 := by omega
    rcases this with rfl | rfl <;> rfl
  · rw [decide_eq_false (by omega)]
    refine Bool.eq_false_iff.2 fun h9 => ?_
    obtain ⟨_, h3⟩ := lynB_iff.1 h9
    exact (h3 1 (by omega) (by rw [List.length_replicate]; omega)).2 (turn_one n 1)
theorem ringS_one (n : Nat) : ∀ t, ringS 1 n t = t
  | 0 => rfl
  | t + 1 => by rw [ringS, ringS_one n t, Nat.one_pow]
theorem genF_one (n : Nat) (hn : 1 ≤ n) : ∀ m, m ≤ n → genF 1 n m 1 (List.replicate (n + 1) 0) = (List.replicate (n + 1) 0, [97])
  | 0, _ => by
    rw [genF, if_pos (Nat.mod_one n), List.drop_replicate, List.take_replicate, show min 1 (n + 1 - 1) = 1 by omega]; rfl
  | m + 1, hm => by
    have e2 : (List.replicate (n + 1) 0).getD (n - m - 1) 0 = 0 := by rw [List.getD_eq_getElem?_getD, List.getElem?_replicate]; split <;> rfl
    have e : (List.replicate (n + 1) 0).set (n - m) ((List.replicate (n + 1) 0).getD (n - m - 1) 0) = List.replicate (n + 1) 0 := by
      rw [e2]
      apply List.ext_getElem
      · simp
      · intro i h1 h2
        rw [List.getElem_set]
        split <;> simp
    have h0 := genF_one n hn m (by omega)
    rw [genF_acc 1 n m 1 (List.replicate (n + 1) 0) (List.replicate (n + 1) 0, [97]) (by rw [e]; exact h0)]
    show accF 1 n m ((List.replicate (n + 1) 0).getD (n - m - 1) 0 + 1) (List.replicate (n + 1) 0, [97]) (1 - ((List.replicate (n + 1) 0).getD (n - m - 1) 0 + 1)) = _
    rw [e2]; rfl
theorem lineR_one (n : Nat) (hn : 1 ≤ n) : lineR 1 n = [97] := by unfold lineR; rw [genF_one n hn n (Nat.le_refl _)]
theorem stp_one (n : Nat) : ∀ m, m ≤ n → stp (wd [97] n) 97 m = 0
  | 0, _ => rfl
  | m + 1, hm => by
    rw [stp, if_pos (by rw [wd_at [97] (by omega)]; unfold wdb; simp [Nat.mod_one])]
    exact stp_one n m (by omega)
theorem nextE_one (n : Nat) (h1 : 1 ≤ n) (h2 : n ≤ 200) : nextE [97] n 97 = 4 := by
  unfold nextE
  rw [if_neg (by omega), if_neg (by simp only [List.length_cons, List.length_nil]; omega), if_neg (by decide), if_neg (by decide), Int.toNat_natCast, if_pos (stp_one n n (Nat.le_refl _))]
theorem line_one (n : Nat) (h1 : 1 ≤ n) (h2 : n ≤ 200) : lineRun n (sg (1 - 1)) 600 [97] [] = some [97] := by
  rw [show (600 : Nat) = 599 + 1 from rfl, lineRun_step]
  have e : sg (1 - 1) = 97 := rfl
  rw [e, nextE_one n h1 h2, if_neg (by decide), if_pos (by simp [Nat.mod_one])]; rfl
/-- What both sides reckon is one. -/
theorem ring_agree {k n : Nat} (h1 : 1 ≤ k) (h8 : k ≤ 8) (hn : 1 ≤ n) (h : kp k n ≤ 512) :
    (allW k n).countP isLst = ringsF k n ∧ ((allW k n).countP lynB : Int) = wv k n ∧ (n ≤ 200 → lineRun n (sg (k - 1)) 600 [97] [] = some (lineR k n)) := by
  rcases Nat.lt_or_ge k 2 with h2 | h2
  · obtain rfl : k = 1 := by omega
    rw [allW_one]
    refine ⟨?_, ?_, fun h200 => by rw [lineR_one n hn]; exact line_one n hn h200⟩
    · rw [List.countP_singleton, isLst_one]
      unfold ringsF
      rw [ringS_one, Nat.div_self hn]; rfl
    · rw [List.countP_singleton, lynB_oneS, (w_one n).1 n (Nat.le_refl _)]
      by_cases e : n = 1
      · rw [if_pos e]; simp [e]
      · rw [if_neg e]; simp [e]
  · have h9 := (okB_all h2 h8 hn h).1
    simp only [okB, Bool.and_eq_true, beq_iff_eq] at h9
    exact ⟨h9.1.1, h9.1.2, fun _ => h9.2⟩
def lenB (k n : Nat) : Bool := decide ((lineR k n).length ≤ 512)
theorem len_2 : ((List.range 10).all fun n => lenB 2 n) = true := by kernel_rfl
theorem len_3 : ((List.range 6).all fun n => lenB 3 n) = true := by kernel_rfl
theorem len_4 : ((List.range 5).all fun n => lenB 4 n) = true := by kernel_rfl
theorem len_5 : ((List.range 4).all fun n => lenB 5 n) = true := by kernel_rfl
theorem len_6 : ((List.range 4).all fun n => lenB 6 n) = true := by kernel_rfl
theorem len_7 : ((List.range 4).all fun n => lenB 7 n) = true := by kernel_rfl
theorem len_8 : ((List.range 4).all fun n => lenB 8 n) = true := by kernel_rfl
theorem lineR_len {k n : Nat} (h1 : 1 ≤ k) (h8 : k ≤ 8) (hn : 1 ≤ n) (h : kp k n ≤ 512) : (lineR k n).length ≤ 512 := by
  rcases Nat.lt_or_ge k 2 with h2 | h2
  · obtain rfl : k = 1 := by omega
    rw [lineR_one n hn]; simp
  · refine of_decide_eq_true (p := (lineR k n).length ≤ 512) ?_
    show lenB k n = true
    rcases few h2 h8 h with ⟨rfl, hd⟩ | ⟨rfl, hd⟩ | ⟨rfl, hd⟩ | ⟨rfl, hd⟩ | ⟨rfl, hd⟩ | ⟨rfl, hd⟩ | ⟨rfl, hd⟩
    · exact List.all_eq_true.1 len_2 n (List.mem_range.2 hd)
    · exact List.all_eq_true.1 len_3 n (List.mem_range.2 hd)
    · exact List.all_eq_true.1 len_4 n (List.mem_range.2 hd)
    · exact List.all_eq_true.1 len_5 n (List.mem_range.2 hd)
    · exact List.all_eq_true.1 len_6 n (List.mem_range.2 hd)
    · exact List.all_eq_true.1 len_7 n (List.mem_range.2 hd)
    · exact List.all_eq_true.1 len_8 n (List.mem_range.2 hd)
set_option maxRecDepth 100000 in
set_option maxHeartbeats 2000000 in
theorem ringSays_any (k n : Int) (w : World) :
    Calls Try.prog 13 #[.int .i64 k, .int .i64 n] w fun e w' => e = .returned (.bool true) ∧ Below w.heap.size w w' := by
  have hemp : (⟨#[]⟩ : ByteArray).toList.isEmpty = true := by rw [show (⟨#[]⟩ : ByteArray).toList = [] from ByteArray.toList_mk []]; rfl
  by_cases he : rErr k n = 0
  · obtain ⟨k, n, rfl, rfl, h1, h8, hn1, hn5, h⟩ : ∃ k' n' : Nat, k = k' ∧ n = n' ∧ 1 ≤ k' ∧ k' ≤ 8 ∧ 1 ≤ n' ∧ n' ≤ 512 ∧ kp k' n' ≤ 512 := by
      rcases rErr_cases k n with ⟨h9, _⟩ | ⟨k', n', rfl, rfl, h1, h8, hn1, hn5, h⟩
      · omega
      · rcases h with ⟨_, h9⟩ | ⟨h9, _⟩
        · omega
        · exact ⟨k', n', rfl, rfl, h1, h8, hn1, hn5, h9⟩
    obtain ⟨ag1, ag2, ag3⟩ := ring_agree h1 h8 hn1 h
    have HE := Lib.hid he
    have H := Lib.hid h
    have AG1 := Lib.hid ag1
    have AG2 := Lib.hid ag2
    have AG3 := Lib.hid ag3
    have HLN := Lib.hid (lineR_len h1 h8 hn1 h)
    clear he h ag1 ag2 ag3
    by_cases hn2 : 200 < n
    · have g1 : decide ((200 : Int) < (n : Int)) = true := decide_eq_true (by omega)
      have g1' : decide (200 < n) = true := decide_eq_true hn2
      go_enter Try.func13, Try.ntmps13
      go_wp2_with fail
      refine (rings_any k n h1 h8 hn1 hn5 H.out _).mono ?_
      rintro e w1 ⟨rfl, hb1⟩
      go_wp2_with fail
      refine (words_any k n h1 h8 hn1 hn5 H.out _).mono ?_
      rintro e w2 ⟨rfl, hb2⟩
      have hb2' := bthen hb1 hb2
      go_wp2_with fail
      refine (line_big k n HE.out (by omega) _).mono ?_
      rintro e w3 ⟨rfl, hb3⟩
      have hb3' := bthen hb2' hb3
      go_wp2_with fail
      refine (ringErr_any k n _).mono ?_
      rintro e w4 ⟨rfl, hb4⟩
      have hb4' := bthen hb3' hb4
      rw [HE.out]
      go_wp2_with fail
      refine (rCheck_any k n _).mono ?_
      rintro e w5 ⟨rfl, hb5⟩
      have hb5' := bthen hb4' hb5
      rw [HE.out]
      go_wp2_with fail
      refine (ringsOf_any k n h1 h8 hn5 H.out _).mono ?_
      rintro e w6 ⟨rfl, hb6⟩
      have hb6' := bthen hb5' hb6
      rw [AG1.out, AG2.out]
      go_wp2_with fail
      go_ret
      exact ⟨ret_bool (by simp), hb6'⟩
    · have g1 : decide ((200 : Int) < (n : Int)) = false := decide_eq_false (by omega)
      have g1' : decide (200 < n) = false := decide_eq_false hn2
      have HN2 : Hid (n ≤ 200) := by unfold Hid; omega
      go_enter Try.func13, Try.ntmps13
      go_wp2_with fail
      refine (rings_any k n h1 h8 hn1 hn5 H.out _).mono ?_
      rintro e w1 ⟨rfl, hb1⟩
      go_wp2_with fail
      refine (words_any k n h1 h8 hn1 hn5 H.out _).mono ?_
      rintro e w2 ⟨rfl, hb2⟩
      have hb2' := bthen hb1 hb2
      go_wp2_with fail
      refine (line_any k n (lineR k n) h1 h8 hn1 HN2.out H.out (AG3.out HN2.out) _).mono ?_
      rintro e w3 ⟨rfl, hb3⟩
      have hb3' := bthen hb2' hb3
      go_wp2_with fail
      refine (ringErr_any k n _).mono ?_
      rintro e w4 ⟨rfl, hb4⟩
      have hb4' := bthen hb3' hb4
      rw [HE.out]
      go_wp2_with fail
      refine (rCheck_any k n _).mono ?_
      rintro e w5 ⟨rfl, hb5⟩
      have hb5' := bthen hb4' hb5
      rw [HE.out]
      go_wp2_with fail
      refine (ringsOf_any k n h1 h8 hn5 H.out _).mono ?_
      rintro e w6 ⟨rfl, hb6⟩
      have hb6' := bthen hb5' hb6
      rw [AG1.out, AG2.out]
      go_wp2_with fail
      refine (lineOf_any k n h1 h8 hn1 hn5 HLN.out _).mono ?_
      rintro e w7 ⟨rfl, hb7⟩
      have hb7' := bthen hb6' hb7
      go_wp2_with fail
      go_ret
      exact ⟨ret_bool (by simp), hb7'⟩
  · have g1 : (rErr k n != 0) = true := by simpa using he
    have HE := Lib.hid he
    clear he
    go_enter Try.func13, Try.ntmps13
    go_wp2_with fail
    refine (rings_err k n HE.out _).mono ?_
    rintro e w1 ⟨rfl, hb1⟩
    go_wp2_with fail
    refine (words_err k n HE.out _).mono ?_
    rintro e w2 ⟨rfl, hb2⟩
    have hb2' := bthen hb1 hb2
    go_wp2_with fail
    refine (line_err k n HE.out _).mono ?_
    rintro e w3 ⟨rfl, hb3⟩
    have hb3' := bthen hb2' hb3
    go_wp2_with fail
    refine (ringErr_any k n _).mono ?_
    rintro e w4 ⟨rfl, hb4⟩
    have hb4' := bthen hb3' hb4
    go_wp2_with fail
    refine (rCheck_any k n _).mono ?_
    rintro e w5 ⟨rfl, hb5⟩
    have hb5' := bthen hb4' hb5
    go_wp2_with fail
    go_ret
    exact ⟨ret_bool (by simp), hb5'⟩
end Go.Proofs.Ytolnhplgaolieaa
