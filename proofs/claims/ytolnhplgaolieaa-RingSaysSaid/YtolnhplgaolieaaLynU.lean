/- The document's least turn, and its question whether a word is less than all its turns. -/
import Derived.Test.YtolnhplgaolieaaLynV
namespace Go.Proofs.Ytolnhplgaolieaa
open Go.RowKit
set_option maxRecDepth 100000 in
set_option maxHeartbeats 4000000 in
theorem refLyndon_512 (s : ByteArray) (hs : s.size ≤ 512) (w : World) :
    Calls Try.prog 32 #[.string s] w fun e w' => e = .returned (.bool (lynB (L s))) ∧ Below w.heap.size w w' := by
  have HLL : Hid ((L s).length = s.size) := L_len s
  have hemp : s.toList = L s := ByteArray.toList_eq s
  go_enter Try.func32, Try.ntmps32
  go_wp2_with fail
  go_loopw [3] (fun k wr => ∃ k' : Nat, 1 ≤ k' ∧ (k' ≤ s.size ∨ k' = 1) ∧ k = .int .i64 (k' : Int) ∧ (∀ q, 0 < q → q < k' → ¬ turn (L s) q < L s ∧ turn (L s) q ≠ L s) ∧ Below w.heap.size w wr) (fun k _ => s.size - (intOf k).toNat)
  case atStart => exact ⟨1, Nat.le_refl _, .inr rfl, rfl, fun q h1 h2 => by omega, Below.refl _ _⟩
  case round =>
    obtain ⟨k, hk1, hk, rfl, hno, hb⟩ := hrel
    have HNO := Lib.hid hno
    clear hno
    by_cases hlt : k < s.size
    · have g1 : decide ((k : Int) < (s.size : Int)) = true := decide_eq_true (by omega)
      have z1 := sz_extract s k s.size (Nat.le_refl _)
      have z2 := sz_extract s 0 k (by omega)
      have HT1 := Lib.hid (turn_S s k)
      by_cases hc : turn (L s) k < L s ∨ turn (L s) k = L s
      · have HF : Hid (lynB (L s) = false) := by
          unfold Hid
          rw [Bool.eq_false_iff]
          intro hb'
          have := (lynB_iff.1 hb').2 k (by omega) (by rw [HLL.out]; exact hlt)
          rcases hc with h | h
          · exact this.1 h
          · exact this.2 h
        have g2 : (Op.bytesLess (s.extract k s.size ++ s.extract 0 k).toList s.toList || (s.extract k s.size ++ s.extract 0 k).toList == s.toList) = true := by
          rw [HT1.out, ← S_L s, less_S, beqB, Bool.or_eq_true, decide_eq_true_iff, decide_eq_true_iff]
          rcases hc with h | h
          · exact .inl h
          · exact .inr (by rw [L_S, h])
        clear hc hemp
        go_wp2_with fail
        go_quiet (fail)
        go_wp2_with fail
        go_ret
        rw [HF.out]
        exact ⟨rfl, below_drewN hb _⟩
      · have HN : Hid (∀ q, 0 < q → q < k + 1 → ¬ turn (L s) q < L s ∧ turn (L s) q ≠ L s) := fun q h1 h2 => by
          by_cases hq : q = k
          · subst hq; exact ⟨fun h => hc (.inl h), fun h => hc (.inr h)⟩
          · exact HNO.out q h1 (by omega)
        have g2 : (Op.bytesLess (s.extract k s.size ++ s.extract 0 k).toList s.toList || (s.extract k s.size ++ s.extract 0 k).toList == s.toList) = false := by
          rw [HT1.out, ← S_L s, less_S, beqB, Bool.or_eq_false_iff, decide_eq_false_iff_not, decide_eq_false_iff_not]
          exact ⟨fun h => hc (.inl h), fun h => hc (.inr (by have := congrArg L h; exact this))⟩
        clear hc hemp
        go_wp2_with fail
        go_quiet (fail)
        go_wp2_with fail
        go_roundw
        case rel => exact ⟨k + 1, by omega, .inl (by omega), by go_num, HN.out, below_drewN hb _⟩
        case measure => simp [intOf]; omega
    · have g1 : decide ((k : Int) < (s.size : Int)) = false := decide_eq_false (by omega)
      have HF : Hid (lynB (L s) = !((L s) == [])) := by
        unfold Hid
        by_cases h0 : L s = []
        · rw [h0]; rfl
        · have h1 : lynB (L s) = true := lynB_iff.2 ⟨h0, fun q h2 h3 => HNO.out q h2 (by rw [HLL.out] at h3; omega)⟩
          rw [h1]; symm; rw [Bool.not_eq_true', beq_eq_false_iff_ne]; exact h0
      have HEM := Lib.hid hemp
      clear hemp
      go_wp2_with fail
      go_ret
      refine ⟨?_, hb⟩
      rw [HF.out, ← HEM.out]
      first | rfl | (cases h : s.toList <;> rfl)
/-- All turns. -/
def turns (s : List UInt8) (n : Nat) : List (List UInt8) := (List.range n).map (turn s)
theorem turns_len (s : List UInt8) (n : Nat) : (turns s n).length = n := by simp [turns]
theorem turns_succ (s : List UInt8) (n : Nat) : turns s (n + 1) = turns s n ++ [turn s n] := by simp [turns, List.range_succ]
theorem minS_S (a b : List UInt8) : Lib.minS (S a) (S b) = if b < a then S b else S a := by
  unfold Lib.minS
  show (if a < b ∨ a = b then S a else S b) = _
  by_cases h : b < a
  · rw [if_neg (by
      rintro (h1 | h1)
      · exact List.lt_irrefl _ (List.lt_trans h h1)
      · subst h1; exact List.lt_irrefl _ h), if_pos h]
  · rw [if_neg h]
    by_cases h1 : a < b
    · rw [if_pos (.inl h1)]
    · rw [if_pos (.inr (List.le_antisymm (List.not_lt.1 h) (List.not_lt.1 h1)))]
theorem fold_turns (s : List UInt8) : ∀ n, 0 < n → ((turns s n).map S).foldl Lib.minS (S (turn s 0)) = S (turn s (lst s n))
  | 1, _ => by
    rw [lst_one]
    show Lib.minS (S (turn s 0)) (S (turn s 0)) = _
    rw [minS_S, if_neg (List.lt_irrefl _)]
  | n + 2, _ => by
    rw [turns_succ, List.map_append, List.foldl_append, fold_turns s (n + 1) (Nat.succ_pos _)]
    show Lib.minS (S (turn s (lst s (n + 1)))) (S (turn s (n + 1))) = _
    rw [minS_S]
    conv => rhs; rw [lst]
    split <;> rfl
theorem min_turns (s : List UInt8) {n : Nat} (h : 0 < n) : Lib.minOfS ((turns s n).map S) = S (turn s (lst s n)) := by
  have h0 : ((turns s n).map S).headD ByteArray.empty = S (turn s 0) := by
    obtain ⟨m, rfl⟩ : ∃ m, n = m + 1 := ⟨n - 1, by omega⟩
    simp [turns, List.range_succ_eq_map]
  rw [Lib.minOfS, h0]
  exact fold_turns s n h
theorem idx_turns (s : List UInt8) {n : Nat} (h : 0 < n) : Lib.idxOfS ((turns s n).map S) (S (turn s (lst s n))) = (lst s n : Nat) := by
  have hg : ∀ k, k < n → ((turns s n).map S).getD k ByteArray.empty = S (turn s k) := fun k hk => by
    rw [List.getD_eq_getElem?_getD, turns, List.map_map, List.getElem?_map, List.getElem?_range hk]; rfl
  have hl := lst_lt s n h
  have := Lib.idxFromS_hit (S (turn s (lst s n))) ((turns s n).map S) (lst s n) 0 (by rw [List.length_map, turns_len]; exact hl) (hg _ hl) (fun j hj he => by
    rw [hg j (by omega)] at he
    have h1 := lst_first s n j hj
    rw [S_inj he] at h1
    exact List.lt_irrefl _ h1)
  rw [Lib.idxOfS, this, Nat.zero_add]
set_option maxRecDepth 100000 in
set_option maxHeartbeats 4000000 in
theorem leastTurn_512 (s : ByteArray) (hs : s.size ≤ 512) (w : World) :
    Calls Try.prog 33 #[.string s] w fun e w' => e = .returned (.tuple #[.string (S (turn (L s) (lst (L s) s.size))), .int .i64 (lst (L s) s.size : Nat)]) ∧ Below w.heap.size w w' := by
  obtain ⟨i0, hi0, hz0, hz1, hz2⟩ := info_parts info_str
  rcases Nat.eq_zero_or_pos s.size with h0 | h0
  · have he : s = ⟨#[]⟩ := by
      apply L_inj
      have h9 : L s = [] := List.eq_nil_of_length_eq_zero (by rw [L_len]; exact h0)
      rw [h9]; rfl
    subst he
    go_enter Try.func33, Try.ntmps33
    go_wp2_with fail
    go_ret2
    exact ⟨rfl, Below.refl _ _⟩
  have hse : (s.toList.isEmpty) = false := by
    rw [ByteArray.toList_eq, List.isEmpty_eq_false_iff]
    intro h
    have := blen s
    rw [h] at this
    simp at this; omega
  have gse : (s.toList == []) = false := by
    rw [beq_eq_false_iff_ne]; intro h; rw [h] at hse; cases hse
  have HMIN := Lib.hid (min_turns (L s) h0)
  have HIDX := Lib.hid (idx_turns (L s) h0)
  go_enter Try.func33, Try.ntmps33
  go_wp2_with fail
  go_loopw [4, 11] (fun o i wr => ∃ k : Nat, k ≤ s.size ∧ i = .int .i64 (k : Int) ∧ wr.ownsRow w.heap.size 9 1 o (turns (L s) k).length (strCells (turns (L s) k)) ∧ Below w.heap.size w wr) (fun _ i _ => s.size - (intOf i).toNat)
  case atStart => exact ⟨0, Nat.zero_le _, rfl, World.ownsRow_nil _ _ _ _, Below.refl _ _⟩
  case round =>
    obtain ⟨k, hk, rfl, hown, hb⟩ := hrel
    have HOWN := Lib.hid hown
    clear hown
    have hql := turns_len (L s) k
    by_cases hlt : k < s.size
    · have g1 : decide ((k : Int) < (s.size : Int)) = true := decide_eq_true (by omega)
      have z1 := sz_extract s k s.size (Nat.le_refl _)
      have z2 := sz_extract s 0 k (by omega)
      have HT1 := Lib.hid (turn_S s k)
      have HQ := Lib.hid (turns_succ (L s) k)
      generalize turns (L s) k = q at *
      go_wp2_with fail
      obtain ⟨F1, hFd⟩ : ∃ F : World → Prop, F = fun w' => True := ⟨_, rfl⟩
      have HF1 := Lib.hid hFd
      clear hFd
      refine wp_region_schedF [(0, true), (1, true), (2, true), (3, true), (4, true), (5, true), (6, true), (7, true), (8, false), (9, false), (10, true)] F1 (by kernel_rfl) (by kernel_rfl) rfl (fun _ _ _ _ _ h => h) (by kernel_rfl) (by rw [HF1.out]; first | trivial | (repeat' apply And.intro) <;> assumption | (simp; done) | (simp [*]; done)) (by rw [HF1.out]; exact fun h => h) ?_
      intro hne1
      simp only [opersOf, List.getElem?_toArray, List.getElem?_cons_succ, List.getElem?_cons_zero]
      repeat (first | (refine wpSched_free rfl ?_; intro K hK; go_big_quiet_op; go_big_quiet_on) | (refine wpSched_wantS _ rfl rfl rfl ?_; intro K hK; go_big_quiet_op; go_big_quiet_on) | (refine wpSched_skipS _ rfl rfl rfl rfl ?_; simp only [Act.put, List.setIfInBounds_toArray, List.set_cons_zero, List.set_cons_succ]) | (refine wpSched_skipU _ rfl rfl rfl ?_; simp only [Act.put, List.setIfInBounds_toArray, List.set_cons_zero, List.set_cons_succ]))
      refine wpSched_other ?_
      go_wp2_with fail
      refine sched_back (by rw [HF1.out]; first | trivial | (repeat' apply And.intro) <;> assumption | (simp; done) | (go_simp; done) | (simp [*]; done)) ?_
      repeat (first | (refine wpSched_free rfl ?_; intro K hK; go_big_quiet_op; go_big_quiet_on) | (refine wpSched_wantS _ rfl rfl rfl ?_; intro K hK; go_big_quiet_op; go_big_quiet_on) | (refine wpSched_skipS _ rfl rfl rfl rfl ?_; simp only [Act.put, List.setIfInBounds_toArray, List.set_cons_zero, List.set_cons_succ]) | (refine wpSched_skipU _ rfl rfl rfl ?_; simp only [Act.put, List.setIfInBounds_toArray, List.set_cons_zero, List.set_cons_succ]))
      refine wpSched_other ?_
      have hown1 : ∀ o, ((wr.alloc o).drew).ownsRow w.heap.size 9 1 u4 q.length (strCells q) := fun o => own_below HOWN.out (by repeat (first | exact Below.refl _ _ | assumption | refine Below.alloc ?_ (by first | exact Nat.le_refl _ | assumption | omega | (simp <;> omega)) _ | refine Below.setCell ?_ (by first | exact Nat.le_refl _ | assumption | omega | (simp <;> omega)) _ | refine Below.drew ?_ | refine below_drewN ?_ _))
      have hnw : ∀ j u, [Value.string (s.extract k s.size ++ s.extract 0 k)][j]? = some u → ((wr.alloc (.cells #[.string (s.extract k s.size ++ s.extract 0 k)] 9)).drew).cell? (Addr.add ⟨wr.heap.size, 0, none⟩ j) = some u := fun j u hj => cells_new wr #[.string (s.extract k s.size ++ s.extract 0 k)] 9 j u hj
      have hbsz := hb.size
      have hbA : Below w.heap.size w (wr.alloc (.cells #[.string (s.extract k s.size ++ s.extract 0 k)] 9)).drew := (by repeat (first | exact Below.refl _ _ | assumption | refine Below.alloc ?_ (by first | exact Nat.le_refl _ | assumption | omega | (simp <;> omega)) _ | refine Below.setCell ?_ (by first | exact Nat.le_refl _ | assumption | omega | (simp <;> omega)) _ | refine Below.drew ?_ | refine below_drewN ?_ _))
      go_wp2_with (at_builtin; go_must (refine wpList_appG rfl _ _ _ rfl w.heap.size 9 i0 _ 1 16 Try.underlying44 hi0 hz0 hz1 hz2 rfl (by omega) _ q.length (strCells q) rfl (hown1 _) ⟨wr.heap.size, 0, none⟩ 1 1 [.string (s.extract k s.size ++ s.extract 0 k)] rfl rfl hnw (by simp [Value.oneCell']) (by omega) (by omega) (by have := hb.size; simp; omega) ?_); intro v6 w6 hown6 hg6 hb6)
      have hb6' := hbA.trans hb6
      refine sched_back (by rw [HF1.out]; trivial) ?_
      repeat (first | (refine wpSched_free rfl ?_; intro K hK; go_big_quiet_op; go_big_quiet_on) | (refine wpSched_wantS _ rfl rfl rfl ?_; intro K hK; go_big_quiet_op; go_big_quiet_on) | (refine wpSched_skipS _ rfl rfl rfl rfl ?_; simp only [Act.put, List.setIfInBounds_toArray, List.set_cons_zero, List.set_cons_succ]) | (refine wpSched_skipU _ rfl rfl rfl ?_; simp only [Act.put, List.setIfInBounds_toArray, List.set_cons_zero, List.set_cons_succ]))
      refine wpSched_nil ?_
      clear hg6 hb6 hbA HF1 hown1 hnw
      go_wp2_with fail
      go_roundw
      case rel =>
        refine ⟨k + 1, by omega, by go_num, ?_, hb6'⟩
        rw [HQ.out, List.length_append, List.length_singleton, ← strCells_snoc', ← HT1.out]
        exact hown6
      case measure => simp [intOf]; omega
    · obtain rfl : k = s.size := by omega
      have g1 : decide ((s.size : Int) < (s.size : Int)) = false := by simp
      obtain ⟨g, cap, hv, _, _⟩ := HOWN.out.form (by omega)
      subst hv
      have hc : ∀ (w' : World), w' = wr → ∀ j, j < ((turns (L s) s.size).map S).length → w'.cell? ⟨g, 0 + j, none⟩ = some (.string (((turns (L s) s.size).map S).getD j ByteArray.empty)) := fun w' hw j hj => by
        subst hw
        rw [List.length_map, hql] at hj
        have h1 := HOWN.out.cells (g := g) rfl j (.string (((turns (L s) s.size).map S).getD j ByteArray.empty)) (by
          rw [strCells, List.getElem?_map, List.getD_eq_getElem?_getD, List.getElem?_map, List.getElem?_eq_getElem (by omega)]; rfl)
        have hadd : (⟨g, 0, none⟩ : Addr).add j = ⟨g, 0 + j, none⟩ := by unfold Addr.add; split <;> simp_all
        rw [hadd] at h1
        exact h1
      have HC := Lib.hid (hc wr rfl)
      clear hc
      have htk : ((turns (L s) s.size).map S).take s.size = (turns (L s) s.size).map S := List.take_of_length_le (by rw [List.length_map, hql]; exact Nat.le_refl _)
      have HTK := Lib.hid htk
      have HZL : Hid (s.size ≤ ((turns (L s) s.size).map S).length) := by unfold Hid; rw [List.length_map, hql]; exact Nat.le_refl _
      have hql2 : (turns (L s) s.size).length = s.size := hql
      clear htk hql
      rw [hql2]
      generalize (turns (L s) s.size).map S = Z at *
      go_wp2_with fail
      refine (Try.slices_Min_string g 0 s.size cap Z _ h0 HZL.out (by omega) HC.out).mono ?_
      rintro e w5 ⟨rfl, rfl⟩
      rw [HTK.out, HMIN.out]
      go_wp2_with fail
      refine (Try.slices_Index_string g 0 s.size cap Z _ _ HZL.out (by omega) HC.out).mono ?_
      rintro e w6 ⟨rfl, rfl⟩
      rw [HTK.out, HIDX.out]
      go_wp2_with fail
      go_ret2
      exact ⟨rfl, hb⟩
theorem refLyndon_any (s : ByteArray) (hs : s.size ≤ 200) (w : World) :
    Calls Try.prog 32 #[.string s] w fun e w' => e = .returned (.bool (lynB (L s))) ∧ Below w.heap.size w w' := refLyndon_512 s (by omega) w
theorem leastTurn_any (s : ByteArray) (hs : s.size ≤ 200) (w : World) :
    Calls Try.prog 33 #[.string s] w fun e w' => e = .returned (.tuple #[.string (S (turn (L s) (lst (L s) s.size))), .int .i64 (lst (L s) s.size : Nat)]) ∧ Below w.heap.size w w' := leastTurn_512 s (by omega) w
end Go.Proofs.Ytolnhplgaolieaa
