/- TurnSays: the reference's turns, walked. slices.Sort and slices.Compact at strings of the call's own. TurnSays: the reference's way back, walked. -/
import Derived.Test.YtncakjchaniheaaPk11
import Derived.Test.YtncakjchaniheaaShelf
import Derived.Test.YtncakjchaniheaaPk08
import Derived.Sort.OwnSorted
import Derived.Lib.OwnBridge
namespace Go.Proofs.Ytncakjchaniheaa
open Go.RowKit
theorem info_tn : (Try.prog.info? 46).map (fun i => (i.zero, i.size, i.bytes)) = some (some (.agg #[.string ByteArray.empty, .int .i64 0]), 2, 24) := by kernel_rfl
theorem sortT_own (l : List Tn) (v : Value) (w0 w : World) (h : OwnO w w0.heap.size 46 2 v l.length (tnCells l)) (hb : Below w0.heap.size w0 w) (hl : l.length ≤ 1000000) :
    Calls Try.prog 17 #[v, .func (.func 18) #[] #[]] w fun e w' => e = .returned (.tuple #[]) ∧ OwnO w' w0.heap.size 46 2 v l.length (tnCells (ssort leT l)) ∧ Below w0.heap.size w0 w' := by
  rcases h.2 with ⟨rfl, h0⟩ | ⟨g, o, cap, cur, rfl, _⟩
  · obtain rfl : l = [] := List.eq_nil_of_length_eq_zero h0
    refine (sortStableT_none none 0 w).mono ?_
    rintro e w' ⟨rfl, rfl⟩
    exact ⟨rfl, h, hb⟩
  · refine (sortStableT_any l ⟨g, o, none⟩ cap l.length w0.heap.size w ⟨h, rfl⟩ hl (fun z _ => Nat.zero_le _)).mono ?_
    rintro e w' ⟨rfl, hr, hg⟩
    exact ⟨rfl, hr.own, hb.grown hg hb.size (fun q hq => by cases hq; exact (h.lt _ rfl).1)⟩
theorem tnCells_snoc (l : List Tn) (x : Tn) : tnCells l ++ [.string (S x.text), .int .i64 x.at_] = tnCells (l ++ [x]) := by unfold tnCells; rw [List.flatMap_append]; rfl
theorem rot_str (s : ByteArray) (i : Nat) : s.extract i s.size ++ s.extract 0 i = S (rotT (L s) i) := by
  have h : L (s.extract i s.size ++ s.extract 0 i) = rotT (L s) i := by
    rw [L_append, L_extract, L_extract]
    unfold rotT
    rw [List.drop_zero, Nat.sub_zero, List.take_of_length_le (by rw [List.length_drop, L_len]; exact Nat.le_refl _)]
  rw [← h, S_L]
set_option maxRecDepth 100000 in
set_option maxHeartbeats 16000000 in
theorem refTurns_any (s : ByteArray) (hs : s.size ≤ 200) (w : World) :
    Calls Try.prog 8 #[.string s] w fun e w' => e = .returned (.tuple #[.string (S (turnL (L s))), .int .i64 ((turnAt (L s) : Nat) : Int)]) ∧ Below w.heap.size w w' := by
  obtain ⟨i0, hi0, hz0, hz1, hz2⟩ := info_parts info_tn
  have HLL := Lib.hid (L_len s)
  have HRS := fun i => Lib.hid (rot_str s i)
  go_enter Try.func8, Try.ntmps8
  go_wp2_with fail
  go_loopw [4, 12] (fun bv iv wq => ∃ i : Nat, iv = .int .i64 (i : Int) ∧ i ≤ s.size ∧ OwnO wq w.heap.size 46 2 bv i (tnCells (baseT (L s) i)) ∧ Below w.heap.size w wq) (fun _ iv _ => s.size - (intOf iv).toNat)
  case atStart => exact ⟨0, rfl, Nat.zero_le _, OwnO.nil_, Below.refl _ _⟩
  case round =>
    obtain ⟨i, rfl, hi, hown, hb⟩ := hrel
    by_cases hlt : i < s.size
    · have g1 : decide ((i : Int) < (s.size : Int)) = true := decide_eq_true (by omega)
      have g1' : decide (i < s.size) = true := decide_eq_true hlt
      have HAP : Hid (tnCells (baseT (L s) i) ++ [.string (s.extract i s.size ++ s.extract 0 i), .int .i64 (i : Int)] = tnCells (baseT (L s) (i + 1))) := by
        rw [Hid, (HRS i).out, baseT_succ, ← tnCells_snoc]; rfl
      have hO := hown.below ((Below.refl _ _).alloc (Nat.le_refl _) (.cells #[.string (s.extract i s.size ++ s.extract 0 i), .int .i64 (i : Int)] 46))
      have hbA : Below w.heap.size w (wr.alloc (.cells #[.string (s.extract i s.size ++ s.extract 0 i), .int .i64 (i : Int)] 46)) := bthen hb ((Below.refl _ _).alloc (Nat.le_refl _) _)
      go_wp2_with fail
      obtain ⟨F1, hFd⟩ : ∃ F : World → Prop, F = fun w' => True := ⟨_, rfl⟩
      have HF1 := Lib.hid hFd
      clear hFd
      refine wp_region_schedF [(0, true), (1, true), (2, true), (3, true), (4, true), (5, true), (6, true), (7, true), (8, true), (9, true), (10, false), (11, false), (12, true)] F1 (by kernel_rfl) (by kernel_rfl) rfl (fun _ _ _ _ _ h => h) (by kernel_rfl) (by rw [HF1.out]; first | ((repeat' apply And.intro) <;> assumption) | trivial | (simp; done) | (simp [*]; done)) (by rw [HF1.out]; exact fun h => h) ?_
      intro hne1
      simp only [opersOf, List.getElem?_toArray, List.getElem?_cons_succ, List.getElem?_cons_zero]
      repeat (first | (refine wpSched_free rfl ?_; intro K hK; go_big_quiet_op; go_big_quiet_on) | (refine wpSched_wantS _ rfl rfl rfl ?_; intro K hK; go_big_quiet_op; go_big_quiet_on) | (refine wpSched_skipS _ rfl rfl rfl rfl ?_; simp only [Act.put, List.setIfInBounds_toArray, List.set_cons_zero, List.set_cons_succ]) | (refine wpSched_skipU _ rfl rfl rfl ?_; simp only [Act.put, List.setIfInBounds_toArray, List.set_cons_zero, List.set_cons_succ]))
      refine wpSched_other ?_
      go_wp2_with fail
      refine sched_back (by rw [HF1.out]; first | ((repeat' apply And.intro) <;> assumption) | trivial | (simp; done) | (go_simp; done) | (simp [*]; done)) ?_
      repeat (first | (refine wpSched_free rfl ?_; intro K hK; go_big_quiet_op; go_big_quiet_on) | (refine wpSched_wantS _ rfl rfl rfl ?_; intro K hK; go_big_quiet_op; go_big_quiet_on) | (refine wpSched_skipS _ rfl rfl rfl rfl ?_; simp only [Act.put, List.setIfInBounds_toArray, List.set_cons_zero, List.set_cons_succ]) | (refine wpSched_skipU _ rfl rfl rfl ?_; simp only [Act.put, List.setIfInBounds_toArray, List.set_cons_zero, List.set_cons_succ]))
      refine wpSched_other ?_
      go_wp2_with (at_builtin; go_must (refine wpList_appO rfl _ _ _ rfl w.heap.size 46 i0 _ 2 24 Try.underlying44 hi0 hz0 hz1 hz2 rfl (by omega) _ i (tnCells (baseT (L s) i)) rfl hO ⟨_, 0, none⟩ 1 1 [.string (s.extract i s.size ++ s.extract 0 i), .int .i64 (i : Int)] rfl rfl (cells_new2 _ _ _ _) (by simp [Value.oneCell']) (by omega) (by omega) hbA.size ?_); intro v9 w9 hown9 hg9 hb9 ha9)
      refine sched_back (by rw [HF1.out]; first | ((repeat' apply And.intro) <;> assumption) | trivial | (simp; done) | (go_simp; done) | (simp [*]; done)) ?_
      repeat (first | (refine wpSched_free rfl ?_; intro K hK; go_big_quiet_op; go_big_quiet_on) | (refine wpSched_wantS _ rfl rfl rfl ?_; intro K hK; go_big_quiet_op; go_big_quiet_on) | (refine wpSched_skipS _ rfl rfl rfl rfl ?_; simp only [Act.put, List.setIfInBounds_toArray, List.set_cons_zero, List.set_cons_succ]) | (refine wpSched_skipU _ rfl rfl rfl ?_; simp only [Act.put, List.setIfInBounds_toArray, List.set_cons_zero, List.set_cons_succ]))
      refine wpSched_nil ?_
      rw [HAP.out] at hown9
      have hB9 := hbA.drew.trans hb9
      go_wp2_with fail
      go_roundw
      case rel => exact ⟨i + 1, by go_num, by omega, hown9, hB9⟩
      case measure => simp [intOf]; omega
    · obtain rfl : i = s.size := by omega
      have g1 : decide ((s.size : Int) < (s.size : Int)) = false := decide_eq_false (by omega)
      have hlb := baseT_len (L s) s.size
      have hST := sortT_own (baseT (L s) s.size) _ w wr (by rw [hlb]; exact hown) hb (by rw [hlb]; omega)
      have hss := ssort_turn (L s)
      rw [HLL.out] at hss
      rw [hss, hlb] at hST
      have HST := Lib.hid hST
      obtain ⟨Ab, cb, rfl, _, _, _⟩ := hown.form
      clear hlb hss hST hown hb HRS
      go_wp2_with fail
      refine HST.out.mono ?_
      rintro e w5 ⟨rfl, hown5, hb5⟩
      obtain ⟨A', c', hv, _, _, hr5⟩ := hown5.form
      cases hv
      have HR5 := Lib.hid hr5
      have HB5 := Lib.hid hb5
      clear HST hown5 hr5 hb5
      go_wp2_with fail
      go_loopw [6, 7, 32] (fun sv av iv wq => ∃ k : Nat, iv = .int .i64 (k : Int) ∧ k ≤ s.size ∧ sv = .string (S ((turnL (L s)).take k)) ∧ av = .int .i64 ((atF (L s) k : Nat) : Int) ∧ Below w5.heap.size w5 wq) (fun _ _ iv _ => s.size - (intOf iv).toNat)
      case atStart => exact ⟨0, rfl, Nat.zero_le _, rfl, rfl, Below.refl _ _⟩
      case round =>
        obtain ⟨k, rfl, hk, rfl, rfl, hbq⟩ := hrel
        have hqs := hbq.size
        by_cases hlt2 : k < s.size
        · have g3 : decide ((k : Int) < (s.size : Int)) = true := decide_eq_true (by omega)
          have g3' : decide (k < s.size) = true := decide_eq_true hlt2
          obtain ⟨i, hi'⟩ : ∃ i, i = (turnO (L s)).getD k 0 := ⟨_, rfl⟩
          have hin : i < s.size := by have := turnO_lt (s := L s) (k := k) (by rw [HLL.out]; exact hlt2); rw [HLL.out, ← hi'] at this; exact this
          have hrq := (HR5.out.more (Nat.le_refl _)).below hbq
          obtain ⟨ad, hl, e, -, hc⟩ := Rd.at_rec (ec := Tn.cells) cellT_len (by omega) hrq hlt2
          cases e
          have hx : ((turnO (L s)).map (tnOf (L s)))[k]'(by rw [List.length_map, turnO_len, HLL.out]; exact hlt2) = tnOf (L s) i := by
            rw [List.getElem_map, hi', List.getD_eq_getElem?_getD, List.getElem?_eq_getElem (by rw [turnO_len, HLL.out]; exact hlt2)]; rfl
          rw [hx] at hc
          have c0 : wr.cell? (ad.add (k * 2)) = some (.string (S (rotT (L s) i))) := hc 0 _ rfl
          have c1 : wr.cell? (ad.add (k * 2 + 1)) = some (.int .i64 (i : Int)) := hc 1 _ rfl
          rw [add_one] at c1
          have HSN : Hid (S ((turnL (L s)).take k) ++ (S (rotT (L s) i)).extract (s.size - 1) s.size = S ((turnL (L s)).take (k + 1))) := by
            have h9 := rot_last (s := L s) (i := i) (by rw [HLL.out]; exact hin)
            have e9 : (S (rotT (L s) i)).extract (s.size - 1) s.size = S [lastT (L s) i] := by
              have h8 : L ((S (rotT (L s) i)).extract (s.size - 1) s.size) = [lastT (L s) i] := by
                rw [L_extract, L_S, ← HLL.out, h9]
                rw [List.take_of_length_le (by rw [HLL.out]; simp; omega)]
              rw [← h8, S_L]
            rw [Hid, e9, turnL_snoc (by rw [HLL.out]; exact hlt2), ← hi', append_S, L_S, L_S]
          have HTZ : Hid ((S (rotT (L s) i)).size = s.size) := by rw [Hid, S_size, rotT_len (by rw [HLL.out]; omega), HLL.out]
          have hA1 := fun h => atF_hit (s := L s) (k := k) (by rw [HLL.out]; exact hlt2) h
          have hA2 := fun h => atF_miss (s := L s) (k := k) (by rw [HLL.out]; exact hlt2) h
          rw [← hi'] at hA1 hA2
          have HA1 := Lib.hid hA1; have HA2 := Lib.hid hA2
          have hBq := Lib.hid hbq
          generalize S (rotT (L s) i) = T at *
          have hTz := HTZ.out
          have hSZ : (S ((turnL (L s)).take k)).size ≤ 200 := by rw [S_size, List.length_take, turnL_len, HLL.out]; omega
          have hBA := fun t => bthen hBq.out ((Below.refl wr.heap.size wr).alloc (Nat.le_refl _) t)
          clear hx hc hi' hrq hl hA1 hA2 hbq
          by_cases h0 : i = 0
          · have hat := HA1.out h0
            subst h0
            go_wp2_with fail
            go_roundw
            case rel => exact ⟨k + 1, by go_num, by omega, by rw [HSN.out], by rw [hat], hBA _⟩
            case measure => simp [intOf]; omega
          · have hat := HA2.out h0
            have g4 : ((i : Int) == 0) = false := by rw [beq_eq_false_iff_ne]; omega
            have g4' : (i == 0) = false := by rw [beq_eq_false_iff_ne]; exact h0
            go_wp2_with fail
            go_roundw
            case rel => exact ⟨k + 1, by go_num, by omega, by rw [HSN.out], by rw [hat], hBA _⟩
            case measure => simp [intOf]; omega
        · obtain rfl : k = s.size := by omega
          have g3 : decide ((s.size : Int) < (s.size : Int)) = false := decide_eq_false (by omega)
          have HE : Hid (S ((turnL (L s)).take s.size) = S (turnL (L s)) ∧ atF (L s) s.size = turnAt (L s)) := by
            refine ⟨by rw [List.take_of_length_le (by rw [turnL_len, HLL.out]; exact Nat.le_refl _)], ?_⟩
            have := atF_end (L s)
            rwa [HLL.out] at this
          have hB := bthen HB5.out hbq
          go_wp2_with fail
          (apply bodyPost_ret; (simp [results, Try.results8, go_sem]; rfl); rfl)
          rw [HE.out.1, HE.out.2]
          exact ⟨rfl, hB⟩
end Go.Proofs.Ytncakjchaniheaa
namespace Go.Proofs.Ytncakjchaniheaa
open Go.RowKit Go.Proofs
def sortB (l : List (List UInt8)) : List (List UInt8) := l.mergeSort fun x y => decide (x ≤ y)
theorem sortB_len (l : List (List UInt8)) : (sortB l).length = l.length := List.length_mergeSort l
theorem strCells_enc (l : List (List UInt8)) : strCells l = l.map encStr := rfl
theorem comp_le (l : List (List UInt8)) : (Lib.compact l).length ≤ l.length := by
  have h : ∀ (d : Array (List UInt8)) m, (Lib.compactUpTo d m).length ≤ m := by
    intro d m
    induction m with
    | zero => simp [Lib.compactUpTo]
    | succ m ih => rw [Lib.compactUpTo_succ, List.length_append]; split <;> simp <;> omega
  have := h l.toArray l.length
  simpa [Lib.compact] using this
theorem sortStr_own (l : List (List UInt8)) (v : Value) (w0 w : World) (h : w.ownsRow w0.heap.size 9 1 v l.length (strCells l)) (hb : Below w0.heap.size w0 w) (hl : l.length < 4611686018427387904) :
    Calls Try.prog 19 #[v] w fun e w' => e = .returned (.tuple #[]) ∧ w'.ownsRow w0.heap.size 9 1 v l.length (strCells (sortB l)) ∧ Below w0.heap.size w0 w' := by
  rcases h.2 with ⟨rfl, h0⟩ | ⟨g, cap, cur, rfl, hbase, hg, h1, h2, h3, h4⟩
  · obtain rfl : l = [] := List.eq_nil_of_length_eq_zero h0
    refine (Try.slices_Sort_string_none none 0 w).mono ?_
    rintro e w' ⟨rfl, rfl⟩
    have e0 : sortB [] = [] := by simp [sortB]
    rw [e0]
    exact ⟨rfl, h, hb⟩
  · refine (Try.slices_Sort_string g 0 cap l w (holds_of_block hg (by simpa [strCells_enc] using h4)) (Array.getElem?_eq_some_iff.1 hg).1 hl).mono ?_
    rintro e w' ⟨rfl, n, os, rfl⟩
    refine ⟨rfl, ?_, hb.grown (grownBy_sorted _) hb.size (fun k hk => by cases hk; exact hbase)⟩
    exact ownsRow_sorted (sortB_len l) hbase hg h1 h2 h3
end Go.Proofs.Ytncakjchaniheaa
namespace Go.Proofs.Ytncakjchaniheaa
open Go.RowKit
theorem sortR_B (l : List (List UInt8)) : sortR l = sortB l := by
  unfold sortR sortB
  congr 1
theorem rowsB_each (t : List UInt8) : ∀ j, ∀ r ∈ rowsB t j, r.length = j
  | 0, r, h => by rw [List.eq_of_mem_replicate h]; rfl
  | j + 1, r, h => by
    rw [rowsB, sortR] at h
    have h1 := (List.mergeSort_perm _ _).mem_iff.1 h
    obtain ⟨i, hi, e⟩ := List.getElem_of_mem h1
    rw [List.length_zipWith] at hi
    rw [List.getElem_zipWith] at e
    rw [← e, List.length_cons, rowsB_each t j _ (List.getElem_mem _)]
/-- The rows, of which the first k have their new byte. -/
def midB (t : List UInt8) (R : List (List UInt8)) (k : Nat) : List (List UInt8) := (List.zipWith (fun c r => c :: r) t R).take k ++ R.drop k
theorem midB_zero (t : List UInt8) (R : List (List UInt8)) : midB t R 0 = R := by unfold midB; simp
theorem midB_end {t : List UInt8} {R : List (List UInt8)} (h : R.length = t.length) : midB t R t.length = List.zipWith (fun c r => c :: r) t R := by
  unfold midB
  rw [List.take_of_length_le (by rw [List.length_zipWith]; omega), List.drop_of_length_le (by omega), List.append_nil]
theorem midB_len {t : List UInt8} {R : List (List UInt8)} (h : R.length = t.length) (k : Nat) : (midB t R k).length = t.length := by
  unfold midB
  rw [List.length_append, List.length_take, List.length_zipWith, List.length_drop]; omega
theorem midB_at {t : List UInt8} {R : List (List UInt8)} (h : R.length = t.length) {k : Nat} (hk : k < t.length) : (midB t R k).getD k [] = R.getD k [] := by
  unfold midB
  rw [List.getD_eq_getElem?_getD, List.getElem?_append_right (by rw [List.length_take, List.length_zipWith]; omega), List.length_take, List.length_zipWith, List.getElem?_drop, show k + (k - min k (min t.length R.length)) = k by omega, ← List.getD_eq_getElem?_getD]
theorem midB_set {t : List UInt8} {R : List (List UInt8)} (h : R.length = t.length) {k : Nat} (hk : k < t.length) : (midB t R k).set k (t.getD k 0 :: R.getD k []) = midB t R (k + 1) := by
  have hz : k < (List.zipWith (fun c r => c :: r) t R).length := by rw [List.length_zipWith]; omega
  have ht : ((List.zipWith (fun c r => c :: r) t R).take k).length = k := by rw [List.length_take]; omega
  have e : (List.zipWith (fun c r => c :: r) t R)[k] = t.getD k 0 :: R.getD k [] := by
    rw [List.getElem_zipWith, List.getD_eq_getElem?_getD, List.getD_eq_getElem?_getD, List.getElem?_eq_getElem hk, List.getElem?_eq_getElem (by omega)]; rfl
  unfold midB
  rw [List.set_append_right _ _ (by omega), ht, Nat.sub_self, List.drop_eq_getElem_cons (by omega), List.set_cons_zero, List.take_succ_eq_append_getElem hz, e, List.append_assoc]; rfl
theorem one_str (t : ByteArray) {k : Nat} (hk : k < t.size) (r : List UInt8) : t.extract k (k + 1) ++ S r = S ((L t).getD k 0 :: r) := by
  have h : L (t.extract k (k + 1)) = [(L t).getD k 0] := by
    rw [L_extract, show k + 1 - k = 1 by omega, List.drop_eq_getElem_cons (by rw [L_len]; exact hk), List.getD_eq_getElem?_getD, List.getElem?_eq_getElem (by rw [L_len]; exact hk)]; rfl
  rw [append_S, h, L_S]; rfl
set_option maxRecDepth 100000 in
set_option maxHeartbeats 16000000 in
theorem back_any (t : ByteArray) (at_ : Nat) (hs : t.size ≤ 200) (ha : at_ < t.size) (w : World) :
    Calls Try.prog 9 #[.string t, .int .i64 (at_ : Int)] w fun e w' => e = .returned (.tuple #[.string (S (backB (L t) at_)), .bool (decide (turnL (backB (L t) at_) = L t ∧ turnAt (backB (L t) at_) = at_))]) ∧ Below w.heap.size w w' := by
  obtain ⟨i0, hi0, hz0, hz1, hz2⟩ := info_parts info_str
  have HLL := Lib.hid (L_len t)
  have hne : (t.toList == []) = false := by
    have h := beqB t ByteArray.empty
    have e : ByteArray.empty.toList = [] := by rw [ByteArray.toList_eq]; rfl
    rw [e] at h
    rw [h, decide_eq_false_iff_not]
    intro h2; rw [h2] at ha
    exact absurd ha (Nat.not_lt_zero _)
  go_enter Try.func9, Try.ntmps9
  go_wp2_with (at_make; go_must (refine wpList_make_full _ rfl _ _ _ rfl w.heap.size 9 i0 _ 1 Try.underlying43 hi0 hz0 hz1 .i64 .i64 (t.size : Int) (t.size : Int) t.size rfl rfl rfl rfl (by rw [hz2]; omega) (by unfold maxLen; omega) (Nat.le_refl _) ?_); intro w2 hown2 hg2)
  have hb2 : Below w.heap.size w w2 := (Below.refl _ _).grown hg2 (Nat.le_refl _) (fun _ h => by cases h)
  have hown2 : w2.ownsRow w.heap.size 9 1 (.slice (some ⟨w.heap.size, 0, none⟩) t.size t.size) t.size (strCells (rowsB (L t) 0)) := by
    have e : strCells (rowsB (L t) 0) = List.replicate t.size (.string ByteArray.empty) := by rw [rowsB, strCells, List.map_replicate, HLL.out]; rfl
    rw [made_one _ rfl] at hown2
    rw [e]; exact hown2
  clear hg2
  have HOWN2 := Lib.hid hown2
  clear hown2
  obtain ⟨g, hg⟩ : ∃ g, g = w.heap.size := ⟨_, rfl⟩
  rw [← hg] at HOWN2 ⊢
  go_wp2_with fail
  go_loopw [17] (fun iv wr => ∃ j : Nat, j ≤ t.size ∧ iv = .int .i64 (j : Int) ∧ wr.ownsRow w.heap.size 9 1 (.slice (some ⟨g, 0, none⟩) t.size t.size) t.size (strCells (rowsB (L t) j)) ∧ Below w.heap.size w wr) (fun iv _ => t.size - (intOf iv).toNat)
  case atStart => exact ⟨0, Nat.zero_le _, rfl, by rw [← hg]; exact HOWN2.out, hb2⟩
  have HG := Lib.hid hg
  clear hg HOWN2 hb2
  case round =>
    obtain ⟨j, hj, rfl, hown, hb⟩ := hrel
    obtain ⟨R, hR⟩ : ∃ R, R = rowsB (L t) j := ⟨_, rfl⟩
    have hRl : R.length = (L t).length := by rw [hR]; exact rowsB_len _ _
    have hRe : ∀ r ∈ R, r.length = j := by rw [hR]; exact rowsB_each _ _
    rw [← hR] at hown
    have HRL := Lib.hid hRl; have HRE := Lib.hid hRe; have HR := Lib.hid hR
    clear hRl hRe hR
    by_cases hlt : j < t.size
    · have g1 : decide ((j : Int) < (t.size : Int)) = true := decide_eq_true (by omega)
      have g1' : decide (j < t.size) = true := decide_eq_true hlt
      go_wp2_with fail
      go_loopw [21] (fun iv wq => ∃ k : Nat, k ≤ t.size ∧ iv = .int .i64 (k : Int) ∧ wq.ownsRow w.heap.size 9 1 (.slice (some ⟨g, 0, none⟩) t.size t.size) t.size (strCells (midB (L t) R k)) ∧ Below w.heap.size w wq) (fun iv _ => t.size - (intOf iv).toNat)
      case atStart => exact ⟨0, Nat.zero_le _, rfl, by rw [midB_zero]; exact hown, hb⟩
      case round =>
        clear hown hb
        obtain ⟨k, hk, rfl, hown, hb⟩ := hrel
        have hbs := hb.size
        by_cases hlt2 : k < t.size
        · have g2 : decide ((k : Int) < (t.size : Int)) = true := decide_eq_true (by omega)
          have g2' : decide (k < t.size) = true := decide_eq_true hlt2
          have hkl : k < (L t).length := by rw [HLL.out]; exact hlt2
          have k0 := hown.cellAt k (by omega)
          rw [strCells_at _ _ (by rw [midB_len HRL.out]; exact hkl), midB_at HRL.out hkl] at k0
          have k1 := hown.frozenAt k
          obtain ⟨r, hr⟩ : ∃ r, r = R.getD k [] := ⟨_, rfl⟩
          have hrl : (S r).size ≤ 200 := by
            rw [S_size, HRE.out r (by rw [hr, List.getD_eq_getElem?_getD, List.getElem?_eq_getElem (by rw [HRL.out]; exact hkl)]; exact List.getElem_mem _)]; omega
          have hst := (hown.stored k (.string (t.extract k (k + 1) ++ S r))).1
          rw [one_str t hlt2 r, ← strCells_set, hr, midB_set HRL.out hkl, ← hr, ← one_str t hlt2 r] at hst
          rw [← hr] at k0
          have HST := Lib.hid hst
          have hgb : w.heap.size ≤ g := (hown.lt g rfl).1
          have hb4 : Below w.heap.size w (wr.setCell ⟨g, k, none⟩ (.string (t.extract k (k + 1) ++ S r))) := Below.setCell hb hgb _
          have hez : (t.extract k (k + 1)).size = 1 := by rw [ByteArray.size_extract]; omega
          clear hst hown hr hkl
          go_wp2_with fail
          obtain ⟨F1, hFd⟩ : ∃ F : World → Prop, F = fun w' => w'.cell? ⟨g, k, none⟩ = some (.string (S r)) := ⟨_, rfl⟩
          have HF1 := Lib.hid hFd
          clear hFd
          have hcell10 : ∀ p' : Wof F1, p'.w.cell? ⟨g, k, none⟩ = some (.string (S r)) := fun ⟨x, hx⟩ => by rw [HF1.out] at hx; exact hx
          refine wp_region_schedZ [(0, true), (1, true), (2, true), (3, true), (4, true), (5, true), (6, true), (7, true), (8, true), (9, true), (10, true), (11, true), (12, true)] 13 _ F1 (by kernel_rfl) (by kernel_rfl) rfl (by kernel_rfl) rfl (fun _ _ _ _ _ h => h) (by kernel_rfl) (by rw [HF1.out]; first | ((repeat' apply And.intro) <;> assumption) | trivial | (simp; done) | (simp [*]; done)) (by rw [HF1.out]; exact fun h => h) ?_
          intro hne1
          simp only [opersOf, List.getElem?_toArray, List.getElem?_cons_succ, List.getElem?_cons_zero]
          repeat (first | (refine wpSched_free rfl ?_; intro K hK; go_big_quiet_op; go_big_quiet_on) | (refine wpSched_wantS _ rfl rfl rfl ?_; intro K hK; go_big_quiet_op; go_big_quiet_on) | (refine wpSched_skipS _ rfl rfl rfl rfl ?_; simp only [Act.put, List.setIfInBounds_toArray, List.set_cons_zero, List.set_cons_succ]) | (refine wpSched_skipU _ rfl rfl rfl ?_; simp only [Act.put, List.setIfInBounds_toArray, List.set_cons_zero, List.set_cons_succ]))
          refine wpSched_nil ?_
          refine qz_nil ?_
          clear HF1 hcell10 hne1
          go_wp2_with fail
          go_roundw
          case rel => exact ⟨k + 1, by omega, by go_num, own_drewN HST.out 1, hb4.drew⟩
          case measure => simp [intOf]; omega
        · obtain rfl : k = t.size := by omega
          have g2 : decide ((t.size : Int) < (t.size : Int)) = false := decide_eq_false (by omega)
          have hen := midB_end (t := L t) (R := R) HRL.out
          rw [HLL.out] at hen
          rw [hen] at hown
          have hzl : (List.zipWith (fun c r => c :: r) (L t) R).length = t.size := by rw [List.length_zipWith, HRL.out, Nat.min_self, HLL.out]
          have hSO := sortStr_own (List.zipWith (fun c r => c :: r) (L t) R) (.slice (some ⟨g, 0, none⟩) t.size t.size) w wr (by rw [hzl]; exact hown) hb (by rw [hzl]; omega)
          have hnx : sortB (List.zipWith (fun c r => c :: r) (L t) R) = rowsB (L t) (j + 1) := by rw [rowsB, sortR_B, HR.out]
          rw [hnx, hzl] at hSO
          have HSO := Lib.hid hSO
          clear hen hown hzl hSO hnx hb
          go_wp2_with fail
          refine HSO.out.mono ?_
          rintro e w5 ⟨rfl, hown5, hb5⟩
          go_wp2_with fail
          go_roundw
          case rel => exact ⟨j + 1, by omega, by go_num, hown5, hb5⟩
          case measure => simp [intOf]; omega
    · obtain rfl : j = t.size := by omega
      have g1 : decide ((t.size : Int) < (t.size : Int)) = false := decide_eq_false (by omega)
      obtain ⟨r, hr⟩ : ∃ r, r = backB (L t) at_ := ⟨_, rfl⟩
      have hal : at_ < R.length := by rw [HRL.out, HLL.out]; exact ha
      have hrR : r = R.getD at_ [] := by rw [hr, HR.out, ← HLL.out]; rfl
      have k0 := hown.cellAt at_ (by omega)
      rw [strCells_at _ _ hal, ← hrR] at k0
      have hrl : (S r).size ≤ 200 := by
        rw [S_size, HRE.out r (by rw [hrR, List.getD_eq_getElem?_getD, List.getElem?_eq_getElem hal]; exact List.getElem_mem _)]; exact hs
      have HRT := fun W => Lib.hid (refTurns_any (S r) hrl W)
      rw [L_S] at HRT
      have HRB := Lib.hid hr
      have HB := Lib.hid hb
      have HOW := Lib.hid hown
      clear hr hrR hb hown hal
      go_wp2_with fail
      refine (HRT _).out.mono ?_
      rintro e w5 ⟨rfl, hb5⟩
      have k5 : w5.cell? ⟨g, at_, none⟩ = some (.string (S r)) := by
        have h9 := (own_below HOW.out hb5).cellAt at_ (by omega)
        have h8 := HOW.out.cellAt at_ (by omega)
        rw [h9, ← h8]; exact k0
      have hB5 := bthen HB.out hb5
      have hbq := beqB (S (turnL r)) t
      by_cases hu : turnL r = L t
      · have y1 : ((S (turnL r)).toList == t.toList) = true := by rw [hbq, hu, decide_eq_true_iff]; exact S_L t
        clear hbq HRT HOW hb5
        by_cases hk : turnAt r = at_
        · have y2 : decide (turnL r = L t ∧ turnAt r = at_) = true := decide_eq_true ⟨hu, hk⟩
          have y3 : (((turnAt r : Nat) : Int) == (at_ : Int)) = true := by rw [beq_iff_eq]; omega
          have Y2 := Lib.hid y2
          clear y2
          go_wp2_with fail
          (apply bodyPost_ret; (simp [results, Try.results9, go_sem]; rfl); rfl)
          rw [← HRB.out, Y2.out]
          exact ⟨rfl, hB5⟩
        · have y2 : decide (turnL r = L t ∧ turnAt r = at_) = false := decide_eq_false (fun h => hk h.2)
          have y3 : (((turnAt r : Nat) : Int) == (at_ : Int)) = false := by rw [beq_eq_false_iff_ne]; omega
          have Y2 := Lib.hid y2
          clear y2
          go_wp2_with fail
          (apply bodyPost_ret; (simp [results, Try.results9, go_sem]; rfl); rfl)
          rw [← HRB.out, Y2.out]
          exact ⟨rfl, hB5⟩
      · have y1 : ((S (turnL r)).toList == t.toList) = false := by rw [hbq, decide_eq_false_iff_not]; intro h; exact hu (by rw [← h]; rfl)
        have y2 : decide (turnL r = L t ∧ turnAt r = at_) = false := decide_eq_false (fun h => hu h.1)
        have Y2 := Lib.hid y2
        clear hbq HRT HOW hb5 y2
        go_wp2_with fail
        (apply bodyPost_ret; (simp [results, Try.results9, go_sem]; rfl); rfl)
        rw [← HRB.out, Y2.out]
        exact ⟨rfl, hB5⟩
end Go.Proofs.Ytncakjchaniheaa
