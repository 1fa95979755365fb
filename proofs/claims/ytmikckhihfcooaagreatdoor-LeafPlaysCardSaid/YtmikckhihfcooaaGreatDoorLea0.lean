/- A leaf's log as a list of records: what a scan of a part of the disk finds, what the records tell, and that what was written is read again. No program in sight. -/
import Derived.Test.YtmikckhihfcooaaGreatDoorLog0
import Derived.Test.YtmikckhihfcooaaGreatDoorScr1
import Derived.Test.YtmikckhihfcooaaGreatDoorScrF
import Derived.Test.YtmikckhihfcooaaGreatDoorEdit0
namespace Go.Proofs.YtmikckhihfcooaaGreatDoor
/-- The bytes of these records, frame behind frame. -/
def diskL (rs : List (List UInt8)) : List UInt8 := rs.flatMap frameL
theorem diskL_cons (r : List UInt8) (rs : List (List UInt8)) : diskL (r :: rs) = frameL r ++ diskL rs := rfl
theorem diskL_snoc (r : List UInt8) (rs : List (List UInt8)) : diskL (rs ++ [r]) = diskL rs ++ frameL r := by unfold diskL; rw [List.flatMap_append]; simp
theorem frame_head (r x : List UInt8) (hr : r.length ≤ 1100) : headNum (frameL r ++ x) = r.length := by
  unfold headNum frameL
  simp only [List.cons_append, List.getD_cons_zero, List.getD_cons_succ]
  rw [UInt8.toNat_ofNat', UInt8.toNat_ofNat']
  omega
theorem head_take {l : List UInt8} {n : Nat} (hn : 2 ≤ n) : headNum (l.take n) = headNum l := by
  unfold headNum
  rw [List.getD_eq_getElem?_getD, List.getD_eq_getElem?_getD, List.getD_eq_getElem?_getD, List.getD_eq_getElem?_getD, List.getElem?_take_of_lt (by omega), List.getElem?_take_of_lt (by omega)]
theorem frame_ok (r x : List UInt8) (hr : r.length ≤ 1100) : frameOk (frameL r ++ x) := by
  have hh := frame_head r x hr
  have hl := frameL_length r
  refine ⟨by rw [List.length_append]; omega, by omega, by rw [List.length_append]; omega, ?_⟩
  rw [hh]
  have e1 : frameL r = (UInt8.ofNat (r.length / 256) :: UInt8.ofNat r.length :: r) ++ sumEnd (UInt8.ofNat (r.length / 256) :: UInt8.ofNat r.length :: r) := rfl
  rw [e1, List.append_assoc]
  generalize hA : (UInt8.ofNat (r.length / 256) :: UInt8.ofNat r.length :: r) = A
  have hAl : A.length = r.length + 2 := by rw [← hA]; simp
  have h4 : (sumEnd A).length = 4 := by unfold sumEnd fourL; simp
  rw [← hAl, List.take_left, List.drop_left, ← h4, List.take_left]
theorem frame_rec (r x : List UInt8) (hr : r.length ≤ 1100) : recOf (frameL r ++ x) = r := by
  unfold recOf
  rw [frame_head r x hr]
  unfold frameL
  simp
theorem frame_rest (r x : List UInt8) (hr : r.length ≤ 1100) : (frameL r ++ x).drop (headNum (frameL r ++ x) + 6) = x := by
  rw [frame_head r x hr, ← frameL_length r, List.drop_left]
theorem scan_take : ∀ (rs : List (List UInt8)), (∀ r ∈ rs, r.length ≤ 1100) → ∀ n : Nat, ∃ j, j ≤ rs.length ∧ scanL ((diskL rs).take n) = (rs.take j, (diskL (rs.take j)).length) ∧ (diskL (rs.take j)).length ≤ n ∧ (diskL rs).take (diskL (rs.take j)).length = diskL (rs.take j)
  | [], _, n => ⟨0, Nat.le_refl _, by
      have : ((diskL []).take n) = [] := by simp [diskL]
      rw [this]
      exact scanL_no (fun h => by have := h.1; simp at this), Nat.zero_le _, rfl⟩
  | r :: rs, h, n => by
      have hr := h r List.mem_cons_self
      have hl := frameL_length r
      rw [diskL_cons]
      by_cases hn : n < r.length + 6
      · refine ⟨0, Nat.zero_le _, ?_, Nat.zero_le _, rfl⟩
        refine scanL_no (fun hk => ?_)
        obtain ⟨h6, _, h3, _⟩ := hk
        rw [List.length_take] at h6 h3
        rw [head_take (by omega), frame_head r _ hr] at h3
        omega
      · have e : ((frameL r ++ diskL rs).take n) = frameL r ++ (diskL rs).take (n - (r.length + 6)) := by
          rw [List.take_append, List.take_of_length_le (by omega), hl]
        obtain ⟨j, hj, hs, hjn, ht⟩ := scan_take rs (fun q hq => h q (List.mem_cons_of_mem _ hq)) (n - (r.length + 6))
        refine ⟨j + 1, by simp only [List.length_cons]; omega, ?_, ?_, ?_⟩
        · rw [e, scanL_ok (frame_ok r _ hr), frame_rec r _ hr, frame_rest r _ hr, frame_head r _ hr, hs, List.take_succ_cons, diskL_cons, List.length_append, hl]
          congr 1
          simp only
          omega
        · rw [List.take_succ_cons, diskL_cons, List.length_append, hl]; omega
        · rw [List.take_succ_cons, diskL_cons, List.length_append, List.take_append, List.take_of_length_le (by omega)]
          congr 1
          rw [Nat.add_sub_cancel_left]
          exact ht
theorem scan_all (rs : List (List UInt8)) (h : ∀ r ∈ rs, r.length ≤ 1100) : scanL (diskL rs) = (rs, (diskL rs).length) := by
  induction rs with
  | nil => exact scanL_no (fun h => by have := h.1; simp [diskL] at this)
  | cons r rs ih =>
    have hr := h r List.mem_cons_self
    rw [diskL_cons, scanL_ok (frame_ok r _ hr), frame_rec r _ hr, frame_rest r _ hr, frame_head r _ hr, ih (fun q hq => h q (List.mem_cons_of_mem _ hq)), List.length_append, frameL_length]
    congr 1
    simp only
    omega
/-- What is read of a text of a script. -/
def readG (t : List UInt8) : List Ed := (readR t).getD []
/-- A text behind one record. -/
def leafStep (s r : List UInt8) : List UInt8 := if r.headD 0 = 98 then r.tail else edDone s (readG r.tail)
def play (s : List UInt8) (rs : List (List UInt8)) : List UInt8 := rs.foldl leafStep s
/-- Records that were rightly written, one behind the other. -/
def good : List UInt8 → List (List UInt8) → Prop
  | _, [] => True
  | s, r :: rs => r.length ≤ 1100 ∧ ((∃ t, r = 98 :: t ∧ t.length ≤ 200) ∨ ∃ l, r = 101 :: wrL l ∧ edErr s.length l = 0) ∧ good (leafStep s r) rs

theorem itoa_num : ∀ n : Fin 201, valNum (Lib.itoa (n.val : Int)) = some n.val ∧ (Lib.itoa (n.val : Int)).all (fun b => b != 32 && b != 58) = true := by decide +kernel
theorem valNum_itoa {n : Nat} (h : n ≤ 200) : valNum (Lib.itoa (n : Int)) = some n := (itoa_num ⟨n, by omega⟩).1
theorem itoa_no {n : Nat} (h : n ≤ 200) : ∀ b ∈ Lib.itoa (n : Int), b ≠ 32 ∧ b ≠ 58 := by
  have := List.all_eq_true.1 (itoa_num ⟨n, by omega⟩).2
  intro b hb
  have := this b hb
  simpa using this
theorem cutNum_itoa {n : Nat} (h : n ≤ 200) {c : UInt8} (hc : c = 32 ∨ c = 58) (r : List UInt8) : cutNum (Lib.itoa (n : Int) ++ c :: r) c = some (n, r) := by
  unfold cutNum
  have hno : ∀ b ∈ Lib.itoa (n : Int), b ≠ c := fun b hb => by
    rcases hc with rfl | rfl
    · exact (itoa_no h b hb).1
    · exact (itoa_no h b hb).2
  rw [cutB_at hno]
  simp only [valNum_itoa h, Option.map_some]
theorem entry_wr {x : Ed} (h : scrOne x = 0) (r : List UInt8) : entryR (wrE x ++ r) = some (x, r) := by
  obtain ⟨h0, h1, h2, h3, h4⟩ := scrOne_zero h
  obtain ⟨xa, xd, xi⟩ := x
  simp only at h0 h1 h2 h3 h4
  obtain ⟨a, rfl⟩ := Int.eq_ofNat_of_zero_le h0
  obtain ⟨d, rfl⟩ := Int.eq_ofNat_of_zero_le h2
  have e : wrE ⟨(a : Int), (d : Int), xi⟩ ++ r = Lib.itoa (a : Int) ++ 32 :: (Lib.itoa (d : Int) ++ 32 :: (Lib.itoa (xi.length : Int) ++ 58 :: (xi ++ 59 :: r))) := by
    unfold wrE; simp [List.append_assoc]
  rw [e]
  unfold entryR
  rw [cutNum_itoa (by omega) (.inl rfl)]
  simp only
  rw [cutNum_itoa (by omega) (.inl rfl)]
  simp only
  rw [cutNum_itoa (by omega) (.inr rfl)]
  simp only
  unfold rest3
  rw [if_pos ⟨by rw [List.length_append, List.length_cons]; omega, by rw [List.getD_eq_getElem?_getD, List.getElem?_append_right (Nat.le_refl _)]; simp⟩]
  simp
theorem wrE_ne (x : Ed) (r : List UInt8) : wrE x ++ r ≠ [] := by
  unfold wrE; intro h
  have := congrArg List.length h
  simp at this
theorem read_wr {l : List Ed} (h : ∀ x ∈ l, scrOne x = 0) : readR (wrL l) = some l := by
  induction l with
  | nil => rfl
  | cons x l ih =>
    have e : wrL (x :: l) = wrE x ++ wrL l := rfl
    rw [e, readR_step (wrE_ne x _), entry_wr (h x List.mem_cons_self)]
    simp only
    rw [ih (fun y hy => h y (List.mem_cons_of_mem _ hy))]
    rfl
theorem scr_of_ed {n : Int} {l : List Ed} (h : edErr n l = 0) : scrErr l = 0 := by
  obtain ⟨h0, h1, h2, hc, _⟩ := edErr_zero.1 h
  refine scrErr_zero.2 ⟨h2, fun x hx => ?_⟩
  obtain ⟨a, b, c, d, _⟩ := hc.mem x hx
  unfold scrOne
  rw [if_neg (by omega), if_neg (by omega)]
theorem readG_wr {n : Int} {l : List Ed} (h : edErr n l = 0) : readG (wrL l) = l := by
  unfold readG
  rw [read_wr (scrErr_zero.1 (scr_of_ed h)).2]; rfl
theorem step_b (s t : List UInt8) : leafStep s (98 :: t) = t := by unfold leafStep; simp
theorem step_e {s : List UInt8} {n : Int} {l : List Ed} (h : edErr n l = 0) : leafStep s (101 :: wrL l) = edDone s l := by
  have e : leafStep s (101 :: wrL l) = edDone s (readG (wrL l)) := if_neg (by simp)
  rw [e, readG_wr h]
theorem good_len : ∀ {rs : List (List UInt8)} {s : List UInt8}, good s rs → ∀ r ∈ rs, r.length ≤ 1100
  | [], _, _, r, hr => by cases hr
  | q :: rs, s, h, r, hr => by
    rcases List.mem_cons.1 hr with rfl | hr
    · exact h.1
    · exact good_len h.2.2 r hr
theorem good_take : ∀ {rs : List (List UInt8)} {s : List UInt8}, good s rs → ∀ j, good s (rs.take j)
  | [], _, _, j => by simp [good]
  | _ :: _, _, _, 0 => trivial
  | _ :: _, _, h, j + 1 => ⟨h.1, h.2.1, good_take h.2.2 j⟩
theorem good_snoc : ∀ {rs : List (List UInt8)} {s : List UInt8} {r : List UInt8}, good s rs → good (play s rs) [r] → good s (rs ++ [r])
  | [], _, _, _, h => h
  | _ :: _, _, _, h, k => ⟨h.1, h.2.1, good_snoc h.2.2 k⟩
theorem play_snoc (s : List UInt8) (rs : List (List UInt8)) (r : List UInt8) : play s (rs ++ [r]) = leafStep (play s rs) r := by unfold play; rw [List.foldl_append]; rfl
theorem leaDone_len {s : List UInt8} {l : List Ed} (h : edErr s.length l = 0) : (edDone s l).length ≤ 200 := by
  obtain ⟨_, _, _, hc, hf⟩ := edErr_zero.1 h
  have hl := edTo_length rfl hc (k := 0) rfl (Nat.zero_le _)
  rw [edDone_is h]
  omega
theorem good_text : ∀ {rs : List (List UInt8)} {s : List UInt8}, good s rs → s.length ≤ 200 → (play s rs).length ≤ 200
  | [], _, _, h => h
  | q :: rs, s, h, _ => by
    refine good_text (rs := rs) (s := leafStep s q) h.2.2 ?_
    rcases h.2.1 with ⟨t, rfl, ht⟩ | ⟨l, rfl, hl⟩
    · rw [step_b]; exact ht
    · rw [step_e hl]; exact leaDone_len hl
end Go.Proofs.YtmikckhihfcooaaGreatDoor
