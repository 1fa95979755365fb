/- A leaf's log as a list of records: what a scan of a part of the disk finds, what the records tell, and that what was written is read again. No program in sight. The methods of a log, and the reference's AppendOf and CrashOf. What a leaf's text and its log are to each other, kept by every call. No program in sight. -/
import Derived.Test.YtmikckhihfcooaaDoorPk08
import Derived.Test.YtmikckhihfcooaaDoorPk19
import Derived.Test.YtmikckhihfcooaaDoorPk21
import Derived.Test.YtmikckhihfcooaaDoorPk01
import Derived.Test.YtmikckhihfcooaaDoorPk02
import Derived.Test.YtmikckhihfcooaaDoorPk04
namespace Go.Proofs.YtmikckhihfcooaaDoor
/-- The bytes of these records, frame behind frame. -/
def diskL (rs : List (List UInt8)) : List UInt8 := rs.flatMap frameL
theorem diskL_cons (r : List UInt8) (rs : List (List UInt8)) : diskL (r :: rs) = frameL r ++ diskL rs := rfl
theorem diskL_snoc (r : List UInt8) (rs : List (List UInt8)) : diskL (rs ++ [r]) = diskL rs ++ frameL r := by unfold diskL; rw [List.flatMap_append]; simp
theorem frame_head (r x : List UInt8) (hr : r.length ≤ 1100) : headNum (frameL r ++ x) = r.length := by
  unfold headNum frameL
  simp only [List.cons_append, List.getD_cons_zero, List.getD_cons_succ]
  rw [UInt8.toNat_ofNat', UInt8.toNat_ofNat']
  omega
theorem head_take {l : List UInt8} {n : Nat} (hn : 2 ≤ n) : headNum (l.take n) = headNum l := by
  unfold headNum
  rw [List.getD_eq_getElem?_getD, List.getD_eq_getElem?_getD, List.getD_eq_getElem?_getD, List.getD_eq_getElem?_getD, List.getElem?_take_of_lt (by omega), List.getElem?_take_of_lt (by omega)]
theorem frame_ok (r x : List UInt8) (hr : r.length ≤ 1100) : frameOk (frameL r ++ x) := by
  have hh := frame_head r x hr
  have hl := frameL_length r
  refine ⟨by rw [List.length_append]; omega, by omega, by rw [List.length_append]; omega, ?_⟩
  rw [hh]
  have e1 : frameL r = (UInt8.ofNat (r.length / 256) :: UInt8.ofNat r.length :: r) ++ sumEnd (UInt8.ofNat (r.length / 256) :: UInt8.ofNat r.length :: r) := rfl
  rw [e1, List.append_assoc]
  generalize hA : (UInt8.ofNat (r.length / 256) :: UInt8.ofNat r.length :: r) = A
  have hAl : A.length = r.length + 2 := by rw [← hA]; simp
  have h4 : (sumEnd A).length = 4 := by unfold sumEnd fourL; simp
  rw [← hAl, List.take_left, List.drop_left, ← h4, List.take_left]
theorem frame_rec (r x : List UInt8) (hr : r.length ≤ 1100) : recOf (frameL r ++ x) = r := by
  unfold recOf
  rw [frame_head r x hr]
  unfold frameL
  simp
theorem frame_rest (r x : List UInt8) (hr : r.length ≤ 1100) : (frameL r ++ x).drop (headNum (frameL r ++ x) + 6) = x := by
  rw [frame_head r x hr, ← frameL_length r, List.drop_left]
theorem scan_take : ∀ (rs : List (List UInt8)), (∀ r ∈ rs, r.length ≤ 1100) → ∀ n : Nat, ∃ j, j ≤ rs.length ∧ scanL ((diskL rs).take n) = (rs.take j, (diskL (rs.take j)).length) ∧ (diskL (rs.take j)).length ≤ n ∧ (diskL rs).take (diskL (rs.take j)).length = diskL (rs.take j)
  | [], _, n => ⟨0, Nat.le_refl _, by
      have : ((diskL []).take n) = [] := by simp [diskL]
      rw [this]
      exact scanL_no (fun h => by have := h.1; simp at this), Nat.zero_le _, rfl⟩
  | r :: rs, h, n => by
      have hr := h r List.mem_cons_self
      have hl := frameL_length r
      rw [diskL_cons]
      by_cases hn : n < r.length + 6
      · refine ⟨0, Nat.zero_le _, ?_, Nat.zero_le _, rfl⟩
        refine scanL_no (fun hk => ?_)
        obtain ⟨h6, _, h3, _⟩ := hk
        rw [List.length_take] at h6 h3
        rw [head_take (by omega), frame_head r _ hr] at h3
        omega
      · have e : ((frameL r ++ diskL rs).take n) = frameL r ++ (diskL rs).take (n - (r.length + 6)) := by
          rw [List.take_append, List.take_of_length_le (by omega), hl]
        obtain ⟨j, hj, hs, hjn, ht⟩ := scan_take rs (fun q hq => h q (List.mem_cons_of_mem _ hq)) (n - (r.length + 6))
        refine ⟨j + 1, by simp only [List.length_cons]; omega, ?_, ?_, ?_⟩
        · rw [e, scanL_ok (frame_ok r _ hr), frame_rec r _ hr, frame_rest r _ hr, frame_head r _ hr, hs, List.take_succ_cons, diskL_cons, List.length_append, hl]
          congr 1
          simp only
          omega
        · rw [List.take_succ_cons, diskL_cons, List.length_append, hl]; omega
        · rw [List.take_succ_cons, diskL_cons, List.length_append, List.take_append, List.take_of_length_le (by omega)]
          congr 1
          rw [Nat.add_sub_cancel_left]
          exact ht
theorem scan_all (rs : List (List UInt8)) (h : ∀ r ∈ rs, r.length ≤ 1100) : scanL (diskL rs) = (rs, (diskL rs).length) := by
  induction rs with
  | nil => exact scanL_no (fun h => by have := h.1; simp [diskL] at this)
  | cons r rs ih =>
    have hr := h r List.mem_cons_self
    rw [diskL_cons, scanL_ok (frame_ok r _ hr), frame_rec r _ hr, frame_rest r _ hr, frame_head r _ hr, ih (fun q hq => h q (List.mem_cons_of_mem _ hq)), List.length_append, frameL_length]
    congr 1
    simp only
    omega
/-- What is read of a text of a script. -/
def readG (t : List UInt8) : List Ed := (readR t).getD []
/-- A text behind one record. -/
def leafStep (s r : List UInt8) : List UInt8 := if r.headD 0 = 98 then r.tail else edDone s (readG r.tail)
def play (s : List UInt8) (rs : List (List UInt8)) : List UInt8 := rs.foldl leafStep s
/-- Records that were rightly written, one behind the other. -/
def good : List UInt8 → List (List UInt8) → Prop
  | _, [] => True
  | s, r :: rs => r.length ≤ 1100 ∧ ((∃ t, r = 98 :: t ∧ t.length ≤ 200) ∨ ∃ l, r = 101 :: wrL l ∧ edErr s.length l = 0) ∧ good (leafStep s r) rs

theorem itoa_num : ∀ n : Fin 201, valNum (Lib.itoa (n.val : Int)) = some n.val ∧ (Lib.itoa (n.val : Int)).all (fun b => b != 32 && b != 58) = true := by decide +kernel
theorem valNum_itoa {n : Nat} (h : n ≤ 200) : valNum (Lib.itoa (n : Int)) = some n := (itoa_num ⟨n, by omega⟩).1
theorem itoa_no {n : Nat} (h : n ≤ 200) : ∀ b ∈ Lib.itoa (n : Int), b ≠ 32 ∧ b ≠ 58 := by
  have := List.all_eq_true.1 (itoa_num ⟨n, by omega⟩).2
  intro b hb
  have := this b hb
  simpa using this
theorem cutNum_itoa {n : Nat} (h : n ≤ 200) {c : UInt8} (hc : c = 32 ∨ c = 58) (r : List UInt8) : cutNum (Lib.itoa (n : Int) ++ c :: r) c = some (n, r) := by
  unfold cutNum
  have hno : ∀ b ∈ Lib.itoa (n : Int), b ≠ c := fun b hb => by
    rcases hc with rfl | rfl
    · exact (itoa_no h b hb).1
    · exact (itoa_no h b hb).2
  rw [cutSB_at hno]
  simp only [valNum_itoa h, Option.map_some]
theorem entry_wr {x : Ed} (h : scrOneE x = 0) (r : List UInt8) : entryR (wrE x ++ r) = some (x, r) := by
  obtain ⟨h0, h1, h2, h3, h4⟩ := scrOne_zero h
  obtain ⟨xa, xd, xi⟩ := x
  simp only at h0 h1 h2 h3 h4
  obtain ⟨a, rfl⟩ := Int.eq_ofNat_of_zero_le h0
  obtain ⟨d, rfl⟩ := Int.eq_ofNat_of_zero_le h2
  have e : wrE ⟨(a : Int), (d : Int), xi⟩ ++ r = Lib.itoa (a : Int) ++ 32 :: (Lib.itoa (d : Int) ++ 32 :: (Lib.itoa (xi.length : Int) ++ 58 :: (xi ++ 59 :: r))) := by
    unfold wrE; simp [List.append_assoc]
  rw [e]
  unfold entryR
  rw [cutNum_itoa (by omega) (.inl rfl)]
  simp only
  rw [cutNum_itoa (by omega) (.inl rfl)]
  simp only
  rw [cutNum_itoa (by omega) (.inr rfl)]
  simp only
  unfold rest3
  rw [if_pos ⟨by rw [List.length_append, List.length_cons]; omega, by rw [List.getD_eq_getElem?_getD, List.getElem?_append_right (Nat.le_refl _)]; simp⟩]
  simp
theorem wrE_ne (x : Ed) (r : List UInt8) : wrE x ++ r ≠ [] := by
  unfold wrE; intro h
  have := congrArg List.length h
  simp at this
theorem read_wr {l : List Ed} (h : ∀ x ∈ l, scrOneE x = 0) : readR (wrL l) = some l := by
  induction l with
  | nil => rfl
  | cons x l ih =>
    have e : wrL (x :: l) = wrE x ++ wrL l := rfl
    rw [e, readR_step (wrE_ne x _), entry_wr (h x List.mem_cons_self)]
    simp only
    rw [ih (fun y hy => h y (List.mem_cons_of_mem _ hy))]
    rfl
theorem scr_of_ed {n : Int} {l : List Ed} (h : edErr n l = 0) : scrErr l = 0 := by
  obtain ⟨h0, h1, h2, hc, _⟩ := edErr_zero.1 h
  refine scrErr_zero.2 ⟨h2, fun x hx => ?_⟩
  obtain ⟨a, b, c, d, _⟩ := hc.mem x hx
  unfold scrOneE
  rw [if_neg (by omega), if_neg (by omega)]
theorem readG_wr {n : Int} {l : List Ed} (h : edErr n l = 0) : readG (wrL l) = l := by
  unfold readG
  rw [read_wr (scrErr_zero.1 (scr_of_ed h)).2]; rfl
theorem step_b (s t : List UInt8) : leafStep s (98 :: t) = t := by unfold leafStep; simp
theorem step_e {s : List UInt8} {n : Int} {l : List Ed} (h : edErr n l = 0) : leafStep s (101 :: wrL l) = edDone s l := by
  have e : leafStep s (101 :: wrL l) = edDone s (readG (wrL l)) := if_neg (by simp)
  rw [e, readG_wr h]
theorem good_len : ∀ {rs : List (List UInt8)} {s : List UInt8}, good s rs → ∀ r ∈ rs, r.length ≤ 1100
  | [], _, _, r, hr => by cases hr
  | q :: rs, s, h, r, hr => by
    rcases List.mem_cons.1 hr with rfl | hr
    · exact h.1
    · exact good_len h.2.2 r hr
theorem good_take : ∀ {rs : List (List UInt8)} {s : List UInt8}, good s rs → ∀ j, good s (rs.take j)
  | [], _, _, j => by simp [good]
  | _ :: _, _, _, 0 => trivial
  | _ :: _, _, h, j + 1 => ⟨h.1, h.2.1, good_take h.2.2 j⟩
theorem good_snoc : ∀ {rs : List (List UInt8)} {s : List UInt8} {r : List UInt8}, good s rs → good (play s rs) [r] → good s (rs ++ [r])
  | [], _, _, _, h => h
  | _ :: _, _, _, h, k => ⟨h.1, h.2.1, good_snoc h.2.2 k⟩
theorem play_snoc (s : List UInt8) (rs : List (List UInt8)) (r : List UInt8) : play s (rs ++ [r]) = leafStep (play s rs) r := by unfold play; rw [List.foldl_append]; rfl
theorem leaDone_len {s : List UInt8} {l : List Ed} (h : edErr s.length l = 0) : (edDone s l).length ≤ 200 := by
  obtain ⟨_, _, _, hc, hf⟩ := edErr_zero.1 h
  have hl := edTo_length rfl hc (k := 0) rfl (Nat.zero_le _)
  rw [edDone_is h]
  omega
theorem good_text : ∀ {rs : List (List UInt8)} {s : List UInt8}, good s rs → s.length ≤ 200 → (play s rs).length ≤ 200
  | [], _, _, h => h
  | q :: rs, s, h, _ => by
    refine good_text (rs := rs) (s := leafStep s q) h.2.2 ?_
    rcases h.2.1 with ⟨t, rfl, ht⟩ | ⟨l, rfl, hl⟩
    · rw [step_b]; exact ht
    · rw [step_e hl]; exact leaDone_len hl
end Go.Proofs.YtmikckhihfcooaaDoor
namespace Go.Proofs.YtmikckhihfcooaaDoor
open Go.RowKit
def appErr (d rec : ByteArray) : Int := if 1100 < rec.size then 2 else if 4000 < d.size + (rec.size + 6) then 11 else 0
def appD (d rec : ByteArray) : ByteArray := if appErr d rec = 0 then d ++ S (frameL (L rec)) else d
theorem appD_size (d rec : ByteArray) (h : d.size ≤ 4000) : (appD d rec).size ≤ 4000 ∧ d.size ≤ (appD d rec).size := by
  unfold appD
  split
  · rename_i h0
    unfold appErr at h0
    rw [ByteArray.size_append, S_size, frameL_length, L_len]
    split at h0
    · cases h0
    · split at h0
      · cases h0
      · omega
  · omega
def craErr (d : ByteArray) (sf : Nat) (keep : Int) : Int := if keep < 0 ∨ (d.size : Int) - sf < keep then 1 else 0
def craS (d : ByteArray) (sf : Nat) (keep : Int) : ByteArray := d.extract 0 (sf + keep.toNat)
def craN (d : ByteArray) (sf : Nat) (keep : Int) : Nat := (scanL (L (craS d sf keep))).2
def craD (d : ByteArray) (sf : Nat) (keep : Int) : ByteArray := if craErr d sf keep = 0 then (craS d sf keep).extract 0 (craN d sf keep) else d
def craF (d : ByteArray) (sf : Nat) (keep : Int) : Nat := if craErr d sf keep = 0 then craN d sf keep else sf
theorem cra_size (d : ByteArray) (sf : Nat) (keep : Int) (h : d.size ≤ 4000) (hs : sf ≤ d.size) : (craD d sf keep).size ≤ 4000 ∧ craF d sf keep ≤ (craD d sf keep).size := by
  unfold craD craF
  split
  · have h1 := scanL_le (L (craS d sf keep))
    rw [L_len] at h1
    change craN d sf keep ≤ _ at h1
    have h2 : (craS d sf keep).size ≤ d.size := by unfold craS; rw [ByteArray.size_extract]; omega
    rw [ByteArray.size_extract]
    omega
  · omega
/-- A log lies in a block. -/
def LogAt (w : World) (g : Nat) (t : TypeId) (d : ByteArray) (sf : Nat) : Prop := Blk w g t #[.string d, .int .i64 (sf : Int)]
theorem LogAt.cells {w : World} {g : Nat} {t : TypeId} {d : ByteArray} {sf : Nat} (h : LogAt w g t d sf) :
    w.cell? ⟨g, 0, none⟩ = some (.string d) ∧ w.cell? ⟨g, 1, none⟩ = some (.int .i64 (sf : Int)) ∧ w.frozen? ⟨g, 0, none⟩ = false ∧ w.frozen? ⟨g, 1, none⟩ = false ∧ g < w.heap.size :=
  ⟨Blk.cell h 0, Blk.cell h 1, Blk.frozen h 0, Blk.frozen h 1, Blk.lt h⟩
set_option maxRecDepth 100000 in
set_option maxHeartbeats 1000000 in
theorem lgAppend_any (g : Nat) (d rec : ByteArray) (sf : Nat) (w : World) (h : LogAt w g 75 d sf) (hd : d.size ≤ 4000) :
    Calls Tryd.prog 20 #[.pointer (some ⟨g, 0, none⟩), .string rec] w fun e w' => e = .returned (.int .i64 (appErr d rec)) ∧ LogAt w' g 75 (appD d rec) sf ∧ w.grownBy w' (some g) := by
  have HH := Lib.hid h; clear h
  by_cases hr : 1100 < rec.size
  · have HE : Hid (appErr d rec = 2) := by unfold Hid appErr; rw [if_pos hr]
    have HD : Hid (appD d rec = d) := by unfold Hid appD; rw [HE.out, if_neg (by decide)]
    go_enter Tryd.func20, Tryd.ntmps20
    go_wp2_with fail
    refine (frame_large rec hr _).mono ?_
    rintro e w1 ⟨rfl, hb1⟩
    go_wp2_with fail
    go_ret
    exact ⟨ret_int HE.out.symm, by rw [HD.out]; exact HH.out.below' hb1, gb_of_below hb1 _⟩
  · have hz : (S (frameL (L rec))).size = rec.size + 6 := by rw [S_size, frameL_length, L_len]
    have HZ := Lib.hid hz
    have hz1 : (S (frameL (L rec))).size ≤ 1106 := by omega
    have HE : Hid (appErr d rec = if 4000 < d.size + (S (frameL (L rec))).size then 11 else 0) := by unfold Hid appErr; rw [if_neg hr, hz]
    clear hz
    by_cases hf : 4000 < d.size + (S (frameL (L rec))).size
    · rw [Hid, if_pos hf] at HE
      have HE := Lib.hid HE
      have HD : Hid (appD d rec = d) := by unfold Hid appD; rw [HE.out, if_neg (by decide)]
      go_enter Tryd.func20, Tryd.ntmps20
      go_wp2_with fail
      refine (frame_any rec (by omega) _).mono ?_
      rintro e w1 ⟨rfl, hb1⟩
      have H1 : LogAt w1 g 75 d sf := HH.out.below' hb1
      have HH1 := Lib.hid H1
      obtain ⟨c0, c1, f0, f1, hlt⟩ := LogAt.cells H1
      clear H1
      generalize S (frameL (L rec)) = F at *
      go_wp2_with fail
      go_ret
      exact ⟨ret_int HE.out.symm, by rw [HD.out]; exact HH1.out, gb_of_below hb1 _⟩
    · rw [Hid, if_neg hf] at HE
      have HE := Lib.hid HE
      have HD : Hid (appD d rec = d ++ S (frameL (L rec))) := by unfold Hid appD; rw [HE.out, if_pos rfl]
      go_enter Tryd.func20, Tryd.ntmps20
      go_wp2_with fail
      refine (frame_any rec (by omega) _).mono ?_
      rintro e w1 ⟨rfl, hb1⟩
      have H1 : LogAt w1 g 75 d sf := HH.out.below' hb1
      have HH1 := Lib.hid H1
      obtain ⟨c0, c1, f0, f1, hlt⟩ := LogAt.cells H1
      clear H1
      generalize S (frameL (L rec)) = F at *
      go_wp2_with fail
      go_ret
      exact ⟨ret_int HE.out.symm, by rw [HD.out]; exact Blk.set_ HH1.out 0 _, gb_set (gb_of_below hb1 _) _ _⟩
set_option maxRecDepth 100000 in
set_option maxHeartbeats 1000000 in
theorem lgSync_any (g : Nat) (d : ByteArray) (sf : Nat) (w : World) (h : LogAt w g 75 d sf) :
    Calls Tryd.prog 21 #[.pointer (some ⟨g, 0, none⟩)] w fun e w' => e = .returned (.tuple #[]) ∧ LogAt w' g 75 d d.size ∧ w.grownBy w' (some g) := by
  have HH := Lib.hid h
  obtain ⟨c0, c1, f0, f1, hlt⟩ := LogAt.cells h
  clear h
  go_enter Tryd.func21, Tryd.ntmps21
  go_wp2_with fail
  go_end0
  exact ⟨rfl, Blk.set_ HH.out 1 _, gb_set (gb_refl _ _) _ _⟩
set_option maxRecDepth 100000 in
set_option maxHeartbeats 1000000 in
theorem lgAll_any (g : Nat) (d : ByteArray) (sf : Nat) (w : World) (h : LogAt w g 75 d sf) (hd : d.size ≤ 4000) :
    Calls Tryd.prog 48 #[.pointer (some ⟨g, 0, none⟩)] w fun e w' => ∃ v, e = .returned v ∧ w'.ownsRow w.heap.size 9 1 v (scanL (L d)).1.length (strCells (scanL (L d)).1) ∧ Below w.heap.size w w' := by
  obtain ⟨c0, c1, f0, f1, hlt⟩ := LogAt.cells h
  clear h
  go_enter Tryd.func48, Tryd.ntmps48
  go_wp2_with fail
  refine (scan_any d (by omega) _).mono ?_
  rintro e w1 ⟨v1, rfl, hown1, hb1⟩
  go_wp2_with fail
  go_ret
  exact ⟨v1, rfl, hown1, hb1⟩
set_option maxRecDepth 100000 in
set_option maxHeartbeats 2000000 in
theorem lgCrash_any (g : Nat) (d : ByteArray) (sf : Nat) (keep : Int) (w : World) (h : LogAt w g 75 d sf) (hd : d.size ≤ 4000) (hs : sf ≤ d.size) :
    Calls Tryd.prog 30 #[.pointer (some ⟨g, 0, none⟩), .int .i64 keep] w fun e w' => e = .returned (.int .i64 (craErr d sf keep)) ∧ LogAt w' g 75 (craD d sf keep) (craF d sf keep) ∧ w.grownBy w' (some g) := by
  have HH := Lib.hid h
  obtain ⟨c0, c1, f0, f1, hlt⟩ := LogAt.cells h
  clear h
  by_cases hk0 : keep < 0
  · have g0 : decide (keep < 0) = true := decide_eq_true hk0
    have HE : Hid (craErr d sf keep = 1) := by unfold Hid craErr; rw [if_pos (.inl hk0)]
    have HD : Hid (craD d sf keep = d ∧ craF d sf keep = sf) := by unfold Hid craD craF; rw [HE.out, if_neg (by decide), if_neg (by decide)]; exact ⟨rfl, rfl⟩
    go_enter Tryd.func30, Tryd.ntmps30
    go_wp2_with fail
    go_quiet (fail)
    go_wp2_with fail
    go_ret
    exact ⟨ret_int HE.out.symm, by rw [HD.out.1, HD.out.2]; exact Blk.drewN HH.out _, gb_of_below (by repeat (first | exact Below.refl _ _ | assumption | refine Below.alloc ?_ (by first | exact Nat.le_refl _ | assumption | omega | (simp <;> omega)) _ | refine Below.setCell ?_ (by first | exact Nat.le_refl _ | assumption | omega | (simp <;> omega)) _ | refine Below.drew ?_ | refine below_drewN ?_ _)) _⟩
  have g0 : decide (keep < 0) = false := decide_eq_false hk0
  by_cases hk1 : (d.size : Int) - (sf : Int) < keep
  · have g1 : decide ((d.size : Int) - (sf : Int) < keep) = true := decide_eq_true hk1
    have HE : Hid (craErr d sf keep = 1) := by unfold Hid craErr; rw [if_pos (.inr hk1)]
    have HD : Hid (craD d sf keep = d ∧ craF d sf keep = sf) := by unfold Hid craD craF; rw [HE.out, if_neg (by decide), if_neg (by decide)]; exact ⟨rfl, rfl⟩
    go_enter Tryd.func30, Tryd.ntmps30
    go_wp2_with fail
    go_quiet (fail)
    go_wp2_with fail
    go_ret
    exact ⟨ret_int HE.out.symm, by rw [HD.out.1, HD.out.2]; exact Blk.drewN HH.out _, gb_of_below (by repeat (first | exact Below.refl _ _ | assumption | refine Below.alloc ?_ (by first | exact Nat.le_refl _ | assumption | omega | (simp <;> omega)) _ | refine Below.setCell ?_ (by first | exact Nat.le_refl _ | assumption | omega | (simp <;> omega)) _ | refine Below.drew ?_ | refine below_drewN ?_ _)) _⟩
  have g1 : decide ((d.size : Int) - (sf : Int) < keep) = false := decide_eq_false hk1
  have HE : Hid (craErr d sf keep = 0) := by unfold Hid craErr; rw [if_neg (by omega)]
  have HD : Hid (craD d sf keep = (craS d sf keep).extract 0 (craN d sf keep) ∧ craF d sf keep = craN d sf keep) := by unfold Hid craD craF; rw [HE.out, if_pos rfl, if_pos rfl]; exact ⟨rfl, rfl⟩
  obtain ⟨k, rfl⟩ := Int.eq_ofNat_of_zero_le (show 0 ≤ keep by omega)
  have HS : Hid (craS d sf (k : Int) = d.extract 0 (sf + k)) := rfl
  have hsz : (d.extract 0 (sf + k)).size ≤ 4000 := by rw [ByteArray.size_extract]; omega
  go_enter Tryd.func30, Tryd.ntmps30
  go_wp2_with fail
  go_quiet (fail)
  go_wp2_with fail
  go_quiet (fail)
  go_wp2_with fail
  refine (scan_any (d.extract 0 (sf + k)) (by omega) _).mono ?_
  rintro e w1 ⟨v1, rfl, hown1, hb1⟩
  have hb1' : Below w.heap.size w w1 := bthen (below_drewN (Below.refl _ _) _) hb1
  have H1 : LogAt w1 g 75 d sf := HH.out.below' hb1'
  have HH1 := Lib.hid H1
  clear hown1 c0 c1 f0 f1 hlt
  obtain ⟨c0, c1, f0, f1, hlt⟩ := LogAt.cells H1
  clear H1 hb1
  have hle := scanL_le (L (d.extract 0 (sf + k)))
  rw [L_len] at hle
  have HN : Hid (craN d sf (k : Int) = (scanL (L (d.extract 0 (sf + k)))).2) := rfl
  generalize (scanL (L (d.extract 0 (sf + k)))).2 = n at *
  generalize d.extract 0 (sf + k) = ds at *
  go_wp2_with fail
  go_ret
  exact ⟨ret_int HE.out.symm, by rw [HD.out.1, HD.out.2, HS.out, HN.out]; exact Blk.set_ (Blk.set_ HH1.out 0 _) 1 _, gb_set (gb_set (gb_of_below hb1' _) _ _) _ _⟩
end Go.Proofs.YtmikckhihfcooaaDoor
namespace Go.Proofs.YtmikckhihfcooaaDoor
open Go.RowKit
def recB (s : ByteArray) : ByteArray := ⟨#[98]⟩ ++ s
def recE (s : ByteArray) : ByteArray := ⟨#[101]⟩ ++ s
theorem L_recB (s : ByteArray) : L (recB s) = 98 :: L s := by unfold recB; rw [L_append]; rfl
theorem L_recE (s : ByteArray) : L (recE s) = 101 :: L s := by unfold recE; rw [L_append]; rfl
theorem recB_size (s : ByteArray) : (recB s).size = s.size + 1 := by rw [← L_len, L_recB, List.length_cons, L_len]
theorem recE_size (s : ByteArray) : (recE s).size = s.size + 1 := by rw [← L_len, L_recE, List.length_cons, L_len]
structure LfOk (tx d : ByteArray) (sf : Nat) : Prop where
  recs : ∃ rs, L d = diskL rs ∧ good [] rs ∧ L tx = play [] rs
  size : d.size ≤ 4000
  safe : sf ≤ d.size
theorem LfOk.text {tx d : ByteArray} {sf : Nat} (h : LfOk tx d sf) : tx.size ≤ 200 := by
  obtain ⟨rs, _, h2, h3⟩ := h.recs
  have := good_text h2 (Nat.zero_le _)
  rw [← h3, L_len] at this
  exact this
theorem app_zero {d rec : ByteArray} (h : appErr d rec = 0) : rec.size ≤ 1100 ∧ d.size + (rec.size + 6) ≤ 4000 ∧ L (appD d rec) = L d ++ frameL (L rec) := by
  have h0 := h
  unfold appErr at h
  split at h
  · cases h
  · split at h
    · cases h
    · refine ⟨by omega, by omega, ?_⟩
      unfold appD
      rw [if_pos h0, L_append, L_S]
theorem LfOk.set {tx d : ByteArray} {sf : Nat} (h : LfOk tx d sf) {t : ByteArray} (ht : t.size ≤ 200) (he : appErr d (recB t) = 0) : LfOk t (appD d (recB t)) sf := by
  obtain ⟨rs, h1, h2, h3⟩ := h.recs
  obtain ⟨e1, e2, e3⟩ := app_zero he
  have hs := appD_size d (recB t) h.size
  refine ⟨⟨rs ++ [98 :: L t], ?_, good_snoc h2 ⟨?_, .inl ⟨_, rfl, by rw [L_len]; exact ht⟩, trivial⟩, ?_⟩, hs.1, Nat.le_trans h.safe hs.2⟩
  · rw [e3, h1, diskL_snoc, L_recB]
  · rw [← L_recB, L_len]; exact e1
  · rw [play_snoc, step_b]
theorem LfOk.edit {tx d : ByteArray} {sf : Nat} (h : LfOk tx d sf) {l : List Ed} (hl : edErr tx.size l = 0) (he : appErr d (recE (S (wrL l))) = 0) : LfOk (S (edDone (L tx) l)) (appD d (recE (S (wrL l)))) sf := by
  obtain ⟨rs, h1, h2, h3⟩ := h.recs
  obtain ⟨e1, e2, e3⟩ := app_zero he
  have hs := appD_size d (recE (S (wrL l))) h.size
  rw [← L_len, h3] at hl
  refine ⟨⟨rs ++ [101 :: wrL l], ?_, good_snoc h2 ⟨?_, .inr ⟨_, rfl, hl⟩, trivial⟩, ?_⟩, hs.1, Nat.le_trans h.safe hs.2⟩
  · rw [e3, h1, diskL_snoc, L_recE, L_S]
  · have := e1; rw [← L_len, L_recE, L_S] at this; exact this
  · rw [play_snoc, step_e hl, L_S, h3]
theorem LfOk.save {tx d : ByteArray} {sf : Nat} (h : LfOk tx d sf) : LfOk tx d d.size := ⟨h.recs, h.size, Nat.le_refl _⟩
/-- What a log tells. -/
def lfRead (d : ByteArray) : ByteArray := S (play [] (scanL (L d)).1)
theorem LfOk.reads {tx d : ByteArray} {sf : Nat} (h : LfOk tx d sf) : lfRead d = tx ∧ good [] (scanL (L d)).1 := by
  obtain ⟨rs, h1, h2, h3⟩ := h.recs
  unfold lfRead
  rw [h1, scan_all rs (good_len h2)]
  exact ⟨by simp only; rw [← h3, S_L], h2⟩
theorem LfOk.crash {tx d : ByteArray} {sf : Nat} (h : LfOk tx d sf) {keep : Int} (he : craErr d sf keep = 0) : LfOk (lfRead (craD d sf keep)) (craD d sf keep) (craF d sf keep) := by
  obtain ⟨rs, h1, h2, h3⟩ := h.recs
  have hz := cra_size d sf keep h.size h.safe
  obtain ⟨j, hj, hs, hn, ht⟩ := scan_take rs (good_len h2) (sf + keep.toNat)
  have e1 : L (craS d sf keep) = (diskL rs).take (sf + keep.toNat) := by unfold craS; rw [L_extract, h1, List.drop_zero, Nat.sub_zero]
  have e2 : craN d sf keep = (diskL (rs.take j)).length := by unfold craN; rw [e1, hs]
  have e3 : L (craD d sf keep) = diskL (rs.take j) := by
    unfold craD
    rw [if_pos he, L_extract, e1, List.drop_zero, Nat.sub_zero, e2, List.take_take, Nat.min_eq_left hn, ht]
  have hg := good_take h2 j
  refine ⟨⟨rs.take j, e3, hg, ?_⟩, hz.1, hz.2⟩
  unfold lfRead
  rw [L_S, e3, scan_all _ (good_len hg)]
theorem new_app {s : ByteArray} (hs : s.size ≤ 200) : appErr ⟨#[]⟩ (recB s) = 0 := by
  have h0 : (⟨#[]⟩ : ByteArray).size = 0 := rfl
  have := recB_size s
  unfold appErr
  rw [if_neg (by omega), if_neg (by omega)]
theorem LfOk.empty : LfOk ⟨#[]⟩ ⟨#[]⟩ 0 := ⟨⟨[], rfl, trivial, rfl⟩, Nat.zero_le _, Nat.zero_le _⟩
/-- The disk of a new leaf. -/
def newD (s : ByteArray) : ByteArray := appD ⟨#[]⟩ (recB s)
theorem LfOk.new_ {s : ByteArray} (hs : s.size ≤ 200) : LfOk s (newD s) (newD s).size := (LfOk.empty.set hs (new_app hs)).save
theorem cra_whole {tx d : ByteArray} (h : LfOk tx d d.size) : craErr d d.size 0 = 0 ∧ craD d d.size 0 = d ∧ craF d d.size 0 = d.size := by
  have h0 : craErr d d.size 0 = 0 := by unfold craErr; rw [if_neg (by omega)]
  obtain ⟨rs, h1, h2, h3⟩ := h.recs
  have e1 : craS d d.size 0 = d := by
    apply L_inj
    unfold craS
    rw [L_extract, List.drop_zero, Nat.sub_zero]
    exact List.take_of_length_le (by rw [L_len]; exact Nat.le_add_right _ _)
  have e2 : craN d d.size 0 = d.size := by
    unfold craN
    rw [e1, h1, scan_all rs (good_len h2)]
    simp only
    rw [← h1, L_len]
  refine ⟨h0, ?_, ?_⟩
  · unfold craD
    rw [if_pos h0, e1, e2]
    apply L_inj
    rw [L_extract, List.drop_zero, Nat.sub_zero]
    exact List.take_of_length_le (by rw [L_len]; exact Nat.le_refl _)
  · unfold craF
    rw [if_pos h0, e2]
theorem cra_none {d : ByteArray} {sf : Nat} (h : sf ≤ d.size) : craErr d sf 0 = 0 := by unfold craErr; rw [if_neg (by omega)]
/-- One record of a log that is rightly written, at its place. -/
theorem good_at : ∀ {rs : List (List UInt8)} {s : List UInt8}, good s rs → ∀ (k : Nat) (h : k < rs.length), (rs[k].length ≤ 1100) ∧ ((∃ t, rs[k] = 98 :: t ∧ t.length ≤ 200) ∨ ∃ l, rs[k] = 101 :: wrL l ∧ edErr (play s (rs.take k)).length l = 0)
  | r :: rs, s, h, 0, _ => ⟨h.1, h.2.1⟩
  | r :: rs, s, h, k + 1, hk => good_at (rs := rs) (s := leafStep s r) h.2.2 k (by simpa using hk)
theorem play_take {rs : List (List UInt8)} {s : List UInt8} {k : Nat} (h : k < rs.length) : play s (rs.take (k + 1)) = leafStep (play s (rs.take k)) rs[k] := by
  rw [List.take_add_one, List.getElem?_eq_getElem h]; exact play_snoc _ _ _
end Go.Proofs.YtmikckhihfcooaaDoor
