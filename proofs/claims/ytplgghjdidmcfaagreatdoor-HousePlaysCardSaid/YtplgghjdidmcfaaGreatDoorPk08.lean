/- A leaf's log as a list of records: what a scan of a part of the disk finds, what the records tell, and that what was written is read again. No program in sight. A block that is known whole, and a world in which one block alone has turned. The methods of a log, and the reference's AppendOf and CrashOf. -/
import Derived.Test.YtplgghjdidmcfaaGreatDoorPk02
import Derived.Test.YtplgghjdidmcfaaGreatDoorPk03
import Derived.Test.YtplgghjdidmcfaaGreatDoorPk07
import Derived.Test.YtplgghjdidmcfaaGreatDoorPk05
import Derived.Test.YtplgghjdidmcfaaGreatDoorPk04
namespace Go.Proofs.YtplgghjdidmcfaaGreatDoor
/-- The bytes of these records, frame behind frame. -/
def diskL (rs : List (List UInt8)) : List UInt8 := rs.flatMap frameL
theorem diskL_cons (r : List UInt8) (rs : List (List UInt8)) : diskL (r :: rs) = frameL r ++ diskL rs := rfl
theorem diskL_snoc (r : List UInt8) (rs : List (List UInt8)) : diskL (rs ++ [r]) = diskL rs ++ frameL r := by unfold diskL; rw [List.flatMap_append]; simp
theorem frame_head (r x : List UInt8) (hr : r.length ≤ 1100) : headNum (frameL r ++ x) = r.length := by
  unfold headNum frameL
  simp only [List.cons_append, List.getD_cons_zero, List.getD_cons_succ]
  rw [UInt8.toNat_ofNat', UInt8.toNat_ofNat']
  omega
theorem head_take {l : List UInt8} {n : Nat} (hn : 2 ≤ n) : headNum (l.take n) = headNum l := by
  unfold headNum
  rw [List.getD_eq_getElem?_getD, List.getD_eq_getElem?_getD, List.getD_eq_getElem?_getD, List.getD_eq_getElem?_getD, List.getElem?_take_of_lt (by omega), List.getElem?_take_of_lt (by omega)]
theorem frame_ok (r x : List UInt8) (hr : r.length ≤ 1100) : frameOk (frameL r ++ x) := by
  have hh := frame_head r x hr
  have hl := frameL_length r
  refine ⟨by rw [List.length_append]; omega, by omega, by rw [List.length_append]; omega, ?_⟩
  rw [hh]
  have e1 : frameL r = (UInt8.ofNat (r.length / 256) :: UInt8.ofNat r.length :: r) ++ sumEnd (UInt8.ofNat (r.length / 256) :: UInt8.ofNat r.length :: r) := rfl
  rw [e1, List.append_assoc]
  generalize hA : (UInt8.ofNat (r.length / 256) :: UInt8.ofNat r.length :: r) = A
  have hAl : A.length = r.length + 2 := by rw [← hA]; simp
  have h4 : (sumEnd A).length = 4 := by unfold sumEnd fourL; simp
  rw [← hAl, List.take_left, List.drop_left, ← h4, List.take_left]
theorem frame_rec (r x : List UInt8) (hr : r.length ≤ 1100) : recOf (frameL r ++ x) = r := by
  unfold recOf
  rw [frame_head r x hr]
  unfold frameL
  simp
theorem frame_rest (r x : List UInt8) (hr : r.length ≤ 1100) : (frameL r ++ x).drop (headNum (frameL r ++ x) + 6) = x := by
  rw [frame_head r x hr, ← frameL_length r, List.drop_left]
theorem scan_take : ∀ (rs : List (List UInt8)), (∀ r ∈ rs, r.length ≤ 1100) → ∀ n : Nat, ∃ j, j ≤ rs.length ∧ scanL ((diskL rs).take n) = (rs.take j, (diskL (rs.take j)).length) ∧ (diskL (rs.take j)).length ≤ n ∧ (diskL rs).take (diskL (rs.take j)).length = diskL (rs.take j)
  | [], _, n => ⟨0, Nat.le_refl _, by
      have : ((diskL []).take n) = [] := by simp [diskL]
      rw [this]
      exact scanL_no (fun h => by have := h.1; simp at this), Nat.zero_le _, rfl⟩
  | r :: rs, h, n => by
      have hr := h r List.mem_cons_self
      have hl := frameL_length r
      rw [diskL_cons]
      by_cases hn : n < r.length + 6
      · refine ⟨0, Nat.zero_le _, ?_, Nat.zero_le _, rfl⟩
        refine scanL_no (fun hk => ?_)
        obtain ⟨h6, _, h3, _⟩ := hk
        rw [List.length_take] at h6 h3
        rw [head_take (by omega), frame_head r _ hr] at h3
        omega
      · have e : ((frameL r ++ diskL rs).take n) = frameL r ++ (diskL rs).take (n - (r.length + 6)) := by
          rw [List.take_append, List.take_of_length_le (by omega), hl]
        obtain ⟨j, hj, hs, hjn, ht⟩ := scan_take rs (fun q hq => h q (List.mem_cons_of_mem _ hq)) (n - (r.length + 6))
        refine ⟨j + 1, by simp only [List.length_cons]; omega, ?_, ?_, ?_⟩
        · rw [e, scanL_ok (frame_ok r _ hr), frame_rec r _ hr, frame_rest r _ hr, frame_head r _ hr, hs, List.take_succ_cons, diskL_cons, List.length_append, hl]
          congr 1
          simp only
          omega
        · rw [List.take_succ_cons, diskL_cons, List.length_append, hl]; omega
        · rw [List.take_succ_cons, diskL_cons, List.length_append, List.take_append, List.take_of_length_le (by omega)]
          congr 1
          rw [Nat.add_sub_cancel_left]
          exact ht
theorem scan_all (rs : List (List UInt8)) (h : ∀ r ∈ rs, r.length ≤ 1100) : scanL (diskL rs) = (rs, (diskL rs).length) := by
  induction rs with
  | nil => exact scanL_no (fun h => by have := h.1; simp [diskL] at this)
  | cons r rs ih =>
    have hr := h r List.mem_cons_self
    rw [diskL_cons, scanL_ok (frame_ok r _ hr), frame_rec r _ hr, frame_rest r _ hr, frame_head r _ hr, ih (fun q hq => h q (List.mem_cons_of_mem _ hq)), List.length_append, frameL_length]
    congr 1
    simp only
    omega
/-- What is read of a text of a script. -/
def readG (t : List UInt8) : List Ed := (readR t).getD []
/-- A text behind one record. -/
def leafStep (s r : List UInt8) : List UInt8 := if r.headD 0 = 98 then r.tail else edDone s (readG r.tail)
def play (s : List UInt8) (rs : List (List UInt8)) : List UInt8 := rs.foldl leafStep s
/-- Records that were rightly written, one behind the other. -/
def good : List UInt8 → List (List UInt8) → Prop
  | _, [] => True
  | s, r :: rs => r.length ≤ 1100 ∧ ((∃ t, r = 98 :: t ∧ t.length ≤ 200) ∨ ∃ l, r = 101 :: wrL l ∧ edErr s.length l = 0) ∧ good (leafStep s r) rs

theorem itoa_num : ∀ n : Fin 201, valNum (Lib.itoa (n.val : Int)) = some n.val ∧ (Lib.itoa (n.val : Int)).all (fun b => b != 32 && b != 58) = true := by decide +kernel
theorem valNum_itoa {n : Nat} (h : n ≤ 200) : valNum (Lib.itoa (n : Int)) = some n := (itoa_num ⟨n, by omega⟩).1
theorem itoa_no {n : Nat} (h : n ≤ 200) : ∀ b ∈ Lib.itoa (n : Int), b ≠ 32 ∧ b ≠ 58 := by
  have := List.all_eq_true.1 (itoa_num ⟨n, by omega⟩).2
  intro b hb
  have := this b hb
  simpa using this
theorem cutNum_itoa {n : Nat} (h : n ≤ 200) {c : UInt8} (hc : c = 32 ∨ c = 58) (r : List UInt8) : cutNum (Lib.itoa (n : Int) ++ c :: r) c = some (n, r) := by
  unfold cutNum
  have hno : ∀ b ∈ Lib.itoa (n : Int), b ≠ c := fun b hb => by
    rcases hc with rfl | rfl
    · exact (itoa_no h b hb).1
    · exact (itoa_no h b hb).2
  rw [cutSB_at hno]
  simp only [valNum_itoa h, Option.map_some]
theorem entry_wr {x : Ed} (h : scrOneE x = 0) (r : List UInt8) : entryR (wrE x ++ r) = some (x, r) := by
  obtain ⟨h0, h1, h2, h3, h4⟩ := scrOne_zero h
  obtain ⟨xa, xd, xi⟩ := x
  simp only at h0 h1 h2 h3 h4
  obtain ⟨a, rfl⟩ := Int.eq_ofNat_of_zero_le h0
  obtain ⟨d, rfl⟩ := Int.eq_ofNat_of_zero_le h2
  have e : wrE ⟨(a : Int), (d : Int), xi⟩ ++ r = Lib.itoa (a : Int) ++ 32 :: (Lib.itoa (d : Int) ++ 32 :: (Lib.itoa (xi.length : Int) ++ 58 :: (xi ++ 59 :: r))) := by
    unfold wrE; simp [List.append_assoc]
  rw [e]
  unfold entryR
  rw [cutNum_itoa (by omega) (.inl rfl)]
  simp only
  rw [cutNum_itoa (by omega) (.inl rfl)]
  simp only
  rw [cutNum_itoa (by omega) (.inr rfl)]
  simp only
  unfold rest3
  rw [if_pos ⟨by rw [List.length_append, List.length_cons]; omega, by rw [List.getD_eq_getElem?_getD, List.getElem?_append_right (Nat.le_refl _)]; simp⟩]
  simp
theorem wrE_ne (x : Ed) (r : List UInt8) : wrE x ++ r ≠ [] := by
  unfold wrE; intro h
  have := congrArg List.length h
  simp at this
theorem read_wr {l : List Ed} (h : ∀ x ∈ l, scrOneE x = 0) : readR (wrL l) = some l := by
  induction l with
  | nil => rfl
  | cons x l ih =>
    have e : wrL (x :: l) = wrE x ++ wrL l := rfl
    rw [e, readR_step (wrE_ne x _), entry_wr (h x List.mem_cons_self)]
    simp only
    rw [ih (fun y hy => h y (List.mem_cons_of_mem _ hy))]
    rfl
theorem scr_of_ed {n : Int} {l : List Ed} (h : edErr n l = 0) : scrErr l = 0 := by
  obtain ⟨h0, h1, h2, hc, _⟩ := edErr_zero.1 h
  refine scrErr_zero.2 ⟨h2, fun x hx => ?_⟩
  obtain ⟨a, b, c, d, _⟩ := hc.mem x hx
  unfold scrOneE
  rw [if_neg (by omega), if_neg (by omega)]
theorem readG_wr {n : Int} {l : List Ed} (h : edErr n l = 0) : readG (wrL l) = l := by
  unfold readG
  rw [read_wr (scrErr_zero.1 (scr_of_ed h)).2]; rfl
theorem step_b (s t : List UInt8) : leafStep s (98 :: t) = t := by unfold leafStep; simp
theorem step_e {s : List UInt8} {n : Int} {l : List Ed} (h : edErr n l = 0) : leafStep s (101 :: wrL l) = edDone s l := by
  have e : leafStep s (101 :: wrL l) = edDone s (readG (wrL l)) := if_neg (by simp)
  rw [e, readG_wr h]
theorem good_len : ∀ {rs : List (List UInt8)} {s : List UInt8}, good s rs → ∀ r ∈ rs, r.length ≤ 1100
  | [], _, _, r, hr => by cases hr
  | q :: rs, s, h, r, hr => by
    rcases List.mem_cons.1 hr with rfl | hr
    · exact h.1
    · exact good_len h.2.2 r hr
theorem good_take : ∀ {rs : List (List UInt8)} {s : List UInt8}, good s rs → ∀ j, good s (rs.take j)
  | [], _, _, j => by simp [good]
  | _ :: _, _, _, 0 => trivial
  | _ :: _, _, h, j + 1 => ⟨h.1, h.2.1, good_take h.2.2 j⟩
theorem good_snoc : ∀ {rs : List (List UInt8)} {s : List UInt8} {r : List UInt8}, good s rs → good (play s rs) [r] → good s (rs ++ [r])
  | [], _, _, _, h => h
  | _ :: _, _, _, h, k => ⟨h.1, h.2.1, good_snoc h.2.2 k⟩
theorem play_snoc (s : List UInt8) (rs : List (List UInt8)) (r : List UInt8) : play s (rs ++ [r]) = leafStep (play s rs) r := by unfold play; rw [List.foldl_append]; rfl
theorem leaDone_len {s : List UInt8} {l : List Ed} (h : edErr s.length l = 0) : (edDone s l).length ≤ 200 := by
  obtain ⟨_, _, _, hc, hf⟩ := edErr_zero.1 h
  have hl := edTo_length rfl hc (k := 0) rfl (Nat.zero_le _)
  rw [edDone_is h]
  omega
theorem good_text : ∀ {rs : List (List UInt8)} {s : List UInt8}, good s rs → s.length ≤ 200 → (play s rs).length ≤ 200
  | [], _, _, h => h
  | q :: rs, s, h, _ => by
    refine good_text (rs := rs) (s := leafStep s q) h.2.2 ?_
    rcases h.2.1 with ⟨t, rfl, ht⟩ | ⟨l, rfl, hl⟩
    · rw [step_b]; exact ht
    · rw [step_e hl]; exact leaDone_len hl
end Go.Proofs.YtplgghjdidmcfaaGreatDoor
namespace Go.Proofs.YtplgghjdidmcfaaGreatDoor
open Go.RowKit
/-- Block g is these cells. -/
def Blk (w : World) (g : Nat) (t : TypeId) (cs : Array Value) : Prop := w.heap[g]? = some (.cells cs t (0, 0))
section
variable {w w' : World} {g : Nat} {t : TypeId} {cs : Array Value}
theorem Blk.lt (h : Blk w g t cs) : g < w.heap.size := (Array.getElem?_eq_some_iff.1 h).1
theorem Blk.cell (h : Blk w g t cs) (i : Nat) : w.cell? ⟨g, i, none⟩ = cs[i]? := cell_of_row w g i cs t (0, 0) h
theorem Blk.cell0 {a : Value} {r : List Value} (h : Blk w g t ⟨a :: r⟩) : w.cell? ⟨g, 0, none⟩ = some a := h.cell 0
theorem Blk.cell1 {a b : Value} {r : List Value} (h : Blk w g t ⟨a :: b :: r⟩) : w.cell? ⟨g, 1, none⟩ = some b := h.cell 1
theorem Blk.cell2 {a b c : Value} {r : List Value} (h : Blk w g t ⟨a :: b :: c :: r⟩) : w.cell? ⟨g, 2, none⟩ = some c := h.cell 2
theorem Blk.frozen (h : Blk w g t cs) (i : Nat) : w.frozen? ⟨g, i, none⟩ = false := by
  unfold Blk at h
  simp [World.frozen?, h]
theorem Blk.new_ (w : World) (t : TypeId) (cs : Array Value) : Blk (w.alloc (.cells cs t)) w.heap.size t cs := heap_alloc_new w _
theorem Blk.drew (h : Blk w g t cs) : Blk w.drew g t cs := h
theorem Blk.drewN (h : Blk w g t cs) (n : Nat) : Blk (w.drewN n) g t cs := h
theorem Blk.below {B : Nat} (h : Blk w g t cs) (hb : Below B w w') (hg : g < B) : Blk w' g t cs := (hb.block g hg).trans h
theorem Blk.below' (h : Blk w g t cs) (hb : Below w.heap.size w w') : Blk w' g t cs := h.below hb h.lt
theorem Blk.alloc (h : Blk w g t cs) (o : Obj) : Blk (w.alloc o) g t cs := h.below' ((Below.refl _ _).alloc (Nat.le_refl _) _)
theorem Blk.set_ (h : Blk w g t cs) (i : Nat) (u : Value) : Blk (w.setCell ⟨g, i, none⟩ u) g t (cs.setIfInBounds i u) := by
  unfold Blk at h ⊢
  simp [World.setCell, Array.getElem?_modify, h]
theorem Blk.far (h : Blk w g t cs) {p : Addr} (hp : g ≠ p.block) (u : Value) : Blk (w.setCell p u) g t cs := (Below.heap_setCell w p u g hp).trans h
theorem Blk.grown {row : Option Nat} (h : Blk w g t cs) (hb : w.grownBy w' row) (hg : some g ≠ row) : Blk w' g t cs := (hb.block g h.lt hg).trans h
end
section
variable {w w' w2 : World} {row : Option Nat} {g : Nat}
theorem gb_refl (w : World) (row : Option Nat) : w.grownBy w row := ⟨rfl, rfl, rfl, Nat.le_refl _, fun _ _ _ => rfl⟩
theorem gb_trans (h : w.grownBy w' row) (k : w'.grownBy w2 row) : w.grownBy w2 row :=
  ⟨k.os.trans h.os, k.tape.trans h.tape, k.output.trans h.output, Nat.le_trans h.size k.size, fun i hi hr => (k.block i (Nat.lt_of_lt_of_le hi h.size) hr).trans (h.block i hi hr)⟩
theorem gb_of_below (h : Below w.heap.size w w') (row : Option Nat) : w.grownBy w' row := ⟨h.os, h.tape, h.output, h.size, fun k hk _ => h.block k hk⟩
theorem gb_below (h : w.grownBy w' row) (k : Below w'.heap.size w' w2) : w.grownBy w2 row := gb_trans h (gb_of_below k row)
theorem gb_set (h : w.grownBy w' (some g)) (i : Nat) (u : Value) : w.grownBy (w'.setCell ⟨g, i, none⟩ u) (some g) :=
  gb_trans h ⟨rfl, rfl, rfl, by simp [World.setCell], fun k _ hk => Below.heap_setCell w' ⟨g, i, none⟩ u k (fun e => hk (by rw [e]))⟩
theorem gb_alloc (h : w.grownBy w' row) (o : Obj) : w.grownBy (w'.alloc o) row := gb_below h ((Below.refl _ _).alloc (Nat.le_refl _) _)
theorem gb_drewN (h : w.grownBy w' row) (n : Nat) : w.grownBy (w'.drewN n) row := gb_below h (below_drewN (Below.refl _ _) _)
theorem gb_drew (h : w.grownBy w' row) : w.grownBy w'.drew row := gb_below h (Below.drew (Below.refl _ _))
theorem below_gb {base : Nat} {a : World} (h : Below base a w) (hg : w.grownBy w' (some g)) (hb : base ≤ g) (hs : base ≤ w.heap.size) : Below base a w' :=
  h.grown hg hs (fun k hk => by cases hk; exact hb)
end
end Go.Proofs.YtplgghjdidmcfaaGreatDoor
namespace Go.Proofs.YtplgghjdidmcfaaGreatDoor
open Go.RowKit
def appErr (d rec : ByteArray) : Int := if 1100 < rec.size then 2 else if 4000 < d.size + (rec.size + 6) then 11 else 0
def appD (d rec : ByteArray) : ByteArray := if appErr d rec = 0 then d ++ S (frameL (L rec)) else d
theorem appD_size (d rec : ByteArray) (h : d.size ≤ 4000) : (appD d rec).size ≤ 4000 ∧ d.size ≤ (appD d rec).size := by
  unfold appD
  split
  · rename_i h0
    unfold appErr at h0
    rw [ByteArray.size_append, S_size, frameL_length, L_len]
    split at h0
    · cases h0
    · split at h0
      · cases h0
      · omega
  · omega
def craErr (d : ByteArray) (sf : Nat) (keep : Int) : Int := if keep < 0 ∨ (d.size : Int) - sf < keep then 1 else 0
def craS (d : ByteArray) (sf : Nat) (keep : Int) : ByteArray := d.extract 0 (sf + keep.toNat)
def craN (d : ByteArray) (sf : Nat) (keep : Int) : Nat := (scanL (L (craS d sf keep))).2
def craD (d : ByteArray) (sf : Nat) (keep : Int) : ByteArray := if craErr d sf keep = 0 then (craS d sf keep).extract 0 (craN d sf keep) else d
def craF (d : ByteArray) (sf : Nat) (keep : Int) : Nat := if craErr d sf keep = 0 then craN d sf keep else sf
theorem cra_size (d : ByteArray) (sf : Nat) (keep : Int) (h : d.size ≤ 4000) (hs : sf ≤ d.size) : (craD d sf keep).size ≤ 4000 ∧ craF d sf keep ≤ (craD d sf keep).size := by
  unfold craD craF
  split
  · have h1 := scanL_le (L (craS d sf keep))
    rw [L_len] at h1
    change craN d sf keep ≤ _ at h1
    have h2 : (craS d sf keep).size ≤ d.size := by unfold craS; rw [ByteArray.size_extract]; omega
    rw [ByteArray.size_extract]
    omega
  · omega
/-- A log lies in a block. -/
def LogAt (w : World) (g : Nat) (t : TypeId) (d : ByteArray) (sf : Nat) : Prop := Blk w g t #[.string d, .int .i64 (sf : Int)]
theorem LogAt.cells {w : World} {g : Nat} {t : TypeId} {d : ByteArray} {sf : Nat} (h : LogAt w g t d sf) :
    w.cell? ⟨g, 0, none⟩ = some (.string d) ∧ w.cell? ⟨g, 1, none⟩ = some (.int .i64 (sf : Int)) ∧ w.frozen? ⟨g, 0, none⟩ = false ∧ w.frozen? ⟨g, 1, none⟩ = false ∧ g < w.heap.size :=
  ⟨Blk.cell h 0, Blk.cell h 1, Blk.frozen h 0, Blk.frozen h 1, Blk.lt h⟩
set_option maxRecDepth 100000 in
set_option maxHeartbeats 1000000 in
theorem lgAppend_any (g : Nat) (d rec : ByteArray) (sf : Nat) (w : World) (h : LogAt w g 187 d sf) (hd : d.size ≤ 4000) :
    Calls Tryz.prog 115 #[.pointer (some ⟨g, 0, none⟩), .string rec] w fun e w' => e = .returned (.int .i64 (appErr d rec)) ∧ LogAt w' g 187 (appD d rec) sf ∧ w.grownBy w' (some g) := by
  have HH := Lib.hid h; clear h
  by_cases hr : 1100 < rec.size
  · have HE : Hid (appErr d rec = 2) := by unfold Hid appErr; rw [if_pos hr]
    have HD : Hid (appD d rec = d) := by unfold Hid appD; rw [HE.out, if_neg (by decide)]
    go_enter Tryz.func115, Tryz.ntmps115
    go_wp2_with fail
    refine (frame_large rec hr _).mono ?_
    rintro e w1 ⟨rfl, hb1⟩
    go_wp2_with fail
    go_ret
    exact ⟨ret_int HE.out.symm, by rw [HD.out]; exact HH.out.below' hb1, gb_of_below hb1 _⟩
  · have hz : (S (frameL (L rec))).size = rec.size + 6 := by rw [S_size, frameL_length, L_len]
    have HZ := Lib.hid hz
    have hz1 : (S (frameL (L rec))).size ≤ 1106 := by omega
    have HE : Hid (appErr d rec = if 4000 < d.size + (S (frameL (L rec))).size then 11 else 0) := by unfold Hid appErr; rw [if_neg hr, hz]
    clear hz
    by_cases hf : 4000 < d.size + (S (frameL (L rec))).size
    · rw [Hid, if_pos hf] at HE
      have HE := Lib.hid HE
      have HD : Hid (appD d rec = d) := by unfold Hid appD; rw [HE.out, if_neg (by decide)]
      go_enter Tryz.func115, Tryz.ntmps115
      go_wp2_with fail
      refine (frame_any rec (by omega) _).mono ?_
      rintro e w1 ⟨rfl, hb1⟩
      have H1 : LogAt w1 g 187 d sf := HH.out.below' hb1
      have HH1 := Lib.hid H1
      obtain ⟨c0, c1, f0, f1, hlt⟩ := LogAt.cells H1
      clear H1
      generalize S (frameL (L rec)) = F at *
      go_wp2_with fail
      go_ret
      exact ⟨ret_int HE.out.symm, by rw [HD.out]; exact HH1.out, gb_of_below hb1 _⟩
    · rw [Hid, if_neg hf] at HE
      have HE := Lib.hid HE
      have HD : Hid (appD d rec = d ++ S (frameL (L rec))) := by unfold Hid appD; rw [HE.out, if_pos rfl]
      go_enter Tryz.func115, Tryz.ntmps115
      go_wp2_with fail
      refine (frame_any rec (by omega) _).mono ?_
      rintro e w1 ⟨rfl, hb1⟩
      have H1 : LogAt w1 g 187 d sf := HH.out.below' hb1
      have HH1 := Lib.hid H1
      obtain ⟨c0, c1, f0, f1, hlt⟩ := LogAt.cells H1
      clear H1
      generalize S (frameL (L rec)) = F at *
      go_wp2_with fail
      go_ret
      exact ⟨ret_int HE.out.symm, by rw [HD.out]; exact Blk.set_ HH1.out 0 _, gb_set (gb_of_below hb1 _) _ _⟩
set_option maxRecDepth 100000 in
set_option maxHeartbeats 1000000 in
theorem lgSync_any (g : Nat) (d : ByteArray) (sf : Nat) (w : World) (h : LogAt w g 187 d sf) :
    Calls Tryz.prog 58 #[.pointer (some ⟨g, 0, none⟩)] w fun e w' => e = .returned (.tuple #[]) ∧ LogAt w' g 187 d d.size ∧ w.grownBy w' (some g) := by
  have HH := Lib.hid h
  obtain ⟨c0, c1, f0, f1, hlt⟩ := LogAt.cells h
  clear h
  go_enter Tryz.func58, Tryz.ntmps58
  go_wp2_with fail
  go_end0
  exact ⟨rfl, Blk.set_ HH.out 1 _, gb_set (gb_refl _ _) _ _⟩
set_option maxRecDepth 100000 in
set_option maxHeartbeats 1000000 in
theorem lgAll_any (g : Nat) (d : ByteArray) (sf : Nat) (w : World) (h : LogAt w g 187 d sf) (hd : d.size ≤ 4000) :
    Calls Tryz.prog 119 #[.pointer (some ⟨g, 0, none⟩)] w fun e w' => ∃ v, e = .returned v ∧ w'.ownsRow w.heap.size 9 1 v (scanL (L d)).1.length (strCells (scanL (L d)).1) ∧ Below w.heap.size w w' := by
  obtain ⟨c0, c1, f0, f1, hlt⟩ := LogAt.cells h
  clear h
  go_enter Tryz.func119, Tryz.ntmps119
  go_wp2_with fail
  refine (scan_any d (by omega) _).mono ?_
  rintro e w1 ⟨v1, rfl, hown1, hb1⟩
  go_wp2_with fail
  go_ret
  exact ⟨v1, rfl, hown1, hb1⟩
set_option maxRecDepth 100000 in
set_option maxHeartbeats 2000000 in
theorem lgCrash_any (g : Nat) (d : ByteArray) (sf : Nat) (keep : Int) (w : World) (h : LogAt w g 187 d sf) (hd : d.size ≤ 4000) (hs : sf ≤ d.size) :
    Calls Tryz.prog 60 #[.pointer (some ⟨g, 0, none⟩), .int .i64 keep] w fun e w' => e = .returned (.int .i64 (craErr d sf keep)) ∧ LogAt w' g 187 (craD d sf keep) (craF d sf keep) ∧ w.grownBy w' (some g) := by
  have HH := Lib.hid h
  obtain ⟨c0, c1, f0, f1, hlt⟩ := LogAt.cells h
  clear h
  by_cases hk0 : keep < 0
  · have g0 : decide (keep < 0) = true := decide_eq_true hk0
    have HE : Hid (craErr d sf keep = 1) := by unfold Hid craErr; rw [if_pos (.inl hk0)]
    have HD : Hid (craD d sf keep = d ∧ craF d sf keep = sf) := by unfold Hid craD craF; rw [HE.out, if_neg (by decide), if_neg (by decide)]; exact ⟨rfl, rfl⟩
    go_enter Tryz.func60, Tryz.ntmps60
    go_wp2_with fail
    go_quiet (fail)
    go_wp2_with fail
    go_ret
    exact ⟨ret_int HE.out.symm, by rw [HD.out.1, HD.out.2]; exact Blk.drewN HH.out _, gb_of_below (by repeat (first | exact Below.refl _ _ | assumption | refine Below.alloc ?_ (by first | exact Nat.le_refl _ | assumption | omega | (simp <;> omega)) _ | refine Below.setCell ?_ (by first | exact Nat.le_refl _ | assumption | omega | (simp <;> omega)) _ | refine Below.drew ?_ | refine below_drewN ?_ _)) _⟩
  have g0 : decide (keep < 0) = false := decide_eq_false hk0
  by_cases hk1 : (d.size : Int) - (sf : Int) < keep
  · have g1 : decide ((d.size : Int) - (sf : Int) < keep) = true := decide_eq_true hk1
    have HE : Hid (craErr d sf keep = 1) := by unfold Hid craErr; rw [if_pos (.inr hk1)]
    have HD : Hid (craD d sf keep = d ∧ craF d sf keep = sf) := by unfold Hid craD craF; rw [HE.out, if_neg (by decide), if_neg (by decide)]; exact ⟨rfl, rfl⟩
    go_enter Tryz.func60, Tryz.ntmps60
    go_wp2_with fail
    go_quiet (fail)
    go_wp2_with fail
    go_ret
    exact ⟨ret_int HE.out.symm, by rw [HD.out.1, HD.out.2]; exact Blk.drewN HH.out _, gb_of_below (by repeat (first | exact Below.refl _ _ | assumption | refine Below.alloc ?_ (by first | exact Nat.le_refl _ | assumption | omega | (simp <;> omega)) _ | refine Below.setCell ?_ (by first | exact Nat.le_refl _ | assumption | omega | (simp <;> omega)) _ | refine Below.drew ?_ | refine below_drewN ?_ _)) _⟩
  have g1 : decide ((d.size : Int) - (sf : Int) < keep) = false := decide_eq_false hk1
  have HE : Hid (craErr d sf keep = 0) := by unfold Hid craErr; rw [if_neg (by omega)]
  have HD : Hid (craD d sf keep = (craS d sf keep).extract 0 (craN d sf keep) ∧ craF d sf keep = craN d sf keep) := by unfold Hid craD craF; rw [HE.out, if_pos rfl, if_pos rfl]; exact ⟨rfl, rfl⟩
  obtain ⟨k, rfl⟩ := Int.eq_ofNat_of_zero_le (show 0 ≤ keep by omega)
  have HS : Hid (craS d sf (k : Int) = d.extract 0 (sf + k)) := rfl
  have hsz : (d.extract 0 (sf + k)).size ≤ 4000 := by rw [ByteArray.size_extract]; omega
  go_enter Tryz.func60, Tryz.ntmps60
  go_wp2_with fail
  go_quiet (fail)
  go_wp2_with fail
  go_quiet (fail)
  go_wp2_with fail
  refine (scan_any (d.extract 0 (sf + k)) (by omega) _).mono ?_
  rintro e w1 ⟨v1, rfl, hown1, hb1⟩
  have hb1' : Below w.heap.size w w1 := bthen (below_drewN (Below.refl _ _) _) hb1
  have H1 : LogAt w1 g 187 d sf := HH.out.below' hb1'
  have HH1 := Lib.hid H1
  clear hown1 c0 c1 f0 f1 hlt
  obtain ⟨c0, c1, f0, f1, hlt⟩ := LogAt.cells H1
  clear H1 hb1
  have hle := scanL_le (L (d.extract 0 (sf + k)))
  rw [L_len] at hle
  have HN : Hid (craN d sf (k : Int) = (scanL (L (d.extract 0 (sf + k)))).2) := rfl
  generalize (scanL (L (d.extract 0 (sf + k)))).2 = n at *
  generalize d.extract 0 (sf + k) = ds at *
  go_wp2_with fail
  go_ret
  exact ⟨ret_int HE.out.symm, by rw [HD.out.1, HD.out.2, HS.out, HN.out]; exact Blk.set_ (Blk.set_ HH1.out 0 _) 1 _, gb_set (gb_set (gb_of_below hb1' _) _ _) _ _⟩
end Go.Proofs.YtplgghjdidmcfaaGreatDoor
