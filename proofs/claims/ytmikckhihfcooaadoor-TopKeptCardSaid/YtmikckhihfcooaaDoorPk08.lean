/- The walks of package sum and of the reference's checksum. Frames and what a scan finds, as functions on lists of bytes; the program's test and the reference's agree. No program in sight. The walks of package log's frames and scans, and of the reference's. -/
import Derived.Test.YtmikckhihfcooaaDoorPk07
import Derived.Test.YtmikckhihfcooaaDoorPk06
namespace Go.Proofs.YtmikckhihfcooaaDoor
open Go.RowKit
set_option maxRecDepth 100000 in
set_option maxHeartbeats 400000 in
theorem sumOf_any (s : ByteArray) (w : World) (hs : s.size ≤ 140737488351232) :
    Calls Tryd.prog 51 #[.string s] w fun e w' => e = .returned (.int .u32 (sumNat (L s) : Nat)) ∧ Below w.heap.size w w' := by
  have hcv := fun W => Lib.run_convert_string_bytes (P := Tryd.prog) W 9 81 5 s Tryd.underlying9 Tryd.underlying81 Tryd.underlying5
  go_enter Tryd.func51, Tryd.ntmps51
  go_wp2
  have hW : Below w.heap.size w (Lib.bytesWorld w 5 s) := bytesWorld_below w _ s
  have hcells := Lib.bytesWorld_cell w 5 s
  generalize Lib.bytesWorld w 5 s = w1 at hW hcells ⊢
  have Hc := Lib.hid hcells; clear hcells
  clear hcv
  go_loop [3, 9] (fun x i => ∃ k : Nat, k ≤ s.size ∧ i = .int .i64 k ∧ x = .int .u32 (lsbAll 4294967295 (s.data.toList.take k) : Nat)) (fun _ i => s.size - (intOf i).toNat)
  case atStart => exact ⟨0, Nat.zero_le _, rfl, rfl⟩
  case round =>
    obtain ⟨k, hk, rfl, rfl⟩ := hrel
    have hX := lsbAll_lt (s.data.toList.take k)
    have HN : Hid (k < s.size → lsbAll 4294967295 (s.data.toList.take (k + 1)) = lsbN 8 (lsbAll 4294967295 (s.data.toList.take k) ^^^ (s.data.toList.getD k 0).toNat)) := fun h => lsbAll_snoc _ _ k (by rw [blen]; exact h)
    have HE : Hid (k = s.size → lsbAll 4294967295 (s.data.toList.take k) = lsbAll 4294967295 s.data.toList) := fun h => by rw [List.take_of_length_le (by rw [blen]; omega)]
    generalize lsbAll 4294967295 (s.data.toList.take k) = X at *
    by_cases hlt : k < s.size
    · have hc := Hc.out k hlt
      have hb : (s.data.toList.getD k 0).toNat < 256 := UInt8.toNat_lt _
      have hxor := u32_xor_nat X (s.data.toList.getD k 0).toNat hX (by omega)
      generalize (s.data.toList.getD k 0).toNat = c at *
      go_wp2
      go_loop [3, 17] (fun x i => ∃ j : Nat, j ≤ 8 ∧ i = .int .i64 j ∧ x = .int .u32 (lsbN j (X ^^^ c) : Nat)) (fun _ i => 8 - (intOf i).toNat)
      case atStart => exact ⟨0, Nat.zero_le _, rfl, rfl⟩
      case round =>
        obtain ⟨j, hj, rfl, rfl⟩ := hrel
        by_cases hlt8 : j < 8
        · have hY : lsbN j (X ^^^ c) < 4294967296 := lsbN_lt _ _ (Nat.xor_lt_two_pow (n := 32) hX (by omega))
          have HS : Hid (lsbN (j + 1) (X ^^^ c) = lsb (lsbN j (X ^^^ c))) := rfl
          generalize lsbN j (X ^^^ c) = Y at *
          go_wp2
          go_round
          case rel => exact ⟨j + 1, by omega, by go_num, by rw [HS.out, lsb_walk Y hY]⟩
          case measure => simp [intOf]; omega
        · obtain rfl : j = 8 := by omega
          go_wp2
          go_round
          case rel => exact ⟨k + 1, by omega, by go_num, by rw [HN.out hlt]⟩
          case measure => simp [intOf]; omega
    · have hs32 : IntKind.u32.signed = false := rfl
      have HE' := Lib.hid (HE.out (by omega)); clear HE
      go_wp2
      go_ret
      exact ⟨ret_int (by rw [not_walk X hX, HE'.out]; rfl), hW⟩
/-- The four bytes of a sum. -/
def fourL (x : Nat) : List UInt8 := [UInt8.ofNat x, UInt8.ofNat (x / 256), UInt8.ofNat (x / 65536), UInt8.ofNat (x / 16777216)]
def fourB (x : Nat) : ByteArray := ⟨(fourL x).toArray⟩
theorem four_cells (x : Nat) (hx : x < 4294967296) : (#[Value.int .u8 ((x : Int) % 256), .int .u8 ((x : Int) / 256 % 256), .int .u8 ((x : Int) / 65536 % 256), .int .u8 ((x : Int) / 16777216)] : Array Value).toList = byteCells (fourL x) := by
  have h0 : (x : Int) % 256 = ((UInt8.ofNat x).toNat : Int) := by rw [UInt8.toNat_ofNat']; omega
  have h1 : (x : Int) / 256 % 256 = ((UInt8.ofNat (x / 256)).toNat : Int) := by rw [UInt8.toNat_ofNat']; omega
  have h2 : (x : Int) / 65536 % 256 = ((UInt8.ofNat (x / 65536)).toNat : Int) := by rw [UInt8.toNat_ofNat']; omega
  have h3 : (x : Int) / 16777216 = ((UInt8.ofNat (x / 16777216)).toNat : Int) := by rw [UInt8.toNat_ofNat']; omega
  rw [h0, h1, h2, h3]
  rfl
theorem four_conv (x : Nat) (hx : x < 4294967296) (w : World) :
    (convert 81 9 (.slice (some ⟨w.heap.size, 0, none⟩) 4 4)).run Tryd.prog (w.alloc (.cells #[Value.int .u8 ((x : Int) % 256), .int .u8 ((x : Int) / 256 % 256), .int .u8 ((x : Int) / 65536 % 256), .int .u8 ((x : Int) / 16777216)] 5)) =
      .ok (.string (fourB x)) (w.alloc (.cells #[Value.int .u8 ((x : Int) % 256), .int .u8 ((x : Int) / 256 % 256), .int .u8 ((x : Int) / 65536 % 256), .int .u8 ((x : Int) / 16777216)] 5)) :=
  run_bytes_string _ Tryd.underlying81 Tryd.underlying5 Tryd.underlying9 (A := some ⟨w.heap.size, 0, none⟩) (n := 4) (c := 4) (B := w.heap.size + 1) (l := fourL x)
    (by rw [← four_cells x hx]; exact Rd.new_ (n := 4) (size := 1) w _ _ (Nat.lt_succ_self _) rfl)
set_option maxRecDepth 100000 in
set_option maxHeartbeats 400000 in
theorem sumBytes_any (x : Nat) (hx : x < 4294967296) (w : World) :
    Calls Tryd.prog 50 #[.int .u32 (x : Int)] w fun e w' => e = .returned (.string (fourB x)) ∧ Below w.heap.size w w' := by
  have hcv := four_conv x hx w
  go_enter Tryd.func50, Tryd.ntmps50
  go_wp2
  go_ret
  exact ⟨rfl, (Below.refl _ _).alloc (Nat.le_refl _) _⟩
/-- Right: the last four bytes are the sum of the others. -/
def rightB (s : ByteArray) : Bool := decide (4 ≤ s.size) && ((fourB (sumNat (L (s.extract 0 (s.size - 4))))).toList == (s.extract (s.size - 4) s.size).toList)
set_option maxRecDepth 100000 in
set_option maxHeartbeats 400000 in
theorem sumRight_any (s : ByteArray) (hs : s.size ≤ 140737488351232) (w : World) :
    Calls Tryd.prog 59 #[.string s] w fun e w' => e = .returned (.bool (rightB s)) ∧ Below w.heap.size w w' := by
  by_cases h4 : 4 ≤ s.size
  · have HR : Hid (rightB s = ((fourB (sumNat (L (s.extract 0 (s.size - 4))))).toList == (s.extract (s.size - 4) s.size).toList)) := by
      unfold Hid rightB; simp [h4]
    have hg2 : decide ((4 : Int) ≤ (s.size : Int)) = true := by simp; omega
    have hg3 : decide (4 ≤ s.size) = true := by simp; omega
    go_enter Tryd.func59, Tryd.ntmps59
    go_wp2_with fail
    refine wp_region_quiet_below (by kernel_rfl) (by kernel_rfl) ?_
    repeat (go_big_quiet_step ((first
      | (go_at_call 51; exact Calls.regrown_of (sumOf_any _ _ (by first | omega | (simp <;> omega))))
      | (go_at_call 50; exact Calls.regrown_of (sumBytes_any _ (sumNat_lt _) _)))))
    refine wpQuiet_nil ?_
    intro w2 hb20
    have hb2 := below_of_regrown hb20
    clear hb20
    go_wp2
    go_ret
    exact ⟨ret_bool HR.out.symm, hb2⟩
  · have HR : Hid (rightB s = false) := by
      unfold Hid rightB; simp [h4]
    have hg2 : decide ((4 : Int) ≤ (s.size : Int)) = false := by simp; omega
    have hg3 : decide (4 ≤ s.size) = false := by simp; omega
    go_enter Tryd.func59, Tryd.ntmps59
    go_wp2_with fail
    refine wp_region_quiet_below (by kernel_rfl) (by kernel_rfl) ?_
    repeat (go_big_quiet_step (fail))
    refine wpQuiet_nil ?_
    intro w2 hb20
    have hb2 := below_of_regrown hb20
    clear hb20
    go_wp2
    go_ret
    exact ⟨ret_bool HR.out.symm, hb2⟩
theorem right_more (s : ByteArray) (h : 4 < s.size) : rightB s = ((fourB (sumNat (L (s.extract 0 (s.size - 4))))).toList == (s.extract (s.size - 4) s.size).toList) := by
  unfold rightB; simp; omega
theorem right_four (s : ByteArray) (h : s.size = 4) : rightB s = ((fourB (sumNat (L ByteArray.empty))).toList == (s.extract 0 4).toList) := by
  unfold rightB; rw [h]
  have : s.extract 0 (4 - 4) = ByteArray.empty := by simp
  rw [this]; simp
theorem right_less (s : ByteArray) (h : s.size < 4) : rightB s = false := by
  unfold rightB; simp; omega
end Go.Proofs.YtmikckhihfcooaaDoor
namespace Go.Proofs.YtmikckhihfcooaaDoor
/-- A record's number in the frame that begins here. -/
def headNum (l : List UInt8) : Nat := (l.getD 0 0).toNat * 256 + (l.getD 1 0).toNat
def sumEnd (l : List UInt8) : List UInt8 := fourL (sumNat l)
def frameL (rec : List UInt8) : List UInt8 := (UInt8.ofNat (rec.length / 256) :: UInt8.ofNat rec.length :: rec) ++ sumEnd (UInt8.ofNat (rec.length / 256) :: UInt8.ofNat rec.length :: rec)
/-- Is there a whole frame here? -/
def frameOk (l : List UInt8) : Prop := 6 ≤ l.length ∧ headNum l ≤ 1100 ∧ headNum l + 6 ≤ l.length ∧ sumEnd (l.take (headNum l + 2)) = (l.drop (headNum l + 2)).take 4
instance (l : List UInt8) : Decidable (frameOk l) := by unfold frameOk; infer_instance
def recOf (l : List UInt8) : List UInt8 := (l.drop 2).take (headNum l)
def scanN : Nat → List UInt8 → List (List UInt8) × Nat
  | 0, _ => ([], 0)
  | f + 1, l => if frameOk l then (recOf l :: (scanN f (l.drop (headNum l + 6))).1, (scanN f (l.drop (headNum l + 6))).2 + headNum l + 6) else ([], 0)
def scanL (l : List UInt8) : List (List UInt8) × Nat := scanN l.length l

theorem scanN_more (f g : Nat) (l : List UInt8) (h1 : l.length ≤ f) (h2 : l.length ≤ g) : scanN f l = scanN g l := by
  induction f generalizing g l with
  | zero =>
    cases g with
    | zero => rfl
    | succ g =>
      have : ¬ frameOk l := fun h => by have := h.1; omega
      simp [scanN, this]
  | succ f ih =>
    cases g with
    | zero =>
      have : ¬ frameOk l := fun h => by have := h.1; omega
      simp [scanN, this]
    | succ g =>
      unfold scanN
      split
      · rw [ih g (l.drop (headNum l + 6)) (by rw [List.length_drop]; omega) (by rw [List.length_drop]; omega)]
      · rfl
theorem scanL_eq (l : List UInt8) : scanL l = if frameOk l then (recOf l :: (scanL (l.drop (headNum l + 6))).1, (scanL (l.drop (headNum l + 6))).2 + headNum l + 6) else ([], 0) := by
  unfold scanL
  rcases hl : l.length with _ | n
  · have : ¬ frameOk l := fun h => by have := h.1; omega
    simp [scanN, this]
  · rw [scanN]
    split
    · rw [scanN_more n (l.drop (headNum l + 6)).length _ (by rw [List.length_drop]; omega) (Nat.le_refl _)]
    · rfl
theorem scanL_ok {l : List UInt8} (h : frameOk l) : scanL l = (recOf l :: (scanL (l.drop (headNum l + 6))).1, (scanL (l.drop (headNum l + 6))).2 + headNum l + 6) := by rw [scanL_eq, if_pos h]
theorem scanL_no {l : List UInt8} (h : ¬ frameOk l) : scanL l = ([], 0) := by rw [scanL_eq, if_neg h]
theorem scanL_le (l : List UInt8) : (scanL l).2 ≤ l.length := by
  have key : ∀ n (l : List UInt8), l.length ≤ n → (scanL l).2 ≤ l.length := by
    intro n
    induction n with
    | zero => intro l h; rw [scanL_no (fun hh => by have := hh.1; omega)]; simp
    | succ n ih =>
      intro l h
      by_cases hf : frameOk l
      · rw [scanL_ok hf]
        have := ih (l.drop (headNum l + 6)) (by rw [List.length_drop]; omega)
        rw [List.length_drop] at this
        have := hf.2.2.1
        simp only
        omega
      · rw [scanL_no hf]; simp
  exact key _ l (Nat.le_refl _)
theorem scanL_count (l : List UInt8) : (scanL l).1.length * 6 ≤ l.length := by
  have key : ∀ n (l : List UInt8), l.length ≤ n → (scanL l).1.length * 6 ≤ l.length := by
    intro n
    induction n with
    | zero => intro l h; rw [scanL_no (fun hh => by have := hh.1; omega)]; simp
    | succ n ih =>
      intro l h
      by_cases hf : frameOk l
      · rw [scanL_ok hf]
        have := ih (l.drop (headNum l + 6)) (by rw [List.length_drop]; omega)
        rw [List.length_drop] at this
        have := hf.2.2.1
        simp only [List.length_cons]
        omega
      · rw [scanL_no hf]; simp
  exact key _ l (Nat.le_refl _)

theorem headNum_lt (l : List UInt8) : headNum l < 65536 := by
  unfold headNum
  have h1 := UInt8.toNat_lt (l.getD 0 0)
  have h2 := UInt8.toNat_lt (l.getD 1 0)
  omega
/-- The program's test of a frame. -/
theorem right_iff {l : List UInt8} {n : Nat} (hn : n + 6 ≤ l.length) : rightB (S (l.take (n + 6))) = true ↔ sumEnd (l.take (n + 2)) = (l.drop (n + 2)).take 4 := by
  unfold rightB
  have hl : (l.take (n + 6)).length = n + 6 := by rw [List.length_take]; omega
  rw [S_size, L_extract, L_S, hl, extract_S, L_S]
  rw [beqB]
  have e1 : List.take (n + 6 - 4 - 0) (List.drop 0 (List.take (n + 6) l)) = l.take (n + 2) := by rw [List.drop_zero, List.take_take]; congr 1; omega
  have e2 : List.take (n + 6 - (n + 6 - 4)) (List.drop (n + 6 - 4) (List.take (n + 6) l)) = (l.drop (n + 2)).take 4 := by
    rw [List.drop_take]; rw [List.take_take]; congr 1; omega
  rw [e1, e2]
  simp only [Bool.and_eq_true, decide_eq_true_eq]
  constructor
  · rintro ⟨_, h⟩; exact S_inj h
  · intro h; exact ⟨by omega, congrArg S h⟩
/-- The reference's test of a frame. -/
theorem frame_iff {l : List UInt8} (h6 : headNum l + 6 ≤ l.length) : frameL (recOf l) = l.take (headNum l + 6) ↔ sumEnd (l.take (headNum l + 2)) = (l.drop (headNum l + 2)).take 4 := by
  rcases l with _ | ⟨a, _ | ⟨b, r⟩⟩
  · simp only [List.length_nil] at h6; omega
  · simp only [List.length_cons, List.length_nil] at h6; omega
  · have hn : headNum (a :: b :: r) = a.toNat * 256 + b.toNat := rfl
    generalize hN : headNum (a :: b :: r) = n at *
    have hr : recOf (a :: b :: r) = r.take n := by unfold recOf; rw [hN]; rfl
    have hlen : (r.take n).length = n := by rw [List.length_take]; simp only [List.length_cons] at h6; omega
    have ha := UInt8.toNat_lt a
    have hb := UInt8.toNat_lt b
    have e1 : UInt8.ofNat (n / 256) = a := by
      have : n / 256 = a.toNat := by omega
      rw [this]; simp
    have e2 : UInt8.ofNat n = b := by
      apply UInt8.toNat_inj.1
      rw [UInt8.toNat_ofNat']; omega
    rw [hr]
    unfold frameL
    rw [hlen, e1, e2]
    have e3 : List.take (n + 2) (a :: b :: r) = a :: b :: r.take n := rfl
    have e4 : List.take (n + 6) (a :: b :: r) = (a :: b :: r.take n) ++ List.take 4 (List.drop (n + 2) (a :: b :: r)) := by
      rw [← e3]
      have : n + 6 = (n + 2) + 4 := by omega
      rw [this, List.take_add]
    rw [e3, e4]
    exact List.append_cancel_left_eq _ _ _ |>.to_iff
theorem frameL_length (rec : List UInt8) : (frameL rec).length = rec.length + 6 := by
  unfold frameL sumEnd fourL; simp
end Go.Proofs.YtmikckhihfcooaaDoor
namespace Go.Proofs.YtmikckhihfcooaaDoor
open Go.RowKit
def hdL (n : Nat) : List UInt8 := [UInt8.ofNat (n / 256), UInt8.ofNat n]
theorem hd_cells (n : Nat) (h : n ≤ 1100) : (#[Value.int .u8 ((n : Int) / 256), .int .u8 ((n : Int) % 256)] : Array Value).toList = byteCells (hdL n) := by
  have h0 : (n : Int) / 256 = ((UInt8.ofNat (n / 256)).toNat : Int) := by rw [UInt8.toNat_ofNat']; omega
  have h1 : (n : Int) % 256 = ((UInt8.ofNat n).toNat : Int) := by rw [UInt8.toNat_ofNat']; omega
  rw [h0, h1]; rfl
theorem frame_is (s : ByteArray) : S (hdL s.size) ++ s ++ fourB (sumNat (L (S (hdL s.size) ++ s))) = S (frameL (L s)) := by
  have h1 : S (hdL s.size) ++ s = S (UInt8.ofNat ((L s).length / 256) :: UInt8.ofNat (L s).length :: L s) := by
    rw [append_S, L_S, L_len]; rfl
  rw [h1, append_S, L_S]; rfl
theorem hd_size (n : Nat) : (S (hdL n)).size ≤ 2 := by rw [S_size]; exact Nat.le_refl _
theorem four_size (n : Nat) : (fourB n).size ≤ 4 := Nat.le_refl _
set_option maxRecDepth 100000 in
set_option maxHeartbeats 400000 in
theorem frame_any (s : ByteArray) (hs : s.size ≤ 1100) (w : World) :
    Calls Tryd.prog 35 #[.string s] w fun e w' => e = .returned (.tuple #[.string (S (frameL (L s))), .int .i64 0]) ∧ Below w.heap.size w w' := by
  have hcv := conv_new (P := Tryd.prog) Tryd.underlying81 Tryd.underlying5 Tryd.underlying9 w #[Value.int .u8 ((s.size : Int) / 256), .int .u8 ((s.size : Int) % 256)] (hdL s.size) 2 2 (hd_cells _ hs) rfl
  have HF := Lib.hid (frame_is s)
  have z1 := hd_size s.size
  have z3 : (S (hdL s.size) ++ s).size ≤ 1102 := by rw [ByteArray.size_append]; omega
  have z2 := four_size (sumNat (L (S (hdL s.size) ++ s)))
  go_enter Tryd.func35, Tryd.ntmps35
  go_wp2_with fail
  refine (sumOf_any _ _ (by omega)).mono ?_
  rintro e w2 ⟨rfl, hb2⟩
  go_wp2_with fail
  refine (sumBytes_any _ (sumNat_lt _) _).mono ?_
  rintro e w3 ⟨rfl, hb3⟩
  generalize fourB (sumNat (L (S (hdL s.size) ++ s))) = F at *
  go_wp2_with fail
  go_ret2
  exact ⟨by rw [HF.out]; rfl, bthen (((Below.refl _ _).alloc (Nat.le_refl _) _).trans (hb2.mono (by simp))) hb3⟩
set_option maxHeartbeats 400000 in
theorem frame_large (s : ByteArray) (hs : 1100 < s.size) (w : World) :
    Calls Tryd.prog 35 #[.string s] w fun e w' => e = .returned (.tuple #[.string (S []), .int .i64 2]) ∧ Below w.heap.size w w' := by
  go_enter Tryd.func35, Tryd.ntmps35
  go_wp2_with fail
  go_ret2
  exact ⟨rfl, Below.refl _ _⟩
/-- What a scan's relation holds at a place. -/
structure ScanAt (l : List UInt8) (at_ : Nat) (recs : List (List UInt8)) : Prop where
  count : recs.length * 6 ≤ at_
  le : at_ ≤ l.length
  recs : recs ++ (scanL (l.drop at_)).1 = (scanL l).1
  sum : at_ + (scanL (l.drop at_)).2 = (scanL l).2
theorem ScanAt.done {l : List UInt8} {at_ : Nat} {recs : List (List UInt8)} (h : ScanAt l at_ recs) (hn : ¬ frameOk (l.drop at_)) : recs = (scanL l).1 ∧ at_ = (scanL l).2 := by
  have h1 := h.recs; have h2 := h.sum
  rw [scanL_no hn] at h1 h2
  exact ⟨by simpa using h1, by simpa using h2⟩
theorem ScanAt.step {l : List UInt8} {at_ : Nat} {recs : List (List UInt8)} (h : ScanAt l at_ recs) (hn : frameOk (l.drop at_)) : ScanAt l (at_ + (headNum (l.drop at_) + 6)) (recs ++ [recOf (l.drop at_)]) := by
  have h1 := h.recs; have h2 := h.sum; have h3 := h.le
  have h4 := hn.2.2.1
  rw [List.length_drop] at h4
  rw [scanL_ok hn, List.drop_drop] at h1 h2
  exact ⟨by have := h.count; simp only [List.length_append, List.length_cons, List.length_nil]; omega, by omega, by simpa using h1, by simp only at h2; omega⟩
def strCells (l : List (List UInt8)) : List Value := l.map fun r => .string (S r)
theorem info_str : (Tryd.prog.info? 9).map (fun i => (i.zero, i.size, i.bytes)) = some (some (.string ByteArray.empty), 1, 16) := by kernel_rfl
set_option maxRecDepth 100000 in
set_option maxHeartbeats 1000000 in
theorem scan_any (s : ByteArray) (hs : s.size ≤ 16777216) (w : World) :
    Calls Tryd.prog 47 #[.string s] w fun e w' => ∃ v, e = .returned (.tuple #[v, .int .i64 ((scanL (L s)).2 : Nat)]) ∧
      w'.ownsRow w.heap.size 9 1 v (scanL (L s)).1.length (strCells (scanL (L s)).1) ∧ Below w.heap.size w w' := by
  obtain ⟨i0, hi0, hz0, hz1, hz2⟩ := info_parts info_str
  go_enter Tryd.func47, Tryd.ntmps47
  go_wp2
  go_loopw [4, 5] (fun v i wr => ∃ (at_ : Nat) (recs : List (List UInt8)), ScanAt (L s) at_ recs ∧ i = .int .i64 at_ ∧ wr.ownsRow w.heap.size 9 1 v recs.length (strCells recs) ∧ Below w.heap.size w wr)
    (fun _ i _ => s.size - (intOf i).toNat)
  case atStart => exact ⟨0, [], ⟨Nat.zero_le _, Nat.zero_le _, by simp, by simp⟩, rfl, World.ownsRow_nil _ _ _ _, Below.refl _ _⟩
  case round =>
    obtain ⟨at_, recs, HA, rfl, hown, hb⟩ := hrel
    have hle := HA.le
    rw [L_len] at hle
    by_cases h6 : at_ + 6 ≤ s.size
    · have ix0 := fun W => run_index_S (P := Tryd.prog) Tryd.underlying9 s at_ (by omega) W
      have ix1 : ∀ W, (Instr.index 9 (.string s) (.int .i64 ((at_ : Int) + 1))).run Tryd.prog W = .ok (.int .u8 (((L s).getD (at_ + 1) 0).toNat : Int)) W := fun W => run_index_S (P := Tryd.prog) Tryd.underlying9 s (at_ + 1) (by omega) W
      have hb0 := UInt8.toNat_lt ((L s).getD at_ 0)
      have hH : headNum ((L s).drop at_) = ((L s).getD at_ 0).toNat * 256 + ((L s).getD (at_ + 1) 0).toNat := by
        simp [headNum, List.getD_eq_getElem?_getD, List.getElem?_drop]
      have hb1 := UInt8.toNat_lt ((L s).getD (at_ + 1) 0)
      generalize ((L s).getD at_ 0).toNat = b0 at *
      generalize ((L s).getD (at_ + 1) 0).toNat = b1 at *
      have HN : Hid (headNum ((L s).drop at_) = b0 * 256 + b1) := hH
      clear hH
      have hlen : ((L s).drop at_).length = s.size - at_ := by rw [List.length_drop, L_len]
      have H1 := Lib.hid hlen; clear hlen
      by_cases hA : 1100 < b0 * 256 + b1
      · have HD := Lib.hid (HA.done (fun h => by have := h.2.1; rw [HN.out] at this; omega))
        go_wp2
        go_quiet (fail)
        go_wp2_with fail
        go_ret2
        exact ⟨u4, by rw [← HD.out.2]; rfl, by rw [← HD.out.1]; exact own_drewN hown _, below_drewN hb _⟩
      by_cases hB : s.size - at_ < b0 * 256 + b1 + 6
      · have HD := Lib.hid (HA.done (fun h => by have := h.2.2.1; rw [HN.out, H1.out] at this; omega))
        go_wp2
        go_quiet (fail)
        go_wp2_with fail
        go_ret2
        exact ⟨u4, by rw [← HD.out.2]; rfl, by rw [← HD.out.1]; exact own_drewN hown _, below_drewN hb _⟩
      have HE : Hid (s.extract at_ (at_ + (b0 * 256 + b1) + 6) = S (((L s).drop at_).take (headNum ((L s).drop at_) + 6))) := by
        unfold Hid
        rw [HN.out, extract_S]; congr 2; omega
      have HRi := Lib.hid (right_iff (l := (L s).drop at_) (n := headNum ((L s).drop at_)) (by rw [HN.out, H1.out]; omega))
      by_cases hC : rightB (s.extract at_ (at_ + (b0 * 256 + b1) + 6)) = true
      · have HO : Hid (frameOk ((L s).drop at_)) := ⟨by rw [H1.out]; omega, by rw [HN.out]; omega, by rw [HN.out, H1.out]; omega, HRi.out.1 (by rw [← HE.out]; exact hC)⟩
        have HS := Lib.hid (HA.step HO.out)
        go_wp2
        go_quiet (fail)
        go_wp2_with fail
        refine (sumRight_any _ (by simp; omega) _).mono ?_
        rintro e w5 ⟨rfl, hb5⟩
        have hown5 := own_below (own_drewN hown nq) hb5
        have hb5' : Below w.heap.size w w5 := (below_drewN hb _).trans (hb5.mono hb.size)
        have hcnt := HA.count
        clear hown hb hb5
        go_wp2_with (at_builtin; go_must (refine wpList_app rfl _ _ _ rfl w.heap.size 9 i0 _ 1 16 Tryd.underlying30 hi0 hz0 hz1 hz2 rfl (by omega) _ recs.length (strCells recs) rfl (hown5.alloc _) ⟨w5.heap.size, 0, none⟩ 1 1 [.string (s.extract (at_ + 2) (at_ + 2 + (b0 * 256 + b1)))] rfl rfl (cell_one_new _ _ _) (by simp [Value.oneCell']) (by omega) (by omega) (by have := hb5'.size; simp; omega) ?_); intro v6 w6 hown6 hb6)
        go_roundw
        case rel => exact ⟨_, _, HS.out, by rw [HN.out]; go_num, by
          have e1 : s.extract (at_ + 2) (at_ + 2 + (b0 * 256 + b1)) = S (recOf ((L s).drop at_)) := by
            rw [extract_S]; unfold recOf; rw [List.drop_drop, HN.out]; congr 2; omega
          rw [e1] at hown6
          simpa [strCells] using hown6, (hb5'.alloc hb5'.size _).trans hb6⟩
        case measure => simp [intOf]; omega
      · have hC' : rightB (s.extract at_ (at_ + (b0 * 256 + b1) + 6)) = false := by simpa using hC
        have HD := Lib.hid (HA.done (fun h => hC (by rw [HE.out]; exact HRi.out.2 h.2.2.2)))
        clear hC
        go_wp2
        go_quiet (fail)
        go_wp2_with fail
        refine (sumRight_any _ (by simp; omega) _).mono ?_
        rintro e w5 ⟨rfl, hb5⟩
        go_wp2_with fail
        go_ret2
        exact ⟨u4, by rw [← HD.out.2]; rfl, by rw [← HD.out.1]; exact own_below (own_drewN hown _) hb5, (below_drewN hb _).trans (hb5.mono hb.size)⟩
    · have HD := Lib.hid (HA.done (fun h => by have := h.1; rw [List.length_drop, L_len] at this; omega))
      go_wp2_with fail
      go_ret2
      exact ⟨u4, by rw [← HD.out.2]; rfl, by rw [← HD.out.1]; exact hown, hb⟩
theorem oneCell_str (l : List (List UInt8)) : ∀ u ∈ strCells l, u.oneCell' = true := by
  intro u hu
  obtain ⟨r, _, rfl⟩ := List.mem_map.1 hu
  rfl
/-- slices.Equal on two slices of the same strings. -/
theorem str_at {l : List (List UInt8)} {k : Nat} {u : Value} (h : (strCells l)[k]? = some u) : ∃ x, l[k]? = some x ∧ u = .string (S x) := by
  unfold strCells at h
  rw [List.getElem?_map] at h
  cases hx : l[k]? with
  | none => rw [hx] at h; simp at h
  | some x => rw [hx] at h; exact ⟨x, rfl, by simpa using h.symm⟩
end Go.Proofs.YtmikckhihfcooaaDoor
