/- The walks of package sum and of the reference's checksum. -/
import Derived.Test.YtmikckhihfcooaaGreatDoorSum0
namespace Go.Proofs.YtmikckhihfcooaaGreatDoor
open Go.RowKit
set_option maxRecDepth 100000 in
set_option maxHeartbeats 400000 in
theorem sumOf_any (s : ByteArray) (w : World) (hs : s.size ≤ 140737488351232) :
    Calls Tryz.prog 47 #[.string s] w fun e w' => e = .returned (.int .u32 (sumNat (L s) : Nat)) ∧ Below w.heap.size w w' := by
  have hcv := fun W => Lib.run_convert_string_bytes (P := Tryz.prog) W 9 71 5 s Tryz.underlying9 Tryz.underlying71 Tryz.underlying5
  go_enter Tryz.func47, Tryz.ntmps47
  go_wp2
  have hW : Below w.heap.size w (Lib.bytesWorld w 5 s) := bytesWorld_below w _ s
  have hcells := Lib.bytesWorld_cell w 5 s
  generalize Lib.bytesWorld w 5 s = w1 at hW hcells ⊢
  have Hc := Lib.hid hcells; clear hcells
  clear hcv
  go_loop [3, 9] (fun x i => ∃ k : Nat, k ≤ s.size ∧ i = .int .i64 k ∧ x = .int .u32 (lsbAll 4294967295 (s.data.toList.take k) : Nat)) (fun _ i => s.size - (intOf i).toNat)
  case atStart => exact ⟨0, Nat.zero_le _, rfl, rfl⟩
  case round =>
    obtain ⟨k, hk, rfl, rfl⟩ := hrel
    have hX := lsbAll_lt (s.data.toList.take k)
    have HN : Hid (k < s.size → lsbAll 4294967295 (s.data.toList.take (k + 1)) = lsbN 8 (lsbAll 4294967295 (s.data.toList.take k) ^^^ (s.data.toList.getD k 0).toNat)) := fun h => lsbAll_snoc _ _ k (by rw [blen]; exact h)
    have HE : Hid (k = s.size → lsbAll 4294967295 (s.data.toList.take k) = lsbAll 4294967295 s.data.toList) := fun h => by rw [List.take_of_length_le (by rw [blen]; omega)]
    generalize lsbAll 4294967295 (s.data.toList.take k) = X at *
    by_cases hlt : k < s.size
    · have hc := Hc.out k hlt
      have hb : (s.data.toList.getD k 0).toNat < 256 := UInt8.toNat_lt _
      have hxor := u32_xor_nat X (s.data.toList.getD k 0).toNat hX (by omega)
      generalize (s.data.toList.getD k 0).toNat = c at *
      go_wp2
      go_loop [3, 17] (fun x i => ∃ j : Nat, j ≤ 8 ∧ i = .int .i64 j ∧ x = .int .u32 (lsbN j (X ^^^ c) : Nat)) (fun _ i => 8 - (intOf i).toNat)
      case atStart => exact ⟨0, Nat.zero_le _, rfl, rfl⟩
      case round =>
        obtain ⟨j, hj, rfl, rfl⟩ := hrel
        by_cases hlt8 : j < 8
        · have hY : lsbN j (X ^^^ c) < 4294967296 := lsbN_lt _ _ (Nat.xor_lt_two_pow (n := 32) hX (by omega))
          have HS : Hid (lsbN (j + 1) (X ^^^ c) = lsb (lsbN j (X ^^^ c))) := rfl
          generalize lsbN j (X ^^^ c) = Y at *
          go_wp2
          go_round
          case rel => exact ⟨j + 1, by omega, by go_num, by rw [HS.out, lsb_walk Y hY]⟩
          case measure => simp [intOf]; omega
        · obtain rfl : j = 8 := by omega
          go_wp2
          go_round
          case rel => exact ⟨k + 1, by omega, by go_num, by rw [HN.out hlt]⟩
          case measure => simp [intOf]; omega
    · have hs32 : IntKind.u32.signed = false := rfl
      have HE' := Lib.hid (HE.out (by omega)); clear HE
      go_wp2
      go_ret
      exact ⟨ret_int (by rw [not_walk X hX, HE'.out]; rfl), hW⟩
set_option maxRecDepth 100000 in
set_option maxHeartbeats 400000 in
theorem sumRef_any (s : ByteArray) (w : World) (hs : s.size ≤ 140737488351232) :
    Calls Tryz.prog 49 #[.string s] w fun e w' => e = .returned (.int .u32 (sumNat (L s) : Nat)) ∧ Below w.heap.size w w' := by
  have hcv := fun W => Lib.run_convert_string_bytes (P := Tryz.prog) W 9 71 5 s Tryz.underlying9 Tryz.underlying71 Tryz.underlying5
  go_enter Tryz.func49, Tryz.ntmps49
  go_wp2
  have hW : Below w.heap.size w (Lib.bytesWorld w 5 s) := bytesWorld_below w _ s
  have hcells := Lib.bytesWorld_cell w 5 s
  generalize Lib.bytesWorld w 5 s = w1 at hW hcells ⊢
  have Hc := Lib.hid hcells; clear hcells
  clear hcv
  have HZ := Lib.hid (sums_agree s.data.toList)
  go_loop [3, 13] (fun x i => ∃ k : Nat, k ≤ s.size ∧ i = .int .i64 k ∧ x = .int .u32 (msbAll 4294967295 (s.data.toList.take k) : Nat)) (fun _ i => s.size - (intOf i).toNat)
  case atStart => exact ⟨0, Nat.zero_le _, rfl, rfl⟩
  case round =>
    obtain ⟨k, hk, rfl, rfl⟩ := hrel
    have hX := msbAll_lt (s.data.toList.take k)
    have HN : Hid (k < s.size → msbAll 4294967295 (s.data.toList.take (k + 1)) = msbN (s.data.toList.getD k 0).toNat 8 (msbAll 4294967295 (s.data.toList.take k))) := fun h => msbAll_snoc _ _ k (by rw [blen]; exact h)
    have HE : Hid (k = s.size → msbAll 4294967295 (s.data.toList.take k) = msbAll 4294967295 s.data.toList) := fun h => by rw [List.take_of_length_le (by rw [blen]; omega)]
    generalize msbAll 4294967295 (s.data.toList.take k) = X at *
    by_cases hlt : k < s.size
    · have hc := Hc.out k hlt
      have hb : (s.data.toList.getD k 0).toNat < 256 := UInt8.toNat_lt _
      generalize (s.data.toList.getD k 0).toNat = c at *
      go_wp2
      go_loop [3, 17] (fun x i => ∃ j : Nat, j ≤ 8 ∧ i = .int .i64 j ∧ x = .int .u32 (msbN c j X : Nat)) (fun _ i => 8 - (intOf i).toNat)
      case atStart => exact ⟨0, Nat.zero_le _, rfl, rfl⟩
      case round =>
        obtain ⟨j, hj, rfl, rfl⟩ := hrel
        by_cases hlt8 : j < 8
        · have HS : Hid (msbN c (j + 1) X = msb (msbN c j X) (c / 2 ^ j % 2)) := rfl
          have hY : msbN c j X < 4294967296 := by
            cases j with
            | zero => exact hX
            | succ j => exact msb_lt _ _
          generalize msbN c j X = Y at *
          have hbit := bit_walk Y c j hY hb
          have hm1 : ∀ b, Y / 2147483648 ^^^ b = 1 → msb Y b = (Y * 2 % 4294967296) ^^^ 517762881 := fun b h => by unfold msb; rw [if_pos h]
          have hm2 : ∀ b, ¬ Y / 2147483648 ^^^ b = 1 → msb Y b = Y * 2 % 4294967296 := fun b h => by unfold msb; rw [if_neg h]
          have Hm1 := Lib.hid (hm1 (c / 2 ^ j % 2))
          have Hm2 := Lib.hid (hm2 (c / 2 ^ j % 2))
          clear hm1 hm2
          generalize Y / 2147483648 ^^^ (c / 2 ^ j % 2) = b at *
          by_cases hb1 : b = 1
          · have Hb := Lib.hid hb1
            have hbb : (((b : Nat) : Int) == 1) = true := by rw [hb1]; rfl
            clear hb1
            go_wp2
            go_round
            case rel => exact ⟨j + 1, by omega, by go_num, by rw [HS.out, Hm1.out Hb.out]; exact xor_walk Y⟩
            case measure => simp [intOf]; omega
          · have hbb : (((b : Nat) : Int) == 1) = false := by simp; omega
            have Hb := Lib.hid hb1
            clear hb1
            go_wp2
            go_round
            case rel => exact ⟨j + 1, by omega, by go_num, by rw [HS.out, Hm2.out Hb.out]; exact shl_walk Y⟩
            case measure => simp [intOf]; omega
        · obtain rfl : j = 8 := by omega
          go_wp2
          go_round
          case rel => exact ⟨k + 1, by omega, by go_num, by rw [HN.out hlt]⟩
          case measure => simp [intOf]; omega
    · have hs32 : IntKind.u32.signed = false := rfl
      have HE' := Lib.hid (HE.out (by omega)); clear HE
      go_wp2
      go_loop [8, 36] (fun x i => ∃ j : Nat, j ≤ 32 ∧ i = .int .i64 j ∧ x = .int .u32 (backN X j : Nat)) (fun _ i => 32 - (intOf i).toNat)
      case atStart => exact ⟨0, Nat.zero_le _, rfl, rfl⟩
      case round =>
        obtain ⟨j, hj, rfl, rfl⟩ := hrel
        by_cases hlt8 : j < 32
        · have hB := backN_lt X j
          have HS : Hid (backN X (j + 1) = backN X j ||| (X / 2 ^ j % 2 * 2 ^ (31 - j))) := rfl
          generalize backN X j = Y at *
          go_wp2
          go_round
          case rel => exact ⟨j + 1, by omega, by go_num, by rw [HS.out]; exact back_walk X Y j hX hB⟩
          case measure => simp [intOf]; omega
        · obtain rfl : j = 32 := by omega
          have hB := backN_lt X 32
          have HM := Lib.hid (msb_sum s.data.toList)
          go_wp2
          go_ret
          exact ⟨ret_int (by rw [not_walk _ hB, HE'.out, HM.out]; rfl), hW⟩

/-- The four bytes of a sum. -/
def fourL (x : Nat) : List UInt8 := [UInt8.ofNat x, UInt8.ofNat (x / 256), UInt8.ofNat (x / 65536), UInt8.ofNat (x / 16777216)]
def fourB (x : Nat) : ByteArray := ⟨(fourL x).toArray⟩
theorem four_cells (x : Nat) (hx : x < 4294967296) : (#[Value.int .u8 ((x : Int) % 256), .int .u8 ((x : Int) / 256 % 256), .int .u8 ((x : Int) / 65536 % 256), .int .u8 ((x : Int) / 16777216)] : Array Value).toList = byteCells (fourL x) := by
  have h0 : (x : Int) % 256 = ((UInt8.ofNat x).toNat : Int) := by rw [UInt8.toNat_ofNat']; omega
  have h1 : (x : Int) / 256 % 256 = ((UInt8.ofNat (x / 256)).toNat : Int) := by rw [UInt8.toNat_ofNat']; omega
  have h2 : (x : Int) / 65536 % 256 = ((UInt8.ofNat (x / 65536)).toNat : Int) := by rw [UInt8.toNat_ofNat']; omega
  have h3 : (x : Int) / 16777216 = ((UInt8.ofNat (x / 16777216)).toNat : Int) := by rw [UInt8.toNat_ofNat']; omega
  rw [h0, h1, h2, h3]
  rfl
theorem four_conv (x : Nat) (hx : x < 4294967296) (w : World) :
    (convert 71 9 (.slice (some ⟨w.heap.size, 0, none⟩) 4 4)).run Tryz.prog (w.alloc (.cells #[Value.int .u8 ((x : Int) % 256), .int .u8 ((x : Int) / 256 % 256), .int .u8 ((x : Int) / 65536 % 256), .int .u8 ((x : Int) / 16777216)] 5)) =
      .ok (.string (fourB x)) (w.alloc (.cells #[Value.int .u8 ((x : Int) % 256), .int .u8 ((x : Int) / 256 % 256), .int .u8 ((x : Int) / 65536 % 256), .int .u8 ((x : Int) / 16777216)] 5)) :=
  run_bytes_string _ Tryz.underlying71 Tryz.underlying5 Tryz.underlying9 (A := some ⟨w.heap.size, 0, none⟩) (n := 4) (c := 4) (B := w.heap.size + 1) (l := fourL x)
    (by rw [← four_cells x hx]; exact Rd.new_ (n := 4) (size := 1) w _ _ (Nat.lt_succ_self _) rfl)
set_option maxRecDepth 100000 in
set_option maxHeartbeats 400000 in
theorem sumBytes_any (x : Nat) (hx : x < 4294967296) (w : World) :
    Calls Tryz.prog 46 #[.int .u32 (x : Int)] w fun e w' => e = .returned (.string (fourB x)) ∧ Below w.heap.size w w' := by
  have hcv := four_conv x hx w
  go_enter Tryz.func46, Tryz.ntmps46
  go_wp2
  go_ret
  exact ⟨rfl, (Below.refl _ _).alloc (Nat.le_refl _) _⟩
set_option maxRecDepth 100000 in
set_option maxHeartbeats 400000 in
theorem sumFour_any (x : Nat) (hx : x < 4294967296) (w : World) :
    Calls Tryz.prog 48 #[.int .u32 (x : Int)] w fun e w' => e = .returned (.string (fourB x)) ∧ Below w.heap.size w w' := by
  have hcv := four_conv x hx w
  go_enter Tryz.func48, Tryz.ntmps48
  go_wp2
  go_ret
  exact ⟨rfl, (Below.refl _ _).alloc (Nat.le_refl _) _⟩
/-- Right: the last four bytes are the sum of the others. -/
def rightB (s : ByteArray) : Bool := decide (4 ≤ s.size) && ((fourB (sumNat (L (s.extract 0 (s.size - 4))))).toList == (s.extract (s.size - 4) s.size).toList)
set_option maxRecDepth 100000 in
set_option maxHeartbeats 400000 in
theorem sumRight_any (s : ByteArray) (hs : s.size ≤ 140737488351232) (w : World) :
    Calls Tryz.prog 52 #[.string s] w fun e w' => e = .returned (.bool (rightB s)) ∧ Below w.heap.size w w' := by
  by_cases h4 : 4 ≤ s.size
  · have HR : Hid (rightB s = ((fourB (sumNat (L (s.extract 0 (s.size - 4))))).toList == (s.extract (s.size - 4) s.size).toList)) := by
      unfold Hid rightB; simp [h4]
    have hg2 : decide ((4 : Int) ≤ (s.size : Int)) = true := by simp; omega
    have hg3 : decide (4 ≤ s.size) = true := by simp; omega
    go_enter Tryz.func52, Tryz.ntmps52
    go_wp2_with fail
    refine wp_region_quiet_below (by kernel_rfl) (by kernel_rfl) ?_
    repeat (go_big_quiet_step ((first
      | (go_at_call 47; exact Calls.regrown_of (sumOf_any _ _ (by first | omega | (simp <;> omega))))
      | (go_at_call 46; exact Calls.regrown_of (sumBytes_any _ (sumNat_lt _) _)))))
    refine wpQuiet_nil ?_
    intro w2 hb20
    have hb2 := below_of_regrown hb20
    clear hb20
    go_wp2
    go_ret
    exact ⟨ret_bool HR.out.symm, hb2⟩
  · have HR : Hid (rightB s = false) := by
      unfold Hid rightB; simp [h4]
    have hg2 : decide ((4 : Int) ≤ (s.size : Int)) = false := by simp; omega
    have hg3 : decide (4 ≤ s.size) = false := by simp; omega
    go_enter Tryz.func52, Tryz.ntmps52
    go_wp2_with fail
    refine wp_region_quiet_below (by kernel_rfl) (by kernel_rfl) ?_
    repeat (go_big_quiet_step (fail))
    refine wpQuiet_nil ?_
    intro w2 hb20
    have hb2 := below_of_regrown hb20
    clear hb20
    go_wp2
    go_ret
    exact ⟨ret_bool HR.out.symm, hb2⟩
theorem right_more (s : ByteArray) (h : 4 < s.size) : rightB s = ((fourB (sumNat (L (s.extract 0 (s.size - 4))))).toList == (s.extract (s.size - 4) s.size).toList) := by
  unfold rightB; simp; omega
theorem right_four (s : ByteArray) (h : s.size = 4) : rightB s = ((fourB (sumNat (L ByteArray.empty))).toList == (s.extract 0 4).toList) := by
  unfold rightB; rw [h]
  have : s.extract 0 (4 - 4) = ByteArray.empty := by simp
  rw [this]; simp
theorem right_less (s : ByteArray) (h : s.size < 4) : rightB s = false := by
  unfold rightB; simp; omega
end Go.Proofs.YtmikckhihfcooaaGreatDoor
