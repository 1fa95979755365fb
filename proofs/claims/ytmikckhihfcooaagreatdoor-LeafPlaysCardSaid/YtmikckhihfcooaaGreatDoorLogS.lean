/- The methods of a log, and the reference's AppendOf and CrashOf. -/
import Derived.Test.YtmikckhihfcooaaGreatDoorLogW
import Derived.Test.YtmikckhihfcooaaGreatDoorSched
import Derived.Test.YtmikckhihfcooaaGreatDoorBlk
namespace Go.Proofs.YtmikckhihfcooaaGreatDoor
open Go.RowKit
def appErr (d rec : ByteArray) : Int := if 1100 < rec.size then 2 else if 4000 < d.size + (rec.size + 6) then 11 else 0
def appD (d rec : ByteArray) : ByteArray := if appErr d rec = 0 then d ++ S (frameL (L rec)) else d
theorem appD_size (d rec : ByteArray) (h : d.size ≤ 4000) : (appD d rec).size ≤ 4000 ∧ d.size ≤ (appD d rec).size := by
  unfold appD
  split
  · rename_i h0
    unfold appErr at h0
    rw [ByteArray.size_append, S_size, frameL_length, L_len]
    split at h0
    · cases h0
    · split at h0
      · cases h0
      · omega
  · omega
def craErr (d : ByteArray) (sf : Nat) (keep : Int) : Int := if keep < 0 ∨ (d.size : Int) - sf < keep then 1 else 0
def craS (d : ByteArray) (sf : Nat) (keep : Int) : ByteArray := d.extract 0 (sf + keep.toNat)
def craN (d : ByteArray) (sf : Nat) (keep : Int) : Nat := (scanL (L (craS d sf keep))).2
def craD (d : ByteArray) (sf : Nat) (keep : Int) : ByteArray := if craErr d sf keep = 0 then (craS d sf keep).extract 0 (craN d sf keep) else d
def craF (d : ByteArray) (sf : Nat) (keep : Int) : Nat := if craErr d sf keep = 0 then craN d sf keep else sf
theorem cra_size (d : ByteArray) (sf : Nat) (keep : Int) (h : d.size ≤ 4000) (hs : sf ≤ d.size) : (craD d sf keep).size ≤ 4000 ∧ craF d sf keep ≤ (craD d sf keep).size := by
  unfold craD craF
  split
  · have h1 := scanL_le (L (craS d sf keep))
    rw [L_len] at h1
    change craN d sf keep ≤ _ at h1
    have h2 : (craS d sf keep).size ≤ d.size := by unfold craS; rw [ByteArray.size_extract]; omega
    rw [ByteArray.size_extract]
    omega
  · omega
/-- A log lies in a block. -/
def LogAt (w : World) (g : Nat) (t : TypeId) (d : ByteArray) (sf : Nat) : Prop := Blk w g t #[.string d, .int .i64 (sf : Int)]
theorem LogAt.cells {w : World} {g : Nat} {t : TypeId} {d : ByteArray} {sf : Nat} (h : LogAt w g t d sf) :
    w.cell? ⟨g, 0, none⟩ = some (.string d) ∧ w.cell? ⟨g, 1, none⟩ = some (.int .i64 (sf : Int)) ∧ w.frozen? ⟨g, 0, none⟩ = false ∧ w.frozen? ⟨g, 1, none⟩ = false ∧ g < w.heap.size :=
  ⟨Blk.cell h 0, Blk.cell h 1, Blk.frozen h 0, Blk.frozen h 1, Blk.lt h⟩
set_option maxRecDepth 100000 in
set_option maxHeartbeats 1000000 in
theorem lgAppend_any (g : Nat) (d rec : ByteArray) (sf : Nat) (w : World) (h : LogAt w g 63 d sf) (hd : d.size ≤ 4000) :
    Calls Tryz.prog 20 #[.pointer (some ⟨g, 0, none⟩), .string rec] w fun e w' => e = .returned (.int .i64 (appErr d rec)) ∧ LogAt w' g 63 (appD d rec) sf ∧ w.grownBy w' (some g) := by
  have HH := Lib.hid h; clear h
  by_cases hr : 1100 < rec.size
  · have HE : Hid (appErr d rec = 2) := by unfold Hid appErr; rw [if_pos hr]
    have HD : Hid (appD d rec = d) := by unfold Hid appD; rw [HE.out, if_neg (by decide)]
    go_enter Tryz.func20, Tryz.ntmps20
    go_wp2_with fail
    refine (frame_large rec hr _).mono ?_
    rintro e w1 ⟨rfl, hb1⟩
    go_wp2_with fail
    go_ret
    exact ⟨ret_int HE.out.symm, by rw [HD.out]; exact HH.out.below' hb1, gb_of_below hb1 _⟩
  · have hz : (S (frameL (L rec))).size = rec.size + 6 := by rw [S_size, frameL_length, L_len]
    have HZ := Lib.hid hz
    have hz1 : (S (frameL (L rec))).size ≤ 1106 := by omega
    have HE : Hid (appErr d rec = if 4000 < d.size + (S (frameL (L rec))).size then 11 else 0) := by unfold Hid appErr; rw [if_neg hr, hz]
    clear hz
    by_cases hf : 4000 < d.size + (S (frameL (L rec))).size
    · rw [Hid, if_pos hf] at HE
      have HE := Lib.hid HE
      have HD : Hid (appD d rec = d) := by unfold Hid appD; rw [HE.out, if_neg (by decide)]
      go_enter Tryz.func20, Tryz.ntmps20
      go_wp2_with fail
      refine (frame_any rec (by omega) _).mono ?_
      rintro e w1 ⟨rfl, hb1⟩
      have H1 : LogAt w1 g 63 d sf := HH.out.below' hb1
      have HH1 := Lib.hid H1
      obtain ⟨c0, c1, f0, f1, hlt⟩ := LogAt.cells H1
      clear H1
      generalize S (frameL (L rec)) = F at *
      go_wp2_with fail
      go_ret
      exact ⟨ret_int HE.out.symm, by rw [HD.out]; exact HH1.out, gb_of_below hb1 _⟩
    · rw [Hid, if_neg hf] at HE
      have HE := Lib.hid HE
      have HD : Hid (appD d rec = d ++ S (frameL (L rec))) := by unfold Hid appD; rw [HE.out, if_pos rfl]
      go_enter Tryz.func20, Tryz.ntmps20
      go_wp2_with fail
      refine (frame_any rec (by omega) _).mono ?_
      rintro e w1 ⟨rfl, hb1⟩
      have H1 : LogAt w1 g 63 d sf := HH.out.below' hb1
      have HH1 := Lib.hid H1
      obtain ⟨c0, c1, f0, f1, hlt⟩ := LogAt.cells H1
      clear H1
      generalize S (frameL (L rec)) = F at *
      go_wp2_with fail
      go_ret
      exact ⟨ret_int HE.out.symm, by rw [HD.out]; exact Blk.set_ HH1.out 0 _, gb_set (gb_of_below hb1 _) _ _⟩
set_option maxRecDepth 100000 in
set_option maxHeartbeats 1000000 in
theorem lgSync_any (g : Nat) (d : ByteArray) (sf : Nat) (w : World) (h : LogAt w g 63 d sf) :
    Calls Tryz.prog 21 #[.pointer (some ⟨g, 0, none⟩)] w fun e w' => e = .returned (.tuple #[]) ∧ LogAt w' g 63 d d.size ∧ w.grownBy w' (some g) := by
  have HH := Lib.hid h
  obtain ⟨c0, c1, f0, f1, hlt⟩ := LogAt.cells h
  clear h
  go_enter Tryz.func21, Tryz.ntmps21
  go_wp2_with fail
  go_end0
  exact ⟨rfl, Blk.set_ HH.out 1 _, gb_set (gb_refl _ _) _ _⟩
set_option maxRecDepth 100000 in
set_option maxHeartbeats 1000000 in
theorem lgSize_any (g : Nat) (d : ByteArray) (sf : Nat) (w : World) (h : LogAt w g 63 d sf) :
    Calls Tryz.prog 32 #[.pointer (some ⟨g, 0, none⟩)] w fun e w' => e = .returned (.tuple #[.int .i64 (d.size : Int), .int .i64 (sf : Int)]) ∧ Below w.heap.size w w' := by
  obtain ⟨c0, c1, f0, f1, hlt⟩ := LogAt.cells h
  clear h
  go_enter Tryz.func32, Tryz.ntmps32
  go_wp2_with fail
  go_quiet (fail)
  go_wp2_with fail
  go_ret2
  exact ⟨rfl, (by repeat (first | exact Below.refl _ _ | assumption | refine Below.alloc ?_ (by first | exact Nat.le_refl _ | assumption | omega | (simp <;> omega)) _ | refine Below.setCell ?_ (by first | exact Nat.le_refl _ | assumption | omega | (simp <;> omega)) _ | refine Below.drew ?_ | refine below_drewN ?_ _))⟩
set_option maxRecDepth 100000 in
set_option maxHeartbeats 1000000 in
theorem lgAll_any (g : Nat) (d : ByteArray) (sf : Nat) (w : World) (h : LogAt w g 63 d sf) (hd : d.size ≤ 4000) :
    Calls Tryz.prog 42 #[.pointer (some ⟨g, 0, none⟩)] w fun e w' => ∃ v, e = .returned v ∧ w'.ownsRow w.heap.size 9 1 v (scanL (L d)).1.length (strCells (scanL (L d)).1) ∧ Below w.heap.size w w' := by
  obtain ⟨c0, c1, f0, f1, hlt⟩ := LogAt.cells h
  clear h
  go_enter Tryz.func42, Tryz.ntmps42
  go_wp2_with fail
  refine (scan_any d (by omega) _).mono ?_
  rintro e w1 ⟨v1, rfl, hown1, hb1⟩
  go_wp2_with fail
  go_ret
  exact ⟨v1, rfl, hown1, hb1⟩
set_option maxRecDepth 100000 in
set_option maxHeartbeats 2000000 in
theorem lgCrash_any (g : Nat) (d : ByteArray) (sf : Nat) (keep : Int) (w : World) (h : LogAt w g 63 d sf) (hd : d.size ≤ 4000) (hs : sf ≤ d.size) :
    Calls Tryz.prog 28 #[.pointer (some ⟨g, 0, none⟩), .int .i64 keep] w fun e w' => e = .returned (.int .i64 (craErr d sf keep)) ∧ LogAt w' g 63 (craD d sf keep) (craF d sf keep) ∧ w.grownBy w' (some g) := by
  have HH := Lib.hid h
  obtain ⟨c0, c1, f0, f1, hlt⟩ := LogAt.cells h
  clear h
  by_cases hk0 : keep < 0
  · have g0 : decide (keep < 0) = true := decide_eq_true hk0
    have HE : Hid (craErr d sf keep = 1) := by unfold Hid craErr; rw [if_pos (.inl hk0)]
    have HD : Hid (craD d sf keep = d ∧ craF d sf keep = sf) := by unfold Hid craD craF; rw [HE.out, if_neg (by decide), if_neg (by decide)]; exact ⟨rfl, rfl⟩
    go_enter Tryz.func28, Tryz.ntmps28
    go_wp2_with fail
    go_quiet (fail)
    go_wp2_with fail
    go_ret
    exact ⟨ret_int HE.out.symm, by rw [HD.out.1, HD.out.2]; exact Blk.drewN HH.out _, gb_of_below (by repeat (first | exact Below.refl _ _ | assumption | refine Below.alloc ?_ (by first | exact Nat.le_refl _ | assumption | omega | (simp <;> omega)) _ | refine Below.setCell ?_ (by first | exact Nat.le_refl _ | assumption | omega | (simp <;> omega)) _ | refine Below.drew ?_ | refine below_drewN ?_ _)) _⟩
  have g0 : decide (keep < 0) = false := decide_eq_false hk0
  by_cases hk1 : (d.size : Int) - (sf : Int) < keep
  · have g1 : decide ((d.size : Int) - (sf : Int) < keep) = true := decide_eq_true hk1
    have HE : Hid (craErr d sf keep = 1) := by unfold Hid craErr; rw [if_pos (.inr hk1)]
    have HD : Hid (craD d sf keep = d ∧ craF d sf keep = sf) := by unfold Hid craD craF; rw [HE.out, if_neg (by decide), if_neg (by decide)]; exact ⟨rfl, rfl⟩
    go_enter Tryz.func28, Tryz.ntmps28
    go_wp2_with fail
    go_quiet (fail)
    go_wp2_with fail
    go_ret
    exact ⟨ret_int HE.out.symm, by rw [HD.out.1, HD.out.2]; exact Blk.drewN HH.out _, gb_of_below (by repeat (first | exact Below.refl _ _ | assumption | refine Below.alloc ?_ (by first | exact Nat.le_refl _ | assumption | omega | (simp <;> omega)) _ | refine Below.setCell ?_ (by first | exact Nat.le_refl _ | assumption | omega | (simp <;> omega)) _ | refine Below.drew ?_ | refine below_drewN ?_ _)) _⟩
  have g1 : decide ((d.size : Int) - (sf : Int) < keep) = false := decide_eq_false hk1
  have HE : Hid (craErr d sf keep = 0) := by unfold Hid craErr; rw [if_neg (by omega)]
  have HD : Hid (craD d sf keep = (craS d sf keep).extract 0 (craN d sf keep) ∧ craF d sf keep = craN d sf keep) := by unfold Hid craD craF; rw [HE.out, if_pos rfl, if_pos rfl]; exact ⟨rfl, rfl⟩
  obtain ⟨k, rfl⟩ := Int.eq_ofNat_of_zero_le (show 0 ≤ keep by omega)
  have HS : Hid (craS d sf (k : Int) = d.extract 0 (sf + k)) := rfl
  have hsz : (d.extract 0 (sf + k)).size ≤ 4000 := by rw [ByteArray.size_extract]; omega
  go_enter Tryz.func28, Tryz.ntmps28
  go_wp2_with fail
  go_quiet (fail)
  go_wp2_with fail
  go_quiet (fail)
  go_wp2_with fail
  refine (scan_any (d.extract 0 (sf + k)) (by omega) _).mono ?_
  rintro e w1 ⟨v1, rfl, hown1, hb1⟩
  have hb1' : Below w.heap.size w w1 := bthen (below_drewN (Below.refl _ _) _) hb1
  have H1 : LogAt w1 g 63 d sf := HH.out.below' hb1'
  have HH1 := Lib.hid H1
  clear hown1 c0 c1 f0 f1 hlt
  obtain ⟨c0, c1, f0, f1, hlt⟩ := LogAt.cells H1
  clear H1 hb1
  have hle := scanL_le (L (d.extract 0 (sf + k)))
  rw [L_len] at hle
  have HN : Hid (craN d sf (k : Int) = (scanL (L (d.extract 0 (sf + k)))).2) := rfl
  generalize (scanL (L (d.extract 0 (sf + k)))).2 = n at *
  generalize d.extract 0 (sf + k) = ds at *
  go_wp2_with fail
  go_ret
  exact ⟨ret_int HE.out.symm, by rw [HD.out.1, HD.out.2, HS.out, HN.out]; exact Blk.set_ (Blk.set_ HH1.out 0 _) 1 _, gb_set (gb_set (gb_of_below hb1' _) _ _) _ _⟩
end Go.Proofs.YtmikckhihfcooaaGreatDoor
