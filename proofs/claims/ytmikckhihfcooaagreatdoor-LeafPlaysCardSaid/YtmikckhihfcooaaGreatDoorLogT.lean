/- The reference's AppendOf, CrashOf and Rest. -/
import Derived.Test.YtmikckhihfcooaaGreatDoorLogS
namespace Go.Proofs.YtmikckhihfcooaaGreatDoor
open Go.RowKit
set_option maxRecDepth 100000 in
set_option maxHeartbeats 1000000 in
theorem rest3_any (k : Int) (h0 : -9223372036854775808 ≤ k) (h1 : k ≤ 9223372036854775807) (w : World) :
    Calls Tryz.prog 6 #[.int .i64 k, .int .i64 3] w fun e w' => e = .returned (.int .i64 (k % 3)) ∧ Below w.heap.size w w' := by
  by_cases hk : 0 ≤ k
  · have g : ¬ k % 3 < 0 := by omega
    go_enter Tryz.func6, Tryz.ntmps6
    go_wp2
    all_goals first
      | (go_ret; exact ⟨rfl, (by repeat (first | exact Below.refl _ _ | assumption | refine Below.alloc ?_ (by first | exact Nat.le_refl _ | assumption | omega | (simp <;> omega)) _ | refine Below.setCell ?_ (by first | exact Nat.le_refl _ | assumption | omega | (simp <;> omega)) _ | refine Below.drew ?_ | refine below_drewN ?_ _))⟩)
      | (exfalso; omega)
  · have e : Int.tmod k 3 = -((-k) % 3) := by
      have := Int.tmod_eq_emod (a := -k) (b := 3)
      rw [Int.neg_tmod, if_pos (.inl (by omega))] at this
      omega
    have HE := Lib.hid e
    have hr1 : -2 ≤ Int.tmod k 3 := by omega
    have hr2 : Int.tmod k 3 ≤ 0 := by omega
    clear e
    by_cases hz : Int.tmod k 3 < 0
    · go_enter Tryz.func6, Tryz.ntmps6
      go_wp2
      all_goals first
        | (go_ret; exact ⟨ret_int (by rw [HE.out] at *; omega), (by repeat (first | exact Below.refl _ _ | assumption | refine Below.alloc ?_ (by first | exact Nat.le_refl _ | assumption | omega | (simp <;> omega)) _ | refine Below.setCell ?_ (by first | exact Nat.le_refl _ | assumption | omega | (simp <;> omega)) _ | refine Below.drew ?_ | refine below_drewN ?_ _))⟩)
        | (exfalso; omega)
    · go_enter Tryz.func6, Tryz.ntmps6
      go_wp2
      all_goals first
        | (go_ret; exact ⟨ret_int (by rw [HE.out] at *; omega), (by repeat (first | exact Below.refl _ _ | assumption | refine Below.alloc ?_ (by first | exact Nat.le_refl _ | assumption | omega | (simp <;> omega)) _ | refine Below.setCell ?_ (by first | exact Nat.le_refl _ | assumption | omega | (simp <;> omega)) _ | refine Below.drew ?_ | refine below_drewN ?_ _))⟩)
        | (exfalso; omega)
set_option maxRecDepth 100000 in
set_option maxHeartbeats 1000000 in
theorem lgAppendOf_any (d rec : ByteArray) (sf : Nat) (w : World) (hd : d.size ≤ 4000) :
    Calls Tryz.prog 22 #[.agg #[.string d, .int .i64 (sf : Int)], .string rec] w fun e w' => e = .returned (.tuple #[.agg #[.string (appD d rec), .int .i64 (sf : Int)], .int .i64 (appErr d rec)]) ∧ Below w.heap.size w w' := by
  by_cases hr : 1100 < rec.size
  · have HE : Hid (appErr d rec = 2) := by unfold Hid appErr; rw [if_pos hr]
    have HD : Hid (appD d rec = d) := by unfold Hid appD; rw [HE.out, if_neg (by decide)]
    go_enter Tryz.func22, Tryz.ntmps22
    go_wp2_with fail
    (apply bodyPost_ret; (simp [results, Tryz.results22, go_sem]; rfl); rfl)
    exact ⟨by rw [HE.out, HD.out], (by repeat (first | exact Below.refl _ _ | assumption | refine Below.alloc ?_ (by first | exact Nat.le_refl _ | assumption | omega | (simp <;> omega)) _ | refine Below.setCell ?_ (by first | exact Nat.le_refl _ | assumption | omega | (simp <;> omega)) _ | refine Below.drew ?_ | refine below_drewN ?_ _))⟩
  · have hz : (S (frameL (L rec))).size = rec.size + 6 := by rw [S_size, frameL_length, L_len]
    have HZ := Lib.hid hz
    have hz1 : (S (frameL (L rec))).size ≤ 1106 := by omega
    have HE : Hid (appErr d rec = if 4000 < d.size + (rec.size + 6) then 11 else 0) := by unfold Hid appErr; rw [if_neg hr]
    clear hz
    by_cases hf : 4000 < d.size + (rec.size + 6)
    · rw [Hid, if_pos hf] at HE
      have HE := Lib.hid HE
      have HD : Hid (appD d rec = d) := by unfold Hid appD; rw [HE.out, if_neg (by decide)]
      go_enter Tryz.func22, Tryz.ntmps22
      go_wp2_with fail
      (apply bodyPost_ret; (simp [results, Tryz.results22, go_sem]; rfl); rfl)
      exact ⟨by rw [HE.out, HD.out], (by repeat (first | exact Below.refl _ _ | assumption | refine Below.alloc ?_ (by first | exact Nat.le_refl _ | assumption | omega | (simp <;> omega)) _ | refine Below.setCell ?_ (by first | exact Nat.le_refl _ | assumption | omega | (simp <;> omega)) _ | refine Below.drew ?_ | refine below_drewN ?_ _))⟩
    · rw [Hid, if_neg hf] at HE
      have HE := Lib.hid HE
      have HD : Hid (appD d rec = d ++ S (frameL (L rec))) := by unfold Hid appD; rw [HE.out, if_pos rfl]
      go_enter Tryz.func22, Tryz.ntmps22
      go_wp2_with fail
      go_region_with ((go_at_call 34; refine (frameRef_any rec (by omega) _).mono ?_; rintro e w1 ⟨rfl, hb1⟩; obtain ⟨hc, hf⟩ := bcell hb1; have c0 : w1.cell? ⟨w.heap.size, 0, none⟩ = some (.string d) := (by rw [hc _ _ (by simp; try omega)]; simp); have f0 : w1.frozen? ⟨w.heap.size, 0, none⟩ = false := (by rw [hf _ _ (by simp; try omega)]; simp); have c1 : w1.cell? ⟨w.heap.size, 1, none⟩ = some (.int .i64 (sf : Int)) := (by rw [hc _ _ (by simp; try omega)]; simp); have e0 : w1.cell? ⟨w.heap.size + 1, 0, none⟩ = some (.string ⟨#[]⟩) := (by rw [hc _ _ (by simp; try omega)]; simp); have e1 : w1.cell? ⟨w.heap.size + 1, 1, none⟩ = some (.int .i64 0) := (by rw [hc _ _ (by simp; try omega)]; simp); have k0 : w1.frozen? ⟨w.heap.size + 1, 0, none⟩ = false := (by rw [hf _ _ (by simp; try omega)]; simp); have k1 : w1.frozen? ⟨w.heap.size + 1, 1, none⟩ = false := (by rw [hf _ _ (by simp; try omega)]; simp); have hbA : Below w.heap.size w w1 := bthen (by repeat (first | exact Below.refl _ _ | assumption | refine Below.alloc ?_ (by first | exact Nat.le_refl _ | assumption | omega | (simp <;> omega)) _ | refine Below.setCell ?_ (by first | exact Nat.le_refl _ | assumption | omega | (simp <;> omega)) _ | refine Below.drew ?_ | refine below_drewN ?_ _)) hb1; have hs1 := hbA.size; clear hc hf hb1))
      all_goals go_wp2_with fail
      all_goals (apply bodyPost_ret; (simp [results, Tryz.results22, go_sem, e0, e1]; rfl); rfl)
      all_goals exact ⟨by rw [HE.out, HD.out], (by repeat (first | exact Below.refl _ _ | assumption | refine Below.alloc ?_ (by first | exact Nat.le_refl _ | assumption | omega | (simp <;> omega)) _ | refine Below.setCell ?_ (by first | exact Nat.le_refl _ | assumption | omega | (simp <;> omega)) _ | refine Below.drew ?_ | refine below_drewN ?_ _))⟩
set_option maxRecDepth 100000 in
set_option maxHeartbeats 1000000 in
theorem lgCrashOf_any (d : ByteArray) (sf : Nat) (keep : Int) (w : World) (hd : d.size ≤ 4000) (hs : sf ≤ d.size) :
    Calls Tryz.prog 30 #[.agg #[.string d, .int .i64 (sf : Int)], .int .i64 keep] w fun e w' => e = .returned (.tuple #[.agg #[.string (craD d sf keep), .int .i64 (craF d sf keep : Nat)], .int .i64 (craErr d sf keep)]) ∧ Below w.heap.size w w' := by
  by_cases hk0 : keep < 0 ∨ (d.size : Int) - (sf : Int) < keep
  · have HE : Hid (craErr d sf keep = 1) := by unfold Hid craErr; rw [if_pos hk0]
    have HD : Hid (craD d sf keep = d ∧ craF d sf keep = sf) := by unfold Hid craD craF; rw [HE.out, if_neg (by decide), if_neg (by decide)]; exact ⟨rfl, rfl⟩
    have HK := Lib.hid hk0; clear hk0
    go_enter Tryz.func30, Tryz.ntmps30
    go_wp2_with fail
    all_goals first
      | ((apply bodyPost_ret; (simp [results, Tryz.results30, go_sem]; rfl); rfl)
         exact ⟨by rw [HE.out, HD.out.1, HD.out.2], (by repeat (first | exact Below.refl _ _ | assumption | refine Below.alloc ?_ (by first | exact Nat.le_refl _ | assumption | omega | (simp <;> omega)) _ | refine Below.setCell ?_ (by first | exact Nat.le_refl _ | assumption | omega | (simp <;> omega)) _ | refine Below.drew ?_ | refine below_drewN ?_ _))⟩)
      | (exfalso; have := HK.out; omega)
  have hk1 : 0 ≤ keep := by omega
  have hk2 : keep ≤ (d.size : Int) - (sf : Int) := by omega
  have HE : Hid (craErr d sf keep = 0) := by unfold Hid craErr; rw [if_neg (by omega)]
  have HD : Hid (craD d sf keep = (craS d sf keep).extract 0 (craN d sf keep) ∧ craF d sf keep = craN d sf keep) := by unfold Hid craD craF; rw [HE.out, if_pos rfl, if_pos rfl]; exact ⟨rfl, rfl⟩
  obtain ⟨k, rfl⟩ := Int.eq_ofNat_of_zero_le hk1
  have HS : Hid (craS d sf (k : Int) = d.extract 0 (sf + k)) := rfl
  have hsz : (d.extract 0 (sf + k)).size ≤ 4000 := by rw [ByteArray.size_extract]; omega
  clear hk0
  go_enter Tryz.func30, Tryz.ntmps30
  go_wp2_with fail
  refine (scanRef_any _ (d.extract 0 (sf + k)) (by omega) (Nat.le_refl _) _).mono ?_
  rintro e w1 ⟨v1, rfl, hown1, hb1⟩
  obtain ⟨hc, hf⟩ := bcell hb1
  have hz := hb1.size
  simp only [World.size_alloc] at hc hf hz
  have hbA : Below w.heap.size w w1 := bthen (by repeat (first | exact Below.refl _ _ | assumption | refine Below.alloc ?_ (by first | exact Nat.le_refl _ | assumption | omega | (simp <;> omega)) _ | refine Below.setCell ?_ (by first | exact Nat.le_refl _ | assumption | omega | (simp <;> omega)) _ | refine Below.drew ?_ | refine below_drewN ?_ _)) hb1
  have hs1 := hbA.size
  have e0 : w1.cell? ⟨w.heap.size + 1, 0, none⟩ = some (.string ⟨#[]⟩) := by rw [hc _ _ (by omega)]; simp
  have e1 : w1.cell? ⟨w.heap.size + 1, 1, none⟩ = some (.int .i64 0) := by rw [hc _ _ (by omega)]; simp
  have hle := scanL_le (L (d.extract 0 (sf + k)))
  rw [L_len] at hle
  have HN : Hid (craN d sf (k : Int) = (scanL (L (d.extract 0 (sf + k)))).2) := rfl
  clear hown1
  generalize (scanL (L (d.extract 0 (sf + k)))).2 = n at *
  generalize d.extract 0 (sf + k) = ds at *
  go_wp2_with fail
  (apply bodyPost_ret; (simp [results, Tryz.results30, go_sem, e0, e1]; rfl); rfl)
  exact ⟨by rw [HE.out, HD.out.1, HD.out.2, HS.out, HN.out], (by repeat (first | exact Below.refl _ _ | assumption | refine Below.alloc ?_ (by first | exact Nat.le_refl _ | assumption | omega | (simp <;> omega)) _ | refine Below.setCell ?_ (by first | exact Nat.le_refl _ | assumption | omega | (simp <;> omega)) _ | refine Below.drew ?_ | refine below_drewN ?_ _))⟩
end Go.Proofs.YtmikckhihfcooaaGreatDoor
