/- The reference's LeafSet, LeafSave, LeafCrash, LeafPack. -/
import Derived.Test.YtmikckhihfcooaaGreatDoorLeaR
namespace Go.Proofs.YtmikckhihfcooaaGreatDoor
open Go.RowKit
set_option maxRecDepth 100000 in
set_option maxHeartbeats 4000000 in
theorem rlSave_any (tx d : ByteArray) (sf : Nat) (w : World) :
    Calls Tryz.prog 12 #[.agg #[.string tx, .string d, .int .i64 (sf : Int)]] w fun e w' => e = .returned (.agg #[.string tx, .string d, .int .i64 (d.size : Int)]) ∧ Below w.heap.size w w' := by
  go_enter Tryz.func12, Tryz.ntmps12
  go_wp2_with fail
  (apply bodyPost_ret; (simp [results, Tryz.results12, go_sem]; rfl); rfl)
  exact ⟨rfl, (by repeat (first | exact Below.refl _ _ | assumption | refine Below.alloc ?_ (by first | exact Nat.le_refl _ | assumption | omega | (simp <;> omega)) _ | refine Below.setCell ?_ (by first | exact Nat.le_refl _ | assumption | omega | (simp <;> omega)) _ | refine Below.drew ?_ | refine below_drewN ?_ _))⟩
set_option maxRecDepth 100000 in
set_option maxHeartbeats 4000000 in
theorem rlSet_any (tx d t : ByteArray) (sf : Nat) (w : World) (hd : d.size ≤ 4000) :
    Calls Tryz.prog 10 #[.agg #[.string tx, .string d, .int .i64 (sf : Int)], .string t] w fun e w' => e = .returned (.tuple #[.agg #[.string (lsT tx d t), .string (lsD d t), .int .i64 (sf : Int)], .int .i64 (lsE d t)]) ∧ Below w.heap.size w w' := by
  by_cases hz : 200 < t.size
  · have HE : Hid (lsE d t = 2) := by unfold Hid lsE; rw [if_pos hz]
    have HT : Hid (lsT tx d t = tx) := by unfold Hid lsT; rw [HE.out, if_neg (by decide)]
    have HD : Hid (lsD d t = d) := by unfold Hid lsD; rw [HE.out, if_neg (by decide)]
    rw [HE.out, HT.out, HD.out]
    go_enter Tryz.func10, Tryz.ntmps10
    go_wp2_with fail
    (apply bodyPost_ret; (simp [results, Tryz.results10, go_sem]; rfl); rfl)
    exact ⟨rfl, (by repeat (first | exact Below.refl _ _ | assumption | refine Below.alloc ?_ (by first | exact Nat.le_refl _ | assumption | omega | (simp <;> omega)) _ | refine Below.setCell ?_ (by first | exact Nat.le_refl _ | assumption | omega | (simp <;> omega)) _ | refine Below.drew ?_ | refine below_drewN ?_ _))⟩
  · have HE : Hid (lsE d t = appErr d (recB t)) := by unfold Hid lsE; rw [if_neg hz]
    have HT : Hid (lsT tx d t = if appErr d (recB t) = 0 then t else tx) := by unfold Hid lsT; rw [HE.out]
    have HD : Hid (lsD d t = if appErr d (recB t) = 0 then appD d (recB t) else d) := by unfold Hid lsD; rw [HE.out]
    have HL := Lib.hid (fun W => lgAppendOf_any d (recB t) sf W hd)
    by_cases hq : appErr d (recB t) = 0
    · rw [Hid, hq] at HL HE HT HD
      rw [if_pos rfl] at HT HD
      have HL := Lib.hid HL; have HE := Lib.hid HE; have HT := Lib.hid HT; have HD := Lib.hid HD
      clear hq
      rw [HE.out, HT.out, HD.out]
      generalize appD d (recB t) = D' at *
      go_enter Tryz.func10, Tryz.ntmps10
      go_wp2_with fail
      refine (HL.out _).mono ?_
      rintro e w1 ⟨rfl, hb1⟩
      have C0 := Blk.below' (Blk.alloc (Blk.new_ w 30 #[.string tx, .string d, .int .i64 (sf : Int)]) (.cells #[.string ⟨#[]⟩, .string ⟨#[]⟩, .int .i64 0] 30)) hb1
      have C1 := Blk.below' (Blk.new_ (w.alloc (.cells #[.string tx, .string d, .int .i64 (sf : Int)] 30)) 30 #[.string ⟨#[]⟩, .string ⟨#[]⟩, .int .i64 0]) hb1
      rw [World.size_alloc] at C1
      have hbA : Below w.heap.size w w1 := bthen (by repeat (first | exact Below.refl _ _ | assumption | refine Below.alloc ?_ (by first | exact Nat.le_refl _ | assumption | omega | (simp <;> omega)) _ | refine Below.setCell ?_ (by first | exact Nat.le_refl _ | assumption | omega | (simp <;> omega)) _ | refine Below.drew ?_ | refine below_drewN ?_ _)) hb1
      have n0 : w.heap.size < w1.heap.size := Blk.lt C0
      have n1 : w.heap.size + 1 < w1.heap.size := Blk.lt C1
      have m0 : w.heap.size ≠ w1.heap.size := by omega
      have m1 : w.heap.size + 1 ≠ w1.heap.size := by omega
      have e0 := Blk.cell0 C0; have e1 := Blk.cell1 C0; have e2 := Blk.cell2 C0
      have d0 := Blk.cell0 C1; have d1 := Blk.cell1 C1; have d2 := Blk.cell2 C1
      have f0 := C1.frozen 0; have f1 := C1.frozen 1; have f2 := C1.frozen 2
      clear C0 C1 hb1
      go_wp2_with fail
      (apply bodyPost_ret; (simp [results, Tryz.results10, go_sem, d0, d1, d2, n1]; rfl); rfl)
      exact ⟨rfl, (by repeat (first | exact Below.refl _ _ | assumption | refine Below.alloc ?_ (by first | exact Nat.le_refl _ | assumption | omega | (simp <;> omega)) _ | refine Below.setCell ?_ (by first | exact Nat.le_refl _ | assumption | omega | (simp <;> omega)) _ | refine Below.drew ?_ | refine below_drewN ?_ _))⟩
    · have HDD := Lib.hid (appD_err hq)
      rw [Hid, if_neg hq] at HT HD
      rw [Hid, HDD.out] at HL
      have HL := Lib.hid HL; have HT := Lib.hid HT; have HD := Lib.hid HD
      rw [HE.out, HT.out, HD.out]
      have g1 : (appErr d (recB t) != 0) = true := by simpa using hq
      generalize appErr d (recB t) = q at *
      clear hq
      go_enter Tryz.func10, Tryz.ntmps10
      go_wp2_with fail
      refine (HL.out _).mono ?_
      rintro e w1 ⟨rfl, hb1⟩
      have C0 := Blk.below' (Blk.alloc (Blk.new_ w 30 #[.string tx, .string d, .int .i64 (sf : Int)]) (.cells #[.string ⟨#[]⟩, .string ⟨#[]⟩, .int .i64 0] 30)) hb1
      have C1 := Blk.below' (Blk.new_ (w.alloc (.cells #[.string tx, .string d, .int .i64 (sf : Int)] 30)) 30 #[.string ⟨#[]⟩, .string ⟨#[]⟩, .int .i64 0]) hb1
      rw [World.size_alloc] at C1
      have hbA : Below w.heap.size w w1 := bthen (by repeat (first | exact Below.refl _ _ | assumption | refine Below.alloc ?_ (by first | exact Nat.le_refl _ | assumption | omega | (simp <;> omega)) _ | refine Below.setCell ?_ (by first | exact Nat.le_refl _ | assumption | omega | (simp <;> omega)) _ | refine Below.drew ?_ | refine below_drewN ?_ _)) hb1
      have n0 : w.heap.size < w1.heap.size := Blk.lt C0
      have n1 : w.heap.size + 1 < w1.heap.size := Blk.lt C1
      have m0 : w.heap.size ≠ w1.heap.size := by omega
      have m1 : w.heap.size + 1 ≠ w1.heap.size := by omega
      have e0 := Blk.cell0 C0; have e1 := Blk.cell1 C0; have e2 := Blk.cell2 C0
      have d0 := Blk.cell0 C1; have d1 := Blk.cell1 C1; have d2 := Blk.cell2 C1
      have f0 := C1.frozen 0; have f1 := C1.frozen 1; have f2 := C1.frozen 2
      clear C0 C1 hb1
      go_wp2_with fail
      (apply bodyPost_ret; (simp [results, Tryz.results10, go_sem, d0, d1, d2, n1]; rfl); rfl)
      exact ⟨rfl, (by repeat (first | exact Below.refl _ _ | assumption | refine Below.alloc ?_ (by first | exact Nat.le_refl _ | assumption | omega | (simp <;> omega)) _ | refine Below.setCell ?_ (by first | exact Nat.le_refl _ | assumption | omega | (simp <;> omega)) _ | refine Below.drew ?_ | refine below_drewN ?_ _))⟩
set_option maxRecDepth 100000 in
set_option maxHeartbeats 4000000 in
theorem rlCrash_any (tx d : ByteArray) (sf : Nat) (keep : Int) (mx : Int) (w : World) (hk : LfOk tx d sf) (hm : w.cell? ⟨1, 0, none⟩ = some (.int .i64 mx)) (hw0 : 1 < w.heap.size) :
    Calls Tryz.prog 14 #[.agg #[.string tx, .string d, .int .i64 (sf : Int)], .int .i64 keep] w fun e w' => e = .returned (.tuple #[.agg #[.string (cfT tx d sf keep), .string (craD d sf keep), .int .i64 (craF d sf keep : Nat)], .int .i64 (craErr d sf keep)]) ∧ Below w.heap.size w w' := by
  have HM : Hid (∀ W, Below w.heap.size w W → W.cell? ⟨1, 0, none⟩ = some (.int .i64 mx)) := fun W hb => (hb.cell (p := ⟨1, 0, none⟩) hw0).trans hm
  have HW0 := Lib.hid hw0
  have HL := Lib.hid (fun W => lgCrashOf_any d sf keep W hk.size hk.safe)
  clear hm hw0
  by_cases hz : craErr d sf keep = 0
  · have hk2 := hk.crash hz
    have HD := Lib.hid hk2.size
    have HG := Lib.hid hk2.reads.2
    have HT : Hid (cfT tx d sf keep = lfRead (craD d sf keep)) := by unfold Hid cfT; rw [if_pos hz]
    rw [HT.out]
    rw [Hid, hz] at HL
    have HL := Lib.hid HL
    rw [hz]
    clear hk2 hz hk
    generalize craD d sf keep = d' at *
    generalize craF d sf keep = sf' at *
    go_enter Tryz.func14, Tryz.ntmps14
    go_wp2_with fail
    refine (HL.out _).mono ?_
    rintro e w1 ⟨rfl, hb1⟩
    have HC1 : Hid (Blk w1 (w.heap.size + 1) 30 #[.string ⟨#[]⟩, .string ⟨#[]⟩, .int .i64 0]) := by
      have := Blk.below' (Blk.new_ (w.alloc (.cells #[.string tx, .string d, .int .i64 (sf : Int)] 30)) 30 #[.string ⟨#[]⟩, .string ⟨#[]⟩, .int .i64 0]) hb1
      rw [World.size_alloc] at this
      exact this
    have C0 := Blk.below' (Blk.alloc (Blk.new_ w 30 #[.string tx, .string d, .int .i64 (sf : Int)]) (.cells #[.string ⟨#[]⟩, .string ⟨#[]⟩, .int .i64 0] 30)) hb1
    have C1 := Blk.below' (Blk.new_ (w.alloc (.cells #[.string tx, .string d, .int .i64 (sf : Int)] 30)) 30 #[.string ⟨#[]⟩, .string ⟨#[]⟩, .int .i64 0]) hb1
    rw [World.size_alloc] at C1
    have hbA : Below w.heap.size w w1 := bthen (by repeat (first | exact Below.refl _ _ | assumption | refine Below.alloc ?_ (by first | exact Nat.le_refl _ | assumption | omega | (simp <;> omega)) _ | refine Below.setCell ?_ (by first | exact Nat.le_refl _ | assumption | omega | (simp <;> omega)) _ | refine Below.drew ?_ | refine below_drewN ?_ _)) hb1
    have n0 : w.heap.size < w1.heap.size := Blk.lt C0
    have n1 : w.heap.size + 1 < w1.heap.size := Blk.lt C1
    have m0 : w.heap.size ≠ w1.heap.size := by omega
    have m1 : w.heap.size + 1 ≠ w1.heap.size := by omega
    have e0 := Blk.cell0 C0; have e1 := Blk.cell1 C0; have e2 := Blk.cell2 C0
    have d0 := Blk.cell0 C1; have d1 := Blk.cell1 C1; have d2 := Blk.cell2 C1
    have f0 := C1.frozen 0; have f1 := C1.frozen 1; have f2 := C1.frozen 2
    clear C0 C1 hb1
    clear e0 e1 e2
    have hbB : Below w.heap.size w (w1.alloc (.cells #[.string d', .int .i64 (sf' : Int)] 28)) := (by repeat (first | exact Below.refl _ _ | assumption | refine Below.alloc ?_ (by first | exact Nat.le_refl _ | assumption | omega | (simp <;> omega)) _ | refine Below.setCell ?_ (by first | exact Nat.le_refl _ | assumption | omega | (simp <;> omega)) _ | refine Below.drew ?_ | refine below_drewN ?_ _))
    have hbC : Below w1.heap.size w1 (w1.alloc (.cells #[.string d', .int .i64 (sf' : Int)] 28)) := (by repeat (first | exact Below.refl _ _ | assumption | refine Below.alloc ?_ (by first | exact Nat.le_refl _ | assumption | omega | (simp <;> omega)) _ | refine Below.setCell ?_ (by first | exact Nat.le_refl _ | assumption | omega | (simp <;> omega)) _ | refine Below.drew ?_ | refine below_drewN ?_ _))
    have hmx := HM.out _ hbB
    have hw2 : 1 < (w1.alloc (.cells #[.string d', .int .i64 (sf' : Int)] 28)).heap.size := Nat.lt_of_lt_of_le HW0.out hbB.size
    have HRR := Lib.hid (rlRead_any d' sf' mx _ HD.out HG.out hmx hw2)
    clear hmx hw2
    go_wp2_with fail
    refine HRR.out.mono ?_
    rintro e w2 ⟨rfl, hb2⟩
    have hbD := bthen hbB hb2
    have hbE := bthen hbC hb2
    have C1 : Blk w2 (w.heap.size + 1) 30 #[.string ⟨#[]⟩, .string ⟨#[]⟩, .int .i64 0] := Blk.below HC1.out hbE n1
    clear d0 d1 d2 f0 f1 f2 hbE hbC
    have d0 := Blk.cell0 C1; have d1 := Blk.cell1 C1; have d2 := Blk.cell2 C1
    have f0 := C1.frozen 0; have f1 := C1.frozen 1; have f2 := C1.frozen 2
    clear C1
    go_wp2_with fail
    (apply bodyPost_ret; (simp [results, Tryz.results14, go_sem, d0, d1, d2]; rfl); rfl)
    exact ⟨rfl, (by repeat (first | exact Below.refl _ _ | assumption | refine Below.alloc ?_ (by first | exact Nat.le_refl _ | assumption | omega | (simp <;> omega)) _ | refine Below.setCell ?_ (by first | exact Nat.le_refl _ | assumption | omega | (simp <;> omega)) _ | refine Below.drew ?_ | refine below_drewN ?_ _))⟩
  · have HT : Hid (cfT tx d sf keep = tx) := by unfold Hid cfT; rw [if_neg hz]
    rw [HT.out]
    have g1 : (craErr d sf keep != 0) = true := by simpa using hz
    obtain ⟨e1, e2⟩ := cra_same hz
    rw [Hid, e1, e2] at HL
    have HL := Lib.hid HL
    rw [e1, e2]
    clear e1 e2 hz hk
    generalize craErr d sf keep = q at *
    go_enter Tryz.func14, Tryz.ntmps14
    go_wp2_with fail
    refine (HL.out _).mono ?_
    rintro e w1 ⟨rfl, hb1⟩
    have C0 := Blk.below' (Blk.alloc (Blk.new_ w 30 #[.string tx, .string d, .int .i64 (sf : Int)]) (.cells #[.string ⟨#[]⟩, .string ⟨#[]⟩, .int .i64 0] 30)) hb1
    have C1 := Blk.below' (Blk.new_ (w.alloc (.cells #[.string tx, .string d, .int .i64 (sf : Int)] 30)) 30 #[.string ⟨#[]⟩, .string ⟨#[]⟩, .int .i64 0]) hb1
    rw [World.size_alloc] at C1
    have hbA : Below w.heap.size w w1 := bthen (by repeat (first | exact Below.refl _ _ | assumption | refine Below.alloc ?_ (by first | exact Nat.le_refl _ | assumption | omega | (simp <;> omega)) _ | refine Below.setCell ?_ (by first | exact Nat.le_refl _ | assumption | omega | (simp <;> omega)) _ | refine Below.drew ?_ | refine below_drewN ?_ _)) hb1
    have n0 : w.heap.size < w1.heap.size := Blk.lt C0
    have n1 : w.heap.size + 1 < w1.heap.size := Blk.lt C1
    have m0 : w.heap.size ≠ w1.heap.size := by omega
    have m1 : w.heap.size + 1 ≠ w1.heap.size := by omega
    have e0 := Blk.cell0 C0; have e1 := Blk.cell1 C0; have e2 := Blk.cell2 C0
    have d0 := Blk.cell0 C1; have d1 := Blk.cell1 C1; have d2 := Blk.cell2 C1
    have f0 := C1.frozen 0; have f1 := C1.frozen 1; have f2 := C1.frozen 2
    clear C0 C1 hb1
    go_wp2_with fail
    (apply bodyPost_ret; (simp [results, Tryz.results14, go_sem, d0, d1, d2, n1]; rfl); rfl)
    exact ⟨rfl, (by repeat (first | exact Below.refl _ _ | assumption | refine Below.alloc ?_ (by first | exact Nat.le_refl _ | assumption | omega | (simp <;> omega)) _ | refine Below.setCell ?_ (by first | exact Nat.le_refl _ | assumption | omega | (simp <;> omega)) _ | refine Below.drew ?_ | refine below_drewN ?_ _))⟩
set_option maxRecDepth 100000 in
set_option maxHeartbeats 4000000 in
theorem rlPackNew_any (tx d : ByteArray) (sf : Nat) (stop : Int) (w : World) (hk : LfOk tx d sf) (hs : stop = 0 ∨ stop = 3) :
    Calls Tryz.prog 16 #[.agg #[.string tx, .string d, .int .i64 (sf : Int)], .int .i64 stop] w fun e w' => e = .returned (.tuple #[.agg #[.string tx, .string (newD tx), .int .i64 ((newD tx).size : Int)], .int .i64 0]) ∧ Below w.heap.size w w' := by
  have HO := Lib.hid (fun W => rlOf_any tx W hk.text)
  clear hk
  generalize hns : (newD tx).size = ns at *
  clear hns
  generalize newD tx = D' at *
  rcases hs with rfl | rfl
  all_goals
    go_enter Tryz.func16, Tryz.ntmps16
    go_wp2_with fail
    refine (HO.out _).mono ?_
    rintro e w1 ⟨rfl, hb1⟩
    have C0 := Blk.below' (Blk.alloc (Blk.new_ w 30 #[.string tx, .string d, .int .i64 (sf : Int)]) (.cells #[.string ⟨#[]⟩, .string ⟨#[]⟩, .int .i64 0] 30)) hb1
    have C1 := Blk.below' (Blk.new_ (w.alloc (.cells #[.string tx, .string d, .int .i64 (sf : Int)] 30)) 30 #[.string ⟨#[]⟩, .string ⟨#[]⟩, .int .i64 0]) hb1
    rw [World.size_alloc] at C1
    have hbA : Below w.heap.size w w1 := bthen (by repeat (first | exact Below.refl _ _ | assumption | refine Below.alloc ?_ (by first | exact Nat.le_refl _ | assumption | omega | (simp <;> omega)) _ | refine Below.setCell ?_ (by first | exact Nat.le_refl _ | assumption | omega | (simp <;> omega)) _ | refine Below.drew ?_ | refine below_drewN ?_ _)) hb1
    have n0 : w.heap.size < w1.heap.size := Blk.lt C0
    have n1 : w.heap.size + 1 < w1.heap.size := Blk.lt C1
    have m0 : w.heap.size ≠ w1.heap.size := by omega
    have m1 : w.heap.size + 1 ≠ w1.heap.size := by omega
    have e0 := Blk.cell0 C0; have e1 := Blk.cell1 C0; have e2 := Blk.cell2 C0
    have d0 := Blk.cell0 C1; have d1 := Blk.cell1 C1; have d2 := Blk.cell2 C1
    have f0 := C1.frozen 0; have f1 := C1.frozen 1; have f2 := C1.frozen 2
    clear C0 C1 hb1
    clear e0 e1 e2
    go_wp2_with fail
    (apply bodyPost_ret; (simp [results, Tryz.results16, go_sem, d0, d1, d2]; rfl); rfl)
    exact ⟨rfl, (by repeat (first | exact Below.refl _ _ | assumption | refine Below.alloc ?_ (by first | exact Nat.le_refl _ | assumption | omega | (simp <;> omega)) _ | refine Below.setCell ?_ (by first | exact Nat.le_refl _ | assumption | omega | (simp <;> omega)) _ | refine Below.drew ?_ | refine below_drewN ?_ _))⟩
set_option maxRecDepth 100000 in
set_option maxHeartbeats 4000000 in
theorem rlPackOld_any (tx d : ByteArray) (sf : Nat) (stop : Int) (mx : Int) (w : World) (hk : LfOk tx d sf) (hm : w.cell? ⟨1, 0, none⟩ = some (.int .i64 mx)) (hw0 : 1 < w.heap.size) (hs : stop = 1 ∨ stop = 2) :
    Calls Tryz.prog 16 #[.agg #[.string tx, .string d, .int .i64 (sf : Int)], .int .i64 stop] w fun e w' => e = .returned (.tuple #[.agg #[.string (cfT tx d sf 0), .string (craD d sf 0), .int .i64 (craF d sf 0 : Nat)], .int .i64 0]) ∧ Below w.heap.size w w' := by
  have HO := Lib.hid (fun W (hb : Below w.heap.size w W) => rlCrash_any tx d sf 0 mx W hk ((hb.cell (p := ⟨1, 0, none⟩) hw0).trans hm) (Nat.lt_of_lt_of_le hw0 hb.size))
  rw [Hid, cra_none hk.safe] at HO
  have HO := Lib.hid HO
  clear hk hm hw0
  generalize cfT tx d sf 0 = t' at *
  generalize craD d sf 0 = D' at *
  generalize craF d sf 0 = ns at *
  rcases hs with rfl | rfl
  all_goals
    go_enter Tryz.func16, Tryz.ntmps16
    go_wp2_with fail
    refine (HO.out _ (by repeat (first | exact Below.refl _ _ | assumption | refine Below.alloc ?_ (by first | exact Nat.le_refl _ | assumption | omega | (simp <;> omega)) _ | refine Below.setCell ?_ (by first | exact Nat.le_refl _ | assumption | omega | (simp <;> omega)) _ | refine Below.drew ?_ | refine below_drewN ?_ _))).mono ?_
    rintro e w1 ⟨rfl, hb1⟩
    have C0 := Blk.below' (Blk.alloc (Blk.new_ w 30 #[.string tx, .string d, .int .i64 (sf : Int)]) (.cells #[.string ⟨#[]⟩, .string ⟨#[]⟩, .int .i64 0] 30)) hb1
    have C1 := Blk.below' (Blk.new_ (w.alloc (.cells #[.string tx, .string d, .int .i64 (sf : Int)] 30)) 30 #[.string ⟨#[]⟩, .string ⟨#[]⟩, .int .i64 0]) hb1
    rw [World.size_alloc] at C1
    have hbA : Below w.heap.size w w1 := bthen (by repeat (first | exact Below.refl _ _ | assumption | refine Below.alloc ?_ (by first | exact Nat.le_refl _ | assumption | omega | (simp <;> omega)) _ | refine Below.setCell ?_ (by first | exact Nat.le_refl _ | assumption | omega | (simp <;> omega)) _ | refine Below.drew ?_ | refine below_drewN ?_ _)) hb1
    have n0 : w.heap.size < w1.heap.size := Blk.lt C0
    have n1 : w.heap.size + 1 < w1.heap.size := Blk.lt C1
    have m0 : w.heap.size ≠ w1.heap.size := by omega
    have m1 : w.heap.size + 1 ≠ w1.heap.size := by omega
    have e0 := Blk.cell0 C0; have e1 := Blk.cell1 C0; have e2 := Blk.cell2 C0
    have d0 := Blk.cell0 C1; have d1 := Blk.cell1 C1; have d2 := Blk.cell2 C1
    have f0 := C1.frozen 0; have f1 := C1.frozen 1; have f2 := C1.frozen 2
    clear C0 C1 hb1
    clear e0 e1 e2
    go_wp2_with fail
    (apply bodyPost_ret; (simp [results, Tryz.results16, go_sem, d0, d1, d2]; rfl); rfl)
    exact ⟨rfl, (by repeat (first | exact Below.refl _ _ | assumption | refine Below.alloc ?_ (by first | exact Nat.le_refl _ | assumption | omega | (simp <;> omega)) _ | refine Below.setCell ?_ (by first | exact Nat.le_refl _ | assumption | omega | (simp <;> omega)) _ | refine Below.drew ?_ | refine below_drewN ?_ _))⟩
set_option maxRecDepth 100000 in
set_option maxHeartbeats 4000000 in
theorem rlPackBad_any (tx d : ByteArray) (sf : Nat) (stop : Int) (w : World) (h0 : stop ≠ 0) (h1 : stop ≠ 1) (h2 : stop ≠ 2) (h3 : stop ≠ 3) :
    Calls Tryz.prog 16 #[.agg #[.string tx, .string d, .int .i64 (sf : Int)], .int .i64 stop] w fun e w' => e = .returned (.tuple #[.agg #[.string tx, .string d, .int .i64 (sf : Int)], .int .i64 1]) ∧ Below w.heap.size w w' := by
  have g0 : (stop == 0) = false := by simpa using h0
  have g1 : (stop == 1) = false := by simpa using h1
  have g2 : (stop == 2) = false := by simpa using h2
  have g3 : (stop == 3) = false := by simpa using h3
  clear h0 h1 h2 h3
  go_enter Tryz.func16, Tryz.ntmps16
  go_wp2_with fail
  (apply bodyPost_ret; (simp [results, Tryz.results16, go_sem]; rfl); rfl)
  exact ⟨rfl, (by repeat (first | exact Below.refl _ _ | assumption | refine Below.alloc ?_ (by first | exact Nat.le_refl _ | assumption | omega | (simp <;> omega)) _ | refine Below.setCell ?_ (by first | exact Nat.le_refl _ | assumption | omega | (simp <;> omega)) _ | refine Below.drew ?_ | refine below_drewN ?_ _))⟩
theorem rlPack_any (tx d : ByteArray) (sf : Nat) (stop : Int) (mx : Int) (w : World) (hk : LfOk tx d sf) (hm : w.cell? ⟨1, 0, none⟩ = some (.int .i64 mx)) (hw0 : 1 < w.heap.size) :
    Calls Tryz.prog 16 #[.agg #[.string tx, .string d, .int .i64 (sf : Int)], .int .i64 stop] w fun e w' => e = .returned (.tuple #[.agg #[.string (pkT tx d sf stop), .string (pkD tx d sf stop), .int .i64 (pkF tx d sf stop : Nat)], .int .i64 (pkE stop)]) ∧ Below w.heap.size w w' := by
  unfold pkT pkD pkF pkE
  by_cases h1 : stop = 0 ∨ stop = 3
  · rw [if_neg (by omega), if_pos h1, if_pos h1, if_pos (by omega)]; exact rlPackNew_any tx d sf stop w hk h1
  · rw [if_neg h1, if_neg h1]
    by_cases h2 : stop = 1 ∨ stop = 2
    · rw [if_pos h2, if_pos h2, if_pos h2, if_pos (by omega)]; exact rlPackOld_any tx d sf stop mx w hk hm hw0 h2
    · rw [if_neg h2, if_neg h2, if_neg h2, if_neg (by omega)]; exact rlPackBad_any tx d sf stop w (by omega) (by omega) (by omega) (by omega)
end Go.Proofs.YtmikckhihfcooaaGreatDoor
