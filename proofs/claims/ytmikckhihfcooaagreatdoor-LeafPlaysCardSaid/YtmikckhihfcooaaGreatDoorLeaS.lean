/- The reference's LeafEdit. -/
import Derived.Test.YtmikckhihfcooaaGreatDoorLeaR
import Derived.Test.YtmikckhihfcooaaGreatDoorSchedT
namespace Go.Proofs.YtmikckhihfcooaaGreatDoor
open Go.RowKit
set_option maxRecDepth 100000 in
set_option maxHeartbeats 4000000 in
theorem rlEditBad_any (tx d : ByteArray) (sf : Nat) (l : List Ed) (A : Option Addr) (m c B : Nat) (w : World) (hr : Rd w B 3 A m (edCells l)) (hB : B ≤ w.heap.size) (hm : m ≤ 9223372036854775807) (hz : edErr tx.size l ≠ 0) :
    Calls Tryz.prog 8 #[.agg #[.string tx, .string d, .int .i64 (sf : Int)], .slice A m c] w fun e w' => e = .returned (.tuple #[.agg #[.string tx, .string d, .int .i64 (sf : Int)], .int .i64 (edErr tx.size l)]) ∧ Below w.heap.size w w' := by
  have HER := Lib.hid (fun W (hb : Below w.heap.size w W) => editsErr_any (tx.size : Int) l A m c B W (hr.below (hb.mono hB)) (Nat.le_trans hB hb.size) hm)
  have g1 : (edErr tx.size l != 0) = true := by simpa using hz
  clear hr hz
  generalize edErr tx.size l = q at *
  go_enter Tryz.func8, Tryz.ntmps8
  go_wp2_with fail
  refine (HER.out _ (by repeat (first | exact Below.refl _ _ | assumption | refine Below.alloc ?_ (by first | exact Nat.le_refl _ | assumption | omega | (simp <;> omega)) _ | refine Below.setCell ?_ (by first | exact Nat.le_refl _ | assumption | omega | (simp <;> omega)) _ | refine Below.drew ?_ | refine below_drewN ?_ _))).mono ?_
  rintro e w1 ⟨rfl, hb1⟩
  have C0 := Blk.below' (Blk.alloc (Blk.new_ _ _ _) _) hb1
  have C1 := Blk.below' (Blk.new_ _ _ _) hb1
  simp only [World.size_alloc] at C1
  have hbA : Below w.heap.size w w1 := bthen (by repeat (first | exact Below.refl _ _ | assumption | refine Below.alloc ?_ (by first | exact Nat.le_refl _ | assumption | omega | (simp <;> omega)) _ | refine Below.setCell ?_ (by first | exact Nat.le_refl _ | assumption | omega | (simp <;> omega)) _ | refine Below.drew ?_ | refine below_drewN ?_ _)) hb1
  have e0 := Blk.cell0 C0; have e1 := Blk.cell1 C0; have e2 := Blk.cell2 C0
  have d0 := Blk.cell0 C1; have d1 := Blk.cell1 C1; have d2 := Blk.cell2 C1
  have f0 := C1.frozen 0; have f1 := C1.frozen 1; have f2 := C1.frozen 2
  clear C0 C1 hb1
  go_wp2_with fail
  (apply bodyPost_ret; (simp [results, Tryz.results8, go_sem, d0, d1, d2]; rfl); rfl)
  exact ⟨rfl, (by repeat (first | exact Below.refl _ _ | assumption | refine Below.alloc ?_ (by first | exact Nat.le_refl _ | assumption | omega | (simp <;> omega)) _ | refine Below.setCell ?_ (by first | exact Nat.le_refl _ | assumption | omega | (simp <;> omega)) _ | refine Below.drew ?_ | refine below_drewN ?_ _))⟩
set_option maxRecDepth 100000 in
set_option maxHeartbeats 8000000 in
theorem rlEditFull_any (tx d : ByteArray) (sf : Nat) (l : List Ed) (A : Option Addr) (m c B : Nat) (w : World) (hr : Rd w B 3 A m (edCells l)) (hB : B ≤ w.heap.size) (hm : m ≤ 9223372036854775807) (ht : TabI w) (hd : d.size ≤ 4000) (hz : edErr tx.size l = 0) (hq : appErr d (recE (S (wrL l))) ≠ 0) :
    Calls Tryz.prog 8 #[.agg #[.string tx, .string d, .int .i64 (sf : Int)], .slice A m c] w fun e w' => e = .returned (.tuple #[.agg #[.string tx, .string d, .int .i64 (sf : Int)], .int .i64 (appErr d (recE (S (wrL l))))]) ∧ Below w.heap.size w w' := by
  have HER := Lib.hid (fun W (hb : Below w.heap.size w W) => editsErr_any (tx.size : Int) l A m c B W (hr.below (hb.mono hB)) (Nat.le_trans hB hb.size) hm)
  have HWR := Lib.hid (fun W (hb : Below w.heap.size w W) => written_any l A m c B W (hr.below (hb.mono hB)) (Nat.le_trans hB hb.size) hm (tabI_stays ht hb) (scr_of_ed hz))
  have HDN := Lib.hid (fun W (hb : Below w.heap.size w W) => edDone_any tx l A m c B W (hr.below (hb.mono hB)) (Nat.le_trans hB hb.size) hz)
  have HAP := Lib.hid (fun W (_ : Below w.heap.size w W) => lgAppendOf_any d (recE (S (wrL l))) sf W hd)
  rw [Hid, hz] at HER
  have HER := Lib.hid HER
  have hs := scr_of_ed hz
  have hwl := wrL_len (scrErr_zero.1 hs).2
  have h20 := (scrErr_zero.1 hs).1
  have hTs : (S (wrL l)).size ≤ 2400 := by rw [S_size]; omega
  clear hs hwl h20 hr hz ht
  generalize S (edDone (L tx) l) = u at *
  generalize S (wrL l) = T at *
  have hDD := appD_err hq
  rw [Hid, hDD] at HAP
  have HAP := Lib.hid HAP
  have g1 : (appErr d (recE T) != 0) = true := by simpa using hq
  clear hDD hq
  generalize appErr d (recE T) = q at *
  obtain ⟨D', hD'⟩ : ∃ D', D' = d := ⟨_, rfl⟩
  rw [Hid] at HAP
  have HAP : Hid (∀ (W : World), Below w.heap.size w W → Calls Tryz.prog 22 #[.agg #[.string d, .int .i64 (sf : Int)], .string (recE T)] W fun e w' => e = .returned (.tuple #[.agg #[.string D', .int .i64 (sf : Int)], .int .i64 q]) ∧ Below W.heap.size W w') := by rw [hD']; exact HAP
  clear hD'
  go_enter Tryz.func8, Tryz.ntmps8
  go_wp2_with fail
  refine (HER.out _ (by repeat (first | exact Below.refl _ _ | assumption | refine Below.alloc ?_ (by first | exact Nat.le_refl _ | assumption | omega | (simp <;> omega)) _ | refine Below.setCell ?_ (by first | exact Nat.le_refl _ | assumption | omega | (simp <;> omega)) _ | refine Below.drew ?_ | refine below_drewN ?_ _))).mono ?_
  rintro e w1 ⟨rfl, hb1⟩
  have P0 := Lib.hid (Blk.below' (Blk.alloc (Blk.new_ w 30 #[.string tx, .string d, .int .i64 (sf : Int)]) (.cells #[.string ⟨#[]⟩, .string ⟨#[]⟩, .int .i64 0] 30)) hb1)
  have P1 := Lib.hid (Blk.below' (Blk.new_ (w.alloc (.cells #[.string tx, .string d, .int .i64 (sf : Int)] 30)) 30 #[.string ⟨#[]⟩, .string ⟨#[]⟩, .int .i64 0]) hb1)
  rw [World.size_alloc] at P1
  have PB : Below w.heap.size w w1 := bthen (by repeat (first | exact Below.refl _ _ | assumption | refine Below.alloc ?_ (by first | exact Nat.le_refl _ | assumption | omega | (simp <;> omega)) _ | refine Below.setCell ?_ (by first | exact Nat.le_refl _ | assumption | omega | (simp <;> omega)) _ | refine Below.drew ?_ | refine below_drewN ?_ _)) hb1
  clear hb1 HER
  have c1 := Blk.cell1 P0.out; have c2 := Blk.cell2 P0.out
  go_wp2_with fail
  obtain ⟨F1, hFd⟩ : ∃ F : World → Prop, F = fun w' => w'.cell? ⟨w.heap.size, 1, none⟩ = some (.string d) ∧ w'.cell? ⟨w.heap.size, 2, none⟩ = some (.int .i64 (sf : Int)) := ⟨_, rfl⟩
  have HF1 := Lib.hid hFd
  clear hFd
  have hcell10 : ∀ p' : Wof F1, p'.w.cell? ⟨w.heap.size, 1, none⟩ = some (.string d) := fun ⟨x, hx⟩ => by rw [HF1.out] at hx; exact hx.1
  have hcell11 : ∀ p' : Wof F1, p'.w.cell? ⟨w.heap.size, 2, none⟩ = some (.int .i64 (sf : Int)) := fun ⟨x, hx⟩ => by rw [HF1.out] at hx; exact hx.2
  refine wp_region_schedT (.op 0 true (.op 1 true (.op 2 true (.fork 3 9 (.op 4 true (.fork 5 9 (.op 6 true (.op 7 true (.op 8 true (.op 9 false (.op 10 false .nil))))) (.op 5 false (.op 6 true (.op 7 true (.op 8 true (.op 10 false .nil))))))) (.op 3 false (.op 4 true (.op 5 false (.op 6 true (.op 7 true (.op 8 true (.op 10 false .nil))))))))))) 11 11 [] F1 (by kernel_rfl) (by kernel_rfl) (by kernel_rfl) rfl (fun _ _ _ _ _ h => h) (by kernel_rfl) (by rw [HF1.out]; first | trivial | (repeat' apply And.intro) <;> assumption | (simp; done) | (simp [*]; done)) (by rw [HF1.out]; exact fun h => h) ?_
  intro hne1
  simp only [opersT, opsAt, List.getElem?_toArray, List.getElem?_cons_succ, List.getElem?_cons_zero]
  repeat (first | (refine wpT_free rfl ?_; intro K hK; go_big_quiet_op; go_big_quiet_on) | (refine wpT_wantS _ rfl rfl rfl ?_; intro K hK; go_big_quiet_op; go_big_quiet_on) | (refine wpT_skipS _ rfl rfl rfl rfl ?_; simp only [Act.put, List.setIfInBounds_toArray, List.set_cons_zero, List.set_cons_succ]) | (refine wpT_skipU _ rfl rfl rfl ?_; simp only [Act.put, List.setIfInBounds_toArray, List.set_cons_zero, List.set_cons_succ]))
  clear c1 c2
  refine wpT_fork ?_ ?_
  · skip
    go_wp2_with fail
    refine (HWR.out _ (by first | exact PB | exact PB.drew)).mono ?_
    rintro e w2 ⟨rfl, hbn⟩
    replace P0 := Lib.hid (Blk.below' (w := w1.drew) P0.out hbn)
    replace P1 := Lib.hid (Blk.below' (w := w1.drew) P1.out hbn)
    skip
    replace PB := bthen (w2 := w1.drew) (by first | exact PB | exact PB.drew) hbn
    clear hbn
    go_wp2_with fail
    refine sched_back (by rw [HF1.out]; exact ⟨Blk.cell1 P0.out, Blk.cell2 P0.out⟩) ?_
    repeat (first | (refine wpT_free rfl ?_; intro K hK; go_big_quiet_op; go_big_quiet_on) | (refine wpT_wantS _ rfl rfl rfl ?_; intro K hK; go_big_quiet_op; go_big_quiet_on) | (refine wpT_skipS _ rfl rfl rfl rfl ?_; simp only [Act.put, List.setIfInBounds_toArray, List.set_cons_zero, List.set_cons_succ]) | (refine wpT_skipU _ rfl rfl rfl ?_; simp only [Act.put, List.setIfInBounds_toArray, List.set_cons_zero, List.set_cons_succ]))
    refine wpT_fork ?_ ?_
    · skip
      go_wp2_with fail
      refine (HAP.out _ (by first | exact PB | exact PB.drew)).mono ?_
      rintro e w3 ⟨rfl, hbn⟩
      replace P0 := Lib.hid (Blk.below' (w := w2) P0.out hbn)
      replace P1 := Lib.hid (Blk.below' (w := w2) P1.out hbn)
      skip
      replace PB := bthen (w2 := w2) (by first | exact PB | exact PB.drew) hbn
      clear hbn
      go_wp2_with fail
      refine sched_back (by rw [HF1.out]; exact ⟨Blk.cell1 P0.out, Blk.cell2 P0.out⟩) ?_
      repeat (first | (refine wpT_free rfl ?_; intro K hK; go_big_quiet_op; go_big_quiet_on) | (refine wpT_wantS _ rfl rfl rfl ?_; intro K hK; go_big_quiet_op; go_big_quiet_on) | (refine wpT_skipS _ rfl rfl rfl rfl ?_; simp only [Act.put, List.setIfInBounds_toArray, List.set_cons_zero, List.set_cons_succ]) | (refine wpT_skipU _ rfl rfl rfl ?_; simp only [Act.put, List.setIfInBounds_toArray, List.set_cons_zero, List.set_cons_succ]))
      refine wpT_other ?_
      go_wp2_with fail
      have P2 : Hid (Blk ((w3.alloc (.cells #[.string ⟨#[]⟩, .int .i64 0] 28))) w3.heap.size 28 #[.string ⟨#[]⟩, .int .i64 0]) := Blk.new_ _ _ _
      have hbn : Below w3.heap.size w3 ((w3.alloc (.cells #[.string ⟨#[]⟩, .int .i64 0] 28))) := (by repeat (first | exact Below.refl _ _ | assumption | refine Below.alloc ?_ (by first | exact Nat.le_refl _ | assumption | omega | (simp <;> omega)) _ | refine Below.setCell ?_ (by first | exact Nat.le_refl _ | assumption | omega | (simp <;> omega)) _ | refine Below.drew ?_ | refine below_drewN ?_ _))
      have n0 : w.heap.size < w3.heap.size := P0.out.lt
      have n1 : w.heap.size + 1 < w3.heap.size := P1.out.lt
      replace P0 := Lib.hid (P0.out.below' hbn)
      replace P1 := Lib.hid (P1.out.below' hbn)
      replace PB := bthen PB hbn
      clear hbn
      generalize (w3.alloc (.cells #[.string ⟨#[]⟩, .int .i64 0] 28)) = w4 at *
      generalize w3.heap.size = b2 at *
      refine sched_back (by rw [HF1.out]; exact ⟨Blk.cell1 P0.out, Blk.cell2 P0.out⟩) ?_
      repeat (first | (refine wpT_free rfl ?_; intro K hK; go_big_quiet_op; go_big_quiet_on) | (refine wpT_wantS _ rfl rfl rfl ?_; intro K hK; go_big_quiet_op; go_big_quiet_on) | (refine wpT_skipS _ rfl rfl rfl rfl ?_; simp only [Act.put, List.setIfInBounds_toArray, List.set_cons_zero, List.set_cons_succ]) | (refine wpT_skipU _ rfl rfl rfl ?_; simp only [Act.put, List.setIfInBounds_toArray, List.set_cons_zero, List.set_cons_succ]))
      refine wpT_other ?_
      have f0 := P2.out.frozen 0; have f1 := P2.out.frozen 1
      have e0 := Blk.cell0 P2.out; have e1 := Blk.cell1 P2.out
      go_wp2_with fail
      have n2 : w.heap.size ≠ b2 := by omega
      have n3 : w.heap.size + 1 ≠ b2 := by omega
      have n4 : w.heap.size ≤ b2 := by omega
      have hb5 : Below w.heap.size w ((w4.setCell ⟨b2, 0, none⟩ (.string D')).setCell ⟨b2, 1, none⟩ (.int .i64 (sf : Int))) := (by repeat (first | exact Below.refl _ _ | assumption | refine Below.alloc ?_ (by first | exact Nat.le_refl _ | assumption | omega | (simp <;> omega)) _ | refine Below.setCell ?_ (by first | exact Nat.le_refl _ | assumption | omega | (simp <;> omega)) _ | refine Below.drew ?_ | refine below_drewN ?_ _))
      replace P0 := Lib.hid (Blk.far (Blk.far P0.out (p := ⟨b2, 0, none⟩) n2 (.string D')) (p := ⟨b2, 1, none⟩) n2 (.int .i64 (sf : Int)))
      replace P1 := Lib.hid (Blk.far (Blk.far P1.out (p := ⟨b2, 0, none⟩) n3 (.string D')) (p := ⟨b2, 1, none⟩) n3 (.int .i64 (sf : Int)))
      replace P2 : Hid (Blk ((w4.setCell ⟨b2, 0, none⟩ (.string D')).setCell ⟨b2, 1, none⟩ (.int .i64 (sf : Int))) b2 28 #[.string D', .int .i64 (sf : Int)]) := Blk.set_ (Blk.set_ P2.out 0 _) 1 _
      clear f0 f1 e0 e1 PB
      generalize ((w4.setCell ⟨b2, 0, none⟩ (.string D')).setCell ⟨b2, 1, none⟩ (.int .i64 (sf : Int))) = w9 at *
      refine sched_back (by rw [HF1.out]; exact ⟨Blk.cell1 P0.out, Blk.cell2 P0.out⟩) ?_
      repeat (first | (refine wpT_free rfl ?_; intro K hK; go_big_quiet_op; go_big_quiet_on) | (refine wpT_wantS _ rfl rfl rfl ?_; intro K hK; go_big_quiet_op; go_big_quiet_on) | (refine wpT_skipS _ rfl rfl rfl rfl ?_; simp only [Act.put, List.setIfInBounds_toArray, List.set_cons_zero, List.set_cons_succ]) | (refine wpT_skipU _ rfl rfl rfl ?_; simp only [Act.put, List.setIfInBounds_toArray, List.set_cons_zero, List.set_cons_succ]))
      refine wpT_nil ?_
      refine wpTail_cons ?_
      go_wp2_with fail
      refine tail_back ?_
      refine wpTail_nil ?_
      clear HF1
      have q0 := Blk.cell0 P0.out; have q1 := Blk.cell1 P0.out; have q2 := Blk.cell2 P0.out
      have f0 := P1.out.frozen 0; have f1 := P1.out.frozen 1; have f2 := P1.out.frozen 2
      have d0 := Blk.cell0 P1.out; have d1 := Blk.cell1 P1.out; have d2 := Blk.cell2 P1.out
      go_wp2_with fail
      (apply bodyPost_ret; (simp [results, Tryz.results8, go_sem, d0, d1, d2]; rfl); rfl)
      exact ⟨rfl, (by repeat (first | exact Below.refl _ _ | assumption | refine Below.alloc ?_ (by first | exact Nat.le_refl _ | assumption | omega | (simp <;> omega)) _ | refine Below.setCell ?_ (by first | exact Nat.le_refl _ | assumption | omega | (simp <;> omega)) _ | refine Below.drew ?_ | refine below_drewN ?_ _))⟩
    · skip
      go_wp2_with fail
      have P2 : Hid (Blk ((w2.alloc (.cells #[.string ⟨#[]⟩, .int .i64 0] 28))) w2.heap.size 28 #[.string ⟨#[]⟩, .int .i64 0]) := Blk.new_ _ _ _
      have hbn : Below w2.heap.size w2 ((w2.alloc (.cells #[.string ⟨#[]⟩, .int .i64 0] 28))) := (by repeat (first | exact Below.refl _ _ | assumption | refine Below.alloc ?_ (by first | exact Nat.le_refl _ | assumption | omega | (simp <;> omega)) _ | refine Below.setCell ?_ (by first | exact Nat.le_refl _ | assumption | omega | (simp <;> omega)) _ | refine Below.drew ?_ | refine below_drewN ?_ _))
      have n0 : w.heap.size < w2.heap.size := P0.out.lt
      have n1 : w.heap.size + 1 < w2.heap.size := P1.out.lt
      replace P0 := Lib.hid (P0.out.below' hbn)
      replace P1 := Lib.hid (P1.out.below' hbn)
      replace PB := bthen PB hbn
      clear hbn
      generalize (w2.alloc (.cells #[.string ⟨#[]⟩, .int .i64 0] 28)) = w3 at *
      generalize w2.heap.size = b2 at *
      refine sched_back (by rw [HF1.out]; exact ⟨Blk.cell1 P0.out, Blk.cell2 P0.out⟩) ?_
      repeat (first | (refine wpT_free rfl ?_; intro K hK; go_big_quiet_op; go_big_quiet_on) | (refine wpT_wantS _ rfl rfl rfl ?_; intro K hK; go_big_quiet_op; go_big_quiet_on) | (refine wpT_skipS _ rfl rfl rfl rfl ?_; simp only [Act.put, List.setIfInBounds_toArray, List.set_cons_zero, List.set_cons_succ]) | (refine wpT_skipU _ rfl rfl rfl ?_; simp only [Act.put, List.setIfInBounds_toArray, List.set_cons_zero, List.set_cons_succ]))
      refine wpT_other ?_
      go_wp2_with fail
      refine (HAP.out _ (by first | exact PB | exact PB.drew)).mono ?_
      rintro e w4 ⟨rfl, hbn⟩
      replace P0 := Lib.hid (Blk.below' (w := w3) P0.out hbn)
      replace P1 := Lib.hid (Blk.below' (w := w3) P1.out hbn)
      replace P2 := Lib.hid (Blk.below' P2.out hbn)
      replace PB := bthen (w2 := w3) (by first | exact PB | exact PB.drew) hbn
      clear hbn
      go_wp2_with fail
      refine sched_back (by rw [HF1.out]; exact ⟨Blk.cell1 P0.out, Blk.cell2 P0.out⟩) ?_
      repeat (first | (refine wpT_free rfl ?_; intro K hK; go_big_quiet_op; go_big_quiet_on) | (refine wpT_wantS _ rfl rfl rfl ?_; intro K hK; go_big_quiet_op; go_big_quiet_on) | (refine wpT_skipS _ rfl rfl rfl rfl ?_; simp only [Act.put, List.setIfInBounds_toArray, List.set_cons_zero, List.set_cons_succ]) | (refine wpT_skipU _ rfl rfl rfl ?_; simp only [Act.put, List.setIfInBounds_toArray, List.set_cons_zero, List.set_cons_succ]))
      refine wpT_other ?_
      have f0 := P2.out.frozen 0; have f1 := P2.out.frozen 1
      have e0 := Blk.cell0 P2.out; have e1 := Blk.cell1 P2.out
      go_wp2_with fail
      have n2 : w.heap.size ≠ b2 := by omega
      have n3 : w.heap.size + 1 ≠ b2 := by omega
      have n4 : w.heap.size ≤ b2 := by omega
      have hb5 : Below w.heap.size w ((w4.setCell ⟨b2, 0, none⟩ (.string D')).setCell ⟨b2, 1, none⟩ (.int .i64 (sf : Int))) := (by repeat (first | exact Below.refl _ _ | assumption | refine Below.alloc ?_ (by first | exact Nat.le_refl _ | assumption | omega | (simp <;> omega)) _ | refine Below.setCell ?_ (by first | exact Nat.le_refl _ | assumption | omega | (simp <;> omega)) _ | refine Below.drew ?_ | refine below_drewN ?_ _))
      replace P0 := Lib.hid (Blk.far (Blk.far P0.out (p := ⟨b2, 0, none⟩) n2 (.string D')) (p := ⟨b2, 1, none⟩) n2 (.int .i64 (sf : Int)))
      replace P1 := Lib.hid (Blk.far (Blk.far P1.out (p := ⟨b2, 0, none⟩) n3 (.string D')) (p := ⟨b2, 1, none⟩) n3 (.int .i64 (sf : Int)))
      replace P2 : Hid (Blk ((w4.setCell ⟨b2, 0, none⟩ (.string D')).setCell ⟨b2, 1, none⟩ (.int .i64 (sf : Int))) b2 28 #[.string D', .int .i64 (sf : Int)]) := Blk.set_ (Blk.set_ P2.out 0 _) 1 _
      clear f0 f1 e0 e1 PB
      generalize ((w4.setCell ⟨b2, 0, none⟩ (.string D')).setCell ⟨b2, 1, none⟩ (.int .i64 (sf : Int))) = w9 at *
      refine sched_back (by rw [HF1.out]; exact ⟨Blk.cell1 P0.out, Blk.cell2 P0.out⟩) ?_
      repeat (first | (refine wpT_free rfl ?_; intro K hK; go_big_quiet_op; go_big_quiet_on) | (refine wpT_wantS _ rfl rfl rfl ?_; intro K hK; go_big_quiet_op; go_big_quiet_on) | (refine wpT_skipS _ rfl rfl rfl rfl ?_; simp only [Act.put, List.setIfInBounds_toArray, List.set_cons_zero, List.set_cons_succ]) | (refine wpT_skipU _ rfl rfl rfl ?_; simp only [Act.put, List.setIfInBounds_toArray, List.set_cons_zero, List.set_cons_succ]))
      refine wpT_nil ?_
      refine wpTail_cons ?_
      go_wp2_with fail
      refine tail_back ?_
      refine wpTail_nil ?_
      clear HF1
      have q0 := Blk.cell0 P0.out; have q1 := Blk.cell1 P0.out; have q2 := Blk.cell2 P0.out
      have f0 := P1.out.frozen 0; have f1 := P1.out.frozen 1; have f2 := P1.out.frozen 2
      have d0 := Blk.cell0 P1.out; have d1 := Blk.cell1 P1.out; have d2 := Blk.cell2 P1.out
      go_wp2_with fail
      (apply bodyPost_ret; (simp [results, Tryz.results8, go_sem, d0, d1, d2]; rfl); rfl)
      exact ⟨rfl, (by repeat (first | exact Below.refl _ _ | assumption | refine Below.alloc ?_ (by first | exact Nat.le_refl _ | assumption | omega | (simp <;> omega)) _ | refine Below.setCell ?_ (by first | exact Nat.le_refl _ | assumption | omega | (simp <;> omega)) _ | refine Below.drew ?_ | refine below_drewN ?_ _))⟩
  · skip
    go_wp2_with fail
    have P2 : Hid (Blk (((w1.alloc (.cells #[.string ⟨#[]⟩, .int .i64 0] 28)).drew)) w1.heap.size 28 #[.string ⟨#[]⟩, .int .i64 0]) := Blk.new_ _ _ _
    have hbn : Below w1.heap.size w1 (((w1.alloc (.cells #[.string ⟨#[]⟩, .int .i64 0] 28)).drew)) := (by repeat (first | exact Below.refl _ _ | assumption | refine Below.alloc ?_ (by first | exact Nat.le_refl _ | assumption | omega | (simp <;> omega)) _ | refine Below.setCell ?_ (by first | exact Nat.le_refl _ | assumption | omega | (simp <;> omega)) _ | refine Below.drew ?_ | refine below_drewN ?_ _))
    have n0 : w.heap.size < w1.heap.size := P0.out.lt
    have n1 : w.heap.size + 1 < w1.heap.size := P1.out.lt
    replace P0 := Lib.hid (P0.out.below' hbn)
    replace P1 := Lib.hid (P1.out.below' hbn)
    replace PB := bthen PB hbn
    clear hbn
    generalize ((w1.alloc (.cells #[.string ⟨#[]⟩, .int .i64 0] 28)).drew) = w2 at *
    generalize w1.heap.size = b2 at *
    refine sched_back (by rw [HF1.out]; exact ⟨Blk.cell1 P0.out, Blk.cell2 P0.out⟩) ?_
    repeat (first | (refine wpT_free rfl ?_; intro K hK; go_big_quiet_op; go_big_quiet_on) | (refine wpT_wantS _ rfl rfl rfl ?_; intro K hK; go_big_quiet_op; go_big_quiet_on) | (refine wpT_skipS _ rfl rfl rfl rfl ?_; simp only [Act.put, List.setIfInBounds_toArray, List.set_cons_zero, List.set_cons_succ]) | (refine wpT_skipU _ rfl rfl rfl ?_; simp only [Act.put, List.setIfInBounds_toArray, List.set_cons_zero, List.set_cons_succ]))
    refine wpT_other ?_
    go_wp2_with fail
    refine (HWR.out _ (by first | exact PB | exact PB.drew)).mono ?_
    rintro e w3 ⟨rfl, hbn⟩
    replace P0 := Lib.hid (Blk.below' (w := w2) P0.out hbn)
    replace P1 := Lib.hid (Blk.below' (w := w2) P1.out hbn)
    replace P2 := Lib.hid (Blk.below' P2.out hbn)
    replace PB := bthen (w2 := w2) (by first | exact PB | exact PB.drew) hbn
    clear hbn
    go_wp2_with fail
    refine sched_back (by rw [HF1.out]; exact ⟨Blk.cell1 P0.out, Blk.cell2 P0.out⟩) ?_
    repeat (first | (refine wpT_free rfl ?_; intro K hK; go_big_quiet_op; go_big_quiet_on) | (refine wpT_wantS _ rfl rfl rfl ?_; intro K hK; go_big_quiet_op; go_big_quiet_on) | (refine wpT_skipS _ rfl rfl rfl rfl ?_; simp only [Act.put, List.setIfInBounds_toArray, List.set_cons_zero, List.set_cons_succ]) | (refine wpT_skipU _ rfl rfl rfl ?_; simp only [Act.put, List.setIfInBounds_toArray, List.set_cons_zero, List.set_cons_succ]))
    refine wpT_other ?_
    go_wp2_with fail
    refine (HAP.out _ (by first | exact PB | exact PB.drew)).mono ?_
    rintro e w4 ⟨rfl, hbn⟩
    replace P0 := Lib.hid (Blk.below' (w := w3) P0.out hbn)
    replace P1 := Lib.hid (Blk.below' (w := w3) P1.out hbn)
    replace P2 := Lib.hid (Blk.below' P2.out hbn)
    replace PB := bthen (w2 := w3) (by first | exact PB | exact PB.drew) hbn
    clear hbn
    go_wp2_with fail
    refine sched_back (by rw [HF1.out]; exact ⟨Blk.cell1 P0.out, Blk.cell2 P0.out⟩) ?_
    repeat (first | (refine wpT_free rfl ?_; intro K hK; go_big_quiet_op; go_big_quiet_on) | (refine wpT_wantS _ rfl rfl rfl ?_; intro K hK; go_big_quiet_op; go_big_quiet_on) | (refine wpT_skipS _ rfl rfl rfl rfl ?_; simp only [Act.put, List.setIfInBounds_toArray, List.set_cons_zero, List.set_cons_succ]) | (refine wpT_skipU _ rfl rfl rfl ?_; simp only [Act.put, List.setIfInBounds_toArray, List.set_cons_zero, List.set_cons_succ]))
    refine wpT_other ?_
    have f0 := P2.out.frozen 0; have f1 := P2.out.frozen 1
    have e0 := Blk.cell0 P2.out; have e1 := Blk.cell1 P2.out
    go_wp2_with fail
    have n2 : w.heap.size ≠ b2 := by omega
    have n3 : w.heap.size + 1 ≠ b2 := by omega
    have n4 : w.heap.size ≤ b2 := by omega
    have hb5 : Below w.heap.size w ((w4.setCell ⟨b2, 0, none⟩ (.string D')).setCell ⟨b2, 1, none⟩ (.int .i64 (sf : Int))) := (by repeat (first | exact Below.refl _ _ | assumption | refine Below.alloc ?_ (by first | exact Nat.le_refl _ | assumption | omega | (simp <;> omega)) _ | refine Below.setCell ?_ (by first | exact Nat.le_refl _ | assumption | omega | (simp <;> omega)) _ | refine Below.drew ?_ | refine below_drewN ?_ _))
    replace P0 := Lib.hid (Blk.far (Blk.far P0.out (p := ⟨b2, 0, none⟩) n2 (.string D')) (p := ⟨b2, 1, none⟩) n2 (.int .i64 (sf : Int)))
    replace P1 := Lib.hid (Blk.far (Blk.far P1.out (p := ⟨b2, 0, none⟩) n3 (.string D')) (p := ⟨b2, 1, none⟩) n3 (.int .i64 (sf : Int)))
    replace P2 : Hid (Blk ((w4.setCell ⟨b2, 0, none⟩ (.string D')).setCell ⟨b2, 1, none⟩ (.int .i64 (sf : Int))) b2 28 #[.string D', .int .i64 (sf : Int)]) := Blk.set_ (Blk.set_ P2.out 0 _) 1 _
    clear f0 f1 e0 e1 PB
    generalize ((w4.setCell ⟨b2, 0, none⟩ (.string D')).setCell ⟨b2, 1, none⟩ (.int .i64 (sf : Int))) = w9 at *
    refine sched_back (by rw [HF1.out]; exact ⟨Blk.cell1 P0.out, Blk.cell2 P0.out⟩) ?_
    repeat (first | (refine wpT_free rfl ?_; intro K hK; go_big_quiet_op; go_big_quiet_on) | (refine wpT_wantS _ rfl rfl rfl ?_; intro K hK; go_big_quiet_op; go_big_quiet_on) | (refine wpT_skipS _ rfl rfl rfl rfl ?_; simp only [Act.put, List.setIfInBounds_toArray, List.set_cons_zero, List.set_cons_succ]) | (refine wpT_skipU _ rfl rfl rfl ?_; simp only [Act.put, List.setIfInBounds_toArray, List.set_cons_zero, List.set_cons_succ]))
    refine wpT_nil ?_
    refine wpTail_cons ?_
    go_wp2_with fail
    refine tail_back ?_
    refine wpTail_nil ?_
    clear HF1
    have q0 := Blk.cell0 P0.out; have q1 := Blk.cell1 P0.out; have q2 := Blk.cell2 P0.out
    have f0 := P1.out.frozen 0; have f1 := P1.out.frozen 1; have f2 := P1.out.frozen 2
    have d0 := Blk.cell0 P1.out; have d1 := Blk.cell1 P1.out; have d2 := Blk.cell2 P1.out
    go_wp2_with fail
    (apply bodyPost_ret; (simp [results, Tryz.results8, go_sem, d0, d1, d2]; rfl); rfl)
    exact ⟨rfl, (by repeat (first | exact Below.refl _ _ | assumption | refine Below.alloc ?_ (by first | exact Nat.le_refl _ | assumption | omega | (simp <;> omega)) _ | refine Below.setCell ?_ (by first | exact Nat.le_refl _ | assumption | omega | (simp <;> omega)) _ | refine Below.drew ?_ | refine below_drewN ?_ _))⟩
set_option maxRecDepth 100000 in
set_option maxHeartbeats 8000000 in
theorem rlEditOk_any (tx d : ByteArray) (sf : Nat) (l : List Ed) (A : Option Addr) (m c B : Nat) (w : World) (hr : Rd w B 3 A m (edCells l)) (hB : B ≤ w.heap.size) (hm : m ≤ 9223372036854775807) (ht : TabI w) (hd : d.size ≤ 4000) (hz : edErr tx.size l = 0) (hq : appErr d (recE (S (wrL l))) = 0) :
    Calls Tryz.prog 8 #[.agg #[.string tx, .string d, .int .i64 (sf : Int)], .slice A m c] w fun e w' => e = .returned (.tuple #[.agg #[.string (S (edDone (L tx) l)), .string (appD d (recE (S (wrL l)))), .int .i64 (sf : Int)], .int .i64 0]) ∧ Below w.heap.size w w' := by
  have HER := Lib.hid (fun W (hb : Below w.heap.size w W) => editsErr_any (tx.size : Int) l A m c B W (hr.below (hb.mono hB)) (Nat.le_trans hB hb.size) hm)
  have HWR := Lib.hid (fun W (hb : Below w.heap.size w W) => written_any l A m c B W (hr.below (hb.mono hB)) (Nat.le_trans hB hb.size) hm (tabI_stays ht hb) (scr_of_ed hz))
  have HDN := Lib.hid (fun W (hb : Below w.heap.size w W) => edDone_any tx l A m c B W (hr.below (hb.mono hB)) (Nat.le_trans hB hb.size) hz)
  have HAP := Lib.hid (fun W (_ : Below w.heap.size w W) => lgAppendOf_any d (recE (S (wrL l))) sf W hd)
  rw [Hid, hz] at HER
  have HER := Lib.hid HER
  have hs := scr_of_ed hz
  have hwl := wrL_len (scrErr_zero.1 hs).2
  have h20 := (scrErr_zero.1 hs).1
  have hTs : (S (wrL l)).size ≤ 2400 := by rw [S_size]; omega
  clear hs hwl h20 hr hz ht
  generalize S (edDone (L tx) l) = u at *
  generalize S (wrL l) = T at *
  rw [Hid, hq] at HAP
  have HAP := Lib.hid HAP
  clear hq
  generalize appD d (recE T) = D' at *
  go_enter Tryz.func8, Tryz.ntmps8
  go_wp2_with fail
  refine (HER.out _ (by repeat (first | exact Below.refl _ _ | assumption | refine Below.alloc ?_ (by first | exact Nat.le_refl _ | assumption | omega | (simp <;> omega)) _ | refine Below.setCell ?_ (by first | exact Nat.le_refl _ | assumption | omega | (simp <;> omega)) _ | refine Below.drew ?_ | refine below_drewN ?_ _))).mono ?_
  rintro e w1 ⟨rfl, hb1⟩
  have P0 := Lib.hid (Blk.below' (Blk.alloc (Blk.new_ w 30 #[.string tx, .string d, .int .i64 (sf : Int)]) (.cells #[.string ⟨#[]⟩, .string ⟨#[]⟩, .int .i64 0] 30)) hb1)
  have P1 := Lib.hid (Blk.below' (Blk.new_ (w.alloc (.cells #[.string tx, .string d, .int .i64 (sf : Int)] 30)) 30 #[.string ⟨#[]⟩, .string ⟨#[]⟩, .int .i64 0]) hb1)
  rw [World.size_alloc] at P1
  have PB : Below w.heap.size w w1 := bthen (by repeat (first | exact Below.refl _ _ | assumption | refine Below.alloc ?_ (by first | exact Nat.le_refl _ | assumption | omega | (simp <;> omega)) _ | refine Below.setCell ?_ (by first | exact Nat.le_refl _ | assumption | omega | (simp <;> omega)) _ | refine Below.drew ?_ | refine below_drewN ?_ _)) hb1
  clear hb1 HER
  have c1 := Blk.cell1 P0.out; have c2 := Blk.cell2 P0.out
  go_wp2_with fail
  obtain ⟨F1, hFd⟩ : ∃ F : World → Prop, F = fun w' => w'.cell? ⟨w.heap.size, 1, none⟩ = some (.string d) ∧ w'.cell? ⟨w.heap.size, 2, none⟩ = some (.int .i64 (sf : Int)) := ⟨_, rfl⟩
  have HF1 := Lib.hid hFd
  clear hFd
  have hcell10 : ∀ p' : Wof F1, p'.w.cell? ⟨w.heap.size, 1, none⟩ = some (.string d) := fun ⟨x, hx⟩ => by rw [HF1.out] at hx; exact hx.1
  have hcell11 : ∀ p' : Wof F1, p'.w.cell? ⟨w.heap.size, 2, none⟩ = some (.int .i64 (sf : Int)) := fun ⟨x, hx⟩ => by rw [HF1.out] at hx; exact hx.2
  refine wp_region_schedT (.op 0 true (.op 1 true (.op 2 true (.fork 3 9 (.op 4 true (.fork 5 9 (.op 6 true (.op 7 true (.op 8 true (.op 9 false (.op 10 false .nil))))) (.op 5 false (.op 6 true (.op 7 true (.op 8 true (.op 10 false .nil))))))) (.op 3 false (.op 4 true (.op 5 false (.op 6 true (.op 7 true (.op 8 true (.op 10 false .nil))))))))))) 11 11 [] F1 (by kernel_rfl) (by kernel_rfl) (by kernel_rfl) rfl (fun _ _ _ _ _ h => h) (by kernel_rfl) (by rw [HF1.out]; first | trivial | (repeat' apply And.intro) <;> assumption | (simp; done) | (simp [*]; done)) (by rw [HF1.out]; exact fun h => h) ?_
  intro hne1
  simp only [opersT, opsAt, List.getElem?_toArray, List.getElem?_cons_succ, List.getElem?_cons_zero]
  repeat (first | (refine wpT_free rfl ?_; intro K hK; go_big_quiet_op; go_big_quiet_on) | (refine wpT_wantS _ rfl rfl rfl ?_; intro K hK; go_big_quiet_op; go_big_quiet_on) | (refine wpT_skipS _ rfl rfl rfl rfl ?_; simp only [Act.put, List.setIfInBounds_toArray, List.set_cons_zero, List.set_cons_succ]) | (refine wpT_skipU _ rfl rfl rfl ?_; simp only [Act.put, List.setIfInBounds_toArray, List.set_cons_zero, List.set_cons_succ]))
  clear c1 c2
  refine wpT_fork ?_ ?_
  · skip
    go_wp2_with fail
    refine (HWR.out _ (by first | exact PB | exact PB.drew)).mono ?_
    rintro e w2 ⟨rfl, hbn⟩
    replace P0 := Lib.hid (Blk.below' (w := w1.drew) P0.out hbn)
    replace P1 := Lib.hid (Blk.below' (w := w1.drew) P1.out hbn)
    skip
    replace PB := bthen (w2 := w1.drew) (by first | exact PB | exact PB.drew) hbn
    clear hbn
    go_wp2_with fail
    refine sched_back (by rw [HF1.out]; exact ⟨Blk.cell1 P0.out, Blk.cell2 P0.out⟩) ?_
    repeat (first | (refine wpT_free rfl ?_; intro K hK; go_big_quiet_op; go_big_quiet_on) | (refine wpT_wantS _ rfl rfl rfl ?_; intro K hK; go_big_quiet_op; go_big_quiet_on) | (refine wpT_skipS _ rfl rfl rfl rfl ?_; simp only [Act.put, List.setIfInBounds_toArray, List.set_cons_zero, List.set_cons_succ]) | (refine wpT_skipU _ rfl rfl rfl ?_; simp only [Act.put, List.setIfInBounds_toArray, List.set_cons_zero, List.set_cons_succ]))
    refine wpT_fork ?_ ?_
    · skip
      go_wp2_with fail
      refine (HAP.out _ (by first | exact PB | exact PB.drew)).mono ?_
      rintro e w3 ⟨rfl, hbn⟩
      replace P0 := Lib.hid (Blk.below' (w := w2) P0.out hbn)
      replace P1 := Lib.hid (Blk.below' (w := w2) P1.out hbn)
      skip
      replace PB := bthen (w2 := w2) (by first | exact PB | exact PB.drew) hbn
      clear hbn
      go_wp2_with fail
      refine sched_back (by rw [HF1.out]; exact ⟨Blk.cell1 P0.out, Blk.cell2 P0.out⟩) ?_
      repeat (first | (refine wpT_free rfl ?_; intro K hK; go_big_quiet_op; go_big_quiet_on) | (refine wpT_wantS _ rfl rfl rfl ?_; intro K hK; go_big_quiet_op; go_big_quiet_on) | (refine wpT_skipS _ rfl rfl rfl rfl ?_; simp only [Act.put, List.setIfInBounds_toArray, List.set_cons_zero, List.set_cons_succ]) | (refine wpT_skipU _ rfl rfl rfl ?_; simp only [Act.put, List.setIfInBounds_toArray, List.set_cons_zero, List.set_cons_succ]))
      refine wpT_other ?_
      go_wp2_with fail
      have P2 : Hid (Blk ((w3.alloc (.cells #[.string ⟨#[]⟩, .int .i64 0] 28))) w3.heap.size 28 #[.string ⟨#[]⟩, .int .i64 0]) := Blk.new_ _ _ _
      have hbn : Below w3.heap.size w3 ((w3.alloc (.cells #[.string ⟨#[]⟩, .int .i64 0] 28))) := (by repeat (first | exact Below.refl _ _ | assumption | refine Below.alloc ?_ (by first | exact Nat.le_refl _ | assumption | omega | (simp <;> omega)) _ | refine Below.setCell ?_ (by first | exact Nat.le_refl _ | assumption | omega | (simp <;> omega)) _ | refine Below.drew ?_ | refine below_drewN ?_ _))
      have n0 : w.heap.size < w3.heap.size := P0.out.lt
      have n1 : w.heap.size + 1 < w3.heap.size := P1.out.lt
      replace P0 := Lib.hid (P0.out.below' hbn)
      replace P1 := Lib.hid (P1.out.below' hbn)
      replace PB := bthen PB hbn
      clear hbn
      generalize (w3.alloc (.cells #[.string ⟨#[]⟩, .int .i64 0] 28)) = w4 at *
      generalize w3.heap.size = b2 at *
      refine sched_back (by rw [HF1.out]; exact ⟨Blk.cell1 P0.out, Blk.cell2 P0.out⟩) ?_
      repeat (first | (refine wpT_free rfl ?_; intro K hK; go_big_quiet_op; go_big_quiet_on) | (refine wpT_wantS _ rfl rfl rfl ?_; intro K hK; go_big_quiet_op; go_big_quiet_on) | (refine wpT_skipS _ rfl rfl rfl rfl ?_; simp only [Act.put, List.setIfInBounds_toArray, List.set_cons_zero, List.set_cons_succ]) | (refine wpT_skipU _ rfl rfl rfl ?_; simp only [Act.put, List.setIfInBounds_toArray, List.set_cons_zero, List.set_cons_succ]))
      refine wpT_other ?_
      have f0 := P2.out.frozen 0; have f1 := P2.out.frozen 1
      have e0 := Blk.cell0 P2.out; have e1 := Blk.cell1 P2.out
      go_wp2_with fail
      have n2 : w.heap.size ≠ b2 := by omega
      have n3 : w.heap.size + 1 ≠ b2 := by omega
      have n4 : w.heap.size ≤ b2 := by omega
      have hb5 : Below w.heap.size w ((w4.setCell ⟨b2, 0, none⟩ (.string D')).setCell ⟨b2, 1, none⟩ (.int .i64 (sf : Int))) := (by repeat (first | exact Below.refl _ _ | assumption | refine Below.alloc ?_ (by first | exact Nat.le_refl _ | assumption | omega | (simp <;> omega)) _ | refine Below.setCell ?_ (by first | exact Nat.le_refl _ | assumption | omega | (simp <;> omega)) _ | refine Below.drew ?_ | refine below_drewN ?_ _))
      replace P0 := Lib.hid (Blk.far (Blk.far P0.out (p := ⟨b2, 0, none⟩) n2 (.string D')) (p := ⟨b2, 1, none⟩) n2 (.int .i64 (sf : Int)))
      replace P1 := Lib.hid (Blk.far (Blk.far P1.out (p := ⟨b2, 0, none⟩) n3 (.string D')) (p := ⟨b2, 1, none⟩) n3 (.int .i64 (sf : Int)))
      replace P2 : Hid (Blk ((w4.setCell ⟨b2, 0, none⟩ (.string D')).setCell ⟨b2, 1, none⟩ (.int .i64 (sf : Int))) b2 28 #[.string D', .int .i64 (sf : Int)]) := Blk.set_ (Blk.set_ P2.out 0 _) 1 _
      replace PB := hb5
      clear f0 f1 e0 e1 hb5
      generalize ((w4.setCell ⟨b2, 0, none⟩ (.string D')).setCell ⟨b2, 1, none⟩ (.int .i64 (sf : Int))) = w9 at *
      refine sched_back (by rw [HF1.out]; exact ⟨Blk.cell1 P0.out, Blk.cell2 P0.out⟩) ?_
      repeat (first | (refine wpT_free rfl ?_; intro K hK; go_big_quiet_op; go_big_quiet_on) | (refine wpT_wantS _ rfl rfl rfl ?_; intro K hK; go_big_quiet_op; go_big_quiet_on) | (refine wpT_skipS _ rfl rfl rfl rfl ?_; simp only [Act.put, List.setIfInBounds_toArray, List.set_cons_zero, List.set_cons_succ]) | (refine wpT_skipU _ rfl rfl rfl ?_; simp only [Act.put, List.setIfInBounds_toArray, List.set_cons_zero, List.set_cons_succ]))
      refine wpT_nil ?_
      refine wpTail_cons ?_
      go_wp2_with fail
      refine tail_back ?_
      refine wpTail_nil ?_
      clear HF1
      have q0 := Blk.cell0 P0.out
      have e0 := Blk.cell0 P2.out; have e1 := Blk.cell1 P2.out
      go_wp2_with fail
      obtain ⟨F2, hFd⟩ : ∃ F : World → Prop, F = fun w' => w'.cell? ⟨w.heap.size, 0, none⟩ = some (.string tx) ∧ w'.cell? ⟨b2, 0, none⟩ = some (.string D') ∧ w'.cell? ⟨b2, 1, none⟩ = some (.int .i64 (sf : Int)) := ⟨_, rfl⟩
      have HF2 := Lib.hid hFd
      clear hFd
      have hcell20 : ∀ p' : Wof F2, p'.w.cell? ⟨w.heap.size, 0, none⟩ = some (.string tx) := fun ⟨x, hx⟩ => by rw [HF2.out] at hx; exact hx.1
      have hcell21 : ∀ p' : Wof F2, p'.w.cell? ⟨b2, 0, none⟩ = some (.string D') := fun ⟨x, hx⟩ => by rw [HF2.out] at hx; exact hx.2.1
      have hcell22 : ∀ p' : Wof F2, p'.w.cell? ⟨b2, 1, none⟩ = some (.int .i64 (sf : Int)) := fun ⟨x, hx⟩ => by rw [HF2.out] at hx; exact hx.2.2
      refine wp_region_schedF [(0, true), (1, true), (2, true), (4, true), (3, false), (5, true), (6, false), (7, true)] F2 (by kernel_rfl) (by kernel_rfl) rfl (fun _ _ _ _ _ h => h) (by kernel_rfl) (by rw [HF2.out]; first | trivial | (repeat' apply And.intro) <;> assumption | (simp; done) | (simp [*]; done)) (by rw [HF2.out]; exact fun h => h) ?_
      intro hne2
      simp only [opersOf, List.getElem?_toArray, List.getElem?_cons_succ, List.getElem?_cons_zero]
      repeat (first | (refine wpSched_free rfl ?_; intro K hK; go_big_quiet_op; go_big_quiet_on) | (refine wpSched_wantS _ rfl rfl rfl ?_; intro K hK; go_big_quiet_op; go_big_quiet_on) | (refine wpSched_skipS _ rfl rfl rfl rfl ?_; simp only [Act.put, List.setIfInBounds_toArray, List.set_cons_zero, List.set_cons_succ]) | (refine wpSched_skipU _ rfl rfl rfl ?_; simp only [Act.put, List.setIfInBounds_toArray, List.set_cons_zero, List.set_cons_succ]))
      refine wpSched_other ?_
      go_wp2_with fail
      refine (HDN.out _ (by first | exact PB | exact PB.drew)).mono ?_
      rintro e w10 ⟨rfl, hb10⟩
      replace P0 := Lib.hid (Blk.below' (w := w9.drew) P0.out hb10)
      replace P1 := Lib.hid (Blk.below' (w := w9.drew) P1.out hb10)
      replace P2 := Lib.hid (Blk.below' (w := w9.drew) P2.out hb10)
      replace PB := bthen PB.drew hb10
      clear hb10 q0 e0 e1
      have q0 := Blk.cell0 P0.out
      have e0 := Blk.cell0 P2.out; have e1 := Blk.cell1 P2.out
      have f0 := P1.out.frozen 0; have f1 := P1.out.frozen 1; have f2 := P1.out.frozen 2
      have d0 := Blk.cell0 P1.out; have d1 := Blk.cell1 P1.out; have d2 := Blk.cell2 P1.out
      have m0 : w.heap.size ≠ w.heap.size + 1 := by omega
      have m1 : b2 ≠ w.heap.size + 1 := by omega
      go_wp2_with fail
      refine sched_back (by rw [HF2.out]; exact ⟨q0, e0, e1⟩) ?_
      repeat (first | (refine wpSched_free rfl ?_; intro K hK; go_big_quiet_op; go_big_quiet_on) | (refine wpSched_wantS _ rfl rfl rfl ?_; intro K hK; go_big_quiet_op; go_big_quiet_on) | (refine wpSched_skipS _ rfl rfl rfl rfl ?_; simp only [Act.put, List.setIfInBounds_toArray, List.set_cons_zero, List.set_cons_succ]) | (refine wpSched_skipU _ rfl rfl rfl ?_; simp only [Act.put, List.setIfInBounds_toArray, List.set_cons_zero, List.set_cons_succ]))
      refine wpSched_other ?_
      go_wp2_with fail
      refine sched_back (by rw [HF2.out]; exact ⟨Blk.cell0 (Blk.far (Blk.far (Blk.far P0.out (p := ⟨w.heap.size + 1, 0, none⟩) m0 _) (p := ⟨w.heap.size + 1, 1, none⟩) m0 _) (p := ⟨w.heap.size + 1, 2, none⟩) m0 _), Blk.cell0 (Blk.far (Blk.far (Blk.far P2.out (p := ⟨w.heap.size + 1, 0, none⟩) m1 _) (p := ⟨w.heap.size + 1, 1, none⟩) m1 _) (p := ⟨w.heap.size + 1, 2, none⟩) m1 _), Blk.cell1 (Blk.far (Blk.far (Blk.far P2.out (p := ⟨w.heap.size + 1, 0, none⟩) m1 _) (p := ⟨w.heap.size + 1, 1, none⟩) m1 _) (p := ⟨w.heap.size + 1, 2, none⟩) m1 _)⟩) ?_
      repeat (first | (refine wpSched_free rfl ?_; intro K hK; go_big_quiet_op; go_big_quiet_on) | (refine wpSched_wantS _ rfl rfl rfl ?_; intro K hK; go_big_quiet_op; go_big_quiet_on) | (refine wpSched_skipS _ rfl rfl rfl rfl ?_; simp only [Act.put, List.setIfInBounds_toArray, List.set_cons_zero, List.set_cons_succ]) | (refine wpSched_skipU _ rfl rfl rfl ?_; simp only [Act.put, List.setIfInBounds_toArray, List.set_cons_zero, List.set_cons_succ]))
      refine wpSched_nil ?_
      go_wp2_with fail
      (apply bodyPost_ret; (simp [results, Tryz.results8, go_sem, d0, d1, d2]; rfl); rfl)
      exact ⟨rfl, (by repeat (first | exact Below.refl _ _ | assumption | refine Below.alloc ?_ (by first | exact Nat.le_refl _ | assumption | omega | (simp <;> omega)) _ | refine Below.setCell ?_ (by first | exact Nat.le_refl _ | assumption | omega | (simp <;> omega)) _ | refine Below.drew ?_ | refine below_drewN ?_ _))⟩
    · skip
      go_wp2_with fail
      have P2 : Hid (Blk ((w2.alloc (.cells #[.string ⟨#[]⟩, .int .i64 0] 28))) w2.heap.size 28 #[.string ⟨#[]⟩, .int .i64 0]) := Blk.new_ _ _ _
      have hbn : Below w2.heap.size w2 ((w2.alloc (.cells #[.string ⟨#[]⟩, .int .i64 0] 28))) := (by repeat (first | exact Below.refl _ _ | assumption | refine Below.alloc ?_ (by first | exact Nat.le_refl _ | assumption | omega | (simp <;> omega)) _ | refine Below.setCell ?_ (by first | exact Nat.le_refl _ | assumption | omega | (simp <;> omega)) _ | refine Below.drew ?_ | refine below_drewN ?_ _))
      have n0 : w.heap.size < w2.heap.size := P0.out.lt
      have n1 : w.heap.size + 1 < w2.heap.size := P1.out.lt
      replace P0 := Lib.hid (P0.out.below' hbn)
      replace P1 := Lib.hid (P1.out.below' hbn)
      replace PB := bthen PB hbn
      clear hbn
      generalize (w2.alloc (.cells #[.string ⟨#[]⟩, .int .i64 0] 28)) = w3 at *
      generalize w2.heap.size = b2 at *
      refine sched_back (by rw [HF1.out]; exact ⟨Blk.cell1 P0.out, Blk.cell2 P0.out⟩) ?_
      repeat (first | (refine wpT_free rfl ?_; intro K hK; go_big_quiet_op; go_big_quiet_on) | (refine wpT_wantS _ rfl rfl rfl ?_; intro K hK; go_big_quiet_op; go_big_quiet_on) | (refine wpT_skipS _ rfl rfl rfl rfl ?_; simp only [Act.put, List.setIfInBounds_toArray, List.set_cons_zero, List.set_cons_succ]) | (refine wpT_skipU _ rfl rfl rfl ?_; simp only [Act.put, List.setIfInBounds_toArray, List.set_cons_zero, List.set_cons_succ]))
      refine wpT_other ?_
      go_wp2_with fail
      refine (HAP.out _ (by first | exact PB | exact PB.drew)).mono ?_
      rintro e w4 ⟨rfl, hbn⟩
      replace P0 := Lib.hid (Blk.below' (w := w3) P0.out hbn)
      replace P1 := Lib.hid (Blk.below' (w := w3) P1.out hbn)
      replace P2 := Lib.hid (Blk.below' P2.out hbn)
      replace PB := bthen (w2 := w3) (by first | exact PB | exact PB.drew) hbn
      clear hbn
      go_wp2_with fail
      refine sched_back (by rw [HF1.out]; exact ⟨Blk.cell1 P0.out, Blk.cell2 P0.out⟩) ?_
      repeat (first | (refine wpT_free rfl ?_; intro K hK; go_big_quiet_op; go_big_quiet_on) | (refine wpT_wantS _ rfl rfl rfl ?_; intro K hK; go_big_quiet_op; go_big_quiet_on) | (refine wpT_skipS _ rfl rfl rfl rfl ?_; simp only [Act.put, List.setIfInBounds_toArray, List.set_cons_zero, List.set_cons_succ]) | (refine wpT_skipU _ rfl rfl rfl ?_; simp only [Act.put, List.setIfInBounds_toArray, List.set_cons_zero, List.set_cons_succ]))
      refine wpT_other ?_
      have f0 := P2.out.frozen 0; have f1 := P2.out.frozen 1
      have e0 := Blk.cell0 P2.out; have e1 := Blk.cell1 P2.out
      go_wp2_with fail
      have n2 : w.heap.size ≠ b2 := by omega
      have n3 : w.heap.size + 1 ≠ b2 := by omega
      have n4 : w.heap.size ≤ b2 := by omega
      have hb5 : Below w.heap.size w ((w4.setCell ⟨b2, 0, none⟩ (.string D')).setCell ⟨b2, 1, none⟩ (.int .i64 (sf : Int))) := (by repeat (first | exact Below.refl _ _ | assumption | refine Below.alloc ?_ (by first | exact Nat.le_refl _ | assumption | omega | (simp <;> omega)) _ | refine Below.setCell ?_ (by first | exact Nat.le_refl _ | assumption | omega | (simp <;> omega)) _ | refine Below.drew ?_ | refine below_drewN ?_ _))
      replace P0 := Lib.hid (Blk.far (Blk.far P0.out (p := ⟨b2, 0, none⟩) n2 (.string D')) (p := ⟨b2, 1, none⟩) n2 (.int .i64 (sf : Int)))
      replace P1 := Lib.hid (Blk.far (Blk.far P1.out (p := ⟨b2, 0, none⟩) n3 (.string D')) (p := ⟨b2, 1, none⟩) n3 (.int .i64 (sf : Int)))
      replace P2 : Hid (Blk ((w4.setCell ⟨b2, 0, none⟩ (.string D')).setCell ⟨b2, 1, none⟩ (.int .i64 (sf : Int))) b2 28 #[.string D', .int .i64 (sf : Int)]) := Blk.set_ (Blk.set_ P2.out 0 _) 1 _
      replace PB := hb5
      clear f0 f1 e0 e1 hb5
      generalize ((w4.setCell ⟨b2, 0, none⟩ (.string D')).setCell ⟨b2, 1, none⟩ (.int .i64 (sf : Int))) = w9 at *
      refine sched_back (by rw [HF1.out]; exact ⟨Blk.cell1 P0.out, Blk.cell2 P0.out⟩) ?_
      repeat (first | (refine wpT_free rfl ?_; intro K hK; go_big_quiet_op; go_big_quiet_on) | (refine wpT_wantS _ rfl rfl rfl ?_; intro K hK; go_big_quiet_op; go_big_quiet_on) | (refine wpT_skipS _ rfl rfl rfl rfl ?_; simp only [Act.put, List.setIfInBounds_toArray, List.set_cons_zero, List.set_cons_succ]) | (refine wpT_skipU _ rfl rfl rfl ?_; simp only [Act.put, List.setIfInBounds_toArray, List.set_cons_zero, List.set_cons_succ]))
      refine wpT_nil ?_
      refine wpTail_cons ?_
      go_wp2_with fail
      refine tail_back ?_
      refine wpTail_nil ?_
      clear HF1
      have q0 := Blk.cell0 P0.out
      have e0 := Blk.cell0 P2.out; have e1 := Blk.cell1 P2.out
      go_wp2_with fail
      obtain ⟨F2, hFd⟩ : ∃ F : World → Prop, F = fun w' => w'.cell? ⟨w.heap.size, 0, none⟩ = some (.string tx) ∧ w'.cell? ⟨b2, 0, none⟩ = some (.string D') ∧ w'.cell? ⟨b2, 1, none⟩ = some (.int .i64 (sf : Int)) := ⟨_, rfl⟩
      have HF2 := Lib.hid hFd
      clear hFd
      have hcell20 : ∀ p' : Wof F2, p'.w.cell? ⟨w.heap.size, 0, none⟩ = some (.string tx) := fun ⟨x, hx⟩ => by rw [HF2.out] at hx; exact hx.1
      have hcell21 : ∀ p' : Wof F2, p'.w.cell? ⟨b2, 0, none⟩ = some (.string D') := fun ⟨x, hx⟩ => by rw [HF2.out] at hx; exact hx.2.1
      have hcell22 : ∀ p' : Wof F2, p'.w.cell? ⟨b2, 1, none⟩ = some (.int .i64 (sf : Int)) := fun ⟨x, hx⟩ => by rw [HF2.out] at hx; exact hx.2.2
      refine wp_region_schedF [(0, true), (1, true), (2, true), (4, true), (3, false), (5, true), (6, false), (7, true)] F2 (by kernel_rfl) (by kernel_rfl) rfl (fun _ _ _ _ _ h => h) (by kernel_rfl) (by rw [HF2.out]; first | trivial | (repeat' apply And.intro) <;> assumption | (simp; done) | (simp [*]; done)) (by rw [HF2.out]; exact fun h => h) ?_
      intro hne2
      simp only [opersOf, List.getElem?_toArray, List.getElem?_cons_succ, List.getElem?_cons_zero]
      repeat (first | (refine wpSched_free rfl ?_; intro K hK; go_big_quiet_op; go_big_quiet_on) | (refine wpSched_wantS _ rfl rfl rfl ?_; intro K hK; go_big_quiet_op; go_big_quiet_on) | (refine wpSched_skipS _ rfl rfl rfl rfl ?_; simp only [Act.put, List.setIfInBounds_toArray, List.set_cons_zero, List.set_cons_succ]) | (refine wpSched_skipU _ rfl rfl rfl ?_; simp only [Act.put, List.setIfInBounds_toArray, List.set_cons_zero, List.set_cons_succ]))
      refine wpSched_other ?_
      go_wp2_with fail
      refine (HDN.out _ (by first | exact PB | exact PB.drew)).mono ?_
      rintro e w10 ⟨rfl, hb10⟩
      replace P0 := Lib.hid (Blk.below' (w := w9.drew) P0.out hb10)
      replace P1 := Lib.hid (Blk.below' (w := w9.drew) P1.out hb10)
      replace P2 := Lib.hid (Blk.below' (w := w9.drew) P2.out hb10)
      replace PB := bthen PB.drew hb10
      clear hb10 q0 e0 e1
      have q0 := Blk.cell0 P0.out
      have e0 := Blk.cell0 P2.out; have e1 := Blk.cell1 P2.out
      have f0 := P1.out.frozen 0; have f1 := P1.out.frozen 1; have f2 := P1.out.frozen 2
      have d0 := Blk.cell0 P1.out; have d1 := Blk.cell1 P1.out; have d2 := Blk.cell2 P1.out
      have m0 : w.heap.size ≠ w.heap.size + 1 := by omega
      have m1 : b2 ≠ w.heap.size + 1 := by omega
      go_wp2_with fail
      refine sched_back (by rw [HF2.out]; exact ⟨q0, e0, e1⟩) ?_
      repeat (first | (refine wpSched_free rfl ?_; intro K hK; go_big_quiet_op; go_big_quiet_on) | (refine wpSched_wantS _ rfl rfl rfl ?_; intro K hK; go_big_quiet_op; go_big_quiet_on) | (refine wpSched_skipS _ rfl rfl rfl rfl ?_; simp only [Act.put, List.setIfInBounds_toArray, List.set_cons_zero, List.set_cons_succ]) | (refine wpSched_skipU _ rfl rfl rfl ?_; simp only [Act.put, List.setIfInBounds_toArray, List.set_cons_zero, List.set_cons_succ]))
      refine wpSched_other ?_
      go_wp2_with fail
      refine sched_back (by rw [HF2.out]; exact ⟨Blk.cell0 (Blk.far (Blk.far (Blk.far P0.out (p := ⟨w.heap.size + 1, 0, none⟩) m0 _) (p := ⟨w.heap.size + 1, 1, none⟩) m0 _) (p := ⟨w.heap.size + 1, 2, none⟩) m0 _), Blk.cell0 (Blk.far (Blk.far (Blk.far P2.out (p := ⟨w.heap.size + 1, 0, none⟩) m1 _) (p := ⟨w.heap.size + 1, 1, none⟩) m1 _) (p := ⟨w.heap.size + 1, 2, none⟩) m1 _), Blk.cell1 (Blk.far (Blk.far (Blk.far P2.out (p := ⟨w.heap.size + 1, 0, none⟩) m1 _) (p := ⟨w.heap.size + 1, 1, none⟩) m1 _) (p := ⟨w.heap.size + 1, 2, none⟩) m1 _)⟩) ?_
      repeat (first | (refine wpSched_free rfl ?_; intro K hK; go_big_quiet_op; go_big_quiet_on) | (refine wpSched_wantS _ rfl rfl rfl ?_; intro K hK; go_big_quiet_op; go_big_quiet_on) | (refine wpSched_skipS _ rfl rfl rfl rfl ?_; simp only [Act.put, List.setIfInBounds_toArray, List.set_cons_zero, List.set_cons_succ]) | (refine wpSched_skipU _ rfl rfl rfl ?_; simp only [Act.put, List.setIfInBounds_toArray, List.set_cons_zero, List.set_cons_succ]))
      refine wpSched_nil ?_
      go_wp2_with fail
      (apply bodyPost_ret; (simp [results, Tryz.results8, go_sem, d0, d1, d2]; rfl); rfl)
      exact ⟨rfl, (by repeat (first | exact Below.refl _ _ | assumption | refine Below.alloc ?_ (by first | exact Nat.le_refl _ | assumption | omega | (simp <;> omega)) _ | refine Below.setCell ?_ (by first | exact Nat.le_refl _ | assumption | omega | (simp <;> omega)) _ | refine Below.drew ?_ | refine below_drewN ?_ _))⟩
  · skip
    go_wp2_with fail
    have P2 : Hid (Blk (((w1.alloc (.cells #[.string ⟨#[]⟩, .int .i64 0] 28)).drew)) w1.heap.size 28 #[.string ⟨#[]⟩, .int .i64 0]) := Blk.new_ _ _ _
    have hbn : Below w1.heap.size w1 (((w1.alloc (.cells #[.string ⟨#[]⟩, .int .i64 0] 28)).drew)) := (by repeat (first | exact Below.refl _ _ | assumption | refine Below.alloc ?_ (by first | exact Nat.le_refl _ | assumption | omega | (simp <;> omega)) _ | refine Below.setCell ?_ (by first | exact Nat.le_refl _ | assumption | omega | (simp <;> omega)) _ | refine Below.drew ?_ | refine below_drewN ?_ _))
    have n0 : w.heap.size < w1.heap.size := P0.out.lt
    have n1 : w.heap.size + 1 < w1.heap.size := P1.out.lt
    replace P0 := Lib.hid (P0.out.below' hbn)
    replace P1 := Lib.hid (P1.out.below' hbn)
    replace PB := bthen PB hbn
    clear hbn
    generalize ((w1.alloc (.cells #[.string ⟨#[]⟩, .int .i64 0] 28)).drew) = w2 at *
    generalize w1.heap.size = b2 at *
    refine sched_back (by rw [HF1.out]; exact ⟨Blk.cell1 P0.out, Blk.cell2 P0.out⟩) ?_
    repeat (first | (refine wpT_free rfl ?_; intro K hK; go_big_quiet_op; go_big_quiet_on) | (refine wpT_wantS _ rfl rfl rfl ?_; intro K hK; go_big_quiet_op; go_big_quiet_on) | (refine wpT_skipS _ rfl rfl rfl rfl ?_; simp only [Act.put, List.setIfInBounds_toArray, List.set_cons_zero, List.set_cons_succ]) | (refine wpT_skipU _ rfl rfl rfl ?_; simp only [Act.put, List.setIfInBounds_toArray, List.set_cons_zero, List.set_cons_succ]))
    refine wpT_other ?_
    go_wp2_with fail
    refine (HWR.out _ (by first | exact PB | exact PB.drew)).mono ?_
    rintro e w3 ⟨rfl, hbn⟩
    replace P0 := Lib.hid (Blk.below' (w := w2) P0.out hbn)
    replace P1 := Lib.hid (Blk.below' (w := w2) P1.out hbn)
    replace P2 := Lib.hid (Blk.below' P2.out hbn)
    replace PB := bthen (w2 := w2) (by first | exact PB | exact PB.drew) hbn
    clear hbn
    go_wp2_with fail
    refine sched_back (by rw [HF1.out]; exact ⟨Blk.cell1 P0.out, Blk.cell2 P0.out⟩) ?_
    repeat (first | (refine wpT_free rfl ?_; intro K hK; go_big_quiet_op; go_big_quiet_on) | (refine wpT_wantS _ rfl rfl rfl ?_; intro K hK; go_big_quiet_op; go_big_quiet_on) | (refine wpT_skipS _ rfl rfl rfl rfl ?_; simp only [Act.put, List.setIfInBounds_toArray, List.set_cons_zero, List.set_cons_succ]) | (refine wpT_skipU _ rfl rfl rfl ?_; simp only [Act.put, List.setIfInBounds_toArray, List.set_cons_zero, List.set_cons_succ]))
    refine wpT_other ?_
    go_wp2_with fail
    refine (HAP.out _ (by first | exact PB | exact PB.drew)).mono ?_
    rintro e w4 ⟨rfl, hbn⟩
    replace P0 := Lib.hid (Blk.below' (w := w3) P0.out hbn)
    replace P1 := Lib.hid (Blk.below' (w := w3) P1.out hbn)
    replace P2 := Lib.hid (Blk.below' P2.out hbn)
    replace PB := bthen (w2 := w3) (by first | exact PB | exact PB.drew) hbn
    clear hbn
    go_wp2_with fail
    refine sched_back (by rw [HF1.out]; exact ⟨Blk.cell1 P0.out, Blk.cell2 P0.out⟩) ?_
    repeat (first | (refine wpT_free rfl ?_; intro K hK; go_big_quiet_op; go_big_quiet_on) | (refine wpT_wantS _ rfl rfl rfl ?_; intro K hK; go_big_quiet_op; go_big_quiet_on) | (refine wpT_skipS _ rfl rfl rfl rfl ?_; simp only [Act.put, List.setIfInBounds_toArray, List.set_cons_zero, List.set_cons_succ]) | (refine wpT_skipU _ rfl rfl rfl ?_; simp only [Act.put, List.setIfInBounds_toArray, List.set_cons_zero, List.set_cons_succ]))
    refine wpT_other ?_
    have f0 := P2.out.frozen 0; have f1 := P2.out.frozen 1
    have e0 := Blk.cell0 P2.out; have e1 := Blk.cell1 P2.out
    go_wp2_with fail
    have n2 : w.heap.size ≠ b2 := by omega
    have n3 : w.heap.size + 1 ≠ b2 := by omega
    have n4 : w.heap.size ≤ b2 := by omega
    have hb5 : Below w.heap.size w ((w4.setCell ⟨b2, 0, none⟩ (.string D')).setCell ⟨b2, 1, none⟩ (.int .i64 (sf : Int))) := (by repeat (first | exact Below.refl _ _ | assumption | refine Below.alloc ?_ (by first | exact Nat.le_refl _ | assumption | omega | (simp <;> omega)) _ | refine Below.setCell ?_ (by first | exact Nat.le_refl _ | assumption | omega | (simp <;> omega)) _ | refine Below.drew ?_ | refine below_drewN ?_ _))
    replace P0 := Lib.hid (Blk.far (Blk.far P0.out (p := ⟨b2, 0, none⟩) n2 (.string D')) (p := ⟨b2, 1, none⟩) n2 (.int .i64 (sf : Int)))
    replace P1 := Lib.hid (Blk.far (Blk.far P1.out (p := ⟨b2, 0, none⟩) n3 (.string D')) (p := ⟨b2, 1, none⟩) n3 (.int .i64 (sf : Int)))
    replace P2 : Hid (Blk ((w4.setCell ⟨b2, 0, none⟩ (.string D')).setCell ⟨b2, 1, none⟩ (.int .i64 (sf : Int))) b2 28 #[.string D', .int .i64 (sf : Int)]) := Blk.set_ (Blk.set_ P2.out 0 _) 1 _
    replace PB := hb5
    clear f0 f1 e0 e1 hb5
    generalize ((w4.setCell ⟨b2, 0, none⟩ (.string D')).setCell ⟨b2, 1, none⟩ (.int .i64 (sf : Int))) = w9 at *
    refine sched_back (by rw [HF1.out]; exact ⟨Blk.cell1 P0.out, Blk.cell2 P0.out⟩) ?_
    repeat (first | (refine wpT_free rfl ?_; intro K hK; go_big_quiet_op; go_big_quiet_on) | (refine wpT_wantS _ rfl rfl rfl ?_; intro K hK; go_big_quiet_op; go_big_quiet_on) | (refine wpT_skipS _ rfl rfl rfl rfl ?_; simp only [Act.put, List.setIfInBounds_toArray, List.set_cons_zero, List.set_cons_succ]) | (refine wpT_skipU _ rfl rfl rfl ?_; simp only [Act.put, List.setIfInBounds_toArray, List.set_cons_zero, List.set_cons_succ]))
    refine wpT_nil ?_
    refine wpTail_cons ?_
    go_wp2_with fail
    refine tail_back ?_
    refine wpTail_nil ?_
    clear HF1
    have q0 := Blk.cell0 P0.out
    have e0 := Blk.cell0 P2.out; have e1 := Blk.cell1 P2.out
    go_wp2_with fail
    obtain ⟨F2, hFd⟩ : ∃ F : World → Prop, F = fun w' => w'.cell? ⟨w.heap.size, 0, none⟩ = some (.string tx) ∧ w'.cell? ⟨b2, 0, none⟩ = some (.string D') ∧ w'.cell? ⟨b2, 1, none⟩ = some (.int .i64 (sf : Int)) := ⟨_, rfl⟩
    have HF2 := Lib.hid hFd
    clear hFd
    have hcell20 : ∀ p' : Wof F2, p'.w.cell? ⟨w.heap.size, 0, none⟩ = some (.string tx) := fun ⟨x, hx⟩ => by rw [HF2.out] at hx; exact hx.1
    have hcell21 : ∀ p' : Wof F2, p'.w.cell? ⟨b2, 0, none⟩ = some (.string D') := fun ⟨x, hx⟩ => by rw [HF2.out] at hx; exact hx.2.1
    have hcell22 : ∀ p' : Wof F2, p'.w.cell? ⟨b2, 1, none⟩ = some (.int .i64 (sf : Int)) := fun ⟨x, hx⟩ => by rw [HF2.out] at hx; exact hx.2.2
    refine wp_region_schedF [(0, true), (1, true), (2, true), (4, true), (3, false), (5, true), (6, false), (7, true)] F2 (by kernel_rfl) (by kernel_rfl) rfl (fun _ _ _ _ _ h => h) (by kernel_rfl) (by rw [HF2.out]; first | trivial | (repeat' apply And.intro) <;> assumption | (simp; done) | (simp [*]; done)) (by rw [HF2.out]; exact fun h => h) ?_
    intro hne2
    simp only [opersOf, List.getElem?_toArray, List.getElem?_cons_succ, List.getElem?_cons_zero]
    repeat (first | (refine wpSched_free rfl ?_; intro K hK; go_big_quiet_op; go_big_quiet_on) | (refine wpSched_wantS _ rfl rfl rfl ?_; intro K hK; go_big_quiet_op; go_big_quiet_on) | (refine wpSched_skipS _ rfl rfl rfl rfl ?_; simp only [Act.put, List.setIfInBounds_toArray, List.set_cons_zero, List.set_cons_succ]) | (refine wpSched_skipU _ rfl rfl rfl ?_; simp only [Act.put, List.setIfInBounds_toArray, List.set_cons_zero, List.set_cons_succ]))
    refine wpSched_other ?_
    go_wp2_with fail
    refine (HDN.out _ (by first | exact PB | exact PB.drew)).mono ?_
    rintro e w10 ⟨rfl, hb10⟩
    replace P0 := Lib.hid (Blk.below' (w := w9.drew) P0.out hb10)
    replace P1 := Lib.hid (Blk.below' (w := w9.drew) P1.out hb10)
    replace P2 := Lib.hid (Blk.below' (w := w9.drew) P2.out hb10)
    replace PB := bthen PB.drew hb10
    clear hb10 q0 e0 e1
    have q0 := Blk.cell0 P0.out
    have e0 := Blk.cell0 P2.out; have e1 := Blk.cell1 P2.out
    have f0 := P1.out.frozen 0; have f1 := P1.out.frozen 1; have f2 := P1.out.frozen 2
    have d0 := Blk.cell0 P1.out; have d1 := Blk.cell1 P1.out; have d2 := Blk.cell2 P1.out
    have m0 : w.heap.size ≠ w.heap.size + 1 := by omega
    have m1 : b2 ≠ w.heap.size + 1 := by omega
    go_wp2_with fail
    refine sched_back (by rw [HF2.out]; exact ⟨q0, e0, e1⟩) ?_
    repeat (first | (refine wpSched_free rfl ?_; intro K hK; go_big_quiet_op; go_big_quiet_on) | (refine wpSched_wantS _ rfl rfl rfl ?_; intro K hK; go_big_quiet_op; go_big_quiet_on) | (refine wpSched_skipS _ rfl rfl rfl rfl ?_; simp only [Act.put, List.setIfInBounds_toArray, List.set_cons_zero, List.set_cons_succ]) | (refine wpSched_skipU _ rfl rfl rfl ?_; simp only [Act.put, List.setIfInBounds_toArray, List.set_cons_zero, List.set_cons_succ]))
    refine wpSched_other ?_
    go_wp2_with fail
    refine sched_back (by rw [HF2.out]; exact ⟨Blk.cell0 (Blk.far (Blk.far (Blk.far P0.out (p := ⟨w.heap.size + 1, 0, none⟩) m0 _) (p := ⟨w.heap.size + 1, 1, none⟩) m0 _) (p := ⟨w.heap.size + 1, 2, none⟩) m0 _), Blk.cell0 (Blk.far (Blk.far (Blk.far P2.out (p := ⟨w.heap.size + 1, 0, none⟩) m1 _) (p := ⟨w.heap.size + 1, 1, none⟩) m1 _) (p := ⟨w.heap.size + 1, 2, none⟩) m1 _), Blk.cell1 (Blk.far (Blk.far (Blk.far P2.out (p := ⟨w.heap.size + 1, 0, none⟩) m1 _) (p := ⟨w.heap.size + 1, 1, none⟩) m1 _) (p := ⟨w.heap.size + 1, 2, none⟩) m1 _)⟩) ?_
    repeat (first | (refine wpSched_free rfl ?_; intro K hK; go_big_quiet_op; go_big_quiet_on) | (refine wpSched_wantS _ rfl rfl rfl ?_; intro K hK; go_big_quiet_op; go_big_quiet_on) | (refine wpSched_skipS _ rfl rfl rfl rfl ?_; simp only [Act.put, List.setIfInBounds_toArray, List.set_cons_zero, List.set_cons_succ]) | (refine wpSched_skipU _ rfl rfl rfl ?_; simp only [Act.put, List.setIfInBounds_toArray, List.set_cons_zero, List.set_cons_succ]))
    refine wpSched_nil ?_
    go_wp2_with fail
    (apply bodyPost_ret; (simp [results, Tryz.results8, go_sem, d0, d1, d2]; rfl); rfl)
    exact ⟨rfl, (by repeat (first | exact Below.refl _ _ | assumption | refine Below.alloc ?_ (by first | exact Nat.le_refl _ | assumption | omega | (simp <;> omega)) _ | refine Below.setCell ?_ (by first | exact Nat.le_refl _ | assumption | omega | (simp <;> omega)) _ | refine Below.drew ?_ | refine below_drewN ?_ _))⟩
/-- LeafEdit of the reference, whole. -/
theorem rlEdit_any (tx d : ByteArray) (sf : Nat) (l : List Ed) (A : Option Addr) (m c B : Nat) (w : World) (hr : Rd w B 3 A m (edCells l)) (hB : B ≤ w.heap.size) (hm : m ≤ 9223372036854775807) (ht : TabI w) (hd : d.size ≤ 4000) :
    Calls Tryz.prog 8 #[.agg #[.string tx, .string d, .int .i64 (sf : Int)], .slice A m c] w fun e w' => e = .returned (.tuple #[.agg #[.string (lfT tx d l), .string (lfD tx d l), .int .i64 (sf : Int)], .int .i64 (lfE tx d l)]) ∧ Below w.heap.size w w' := by
  by_cases hz : edErr tx.size l = 0
  · by_cases hq : appErr d (recE (S (wrL l))) = 0
    · have e0 : lfE tx d l = 0 := by unfold lfE; rw [if_pos hz, hq]
      have e1 : lfT tx d l = S (edDone (L tx) l) := by unfold lfT; rw [if_pos e0]
      have e2 : lfD tx d l = appD d (recE (S (wrL l))) := by unfold lfD; rw [if_pos e0]
      rw [e0, e1, e2]
      exact rlEditOk_any tx d sf l A m c B w hr hB hm ht hd hz hq
    · have e0 : lfE tx d l = appErr d (recE (S (wrL l))) := by unfold lfE; rw [if_pos hz]
      have e1 : lfT tx d l = tx := by unfold lfT; rw [e0, if_neg hq]
      have e2 : lfD tx d l = d := by unfold lfD; rw [e0, if_neg hq]
      rw [e0, e1, e2]
      exact rlEditFull_any tx d sf l A m c B w hr hB hm ht hd hz hq
  · have e0 : lfE tx d l = edErr tx.size l := by unfold lfE; rw [if_neg hz]
    have e1 : lfT tx d l = tx := by unfold lfT; rw [e0, if_neg hz]
    have e2 : lfD tx d l = d := by unfold lfD; rw [e0, if_neg hz]
    rw [e0, e1, e2]
    exact rlEditBad_any tx d sf l A m c B w hr hB hm hz
end Go.Proofs.YtmikckhihfcooaaGreatDoor
