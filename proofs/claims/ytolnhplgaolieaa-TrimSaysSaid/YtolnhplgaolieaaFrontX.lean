/- Are these the runs of a word? Walked. -/
import Derived.Test.YtolnhplgaolieaaFrontR
import Derived.Test.YtolnhplgaolieaaShelf
namespace Go.Proofs.Ytolnhplgaolieaa
open Go.RowKit
theorem repeatB_any (b : UInt8) (N : Nat) (hN : N ≤ 200) (w : World) : Calls Try.prog 57 #[.string (S [b]), .int .i64 (N : Int)] w fun e w' => e = .returned (.string (S (List.replicate N b))) ∧ Below w.heap.size w w' := by
  refine (Try.strings_Repeat (S [b]) N w (by omega) (by show (S [b]).size * N ≤ _; rw [S_size]; simp; omega)).mono ?_
  rintro e w' ⟨rfl, hb⟩
  refine ⟨?_, hb⟩
  have e1 : Lib.repeatL [b] N = List.replicate N b := by
    have := Lib.repeatL_replicate b 1 N
    simpa using this
  show Ending.returned (.string ⟨(Lib.repeatL [b] N).toArray⟩) = _
  rw [e1]; rfl
set_option maxRecDepth 100000 in
set_option maxHeartbeats 1000000 in
theorem wholly_any (l : List Rn) (A : Option Addr) (n c : Nat) (s : ByteArray) (w : World) (hr : Rd w w.heap.size 2 A n (runCells l)) (hok : RunOk l (L s)) (hs : s.size ≤ 200) :
    Calls Try.prog 54 #[.slice A n c, .string s] w fun e w' => e = .returned (.bool true) ∧ Below w.heap.size w w' := by
  have hl := Rd.rec_len run_len (by omega) hr
  have hll := hok.len
  rw [L_len] at hll
  have hn200 : n ≤ 200 := by omega
  have hlen : ∀ i, (flatR (l.drop i)).length ≤ 200 := fun i => by
    have h1 : flatR (l.take i) ++ flatR (l.drop i) = L s := by rw [← flatR_app, List.take_append_drop, hok.flat]
    have h2 := congrArg List.length h1
    rw [List.length_append, L_len] at h2; omega
  have hstep : ∀ i, i < l.length → ∃ (b : UInt8) (N : Nat), l.getD i (0, 0) = (b, (N : Int)) ∧ 1 ≤ N ∧ flatR (l.drop i) = List.replicate N b ++ flatR (l.drop (i + 1)) := fun i hi => by
    have e : l.getD i (0, 0) = l[i] := by rw [List.getD_eq_getElem?_getD, List.getElem?_eq_getElem hi]; rfl
    have hp := hok.pos l[i] (List.getElem_mem hi)
    refine ⟨l[i].1, l[i].2.toNat, ?_, by omega, ?_⟩
    · rw [e]; show l[i] = (l[i].1, ((l[i].2.toNat : Nat) : Int)); rw [Int.toNat_of_nonneg (by omega)]
    · rw [List.drop_eq_getElem_cons hi]; rfl
  have HR := Lib.hid hr
  have HL := Lib.hid hl
  have HOK := Lib.hid hok
  have HLEN := Lib.hid hlen
  have HST := Lib.hid hstep
  clear hr hl hok hlen hstep hll
  go_enter Try.func54, Try.ntmps54
  go_wp2_with fail
  go_loopw [1, 9] (fun t i wr => ∃ k : Nat, k ≤ n ∧ i = .int .i64 k ∧ t = .string (S (flatR (l.drop k))) ∧ Below w.heap.size w wr) (fun _ i _ => n - (intOf i).toNat)
  case atStart => exact ⟨0, Nat.zero_le _, rfl, by rw [List.drop_zero, HOK.out.flat, S_L], Below.refl _ _⟩
  case round =>
    obtain ⟨k, hk, rfl, rfl, hb⟩ := hrel
    by_cases hlt : k < n
    · have g1 : decide ((k : Int) < (n : Int)) = true := decide_eq_true (by omega)
      obtain ⟨b, N, hru, hN1, hfl⟩ := HST.out k (by rw [HL.out]; exact hlt)
      obtain ⟨ad, hkl, rfl, hab, c0, c1⟩ := (HR.out.below hb).at_run hlt
      rw [hru] at c0 c1
      simp only at c0 c1
      have h200 := HLEN.out k
      have hsz : (S (flatR (l.drop k))).size = N + (flatR (l.drop (k + 1))).length := by rw [S_size, hfl, List.length_append, List.length_replicate]
      have hN200 : N ≤ 200 := by rw [hfl, List.length_append, List.length_replicate] at h200; omega
      have HCUT : Hid ((S (flatR (l.drop k))).extract 0 N = S (List.replicate N b)) := by
        apply L_inj; rw [L_extract, L_S, L_S, hfl]; simp
      have HCUT2 : Hid ((S (flatR (l.drop k))).extract N (S (flatR (l.drop k))).size = S (flatR (l.drop (k + 1)))) := by
        apply L_inj; rw [L_extract, L_S, L_S, hsz, hfl, List.drop_append_of_le_length (by simp), List.take_of_length_le (by simp)]; simp
      have HNE : Hid (∀ k', k = k' + 1 → (l.getD k' (0, 0)).1 ≠ b) := fun k' e => by
        subst e
        have := HOK.out.ne k' (by rw [HL.out]; exact hlt)
        rw [hru] at this; exact this
      have HPV : Hid (∀ k', k = k' + 1 → wr.cell? (ad.add (k' * 2)) = some (.int .u8 ((l.getD k' (0, 0)).1.toNat : Int))) := fun k' e => by
        subst e
        obtain ⟨ad', _, e, _, c, _⟩ := (HR.out.below hb).at_run (k := k') (by omega)
        cases e
        exact c
      have g2 : decide ((N : Int) < 1) = false := decide_eq_false (by omega)
      have HSZ := Lib.hid hsz
      have hNs : N ≤ (S (flatR (l.drop k))).size := by omega
      have g3 : decide (((S (flatR (l.drop k))).size : Int) < (N : Int)) = false := decide_eq_false (by omega)
      have g3' : decide ((S (flatR (l.drop k))).size < N) = false := decide_eq_false (by omega)
      clear hru hfl h200 hsz
      generalize hT : S (flatR (l.drop k)) = T at *
      have g4 : ((T.extract 0 N).toList == (S (List.replicate N b)).toList) = true := by rw [HCUT.out]; simp
      clear hT
      have hRP := Lib.hid (repeatB_any b N hN200)
      generalize List.replicate N b = rp at *
      have cq0 : (wr.alloc (.cells #[.int .u8 (b.toNat : Int), .int .i64 (N : Int)] 85)).cell? ⟨wr.heap.size, 0, none⟩ = some (.int .u8 (b.toNat : Int)) := Blk.cell0 (Blk.new_ _ _ _)
      have cq1 : (wr.alloc (.cells #[.int .u8 (b.toNat : Int), .int .i64 (N : Int)] 85)).cell? ⟨wr.heap.size, 1, none⟩ = some (.int .i64 (N : Int)) := Blk.cell1 (Blk.new_ _ _ _)
      go_wp2_with fail
      have hbs := hb.size
      have hlt6 : wr.heap.size < (wr.alloc (.cells #[.int .u8 (b.toNat : Int), .int .i64 (N : Int)] 85)).heap.size := by simp
      have hbq : Below w.heap.size w (wr.alloc (.cells #[.int .u8 (b.toNat : Int), .int .i64 (N : Int)] 85)) := hb.alloc hbs _
      have HPV2 : Hid (∀ k', k = k' + 1 → (wr.alloc (.cells #[.int .u8 (b.toNat : Int), .int .i64 (N : Int)] 85)).cell? (ad.add (k' * 2)) = some (.int .u8 ((l.getD k' (0, 0)).1.toNat : Int))) := fun k' e =>
        (World.cell?_alloc_lt wr _ (ad.add (k' * 2)) (by rw [show (ad.add (k' * 2)).block = ad.block from by unfold Addr.add; split <;> rfl]; omega)).trans (HPV.out k' e)
      have hadB : ∀ j, (ad.add j).block < wr.heap.size := fun j => by rw [show (ad.add j).block = ad.block from by unfold Addr.add; split <;> rfl]; omega
      clear HPV c0 c1 hb hbs
      generalize wr.alloc (.cells #[.int .u8 (b.toNat : Int), .int .i64 (N : Int)] 85) = wq at *
      generalize wr.heap.size = g6 at *
      rcases Nat.eq_zero_or_pos k with hk0 | hk0
      · subst hk0
        have g5 : decide ((0 : Int) < 0) = false := by decide
        clear HPV2 HNE
        obtain ⟨F1, hFd⟩ : ∃ F : World → Prop, F = fun w' => w'.cell? ⟨g6, 0, none⟩ = some (.int .u8 (b.toNat : Int)) ∧ w'.cell? ⟨g6, 1, none⟩ = some (.int .i64 (N : Int)) := ⟨_, rfl⟩
        have HF1 := Lib.hid hFd
        clear hFd
        have hcell10 : ∀ p' : Wof F1, p'.w.cell? ⟨g6, 0, none⟩ = some (.int .u8 (b.toNat : Int)) := fun ⟨x, hx⟩ => by rw [HF1.out] at hx; exact hx.1
        have hcell11 : ∀ p' : Wof F1, p'.w.cell? ⟨g6, 1, none⟩ = some (.int .i64 (N : Int)) := fun ⟨x, hx⟩ => by rw [HF1.out] at hx; exact hx.2
        refine wp_region_schedF [(0, true), (1, true), (2, true), (3, true), (4, true), (5, true), (6, true), (7, true), (8, true), (9, true), (10, true), (11, true), (12, true), (13, true), (14, true), (15, true), (16, true), (19, true), (20, true), (17, false), (18, false), (21, false), (22, true), (23, true), (24, true), (25, true), (26, true), (27, true), (28, true), (29, true), (30, true), (31, true), (32, true), (33, true), (34, true), (35, true), (36, true), (37, true), (38, true)] F1 (by kernel_rfl) (by kernel_rfl) rfl (fun _ _ _ _ _ h => h) (by kernel_rfl) (by rw [HF1.out]; first | trivial | (repeat' apply And.intro) <;> assumption | (simp; done) | (simp [*]; done)) (by rw [HF1.out]; exact fun h => h) ?_
        intro hne1
        simp only [opersOf, List.getElem?_toArray, List.getElem?_cons_succ, List.getElem?_cons_zero]
        repeat (first | (refine wpSched_free rfl ?_; intro K hK; go_big_quiet_op; go_big_quiet_on) | (refine wpSched_wantS _ rfl rfl rfl ?_; intro K hK; go_big_quiet_op; go_big_quiet_on) | (refine wpSched_skipS _ rfl rfl rfl rfl ?_; simp only [Act.put, List.setIfInBounds_toArray, List.set_cons_zero, List.set_cons_succ]) | (refine wpSched_skipU _ rfl rfl rfl ?_; simp only [Act.put, List.setIfInBounds_toArray, List.set_cons_zero, List.set_cons_succ]))
        refine wpSched_other ?_
        go_wp2_with fail
        obtain ⟨wd, hwd⟩ : ∃ wd, wd = (wq.alloc (.cells #[.int .u8 (b.toNat : Int)] 5)).drew := ⟨_, rfl⟩
        have hbd : Below wq.heap.size wq wd := by rw [hwd]; exact Below.drew ((Below.refl _ _).alloc (Nat.le_refl _) _)
        have hrd : Rd wd (wq.heap.size + 1) 1 (some ⟨wq.heap.size, 0, none⟩) 1 (byteCells [b]) := by
          rw [hwd]; exact (Rd.new_ (size := 1) (n := 1) wq #[.int .u8 (b.toNat : Int)] 5 (Nat.lt_succ_self _) rfl).drew
        have hcv := run_bytes_string (P := Try.prog) wd Try.underlying52 Try.underlying5 Try.underlying9 hrd (c := 1)
        change _ = Result.ok (Value.string (S [b])) _ at hcv
        rw [← hwd]
        clear hwd hrd
        have cd0 := (hbd.cell (p := ⟨g6, 0, none⟩) hlt6).trans cq0
        have cd1 := (hbd.cell (p := ⟨g6, 1, none⟩) hlt6).trans cq1
        try have cdp := HCP.out _ hbd
        generalize wq.heap.size = gq at hcv ⊢
        refine sched_back (by rw [HF1.out]; first | trivial | (repeat' apply And.intro) <;> assumption | (simp; done) | (go_simp; done) | (simp [*]; done)) ?_
        repeat (first | (refine wpSched_free rfl ?_; intro K hK; go_big_quiet_op; go_big_quiet_on) | (refine wpSched_wantS _ rfl rfl rfl ?_; intro K hK; go_big_quiet_op; go_big_quiet_on) | (refine wpSched_skipS _ rfl rfl rfl rfl ?_; simp only [Act.put, List.setIfInBounds_toArray, List.set_cons_zero, List.set_cons_succ]) | (refine wpSched_skipU _ rfl rfl rfl ?_; simp only [Act.put, List.setIfInBounds_toArray, List.set_cons_zero, List.set_cons_succ]))
        refine wpSched_other ?_
        go_wp2_with fail
        refine sched_back (by rw [HF1.out]; first | trivial | (repeat' apply And.intro) <;> assumption | (simp; done) | (go_simp; done) | (simp [*]; done)) ?_
        repeat (first | (refine wpSched_free rfl ?_; intro K hK; go_big_quiet_op; go_big_quiet_on) | (refine wpSched_wantS _ rfl rfl rfl ?_; intro K hK; go_big_quiet_op; go_big_quiet_on) | (refine wpSched_skipS _ rfl rfl rfl rfl ?_; simp only [Act.put, List.setIfInBounds_toArray, List.set_cons_zero, List.set_cons_succ]) | (refine wpSched_skipU _ rfl rfl rfl ?_; simp only [Act.put, List.setIfInBounds_toArray, List.set_cons_zero, List.set_cons_succ]))
        refine wpSched_other ?_
        clear hcv
        go_wp2_with fail
        refine (hRP.out _).mono ?_
        rintro e w9 ⟨rfl, hb9⟩
        have hbF := bthen (bthen hbq hbd) hb9
        have hlt7 : g6 < wd.heap.size := Nat.lt_of_lt_of_le hlt6 hbd.size
        have ce0 := (hb9.cell (p := ⟨g6, 0, none⟩) hlt7).trans cd0
        have ce1 := (hb9.cell (p := ⟨g6, 1, none⟩) hlt7).trans cd1
        try have cep := HCP.out _ (bthen hbd hb9)
        clear cd0 cd1 cq0 cq1
        go_wp2_with fail
        have hcut := HCUT.out
        clear g4 HCUT hRP
        generalize T.extract 0 N = T1 at hcut ⊢
        subst hcut
        generalize S rp = R at *
        have g4 : (R.toList == R.toList) = true := by simp
        refine sched_back (by rw [HF1.out]; first | trivial | (repeat' apply And.intro) <;> assumption | (simp; done) | (go_simp; done) | (simp [*]; done)) ?_
        repeat (first | (refine wpSched_free rfl ?_; intro K hK; go_big_quiet_op; go_big_quiet_on) | (refine wpSched_wantS _ rfl rfl rfl ?_; intro K hK; go_big_quiet_op; go_big_quiet_on) | (refine wpSched_skipS _ rfl rfl rfl rfl ?_; simp only [Act.put, List.setIfInBounds_toArray, List.set_cons_zero, List.set_cons_succ]) | (refine wpSched_skipU _ rfl rfl rfl ?_; simp only [Act.put, List.setIfInBounds_toArray, List.set_cons_zero, List.set_cons_succ]))
        refine wpSched_nil ?_
        go_wp2_with fail
        go_roundw
        case rel => exact ⟨0 + 1, by omega, by go_num, by rw [HCUT2.out], hbF⟩
        case measure => simp [intOf]; omega
      · obtain ⟨k, rfl⟩ : ∃ k', k = k' + 1 := ⟨k - 1, by omega⟩
        have cp := HPV2.out k rfl
        have hne := HNE.out k rfl
        clear HPV2 HNE
        generalize (l.getD k (0, 0)).1 = pb at *
        have g5 : decide ((0 : Int) < (k : Int) + 1) = true := decide_eq_true (by omega)
        have g5' : decide (0 < k + 1) = true := decide_eq_true (by omega)
        have g6' : ((pb.toNat : Int) == (b.toNat : Int)) = false := by rw [beq_eq_false_iff_ne]; exact fun h => hne (UInt8.toNat_inj.1 (by omega))
        have g7' : (pb.toNat == b.toNat) = false := by rw [beq_eq_false_iff_ne]; exact fun h => hne (UInt8.toNat_inj.1 h)
        clear hne
        generalize pb.toNat = pn at *
        have hcl := hadB (k * 2)
        have HCP : Hid (∀ w', Below wq.heap.size wq w' → w'.cell? (ad.add (k * 2)) = some (.int .u8 (pn : Int))) := fun w' h => by rw [h.cell (by omega)]; exact cp
        obtain ⟨F1, hFd⟩ : ∃ F : World → Prop, F = fun w' => w'.cell? ⟨g6, 0, none⟩ = some (.int .u8 (b.toNat : Int)) ∧ w'.cell? ⟨g6, 1, none⟩ = some (.int .i64 (N : Int)) ∧ w'.cell? (ad.add (k * 2)) = some (.int .u8 (pn : Int)) := ⟨_, rfl⟩
        have HF1 := Lib.hid hFd
        clear hFd
        have hcell10 : ∀ p' : Wof F1, p'.w.cell? ⟨g6, 0, none⟩ = some (.int .u8 (b.toNat : Int)) := fun ⟨x, hx⟩ => by rw [HF1.out] at hx; exact hx.1
        have hcell11 : ∀ p' : Wof F1, p'.w.cell? ⟨g6, 1, none⟩ = some (.int .i64 (N : Int)) := fun ⟨x, hx⟩ => by rw [HF1.out] at hx; exact hx.2.1
        have hcell12 : ∀ p' : Wof F1, p'.w.cell? (ad.add (k * 2)) = some (.int .u8 (pn : Int)) := fun ⟨x, hx⟩ => by rw [HF1.out] at hx; exact hx.2.2
        refine wp_region_schedF [(0, true), (1, true), (2, true), (3, true), (4, true), (5, true), (6, true), (7, true), (8, true), (9, true), (10, true), (11, true), (12, true), (13, true), (14, true), (15, true), (16, true), (19, true), (20, true), (17, false), (18, false), (21, false), (22, true), (23, true), (24, true), (25, true), (26, true), (27, true), (28, true), (29, true), (30, true), (31, true), (32, true), (33, true), (34, true), (35, true), (36, true), (37, true), (38, true)] F1 (by kernel_rfl) (by kernel_rfl) rfl (fun _ _ _ _ _ h => h) (by kernel_rfl) (by rw [HF1.out]; first | trivial | (repeat' apply And.intro) <;> assumption | (simp; done) | (simp [*]; done)) (by rw [HF1.out]; exact fun h => h) ?_
        intro hne1
        simp only [opersOf, List.getElem?_toArray, List.getElem?_cons_succ, List.getElem?_cons_zero]
        repeat (first | (refine wpSched_free rfl ?_; intro K hK; go_big_quiet_op; go_big_quiet_on) | (refine wpSched_wantS _ rfl rfl rfl ?_; intro K hK; go_big_quiet_op; go_big_quiet_on) | (refine wpSched_skipS _ rfl rfl rfl rfl ?_; simp only [Act.put, List.setIfInBounds_toArray, List.set_cons_zero, List.set_cons_succ]) | (refine wpSched_skipU _ rfl rfl rfl ?_; simp only [Act.put, List.setIfInBounds_toArray, List.set_cons_zero, List.set_cons_succ]))
        refine wpSched_other ?_
        go_wp2_with fail
        obtain ⟨wd, hwd⟩ : ∃ wd, wd = (wq.alloc (.cells #[.int .u8 (b.toNat : Int)] 5)).drew := ⟨_, rfl⟩
        have hbd : Below wq.heap.size wq wd := by rw [hwd]; exact Below.drew ((Below.refl _ _).alloc (Nat.le_refl _) _)
        have hrd : Rd wd (wq.heap.size + 1) 1 (some ⟨wq.heap.size, 0, none⟩) 1 (byteCells [b]) := by
          rw [hwd]; exact (Rd.new_ (size := 1) (n := 1) wq #[.int .u8 (b.toNat : Int)] 5 (Nat.lt_succ_self _) rfl).drew
        have hcv := run_bytes_string (P := Try.prog) wd Try.underlying52 Try.underlying5 Try.underlying9 hrd (c := 1)
        change _ = Result.ok (Value.string (S [b])) _ at hcv
        rw [← hwd]
        clear hwd hrd
        have cd0 := (hbd.cell (p := ⟨g6, 0, none⟩) hlt6).trans cq0
        have cd1 := (hbd.cell (p := ⟨g6, 1, none⟩) hlt6).trans cq1
        try have cdp := HCP.out _ hbd
        generalize wq.heap.size = gq at hcv ⊢
        refine sched_back (by rw [HF1.out]; first | trivial | (repeat' apply And.intro) <;> assumption | (simp; done) | (go_simp; done) | (simp [*]; done)) ?_
        repeat (first | (refine wpSched_free rfl ?_; intro K hK; go_big_quiet_op; go_big_quiet_on) | (refine wpSched_wantS _ rfl rfl rfl ?_; intro K hK; go_big_quiet_op; go_big_quiet_on) | (refine wpSched_skipS _ rfl rfl rfl rfl ?_; simp only [Act.put, List.setIfInBounds_toArray, List.set_cons_zero, List.set_cons_succ]) | (refine wpSched_skipU _ rfl rfl rfl ?_; simp only [Act.put, List.setIfInBounds_toArray, List.set_cons_zero, List.set_cons_succ]))
        refine wpSched_other ?_
        go_wp2_with fail
        refine sched_back (by rw [HF1.out]; first | trivial | (repeat' apply And.intro) <;> assumption | (simp; done) | (go_simp; done) | (simp [*]; done)) ?_
        repeat (first | (refine wpSched_free rfl ?_; intro K hK; go_big_quiet_op; go_big_quiet_on) | (refine wpSched_wantS _ rfl rfl rfl ?_; intro K hK; go_big_quiet_op; go_big_quiet_on) | (refine wpSched_skipS _ rfl rfl rfl rfl ?_; simp only [Act.put, List.setIfInBounds_toArray, List.set_cons_zero, List.set_cons_succ]) | (refine wpSched_skipU _ rfl rfl rfl ?_; simp only [Act.put, List.setIfInBounds_toArray, List.set_cons_zero, List.set_cons_succ]))
        refine wpSched_other ?_
        clear hcv
        go_wp2_with fail
        refine (hRP.out _).mono ?_
        rintro e w9 ⟨rfl, hb9⟩
        have hbF := bthen (bthen hbq hbd) hb9
        have hlt7 : g6 < wd.heap.size := Nat.lt_of_lt_of_le hlt6 hbd.size
        have ce0 := (hb9.cell (p := ⟨g6, 0, none⟩) hlt7).trans cd0
        have ce1 := (hb9.cell (p := ⟨g6, 1, none⟩) hlt7).trans cd1
        try have cep := HCP.out _ (bthen hbd hb9)
        clear cd0 cd1 cq0 cq1
        go_wp2_with fail
        have hcut := HCUT.out
        clear g4 HCUT hRP
        generalize T.extract 0 N = T1 at hcut ⊢
        subst hcut
        generalize S rp = R at *
        have g4 : (R.toList == R.toList) = true := by simp
        refine sched_back (by rw [HF1.out]; first | trivial | (repeat' apply And.intro) <;> assumption | (simp; done) | (go_simp; done) | (simp [*]; done)) ?_
        repeat (first | (refine wpSched_free rfl ?_; intro K hK; go_big_quiet_op; go_big_quiet_on) | (refine wpSched_wantS _ rfl rfl rfl ?_; intro K hK; go_big_quiet_op; go_big_quiet_on) | (refine wpSched_skipS _ rfl rfl rfl rfl ?_; simp only [Act.put, List.setIfInBounds_toArray, List.set_cons_zero, List.set_cons_succ]) | (refine wpSched_skipU _ rfl rfl rfl ?_; simp only [Act.put, List.setIfInBounds_toArray, List.set_cons_zero, List.set_cons_succ]))
        refine wpSched_nil ?_
        go_wp2_with fail
        go_roundw
        case rel => exact ⟨(k + 1) + 1, by omega, by go_num, by rw [HCUT2.out], hbF⟩
        case measure => simp [intOf]; omega
    · obtain rfl : k = n := by omega
      have g1 : decide ((k : Int) < (k : Int)) = false := by simp
      have e0 : S (flatR (l.drop k)) = ⟨#[]⟩ := by rw [List.drop_eq_nil_of_le (by rw [HL.out]; exact Nat.le_refl _)]; rfl
      rw [e0]
      go_wp2_with fail
      go_ret
      exact ⟨rfl, hb⟩
end Go.Proofs.Ytolnhplgaolieaa
