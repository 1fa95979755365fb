/- The law LogPlays, walked. -/
import Derived.Test.YthnedhfjochfnaaLogT
import Derived.Test.YthnedhfjochfnaaEditW
namespace Go.Proofs.Ythnedhfjochfnaa
open Go.RowKit
set_option maxRecDepth 100000 in
theorem lgNew_any (w : World) : Calls Try.prog 45 #[] w fun e w' => e = .returned (.pointer (some ⟨w.heap.size, 0, none⟩)) ∧ w' = w.alloc (.cells #[.string ⟨#[]⟩, .int .i64 0] 124) := by
  go_enter Try.func45, Try.ntmps45
  go_wp2_with fail
  go_ret
  exact ⟨rfl, rfl⟩
set_option maxRecDepth 100000 in
set_option maxHeartbeats 8000000 in
theorem logPlays_any (l : List Ed) (A : Option Addr) (n c : Nat) (w : World) (hr : Rd w w.heap.size 3 A n (edCells l)) (hn : n ≤ 9223372036854775807) (hK : ∀ x ∈ l, -9223372036854775808 ≤ x.at_ ∧ x.at_ ≤ 9223372036854775807) :
    Calls Try.prog 10 #[.slice A n c] w fun e w' => e = .returned (.bool true) ∧ Below w.heap.size w w' := by
  have HRR := Lib.hid hr; clear hr
  have HK := Lib.hid hK; clear hK
  go_enter Try.func10, Try.ntmps10
  go_wp2_with fail
  refine (lgNew_any _).mono ?_
  rintro e w1 ⟨rfl, rfl⟩
  go_wp2_with fail
  have HG0 : Hid (LogAt ((w.alloc (.cells #[.string ⟨#[]⟩, .int .i64 0] 124)).alloc (.cells #[.string ⟨#[]⟩, .int .i64 0] 78)) w.heap.size 124 ⟨#[]⟩ 0) := Blk.alloc (Blk.new_ w _ _) _
  have HR0 : Hid (LogAt ((w.alloc (.cells #[.string ⟨#[]⟩, .int .i64 0] 124)).alloc (.cells #[.string ⟨#[]⟩, .int .i64 0] 78)) (w.heap.size + 1) 78 ⟨#[]⟩ 0) := by
    have := Blk.new_ (w.alloc (.cells #[.string ⟨#[]⟩, .int .i64 0] 124)) 78 #[.string ⟨#[]⟩, .int .i64 0]
    rw [World.size_alloc] at this
    exact this
  have hb0 : Below w.heap.size w ((w.alloc (.cells #[.string ⟨#[]⟩, .int .i64 0] 124)).alloc (.cells #[.string ⟨#[]⟩, .int .i64 0] 78)) := (by repeat (first | exact Below.refl _ _ | assumption | refine Below.alloc ?_ (by first | exact Nat.le_refl _ | assumption | omega | (simp <;> omega)) _ | refine Below.setCell ?_ (by first | exact Nat.le_refl _ | assumption | omega | (simp <;> omega)) _ | refine Below.drew ?_ | refine below_drewN ?_ _))
  generalize ((w.alloc (.cells #[.string ⟨#[]⟩, .int .i64 0] 124)).alloc (.cells #[.string ⟨#[]⟩, .int .i64 0] 78)) = w0 at *
  have hgb : w.heap.size ≤ w.heap.size := Nat.le_refl _
  have hne : w.heap.size ≠ w.heap.size + 1 := by omega
  have hgr : w.heap.size ≤ w.heap.size + 1 := by omega
  go_loopw [19] (fun i wr => ∃ (k : Nat) (d : ByteArray) (sf : Nat), k ≤ n ∧ i = .int .i64 k ∧ d.size ≤ 4000 ∧ sf ≤ d.size ∧ LogAt wr w.heap.size 124 d sf ∧ LogAt wr (w.heap.size + 1) 78 d sf ∧ Below w.heap.size w wr)
    (fun i _ => n - (intOf i).toNat)
  case atStart => exact ⟨0, ⟨#[]⟩, 0, Nat.zero_le _, rfl, Nat.zero_le _, Nat.zero_le _, HG0.out, HR0.out, hb0⟩
  case round =>
    obtain ⟨k, d, sf, hk, rfl, hd, hsf, hG, hR, hb⟩ := hrel
    have HG := Lib.hid hG; have HR := Lib.hid hR
    clear hG hR HG0 HR0 hb0
    have hbs := hb.size
    by_cases hlt : k < n
    · obtain ⟨ad, hl, rfl, hab, z0, z1, z2⟩ := (HRR.out.below hb).at_ed hlt
      obtain ⟨hk0, hk1⟩ := HK.out l[k] (List.getElem_mem hl)
      generalize l[k] = x at *
      obtain ⟨xk, xn, xr⟩ := x
      simp only at z0 z1 z2 hk0 hk1
      generalize S xr = xr at *
      by_cases hm : xk % 3 = 0
      · have HSZ : Hid ((appD d xr).size ≤ 4000 ∧ sf ≤ (appD d xr).size) := ⟨(appD_size d xr hd).1, Nat.le_trans hsf (appD_size d xr hd).2⟩
        have HM := Lib.hid hm
        have g0 : ((xk % 3) == 0) = true := by rw [hm]; rfl
        clear hm
        have HA0 : Hid (Blk (wr.alloc (.cells #[.int .i64 xk, .int .i64 xn, .string xr] 80)) wr.heap.size 80 #[.int .i64 xk, .int .i64 xn, .string xr]) := Blk.new_ _ _ _
        have hbA : Below wr.heap.size wr (wr.alloc (.cells #[.int .i64 xk, .int .i64 xn, .string xr] 80)) := (by repeat (first | exact Below.refl _ _ | assumption | refine Below.alloc ?_ (by first | exact Nat.le_refl _ | assumption | omega | (simp <;> omega)) _ | refine Below.setCell ?_ (by first | exact Nat.le_refl _ | assumption | omega | (simp <;> omega)) _ | refine Below.drew ?_ | refine below_drewN ?_ _))
        go_wp2_with fail
        refine (rest3_any xk hk0 hk1 _).mono ?_
        rintro e w2 ⟨rfl, hb2⟩
        have hb2' := bthen hbA hb2
        have HHG2 : Hid (LogAt w2 w.heap.size 124 d sf) := HG.out.below' hb2'
        have HHR2 : Hid (LogAt w2 (w.heap.size + 1) 78 d sf) := HR.out.below' hb2'
        have HHA2 : Hid (Blk w2 wr.heap.size 80 #[.int .i64 xk, .int .i64 xn, .string xr]) := HA0.out.below' hb2
        have hB2 := bthen hb hb2'
        have hga : (w.heap.size + 1) < wr.heap.size := Blk.lt HR.out
        have hgg : w.heap.size < wr.heap.size := Blk.lt HG.out
        generalize wr.heap.size = ga at *
        clear hb2' hbA hb2 HA0 HG HR hb
        have q0 := Blk.cell0 HHA2.out; have q1 := Blk.cell1 HHA2.out; have q2 := Blk.cell2 HHA2.out
        obtain ⟨c0, c1, f0, f1, hglt⟩ := LogAt.cells HHG2.out
        obtain ⟨r0, r1, rf0, rf1, hrlt⟩ := LogAt.cells HHR2.out
        go_wp2_with fail
        refine (lgAppend_any w.heap.size d xr sf w2 HHG2.out hd).mono ?_
        rintro e w3 ⟨rfl, HG3, hg3⟩
        have hn1 : w.heap.size ≠ (w.heap.size + 1) := hne
        have HG3' := Lib.hid HG3; clear HG3
        have HR3 : Hid (LogAt w3 (w.heap.size + 1) 78 d sf) := HHR2.out.grown hg3 (fun e => by simp only [Option.some.injEq] at e; omega)
        have HA3 : Hid (Blk w3 ga 80 #[.int .i64 xk, .int .i64 xn, .string xr]) := HHA2.out.grown hg3 (fun e => by simp only [Option.some.injEq] at e; omega)
        have hB3 := below_gb hB2 hg3 hgb hB2.size
        have hz3 := hg3.size
        clear q0 q1 q2 c0 c1 f0 f1 hglt r0 r1 rf0 rf1 hrlt HHG2 HHR2 HHA2 hg3 hB2
        have q0 := Blk.cell0 HA3.out; have q1 := Blk.cell1 HA3.out; have q2 := Blk.cell2 HA3.out
        obtain ⟨r0, r1, rf0, rf1, hrlt⟩ := LogAt.cells HR3.out
        go_wp2_with fail
        refine (lgAppendOf_any d xr sf w3 hd).mono ?_
        rintro e w4 ⟨rfl, hb4⟩
        have HG4 : Hid (LogAt w4 w.heap.size 124 (appD d xr) (sf)) := HG3'.out.below' hb4
        have HR4 : Hid (LogAt w4 (w.heap.size + 1) 78 d sf) := HR3.out.below' hb4
        have hB4 := bthen hB3 hb4
        clear q0 q1 q2 r0 r1 rf0 rf1 hrlt HG3' HR3 HA3 hb4 hB3
        obtain ⟨r0, r1, rf0, rf1, hrlt⟩ := LogAt.cells HR4.out
        have HG5 : Hid (LogAt ((w4.setCell ⟨w.heap.size + 1, 0, none⟩ (.string (appD d xr))).setCell ⟨w.heap.size + 1, 1, none⟩ (.int .i64 ((sf : Nat) : Int))) w.heap.size 124 (appD d xr) (sf)) := Blk.far (Blk.far HG4.out hne _) hne _
        have HR5 : Hid (LogAt ((w4.setCell ⟨w.heap.size + 1, 0, none⟩ (.string (appD d xr))).setCell ⟨w.heap.size + 1, 1, none⟩ (.int .i64 ((sf : Nat) : Int))) (w.heap.size + 1) 78 (appD d xr) (sf)) := Blk.set_ (Blk.set_ HR4.out 0 _) 1 _
        have hB5 : Below w.heap.size w ((w4.setCell ⟨w.heap.size + 1, 0, none⟩ (.string (appD d xr))).setCell ⟨w.heap.size + 1, 1, none⟩ (.int .i64 ((sf : Nat) : Int))) := (by repeat (first | exact Below.refl _ _ | assumption | refine Below.alloc ?_ (by first | exact Nat.le_refl _ | assumption | omega | (simp <;> omega)) _ | refine Below.setCell ?_ (by first | exact Nat.le_refl _ | assumption | omega | (simp <;> omega)) _ | refine Below.drew ?_ | refine below_drewN ?_ _))
        go_wp2_with fail
        clear r0 r1 rf0 rf1 hrlt HG4 HR4 hB4
        generalize ((w4.setCell ⟨w.heap.size + 1, 0, none⟩ (.string (appD d xr))).setCell ⟨w.heap.size + 1, 1, none⟩ (.int .i64 ((sf : Nat) : Int))) = w5 at *
        obtain ⟨hds, hfs⟩ := HSZ.out
        generalize appD d xr = d' at *
        generalize hsf : sf = sf' at *
        clear hsf
        refine (scanRef_any _ d' (by omega) (Nat.le_refl _) _).mono ?_
        rintro e w6 ⟨v6, rfl, hown6, hb6⟩
        obtain ⟨A6, c6, rfl, hn6, hm6, hrd6⟩ := own_form hown6
        have HRD6 := Lib.hid hrd6
        clear hown6 hrd6
        have hB6 := bthen hB5 hb6
        have HG6 := Lib.hid (HG5.out.below' hb6)
        have HR6 := Lib.hid (HR5.out.below' hb6)
        clear HG5 HR5 hb6
        go_wp2_with fail
        refine (lgSize_any w.heap.size d' sf' _ HG6.out).mono ?_
        rintro e w7 ⟨rfl, hb7⟩
        have hB7 := bthen hB6 hb7
        have HG7 := Lib.hid (HG6.out.below' hb7)
        have HR7 := Lib.hid (HR6.out.below' hb7)
        have HRD7 := Lib.hid (HRD6.out.below hb7)
        have hz7 := hb7.size
        clear HG6 HR6 HRD6 hb7
        obtain ⟨r0, r1, rf0, rf1, hrlt⟩ := LogAt.cells HR7.out
        go_wp2_with fail
        refine (lgAll_any w.heap.size d' sf' _ HG7.out (by omega)).mono ?_
        rintro e w8 ⟨v8, rfl, hown8, hb8⟩
        obtain ⟨A8, c8, rfl, hn8, hm8, hrd8⟩ := own_form hown8
        have HRD8 := Lib.hid hrd8
        clear hown8 hrd8
        have hB8 := bthen hB7 hb8
        have HG8 := Lib.hid (HG7.out.below' hb8)
        have HR8 := Lib.hid (HR7.out.below' hb8)
        have h6 := HRD7.out.below (hb8.mono hz7)
        clear HG7 HR7 HRD7 r0 r1 rf0 rf1 hrlt
        go_wp2_with fail
        refine (alike_str_true _ _ _ _ _ _ _ _ _ (by unfold maxLen at hm8; omega) HRD8.out h6).mono ?_
        rintro e w9 ⟨rfl, hb9⟩
        have hB9 := bthen hB8 hb9
        have HG9 := Lib.hid (HG8.out.below' hb9)
        have HR9 := Lib.hid (HR8.out.below' hb9)
        go_wp2_with fail
        go_roundw
        case rel => exact ⟨k + 1, d', sf', by omega, by go_num, by omega, by omega, HG9.out, HR9.out, hB9⟩
        case measure => simp [intOf]; omega
      · have hm0 := hm
        clear hm
        by_cases hm : xk % 3 = 1
        · clear hm0
          have HSZ : Hid (d.size ≤ 4000 ∧ d.size ≤ d.size) := ⟨hd, Nat.le_refl _⟩
          have g0 : ((xk % 3) == 0) = false := by rw [hm]; rfl
          have g1 : ((xk % 3) == 1) = true := by rw [hm]; rfl
          clear hm
          have HA0 : Hid (Blk (wr.alloc (.cells #[.int .i64 xk, .int .i64 xn, .string xr] 80)) wr.heap.size 80 #[.int .i64 xk, .int .i64 xn, .string xr]) := Blk.new_ _ _ _
          have hbA : Below wr.heap.size wr (wr.alloc (.cells #[.int .i64 xk, .int .i64 xn, .string xr] 80)) := (by repeat (first | exact Below.refl _ _ | assumption | refine Below.alloc ?_ (by first | exact Nat.le_refl _ | assumption | omega | (simp <;> omega)) _ | refine Below.setCell ?_ (by first | exact Nat.le_refl _ | assumption | omega | (simp <;> omega)) _ | refine Below.drew ?_ | refine below_drewN ?_ _))
          go_wp2_with fail
          refine (rest3_any xk hk0 hk1 _).mono ?_
          rintro e w2 ⟨rfl, hb2⟩
          have hb2' := bthen hbA hb2
          have HHG2 : Hid (LogAt w2 w.heap.size 124 d sf) := HG.out.below' hb2'
          have HHR2 : Hid (LogAt w2 (w.heap.size + 1) 78 d sf) := HR.out.below' hb2'
          have HHA2 : Hid (Blk w2 wr.heap.size 80 #[.int .i64 xk, .int .i64 xn, .string xr]) := HA0.out.below' hb2
          have hB2 := bthen hb hb2'
          have hga : (w.heap.size + 1) < wr.heap.size := Blk.lt HR.out
          have hgg : w.heap.size < wr.heap.size := Blk.lt HG.out
          generalize wr.heap.size = ga at *
          clear hb2' hbA hb2 HA0 HG HR hb
          have q0 := Blk.cell0 HHA2.out; have q1 := Blk.cell1 HHA2.out; have q2 := Blk.cell2 HHA2.out
          obtain ⟨c0, c1, f0, f1, hglt⟩ := LogAt.cells HHG2.out
          obtain ⟨r0, r1, rf0, rf1, hrlt⟩ := LogAt.cells HHR2.out
          go_wp2_with fail
          refine (lgSync_any w.heap.size d sf w2 HHG2.out).mono ?_
          rintro e w3 ⟨rfl, HG3, hg3⟩
          have hn1 : w.heap.size ≠ (w.heap.size + 1) := hne
          have HG3' := Lib.hid HG3; clear HG3
          have HR3 : Hid (LogAt w3 (w.heap.size + 1) 78 d sf) := HHR2.out.grown hg3 (fun e => by simp only [Option.some.injEq] at e; omega)
          have HA3 : Hid (Blk w3 ga 80 #[.int .i64 xk, .int .i64 xn, .string xr]) := HHA2.out.grown hg3 (fun e => by simp only [Option.some.injEq] at e; omega)
          have hB3 := below_gb hB2 hg3 hgb hB2.size
          have hz3 := hg3.size
          clear q0 q1 q2 c0 c1 f0 f1 hglt r0 r1 rf0 rf1 hrlt HHG2 HHR2 HHA2 hg3 hB2
          have q0 := Blk.cell0 HA3.out; have q1 := Blk.cell1 HA3.out; have q2 := Blk.cell2 HA3.out
          obtain ⟨r0, r1, rf0, rf1, hrlt⟩ := LogAt.cells HR3.out
          have HG5 : Hid (LogAt (w3.setCell ⟨w.heap.size + 1, 1, none⟩ (.int .i64 (d.size : Int))) w.heap.size 124 d d.size) := Blk.far HG3'.out hne _
          have HR5 : Hid (LogAt (w3.setCell ⟨w.heap.size + 1, 1, none⟩ (.int .i64 (d.size : Int))) (w.heap.size + 1) 78 d d.size) := Blk.set_ HR3.out 1 _
          have hB5 : Below w.heap.size w (w3.setCell ⟨w.heap.size + 1, 1, none⟩ (.int .i64 (d.size : Int))) := (by repeat (first | exact Below.refl _ _ | assumption | refine Below.alloc ?_ (by first | exact Nat.le_refl _ | assumption | omega | (simp <;> omega)) _ | refine Below.setCell ?_ (by first | exact Nat.le_refl _ | assumption | omega | (simp <;> omega)) _ | refine Below.drew ?_ | refine below_drewN ?_ _))
          go_wp2_with fail
          clear r0 r1 rf0 rf1 hrlt HG3' HR3 HA3 q0 q1 q2 hB3
          generalize (w3.setCell ⟨w.heap.size + 1, 1, none⟩ (.int .i64 (d.size : Int))) = w5 at *
          obtain ⟨hds, hfs⟩ := HSZ.out
          obtain ⟨sf', hsf'⟩ : ∃ x, x = d.size := ⟨_, rfl⟩
          rw [← hsf'] at HG5 HR5
          obtain ⟨d', hd'⟩ : ∃ x, x = d := ⟨_, rfl⟩
          subst hd'
          have HSF := Lib.hid hsf'
          have hfs' : sf' ≤ d'.size := by omega
          clear hsf'
          refine (scanRef_any _ d' (by omega) (Nat.le_refl _) _).mono ?_
          rintro e w6 ⟨v6, rfl, hown6, hb6⟩
          obtain ⟨A6, c6, rfl, hn6, hm6, hrd6⟩ := own_form hown6
          have HRD6 := Lib.hid hrd6
          clear hown6 hrd6
          have hB6 := bthen hB5 hb6
          have HG6 := Lib.hid (HG5.out.below' hb6)
          have HR6 := Lib.hid (HR5.out.below' hb6)
          clear HG5 HR5 hb6
          go_wp2_with fail
          refine (lgSize_any w.heap.size d' sf' _ HG6.out).mono ?_
          rintro e w7 ⟨rfl, hb7⟩
          have hB7 := bthen hB6 hb7
          have HG7 := Lib.hid (HG6.out.below' hb7)
          have HR7 := Lib.hid (HR6.out.below' hb7)
          have HRD7 := Lib.hid (HRD6.out.below hb7)
          have hz7 := hb7.size
          clear HG6 HR6 HRD6 hb7
          obtain ⟨r0, r1, rf0, rf1, hrlt⟩ := LogAt.cells HR7.out
          go_wp2_with fail
          refine (lgAll_any w.heap.size d' sf' _ HG7.out (by omega)).mono ?_
          rintro e w8 ⟨v8, rfl, hown8, hb8⟩
          obtain ⟨A8, c8, rfl, hn8, hm8, hrd8⟩ := own_form hown8
          have HRD8 := Lib.hid hrd8
          clear hown8 hrd8
          have hB8 := bthen hB7 hb8
          have HG8 := Lib.hid (HG7.out.below' hb8)
          have HR8 := Lib.hid (HR7.out.below' hb8)
          have h6 := HRD7.out.below (hb8.mono hz7)
          clear HG7 HR7 HRD7 r0 r1 rf0 rf1 hrlt
          go_wp2_with fail
          refine (alike_str_true _ _ _ _ _ _ _ _ _ (by unfold maxLen at hm8; omega) HRD8.out h6).mono ?_
          rintro e w9 ⟨rfl, hb9⟩
          have hB9 := bthen hB8 hb9
          have HG9 := Lib.hid (HG8.out.below' hb9)
          have HR9 := Lib.hid (HR8.out.below' hb9)
          go_wp2_with fail
          go_roundw
          case rel => exact ⟨k + 1, d', sf', by omega, by go_num, by omega, by omega, HG9.out, HR9.out, hB9⟩
          case measure => simp [intOf]; omega
        · have hm1 := hm
          clear hm
          have HSZ : Hid ((craD d sf xn).size ≤ 4000 ∧ craF d sf xn ≤ (craD d sf xn).size) := cra_size d sf xn hd hsf
          have g0 : ((xk % 3) == 0) = false := by simpa using hm0
          have g1 : ((xk % 3) == 1) = false := by simpa using hm1
          clear hm0 hm1
          have HA0 : Hid (Blk (wr.alloc (.cells #[.int .i64 xk, .int .i64 xn, .string xr] 80)) wr.heap.size 80 #[.int .i64 xk, .int .i64 xn, .string xr]) := Blk.new_ _ _ _
          have hbA : Below wr.heap.size wr (wr.alloc (.cells #[.int .i64 xk, .int .i64 xn, .string xr] 80)) := (by repeat (first | exact Below.refl _ _ | assumption | refine Below.alloc ?_ (by first | exact Nat.le_refl _ | assumption | omega | (simp <;> omega)) _ | refine Below.setCell ?_ (by first | exact Nat.le_refl _ | assumption | omega | (simp <;> omega)) _ | refine Below.drew ?_ | refine below_drewN ?_ _))
          go_wp2_with fail
          refine (rest3_any xk hk0 hk1 _).mono ?_
          rintro e w2 ⟨rfl, hb2⟩
          have hb2' := bthen hbA hb2
          have HHG2 : Hid (LogAt w2 w.heap.size 124 d sf) := HG.out.below' hb2'
          have HHR2 : Hid (LogAt w2 (w.heap.size + 1) 78 d sf) := HR.out.below' hb2'
          have HHA2 : Hid (Blk w2 wr.heap.size 80 #[.int .i64 xk, .int .i64 xn, .string xr]) := HA0.out.below' hb2
          have hB2 := bthen hb hb2'
          have hga : (w.heap.size + 1) < wr.heap.size := Blk.lt HR.out
          have hgg : w.heap.size < wr.heap.size := Blk.lt HG.out
          generalize wr.heap.size = ga at *
          clear hb2' hbA hb2 HA0 HG HR hb
          have q0 := Blk.cell0 HHA2.out; have q1 := Blk.cell1 HHA2.out; have q2 := Blk.cell2 HHA2.out
          obtain ⟨c0, c1, f0, f1, hglt⟩ := LogAt.cells HHG2.out
          obtain ⟨r0, r1, rf0, rf1, hrlt⟩ := LogAt.cells HHR2.out
          go_wp2_with fail
          refine (lgCrash_any w.heap.size d sf xn w2 HHG2.out hd hsf).mono ?_
          rintro e w3 ⟨rfl, HG3, hg3⟩
          have hn1 : w.heap.size ≠ (w.heap.size + 1) := hne
          have HG3' := Lib.hid HG3; clear HG3
          have HR3 : Hid (LogAt w3 (w.heap.size + 1) 78 d sf) := HHR2.out.grown hg3 (fun e => by simp only [Option.some.injEq] at e; omega)
          have HA3 : Hid (Blk w3 ga 80 #[.int .i64 xk, .int .i64 xn, .string xr]) := HHA2.out.grown hg3 (fun e => by simp only [Option.some.injEq] at e; omega)
          have hB3 := below_gb hB2 hg3 hgb hB2.size
          have hz3 := hg3.size
          clear q0 q1 q2 c0 c1 f0 f1 hglt r0 r1 rf0 rf1 hrlt HHG2 HHR2 HHA2 hg3 hB2
          have q0 := Blk.cell0 HA3.out; have q1 := Blk.cell1 HA3.out; have q2 := Blk.cell2 HA3.out
          obtain ⟨r0, r1, rf0, rf1, hrlt⟩ := LogAt.cells HR3.out
          go_wp2_with fail
          refine (lgCrashOf_any d sf xn w3 hd hsf).mono ?_
          rintro e w4 ⟨rfl, hb4⟩
          have HG4 : Hid (LogAt w4 w.heap.size 124 (craD d sf xn) (craF d sf xn)) := HG3'.out.below' hb4
          have HR4 : Hid (LogAt w4 (w.heap.size + 1) 78 d sf) := HR3.out.below' hb4
          have hB4 := bthen hB3 hb4
          clear q0 q1 q2 r0 r1 rf0 rf1 hrlt HG3' HR3 HA3 hb4 hB3
          obtain ⟨r0, r1, rf0, rf1, hrlt⟩ := LogAt.cells HR4.out
          have HG5 : Hid (LogAt ((w4.setCell ⟨w.heap.size + 1, 0, none⟩ (.string (craD d sf xn))).setCell ⟨w.heap.size + 1, 1, none⟩ (.int .i64 ((craF d sf xn : Nat) : Int))) w.heap.size 124 (craD d sf xn) (craF d sf xn)) := Blk.far (Blk.far HG4.out hne _) hne _
          have HR5 : Hid (LogAt ((w4.setCell ⟨w.heap.size + 1, 0, none⟩ (.string (craD d sf xn))).setCell ⟨w.heap.size + 1, 1, none⟩ (.int .i64 ((craF d sf xn : Nat) : Int))) (w.heap.size + 1) 78 (craD d sf xn) (craF d sf xn)) := Blk.set_ (Blk.set_ HR4.out 0 _) 1 _
          have hB5 : Below w.heap.size w ((w4.setCell ⟨w.heap.size + 1, 0, none⟩ (.string (craD d sf xn))).setCell ⟨w.heap.size + 1, 1, none⟩ (.int .i64 ((craF d sf xn : Nat) : Int))) := (by repeat (first | exact Below.refl _ _ | assumption | refine Below.alloc ?_ (by first | exact Nat.le_refl _ | assumption | omega | (simp <;> omega)) _ | refine Below.setCell ?_ (by first | exact Nat.le_refl _ | assumption | omega | (simp <;> omega)) _ | refine Below.drew ?_ | refine below_drewN ?_ _))
          go_wp2_with fail
          clear r0 r1 rf0 rf1 hrlt HG4 HR4 hB4
          generalize ((w4.setCell ⟨w.heap.size + 1, 0, none⟩ (.string (craD d sf xn))).setCell ⟨w.heap.size + 1, 1, none⟩ (.int .i64 ((craF d sf xn : Nat) : Int))) = w5 at *
          obtain ⟨hds, hfs⟩ := HSZ.out
          generalize craD d sf xn = d' at *
          generalize craF d sf xn = sf' at *
          refine (scanRef_any _ d' (by omega) (Nat.le_refl _) _).mono ?_
          rintro e w6 ⟨v6, rfl, hown6, hb6⟩
          obtain ⟨A6, c6, rfl, hn6, hm6, hrd6⟩ := own_form hown6
          have HRD6 := Lib.hid hrd6
          clear hown6 hrd6
          have hB6 := bthen hB5 hb6
          have HG6 := Lib.hid (HG5.out.below' hb6)
          have HR6 := Lib.hid (HR5.out.below' hb6)
          clear HG5 HR5 hb6
          go_wp2_with fail
          refine (lgSize_any w.heap.size d' sf' _ HG6.out).mono ?_
          rintro e w7 ⟨rfl, hb7⟩
          have hB7 := bthen hB6 hb7
          have HG7 := Lib.hid (HG6.out.below' hb7)
          have HR7 := Lib.hid (HR6.out.below' hb7)
          have HRD7 := Lib.hid (HRD6.out.below hb7)
          have hz7 := hb7.size
          clear HG6 HR6 HRD6 hb7
          obtain ⟨r0, r1, rf0, rf1, hrlt⟩ := LogAt.cells HR7.out
          go_wp2_with fail
          refine (lgAll_any w.heap.size d' sf' _ HG7.out (by omega)).mono ?_
          rintro e w8 ⟨v8, rfl, hown8, hb8⟩
          obtain ⟨A8, c8, rfl, hn8, hm8, hrd8⟩ := own_form hown8
          have HRD8 := Lib.hid hrd8
          clear hown8 hrd8
          have hB8 := bthen hB7 hb8
          have HG8 := Lib.hid (HG7.out.below' hb8)
          have HR8 := Lib.hid (HR7.out.below' hb8)
          have h6 := HRD7.out.below (hb8.mono hz7)
          clear HG7 HR7 HRD7 r0 r1 rf0 rf1 hrlt
          go_wp2_with fail
          refine (alike_str_true _ _ _ _ _ _ _ _ _ (by unfold maxLen at hm8; omega) HRD8.out h6).mono ?_
          rintro e w9 ⟨rfl, hb9⟩
          have hB9 := bthen hB8 hb9
          have HG9 := Lib.hid (HG8.out.below' hb9)
          have HR9 := Lib.hid (HR8.out.below' hb9)
          go_wp2_with fail
          go_roundw
          case rel => exact ⟨k + 1, d', sf', by omega, by go_num, by omega, by omega, HG9.out, HR9.out, hB9⟩
          case measure => simp [intOf]; omega
    · go_wp2_with fail
      go_ret
      exact ⟨rfl, hb⟩
end Go.Proofs.Ythnedhfjochfnaa
