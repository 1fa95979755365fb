/- front.Whole, walked. -/
import Derived.Test.YtolnhplgaolieaaFrontR
namespace Go.Proofs.Ytolnhplgaolieaa
open Go.RowKit
theorem flatR_take (l : List Rn) {i : Nat} (h : i < l.length) : flatR (l.take (i + 1)) = flatR (l.take i) ++ List.replicate (l.getD i (0, 0)).2.toNat (l.getD i (0, 0)).1 := by
  rw [List.take_succ_eq_append_getElem h, flatR_app, flatR_one, List.getD_eq_getElem?_getD, List.getElem?_eq_getElem h]; rfl
theorem wholeE_step (l : List Rn) {i m : Nat} (h : i < l.length) : wholeE l (l.length - i) m = if runE l i m ≠ 0 then runE l i m else wholeE l (l.length - (i + 1)) (m + (l.getD i (0, 0)).2.toNat) := by
  obtain ⟨k, hk⟩ : ∃ k, l.length - i = k + 1 := ⟨l.length - i - 1, by omega⟩
  rw [hk, wholeE, show l.length - (k + 1) = i by omega, show l.length - (i + 1) = k by omega]
theorem own_ne_blk {w : World} {base : Nat} {e t : TypeId} {size : Nat} {v : Value} {n g : Nat} {xs : List Value} {cs : Array Value} (h : w.ownsRow base e size v n xs) (hb : Blk w g t cs) (hne : e ≠ t) : some g ≠ v.ownBlock := by
  intro e1
  rcases h.2 with ⟨rfl, _⟩ | ⟨g', cap, cur, rfl, _, h3, _⟩
  · cases e1
  · simp only [Value.ownBlock, Option.some.injEq] at e1
    subst e1
    unfold Blk at hb
    rw [hb] at h3
    injection h3 with h3
    injection h3 with _ h4
    exact hne h4.symm
/-- Where the inner loop of Whole stands. -/
structure WIn (w wr : World) (g6 : Nat) (b : UInt8) (N : Int) (x : List UInt8) (j : Nat) (o : Value) : Prop where
  out : wr.ownsRow w.heap.size 5 1 o (x.length + j) (byteCells (x ++ List.replicate j b))
  blk : Blk wr g6 85 #[.int .u8 (b.toNat : Int), .int .i64 N]
  b_ : Below w.heap.size w wr
theorem WIn.drewN {w wr : World} {g6 : Nat} {b : UInt8} {N : Int} {x : List UInt8} {j : Nat} {o : Value} (h : WIn w wr g6 b N x j o) (n : Nat) : WIn w (wr.drewN n) g6 b N x j o :=
  ⟨own_drewN h.out n, h.blk.drewN n, below_drewN h.b_ n⟩
set_option maxRecDepth 100000 in
set_option maxHeartbeats 4000000 in
theorem frontWhole_any (l : List Rn) (A : Option Addr) (n c : Nat) (w : World) (hr : Rd w w.heap.size 2 A n (runCells l)) (hn : n ≤ 9223372036854775807) (hz : ∀ r ∈ l, -9223372036854775808 ≤ r.2 ∧ r.2 ≤ 9223372036854775807) :
    Calls Try.prog 52 #[.slice A n c] w fun e w' => e = .returned (.tuple #[.string (S (wholV l)), .int .i64 (wholE l)]) ∧ Below w.heap.size w w' := by
  obtain ⟨i0, hi0, hz0, hz1, hz2⟩ := info_parts info_u8'
  have hl := Rd.rec_len run_len (by omega) hr
  have HR := Lib.hid hr
  have HL := Lib.hid hl
  have HZ := Lib.hid hz
  clear hr hl hz
  go_enter Try.func52, Try.ntmps52
  go_wp2_with fail
  go_loopw [4, 9] (fun o i wr => ∃ k : Nat, k ≤ n ∧ i = .int .i64 k ∧ (flatR (l.take k)).length ≤ 200 ∧ wholE l = wholeE l (l.length - k) (flatR (l.take k)).length ∧ wr.ownsRow w.heap.size 5 1 o (flatR (l.take k)).length (byteCells (flatR (l.take k))) ∧ Below w.heap.size w wr) (fun _ i _ => n - (intOf i).toNat)
  case atStart => exact ⟨0, Nat.zero_le _, rfl, Nat.zero_le _, rfl, ⟨rfl, .inl ⟨rfl, rfl⟩⟩, Below.refl _ _⟩
  case round =>
    obtain ⟨k, hk, rfl, h200, hE, ho, hb⟩ := hrel
    by_cases hlt : k < n
    · have g1 : decide ((k : Int) < (n : Int)) = true := decide_eq_true (by omega)
      have HST := Lib.hid (wholeE_step l (i := k) (m := (flatR (l.take k)).length) (by rw [HL.out]; exact hlt))
      have HFT := Lib.hid (flatR_take l (i := k) (by rw [HL.out]; exact hlt))
      have HE := Lib.hid hE
      obtain ⟨ad, hkl, rfl, hab, c0, c1⟩ := (HR.out.below hb).at_run hlt
      have hzk : -9223372036854775808 ≤ (l.getD k (0, 0)).2 ∧ (l.getD k (0, 0)).2 ≤ 9223372036854775807 := HZ.out _ (by
        rw [List.getD_eq_getElem?_getD, List.getElem?_eq_getElem hkl]; exact List.getElem_mem _)
      have HPV : Hid (0 < k → wr.cell? (ad.add ((k - 1) * 2)) = some (.int .u8 ((l.getD (k - 1) (0, 0)).1.toNat : Int))) := fun h => by
        obtain ⟨ad', _, e, _, c, _⟩ := (HR.out.below hb).at_run (k := k - 1) (by omega)
        cases e
        exact c
      have HO := Lib.hid ho
      clear hE ho
      generalize hru : l.getD k (0, 0) = ru at *
      obtain ⟨b, N⟩ := ru
      have HRU := Lib.hid hru
      clear hru
      simp only at c0 c1 hzk
      have hbs := hb.size
      have hWI : WIn w (wr.alloc (.cells #[.int .u8 (b.toNat : Int), .int .i64 N] 85)) wr.heap.size b N (flatR (l.take k)) 0 u4 := by
        refine ⟨?_, Blk.new_ _ _ _, hb.alloc hbs _⟩
        rw [List.replicate_zero, List.append_nil]
        exact World.ownsRow.alloc HO.out _
      have HWI := Lib.hid hWI
      clear hWI
      have HRE : Hid (∀ m, runE l k m = if N < 1 then 1 else if 0 < k ∧ (l.getD (k - 1) (0, 0)).1 = b then 3 else if (200 : Int) - m < N then 2 else 0) := fun m => by unfold runE; rw [HRU.out]
      have HERR : Hid (∀ e, e ≠ 0 → runE l k (flatR (l.take k)).length = e → wholE l = e ∧ wholV l = []) := fun e h0 h => by
        have h1 : wholE l = e := by rw [HE.out, HST.out, h, if_pos h0]
        exact ⟨h1, by unfold wholV; rw [h1, if_neg h0]⟩
      have hbq := HWI.out.b_
      by_cases hN1 : N < 1
      · have g2 : decide (N < 1) = true := decide_eq_true hN1
        obtain ⟨he, hv⟩ := HERR.out 1 (by decide) (by rw [HRE.out, if_pos hN1])
        have HEE := Lib.hid he
        have HVV := Lib.hid hv
        clear he hv HST HRE HERR
        go_wp2_with fail
        go_ret2
        rw [HEE.out, HVV.out]
        exact ⟨rfl, hbq⟩
      · have g2 : decide (N < 1) = false := decide_eq_false hN1
        obtain ⟨N, rfl⟩ : ∃ N' : Nat, N = (N' : Int) := ⟨N.toNat, by omega⟩
        have cq0 := Blk.cell0 HWI.out.blk
        have cq1 := Blk.cell1 HWI.out.blk
        by_cases hpb : 0 < k ∧ (l.getD (k - 1) (0, 0)).1 = b
        · obtain ⟨he, hv⟩ := HERR.out 3 (by decide) (by rw [HRE.out, if_neg hN1, if_pos hpb])
          have HEE := Lib.hid he
          have HVV := Lib.hid hv
          obtain ⟨k, rfl⟩ : ∃ k', k = k' + 1 := ⟨k - 1, by omega⟩
          have cp := HPV.out (Nat.succ_pos _)
          rw [Nat.add_sub_cancel] at hpb cp
          rw [hpb.2] at cp
          have cp' := (World.cell?_alloc_lt wr (.cells #[.int .u8 (b.toNat : Int), .int .i64 (N : Int)] 85) (ad.add (k * 2)) (by rw [show (ad.add (k * 2)).block = ad.block from by unfold Addr.add; split <;> rfl]; omega)).trans cp
          have g3 : decide ((0 : Int) < (k : Int) + 1) = true := decide_eq_true (by omega)
          have g3' : decide (0 < k + 1) = true := decide_eq_true (by omega)
          have g4 : ((b.toNat : Int) == (b.toNat : Int)) = true := by simp
          clear he hv HST HRE HERR hpb
          go_wp2_with fail
          go_quiet (fail)
          go_wp2_with fail
          go_ret2
          rw [HEE.out, HVV.out]
          exact ⟨rfl, below_drewN hbq _⟩
        · have HRE2 : Hid (runE l k (flatR (l.take k)).length = if (200 : Int) - ((flatR (l.take k)).length : Nat) < (N : Int) then 2 else 0) := by unfold Hid; rw [HRE.out, if_neg hN1, if_neg hpb]
          clear HRE
          go_upto_region 7 with (fail)
          go_cut [29] (fun v wx => v = .bool false ∧ WIn w wx wr.heap.size b (N : Int) (flatR (l.take k)) 0 u4)
          case first =>
            rcases Nat.eq_zero_or_pos k with hk0 | hk0
            · subst hk0
              have g3 : decide ((0 : Int) < 0) = false := by decide
              go_quiet (fail)
              go_wp2_with fail
              go_meet
              exact ⟨rfl, HWI.out.drewN _⟩
            · obtain ⟨k, rfl⟩ : ∃ k', k = k' + 1 := ⟨k - 1, by omega⟩
              have cp := HPV.out (Nat.succ_pos _)
              rw [Nat.add_sub_cancel] at hpb cp
              have hne : (l.getD k (0, 0)).1 ≠ b := fun h => hpb ⟨Nat.succ_pos _, h⟩
              generalize (l.getD k (0, 0)).1 = pb at *
              have cp' := (World.cell?_alloc_lt wr (.cells #[.int .u8 (b.toNat : Int), .int .i64 (N : Int)] 85) (ad.add (k * 2)) (by rw [show (ad.add (k * 2)).block = ad.block from by unfold Addr.add; split <;> rfl]; omega)).trans cp
              have g3 : decide ((0 : Int) < (k : Int) + 1) = true := decide_eq_true (by omega)
              have g3' : decide (0 < k + 1) = true := decide_eq_true (by omega)
              have g4 : ((pb.toNat : Int) == (b.toNat : Int)) = false := by rw [beq_eq_false_iff_ne]; exact fun h => hne (UInt8.toNat_inj.1 (by omega))
              have g4' : (pb.toNat == b.toNat) = false := by rw [beq_eq_false_iff_ne]; exact fun h => hne (UInt8.toNat_inj.1 h)
              clear hpb hne
              generalize pb.toNat = pn at *
              go_quiet (fail)
              go_wp2_with fail
              go_meet
              exact ⟨rfl, HWI.out.drewN _⟩
          case rest =>
            obtain ⟨rfl, hWI⟩ := hcut
            clear HWI cq0 cq1 hbq HPV
            generalize wr.heap.size = g6 at *
            have cq0 := Blk.cell0 hWI.blk
            have cq1 := Blk.cell1 hWI.blk
            have hbw := hWI.b_
            have hown := hWI.out
            obtain ⟨A4, c4, rfl, _, _, _⟩ := own_form hown
            rw [Nat.add_zero] at hWI
            have HWI := Lib.hid hWI
            clear hWI hown
            by_cases hbig : (200 : Int) - ((flatR (l.take k)).length : Nat) < (N : Int)
            · obtain ⟨he, hv⟩ := HERR.out 2 (by decide) (by rw [HRE2.out, if_pos hbig])
              have HEE := Lib.hid he
              have HVV := Lib.hid hv
              have g5 : decide ((200 : Int) - ((flatR (l.take k)).length : Nat) < (N : Int)) = true := decide_eq_true hbig
              clear he hv hpb
              go_wp2_with fail
              go_ret2
              rw [HEE.out, HVV.out]
              exact ⟨rfl, hbw⟩
            · have hnoE : runE l k (flatR (l.take k)).length = 0 := by rw [HRE2.out, if_neg hbig]
              have HE2 : Hid (wholE l = wholeE l (l.length - (k + 1)) (flatR (l.take (k + 1))).length) := by
                unfold Hid
                rw [HE.out, HST.out, hnoE, if_neg (fun h => h rfl), HFT.out, List.length_append, List.length_replicate]
              have g5 : decide ((200 : Int) - ((flatR (l.take k)).length : Nat) < (N : Int)) = false := decide_eq_false hbig
              have hlen2 : (flatR (l.take (k + 1))).length ≤ 200 := by rw [HFT.out, List.length_append, List.length_replicate]; omega
              have hNl : (flatR (l.take k)).length + N ≤ 200 := by omega
              have HFT2 : Hid (flatR (l.take (k + 1)) = flatR (l.take k) ++ List.replicate N b) := HFT.out
              clear HERR HRE2 HST HE HFT hpb hnoE hbig
              generalize flatR (l.take k) = x at *
              clear HO hb hzk
              go_wp2_with fail
              go_loopw [4, 38] (fun o i w' => ∃ j : Nat, j ≤ N ∧ i = .int .i64 (j : Int) ∧ WIn w w' g6 b (N : Int) x j o) (fun _ i _ => N - (intOf i).toNat)
              case atStart => exact ⟨0, Nat.zero_le _, rfl, HWI.out⟩
              case round =>
                clear HWI cq0 cq1 hbw
                obtain ⟨j, hj, rfl, hW⟩ := hrel
                have cq0 := Blk.cell0 hW.blk
                by_cases hjl : j < N
                · have g6' : decide ((j : Int) < (N : Int)) = true := decide_eq_true (by omega)
                  have HW := Lib.hid hW
                  have hgs := hW.b_.size
                  clear hW
                  go_wp2_with (at_builtin; go_must (refine wpList_appG rfl _ _ _ rfl w.heap.size 5 i0 _ 1 1 Try.underlying52 hi0 hz0 hz1 hz2 rfl (by omega) _ (x.length + j) (byteCells (x ++ List.replicate j b)) rfl (World.ownsRow.alloc (w := wr) HW.out.out _) ⟨wr.heap.size, 0, none⟩ 1 1 [.int .u8 (b.toNat : Int)] rfl rfl (cell_one_new _ _ _) (by simp [Value.oneCell']) (by omega) (by omega) (by simp; omega) ?_); intro v7 w7 hown7 hg7 hb7)
                  have HPN : Hid (WIn w w7 g6 b (N : Int) x (j + 1) v7) := by
                    refine ⟨?_, ?_, (HW.out.b_.alloc hgs _).trans hb7⟩
                    · have e : byteCells (x ++ List.replicate (j + 1) b) = byteCells (x ++ List.replicate j b) ++ [.int .u8 (b.toNat : Int)] := by
                        rw [List.replicate_succ', ← List.append_assoc]; simp [byteCells]
                      rw [e]; exact hown7
                    · have h1 := HW.out.blk.alloc (.cells #[.int .u8 (b.toNat : Int)] 5)
                      exact h1.grown hg7 (own_ne_blk (World.ownsRow.alloc HW.out.out _) h1 (by decide))
                  clear hown7 hg7 hb7 HW
                  go_roundw
                  case rel => exact ⟨j + 1, by omega, by go_num, HPN.out⟩
                  case measure => simp [intOf]; omega
                · obtain rfl : j = N := by omega
                  have g6' : decide ((j : Int) < (j : Int)) = false := by simp
                  have HON : Hid (wr.ownsRow w.heap.size 5 1 u4 (flatR (l.take (k + 1))).length (byteCells (flatR (l.take (k + 1))))) := by
                    unfold Hid; rw [HFT2.out, List.length_append, List.length_replicate]; exact hW.out
                  have hbn := hW.b_
                  clear hW cq0
                  go_wp2_with fail
                  go_roundw
                  case rel => exact ⟨k + 1, by omega, by go_num, hlen2, HE2.out, HON.out, hbn⟩
                  case measure => simp [intOf]; omega
    · obtain rfl : k = n := by omega
      have g2 : decide ((k : Int) < (k : Int)) = false := by simp
      have hE0 : wholE l = 0 := by rw [hE, HL.out, Nat.sub_self]; rfl
      have HV : Hid (wholV l = flatR l) := by unfold Hid wholV; rw [if_pos hE0]
      have HEE := Lib.hid hE0
      rw [List.take_of_length_le (by rw [HL.out]; exact Nat.le_refl _)] at ho
      obtain ⟨A9, c9, rfl, _, _, hrd⟩ := own_form ho
      have hcv := run_bytes_string (P := Try.prog) wr Try.underlying52 Try.underlying5 Try.underlying9 hrd (c := c9)
      change _ = Result.ok (Value.string (S (flatR l))) _ at hcv
      clear ho hrd hE hE0 h200
      generalize (flatR l).length = m9 at *
      go_wp2_with fail
      go_ret2
      rw [HEE.out, HV.out]
      exact ⟨rfl, hb⟩
end Go.Proofs.Ytolnhplgaolieaa
