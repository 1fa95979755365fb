/- The stable sort at rows of records, third part: the insertion sort, the blocks, the whole. What clear leaves of an own row: the front. MergeSays: both scripts as one, as the reference makes it (plain). -/
import Derived.Test.YtmikckhihfcooaaPk10
import Derived.Test.YtmikckhihfcooaaPk06
import Derived.Laws.IdiomCopy
import Derived.Lib.SliceRun
namespace Go.Proofs.Ytmikckhihfcooaa
open Go.RowKit
set_option maxRecDepth 100000 in
set_option maxHeartbeats 16000000 in
theorem insE_any (A x C : List Ed) (ad : Addr) (c N base a b : Nat) (w : World) (h : RowE w base ad c N (A ++ (x ++ C))) (hN : N ≤ 1000000) (ha : a = A.length) (hb : b = a + x.length) (hq : ∀ z ∈ x, QE z) :
    Calls Try.prog 27 #[.slice (some ad) N c, .int .i64 (a : Int), .int .i64 (b : Int), .func (.func 19) #[] #[]] w fun e w' => e = .returned (.tuple #[]) ∧ RowE w' base ad c N (A ++ (ssort leE x ++ C)) ∧ w.grownBy w' (some ad.block) := by
  have hlen := h.len
  have hbN : b ≤ N := by simp only [List.length_append] at hlen; omega
  have hab : a ≤ b := by omega
  have HQ := Lib.hid hq
  have HH := Lib.hid (And.intro ha hb)
  have HR0 : Hid (RowE w base ad c N (A ++ (ssort leE (x.take 1) ++ (x.drop 1 ++ C)))) := by
    have e : ssort leE (x.take 1) ++ (x.drop 1 ++ C) = x ++ C := by
      cases x with
      | nil => rfl
      | cons y x => show ssort leE [y] ++ (x ++ C) = _; rw [ssort_one]; rfl
    rw [Hid, e]; exact h
  clear h hlen ha hb hq
  go_enter Try.func27, Try.ntmps27
  go_wp2_with fail
  go_loopw [8] (fun iv wr => ∃ t i : Nat, iv = .int .i64 (i : Int) ∧ Hid (i = a + t) ∧ a + 1 ≤ i ∧ (i ≤ b ∨ i = a + 1) ∧ RowE wr base ad c N (A ++ (ssort leE (x.take t) ++ (x.drop t ++ C))) ∧ w.grownBy wr (some ad.block)) (fun iv _ => b + 1 - (intOf iv).toNat)
  case atStart => exact ⟨1, a + 1, by go_num, rfl, Nat.le_refl _, .inr rfl, HR0.out, gb_refl _ _⟩
  case round =>
    clear HR0
    obtain ⟨t, i, rfl, hit, hi1, hi2, hrow, hgb⟩ := hrel
    by_cases hlt : i < b
    · have g1 : decide ((i : Int) < (b : Int)) = true := decide_eq_true (by omega)
      have g1' : decide (i < b) = true := decide_eq_true hlt
      obtain ⟨h1, h2⟩ := HH.out
      have ht : t < x.length := by have := hit.out; omega
      have hsl : (ssort leE (x.take t)).length = t := by rw [ssort_len, List.length_take]; omega
      have hd : x.drop t = x[t] :: x.drop (t + 1) := List.drop_eq_getElem_cons ht
      have hnx : ssort leE (x.take (t + 1)) = (ssort leE (x.take t)).merge [x[t]] leE := by
        rw [List.take_succ_eq_append_getElem ht, ssort_snoc tpE]
      have hst := ssort_srt tpE (x.take t)
      have hqs : ∀ z ∈ ssort leE (x.take t), QE z := fun z hz => HQ.out z (List.mem_of_mem_take (mem_ssort.1 hz))
      have hqx : QE x[t] := HQ.out _ (List.getElem_mem _)
      rw [hd] at hrow
      have HNX := Lib.hid hnx
      have HST := Lib.hid hst
      have HQS := Lib.hid hqs
      have HQX := Lib.hid hqx
      clear hnx hst hqs hqx hd
      generalize x[t] = e at *
      generalize hss : ssort leE (x.take t) = s at *
      clear hss
      have HSL := Lib.hid hsl
      have hrow0 : RowE wr base ad c N (A ++ (s.take t ++ (e :: (s.drop t ++ (x.drop (t + 1) ++ C))))) := by
        rw [List.take_of_length_le (Nat.le_of_eq hsl), List.drop_of_length_le (Nat.le_of_eq hsl)]; exact hrow
      generalize hC0 : x.drop (t + 1) ++ C = C0 at *
      have HC0 := Lib.hid hC0
      have HROW0 := Lib.hid hrow0
      have HHL := Lib.hid (And.intro h1 h2)
      clear hrow hrow0 hC0 hsl h1 h2 ht
      go_wp2_with fail
      go_loopw [9] (fun jv w2 => ∃ r j : Nat, jv = .int .i64 (j : Int) ∧ Hid (j = a + r) ∧ a ≤ j ∧ j ≤ i ∧ RowE w2 base ad c N (A ++ (s.take r ++ (e :: (s.drop r ++ C0)))) ∧ Hid (∀ z, s[r]? = some z → leE z e = false) ∧ w.grownBy w2 (some ad.block)) (fun jv _ => (intOf jv).toNat)
      case atStart => exact ⟨t, i, rfl, hit, by omega, Nat.le_refl _, HROW0.out, (fun z hz => by rw [List.getElem?_eq_none (by rw [HSL.out]; exact Nat.le_refl _)] at hz; cases hz), hgb⟩
      case round =>
        clear HROW0 hgb
        obtain ⟨r, j, rfl, hjr, haj, hji, hrow, HB, hgb⟩ := hrel
        rcases Nat.eq_or_lt_of_le haj with hj0 | hj0
        · have g2 : decide ((a : Int) < (j : Int)) = false := decide_eq_false (by omega)
          have g2' : decide (a < j) = false := decide_eq_false (by omega)
          have hr0 : r = 0 := by have := hjr.out; omega
          subst hr0
          have HF : Hid (A ++ (s.take 0 ++ (e :: (s.drop 0 ++ C0))) = A ++ (ssort leE (x.take (t + 1)) ++ (x.drop (t + 1) ++ C))) := by
            have h9 := merge_one_r tpE (y := e) (u1 := s.take 0) (u2 := s.drop 0) (by rw [List.take_append_drop]; exact HST.out) (fun z hz => by rw [List.take_zero] at hz; cases hz) (fun z hz => by rw [List.head?_drop] at hz; exact HB.out z hz)
            rw [List.take_append_drop] at h9
            rw [Hid, HNX.out, h9, HC0.out]
            simp only [List.append_assoc, List.cons_append]
          rw [HF.out] at hrow
          have HR9 := Lib.hid hrow
          clear hrow hj0 HF
          go_wp2_with fail
          go_quiet (fail)
          go_wp2_with fail
          go_roundw
          case rel => exact ⟨t + 1, i + 1, by go_num, by have := hit.out; unfold Hid; omega, by omega, .inl (by omega), HR9.out.drewN _, gb_drewN hgb _⟩
          case measure => simp [intOf]; omega
        · obtain ⟨κ, rfl⟩ : ∃ κ, j = κ + 1 := ⟨j - 1, by omega⟩
          obtain ⟨r, rfl⟩ : ∃ q, r = q + 1 := ⟨r - 1, by have := hjr.out; omega⟩
          have g2 : decide ((a : Int) < (κ : Int) + 1) = true := decide_eq_true (by omega)
          have g2' : decide (a < κ + 1) = true := decide_eq_true (by omega)
          have g2'' : decide ((a : Int) < ((κ + 1 : Nat) : Int)) = true := decide_eq_true (by omega)
          have hk1 : κ < N := by omega
          have hk3 : κ + 1 < N := by omega
          have hr : r < s.length := by rw [HSL.out]; have := hjr.out; have := hit.out; omega
          have hd : s.drop r = s[r] :: s.drop (r + 1) := List.drop_eq_getElem_cons hr
          have hlist : A ++ (s.take (r + 1) ++ (e :: (s.drop (r + 1) ++ C0))) = (A ++ s.take r) ++ s[r] :: ([] ++ e :: (s.drop (r + 1) ++ C0)) := by rw [List.take_succ_eq_append_getElem hr]; simp only [List.append_assoc, List.cons_append, List.nil_append]
          have hlist2 : A ++ (s.take r ++ (e :: (s.drop r ++ C0))) = (A ++ s.take r) ++ e :: ([] ++ s[r] :: (s.drop (r + 1) ++ C0)) := by rw [hd]; simp only [List.append_assoc, List.cons_append, List.nil_append]
          have hA9 : κ = (A ++ s.take r).length := by simp only [List.length_append, List.length_take]; have := hjr.out; have := HHL.out; omega
          have hB9 : κ + 1 = (A ++ s.take r).length + 1 + ([] : List Ed).length := by rw [← hA9]; rfl
          have HLI := Lib.hid hlist2
          have hz := HQS.out _ (List.getElem_mem hr)
          have HZ : Hid (s[r]? = some s[r]) := List.getElem?_eq_getElem hr
          have HSTOP : Hid (cvE e s[r] < 0 ∨ A ++ (s.take (r + 1) ++ (e :: (s.drop (r + 1) ++ C0))) = A ++ (ssort leE (x.take (t + 1)) ++ (x.drop (t + 1) ++ C))) := by
            by_cases hc : cvE e s[r] < 0
            · exact .inl hc
            · right
              have h9 := merge_one_r tpE (y := e) (u1 := s.take (r + 1)) (u2 := s.drop (r + 1)) (by rw [List.take_append_drop]; exact HST.out) (fun z hz => by
                rw [List.take_succ_eq_append_getElem hr, List.getLast?_append] at hz
                simp only [List.getLast?_singleton, Option.some_or, Option.some.injEq] at hz
                rw [← hz]; exact leE_iff.2 hc) (fun z hz => by rw [List.head?_drop] at hz; exact HB.out z hz)
              rw [List.take_append_drop] at h9
              rw [HNX.out, h9, HC0.out]
              simp only [List.append_assoc, List.cons_append]
          rw [Hid, hlist] at HSTOP
          have HSTOP := Lib.hid HSTOP
          rw [hlist] at hrow
          clear hlist hlist2 hd
          generalize s[r] = z at *
          generalize A ++ s.take r = A9 at *
          generalize ([] : List Ed) = B9 at *
          generalize hC9 : s.drop (r + 1) ++ C0 = C9 at *
          have HC9 := Lib.hid hC9
          clear hr hC9
          obtain ⟨hxi, hyj, _, _⟩ := swap_two A9 B9 C9 z e hA9 hB9
          obtain ⟨ci0, ci1, ci2⟩ := recE_at hrow hyj
          have ci0r := cell_regrown ci0
          have ci1r := cell_regrown ci1
          have ci2r := cell_regrown ci2
          obtain ⟨cj0, cj1, cj2⟩ := recE_at hrow hxi
          have cj0r := cell_regrown cj0
          have cj1r := cell_regrown cj1
          have cj2r := cell_regrown cj2
          have HC := Lib.hid (cmpE_any e z HQX.out hz)
          have HR := Lib.hid hrow
          have HAB := Lib.hid (And.intro hA9 hB9)
          clear hrow hxi hyj hz hA9 hB9
          by_cases hc : cvE e z < 0
          · have g3 : decide (cvE e z < 0) = true := decide_eq_true hc
            have HN : Hid (∀ z', s[r]? = some z' → leE z' e = false) := fun z' hz' => by
              have h8 := HZ.out
              rw [h8] at hz'
              cases hz'
              exact leE_not.2 hc
            go_wp2_with fail
            refine wp_region_quiet_below (by kernel_rfl) (by kernel_rfl) ?_
            repeat (go_big_quiet_step ((go_at_call 19; exact Calls.regrown_of (HC.out _))))
            refine wpQuiet_nil ?_
            intro wr hb50
            have hb5 := below_of_regrown hb50
            clear hb50
            have hrow := HR.out.below hb5
            have hgb := gb_below hgb hb5
            obtain ⟨hA9, hB9⟩ := HAB.out
            clear ci0 ci0r cj0 cj0r
            clear ci1 ci1r cj1 cj1r
            clear ci2 ci2r cj2 cj2r
            clear HSTOP HR HAB HC hb5 g3 hc HQS HB HZ
            obtain ⟨hxi, hyj, hsw, hsw2⟩ := swap_two A9 B9 C9 z e hA9 hB9
            have HROW := Lib.hid hrow
            have HOWN := Lib.hid hrow.own
            obtain ⟨ci0, ci1, ci2⟩ := recE_at HROW.out hyj
            obtain ⟨cj0, cj1, cj2⟩ := recE_at HROW.out hxi
            have hlen := hrow.len
            have hset := cellsE_set (l := A9 ++ z :: (B9 ++ e :: C9)) (j := (κ + 1)) (by omega) z
            have hset2 := cellsE_set (l := (A9 ++ z :: (B9 ++ e :: C9)).set (κ + 1) z) (j := κ) (by rw [List.length_set]; omega) e
            rw [← hset, hsw2] at hset2
            have HSET := Lib.hid hset2
            clear hA9 hB9 hsw hsw2 hrow hxi hyj hset hset2 hlen
            obtain ⟨s0, f0⟩ := own_setS HOWN.out (j := (κ + 1) * 3) (by omega) (.int .i64 z.at_)
            obtain ⟨s1, f1⟩ := own_setS s0 (j := (κ + 1) * 3 + 1) (by omega) (.int .i64 z.del)
            obtain ⟨s2, f2⟩ := own_setS s1 (j := (κ + 1) * 3 + 2) (by omega) (.string (S z.ins))
            obtain ⟨s3, f3⟩ := own_setS s2 (j := κ * 3) (by omega) (.int .i64 e.at_)
            obtain ⟨s4, f4⟩ := own_setS s3 (j := κ * 3 + 1) (by omega) (.int .i64 e.del)
            obtain ⟨s5, f5⟩ := own_setS s4 (j := κ * 3 + 2) (by omega) (.string (S e.ins))
            have fi0 := (own_setS HOWN.out (j := (κ + 1) * 3) (by omega) (.int .i64 0)).2
            have fj0 := (own_setS HOWN.out (j := κ * 3) (by omega) (.int .i64 0)).2
            have fi1 := (own_setS HOWN.out (j := (κ + 1) * 3 + 1) (by omega) (.int .i64 0)).2
            have fj1 := (own_setS HOWN.out (j := κ * 3 + 1) (by omega) (.int .i64 0)).2
            have fi2 := (own_setS HOWN.out (j := (κ + 1) * 3 + 2) (by omega) (.int .i64 0)).2
            have fj2 := (own_setS HOWN.out (j := κ * 3 + 2) (by omega) (.int .i64 0)).2
            rw [add_one] at fi1
            rw [add_two] at fi2
            rw [add_one] at fj1
            rw [add_two] at fj2
            rw [add_one ad ((κ + 1) * 3), add_two ad ((κ + 1) * 3), add_one ad (κ * 3), add_two ad (κ * 3)] at s5
            have hna := own_addrS HOWN.out
            have mi1 : (wr.setCell (ad.add ((κ + 1) * 3)) (.int .i64 z.at_)).cell? ⟨(ad.add ((κ + 1) * 3)).block, (ad.add ((κ + 1) * 3)).off + 1, none⟩ = some (.int .i64 e.del) := ((World.cell?_setCell_other _ _ _ _ (show ((ad.add ((κ + 1) * 3)) : Addr) ≠ (⟨(ad.add ((κ + 1) * 3)).block, (ad.add ((κ + 1) * 3)).off + 1, none⟩ : Addr) by rw [← add_one ad ((κ + 1) * 3)]; exact hna _ _ (by omega))).trans ci1)
            have mi2 : ((wr.setCell (ad.add ((κ + 1) * 3)) (.int .i64 z.at_)).setCell ⟨(ad.add ((κ + 1) * 3)).block, (ad.add ((κ + 1) * 3)).off + 1, none⟩ (.int .i64 z.del)).cell? ⟨(ad.add ((κ + 1) * 3)).block, (ad.add ((κ + 1) * 3)).off + 2, none⟩ = some (.string (S e.ins)) := ((World.cell?_setCell_other _ _ _ _ (show (⟨(ad.add ((κ + 1) * 3)).block, (ad.add ((κ + 1) * 3)).off + 1, none⟩ : Addr) ≠ (⟨(ad.add ((κ + 1) * 3)).block, (ad.add ((κ + 1) * 3)).off + 2, none⟩ : Addr) by rw [← add_one ad ((κ + 1) * 3), ← add_two ad ((κ + 1) * 3)]; exact hna _ _ (by omega))).trans ((World.cell?_setCell_other _ _ _ _ (show ((ad.add ((κ + 1) * 3)) : Addr) ≠ (⟨(ad.add ((κ + 1) * 3)).block, (ad.add ((κ + 1) * 3)).off + 2, none⟩ : Addr) by rw [← add_two ad ((κ + 1) * 3)]; exact hna _ _ (by omega))).trans ci2))
            have pj0 : (((wr.setCell (ad.add ((κ + 1) * 3)) (.int .i64 z.at_)).setCell ⟨(ad.add ((κ + 1) * 3)).block, (ad.add ((κ + 1) * 3)).off + 1, none⟩ (.int .i64 z.del)).setCell ⟨(ad.add ((κ + 1) * 3)).block, (ad.add ((κ + 1) * 3)).off + 2, none⟩ (.string (S z.ins))).cell? (ad.add (κ * 3)) = some (.int .i64 z.at_) := ((World.cell?_setCell_other _ _ _ _ (show (⟨(ad.add ((κ + 1) * 3)).block, (ad.add ((κ + 1) * 3)).off + 2, none⟩ : Addr) ≠ ((ad.add (κ * 3)) : Addr) by rw [← add_two ad ((κ + 1) * 3)]; exact hna _ _ (by omega))).trans ((World.cell?_setCell_other _ _ _ _ (show (⟨(ad.add ((κ + 1) * 3)).block, (ad.add ((κ + 1) * 3)).off + 1, none⟩ : Addr) ≠ ((ad.add (κ * 3)) : Addr) by rw [← add_one ad ((κ + 1) * 3)]; exact hna _ _ (by omega))).trans ((World.cell?_setCell_other _ _ _ _ (show ((ad.add ((κ + 1) * 3)) : Addr) ≠ ((ad.add (κ * 3)) : Addr) by exact hna _ _ (by omega))).trans cj0)))
            have pj1 : (((wr.setCell (ad.add ((κ + 1) * 3)) (.int .i64 z.at_)).setCell ⟨(ad.add ((κ + 1) * 3)).block, (ad.add ((κ + 1) * 3)).off + 1, none⟩ (.int .i64 z.del)).setCell ⟨(ad.add ((κ + 1) * 3)).block, (ad.add ((κ + 1) * 3)).off + 2, none⟩ (.string (S z.ins))).cell? ⟨(ad.add (κ * 3)).block, (ad.add (κ * 3)).off + 1, none⟩ = some (.int .i64 z.del) := ((World.cell?_setCell_other _ _ _ _ (show (⟨(ad.add ((κ + 1) * 3)).block, (ad.add ((κ + 1) * 3)).off + 2, none⟩ : Addr) ≠ (⟨(ad.add (κ * 3)).block, (ad.add (κ * 3)).off + 1, none⟩ : Addr) by rw [← add_two ad ((κ + 1) * 3), ← add_one ad (κ * 3)]; exact hna _ _ (by omega))).trans ((World.cell?_setCell_other _ _ _ _ (show (⟨(ad.add ((κ + 1) * 3)).block, (ad.add ((κ + 1) * 3)).off + 1, none⟩ : Addr) ≠ (⟨(ad.add (κ * 3)).block, (ad.add (κ * 3)).off + 1, none⟩ : Addr) by rw [← add_one ad ((κ + 1) * 3), ← add_one ad (κ * 3)]; exact hna _ _ (by omega))).trans ((World.cell?_setCell_other _ _ _ _ (show ((ad.add ((κ + 1) * 3)) : Addr) ≠ (⟨(ad.add (κ * 3)).block, (ad.add (κ * 3)).off + 1, none⟩ : Addr) by rw [← add_one ad (κ * 3)]; exact hna _ _ (by omega))).trans cj1)))
            have pj2 : (((wr.setCell (ad.add ((κ + 1) * 3)) (.int .i64 z.at_)).setCell ⟨(ad.add ((κ + 1) * 3)).block, (ad.add ((κ + 1) * 3)).off + 1, none⟩ (.int .i64 z.del)).setCell ⟨(ad.add ((κ + 1) * 3)).block, (ad.add ((κ + 1) * 3)).off + 2, none⟩ (.string (S z.ins))).cell? ⟨(ad.add (κ * 3)).block, (ad.add (κ * 3)).off + 2, none⟩ = some (.string (S z.ins)) := ((World.cell?_setCell_other _ _ _ _ (show (⟨(ad.add ((κ + 1) * 3)).block, (ad.add ((κ + 1) * 3)).off + 2, none⟩ : Addr) ≠ (⟨(ad.add (κ * 3)).block, (ad.add (κ * 3)).off + 2, none⟩ : Addr) by rw [← add_two ad ((κ + 1) * 3), ← add_two ad (κ * 3)]; exact hna _ _ (by omega))).trans ((World.cell?_setCell_other _ _ _ _ (show (⟨(ad.add ((κ + 1) * 3)).block, (ad.add ((κ + 1) * 3)).off + 1, none⟩ : Addr) ≠ (⟨(ad.add (κ * 3)).block, (ad.add (κ * 3)).off + 2, none⟩ : Addr) by rw [← add_one ad ((κ + 1) * 3), ← add_two ad (κ * 3)]; exact hna _ _ (by omega))).trans ((World.cell?_setCell_other _ _ _ _ (show ((ad.add ((κ + 1) * 3)) : Addr) ≠ (⟨(ad.add (κ * 3)).block, (ad.add (κ * 3)).off + 2, none⟩ : Addr) by rw [← add_two ad (κ * 3)]; exact hna _ _ (by omega))).trans cj2)))
            have mj1 : ((((wr.setCell (ad.add ((κ + 1) * 3)) (.int .i64 z.at_)).setCell ⟨(ad.add ((κ + 1) * 3)).block, (ad.add ((κ + 1) * 3)).off + 1, none⟩ (.int .i64 z.del)).setCell ⟨(ad.add ((κ + 1) * 3)).block, (ad.add ((κ + 1) * 3)).off + 2, none⟩ (.string (S z.ins))).setCell (ad.add (κ * 3)) (.int .i64 e.at_)).cell? ⟨(ad.add (κ * 3)).block, (ad.add (κ * 3)).off + 1, none⟩ = some (.int .i64 z.del) := ((World.cell?_setCell_other _ _ _ _ (show ((ad.add (κ * 3)) : Addr) ≠ (⟨(ad.add (κ * 3)).block, (ad.add (κ * 3)).off + 1, none⟩ : Addr) by rw [← add_one ad (κ * 3)]; exact hna _ _ (by omega))).trans ((World.cell?_setCell_other _ _ _ _ (show (⟨(ad.add ((κ + 1) * 3)).block, (ad.add ((κ + 1) * 3)).off + 2, none⟩ : Addr) ≠ (⟨(ad.add (κ * 3)).block, (ad.add (κ * 3)).off + 1, none⟩ : Addr) by rw [← add_two ad ((κ + 1) * 3), ← add_one ad (κ * 3)]; exact hna _ _ (by omega))).trans ((World.cell?_setCell_other _ _ _ _ (show (⟨(ad.add ((κ + 1) * 3)).block, (ad.add ((κ + 1) * 3)).off + 1, none⟩ : Addr) ≠ (⟨(ad.add (κ * 3)).block, (ad.add (κ * 3)).off + 1, none⟩ : Addr) by rw [← add_one ad ((κ + 1) * 3), ← add_one ad (κ * 3)]; exact hna _ _ (by omega))).trans ((World.cell?_setCell_other _ _ _ _ (show ((ad.add ((κ + 1) * 3)) : Addr) ≠ (⟨(ad.add (κ * 3)).block, (ad.add (κ * 3)).off + 1, none⟩ : Addr) by rw [← add_one ad (κ * 3)]; exact hna _ _ (by omega))).trans cj1))))
            have mj2 : (((((wr.setCell (ad.add ((κ + 1) * 3)) (.int .i64 z.at_)).setCell ⟨(ad.add ((κ + 1) * 3)).block, (ad.add ((κ + 1) * 3)).off + 1, none⟩ (.int .i64 z.del)).setCell ⟨(ad.add ((κ + 1) * 3)).block, (ad.add ((κ + 1) * 3)).off + 2, none⟩ (.string (S z.ins))).setCell (ad.add (κ * 3)) (.int .i64 e.at_)).setCell ⟨(ad.add (κ * 3)).block, (ad.add (κ * 3)).off + 1, none⟩ (.int .i64 e.del)).cell? ⟨(ad.add (κ * 3)).block, (ad.add (κ * 3)).off + 2, none⟩ = some (.string (S z.ins)) := ((World.cell?_setCell_other _ _ _ _ (show (⟨(ad.add (κ * 3)).block, (ad.add (κ * 3)).off + 1, none⟩ : Addr) ≠ (⟨(ad.add (κ * 3)).block, (ad.add (κ * 3)).off + 2, none⟩ : Addr) by rw [← add_one ad (κ * 3), ← add_two ad (κ * 3)]; exact hna _ _ (by omega))).trans ((World.cell?_setCell_other _ _ _ _ (show ((ad.add (κ * 3)) : Addr) ≠ (⟨(ad.add (κ * 3)).block, (ad.add (κ * 3)).off + 2, none⟩ : Addr) by rw [← add_two ad (κ * 3)]; exact hna _ _ (by omega))).trans ((World.cell?_setCell_other _ _ _ _ (show (⟨(ad.add ((κ + 1) * 3)).block, (ad.add ((κ + 1) * 3)).off + 2, none⟩ : Addr) ≠ (⟨(ad.add (κ * 3)).block, (ad.add (κ * 3)).off + 2, none⟩ : Addr) by rw [← add_two ad ((κ + 1) * 3), ← add_two ad (κ * 3)]; exact hna _ _ (by omega))).trans ((World.cell?_setCell_other _ _ _ _ (show (⟨(ad.add ((κ + 1) * 3)).block, (ad.add ((κ + 1) * 3)).off + 1, none⟩ : Addr) ≠ (⟨(ad.add (κ * 3)).block, (ad.add (κ * 3)).off + 2, none⟩ : Addr) by rw [← add_one ad ((κ + 1) * 3), ← add_two ad (κ * 3)]; exact hna _ _ (by omega))).trans ((World.cell?_setCell_other _ _ _ _ (show ((ad.add ((κ + 1) * 3)) : Addr) ≠ (⟨(ad.add (κ * 3)).block, (ad.add (κ * 3)).off + 2, none⟩ : Addr) by rw [← add_two ad (κ * 3)]; exact hna _ _ (by omega))).trans cj2)))))
            obtain ⟨W9, hW9⟩ : ∃ W9, W9 = ((((((wr.setCell (ad.add ((κ + 1) * 3)) (.int .i64 z.at_)).setCell ⟨(ad.add ((κ + 1) * 3)).block, (ad.add ((κ + 1) * 3)).off + 1, none⟩ (.int .i64 z.del)).setCell ⟨(ad.add ((κ + 1) * 3)).block, (ad.add ((κ + 1) * 3)).off + 2, none⟩ (.string (S z.ins))).setCell (ad.add (κ * 3)) (.int .i64 e.at_)).setCell ⟨(ad.add (κ * 3)).block, (ad.add (κ * 3)).off + 1, none⟩ (.int .i64 e.del)).setCell ⟨(ad.add (κ * 3)).block, (ad.add (κ * 3)).off + 2, none⟩ (.string (S e.ins))) := ⟨_, rfl⟩
            rw [← hW9] at s5
            have hg9 : wr.grownBy W9 (some ad.block) := by
              rw [hW9]
              refine gb_at (gb_at (gb_at (gb_at (gb_at (gb_at (gb_refl _ _) _ _ ?_) _ _ ?_) _ _ ?_) _ _ ?_) _ _ ?_) _ _ ?_
              all_goals exact blk_add _ _
            have HW9 := Lib.hid hW9
            clear hW9
            have HS9 := Lib.hid s5
            clear s0 s1 s2 s3 s4 s5 hna
            clear f0 f1 f2 f3 f4 f5
            have k0 : wr.cell? (ad.add (κ * 3)) = some (.int .i64 z.at_) ∧ wr.cell? ⟨(ad.add (κ * 3)).block, (ad.add (κ * 3)).off + 1, none⟩ = some (.int .i64 z.del) ∧ wr.cell? ⟨(ad.add (κ * 3)).block, (ad.add (κ * 3)).off + 2, none⟩ = some (.string (S z.ins)) := ⟨cj0, cj1, cj2⟩
            have HK0 := Lib.hid k0; clear k0
            have kj : (((wr.setCell (ad.add ((κ + 1) * 3)) (.int .i64 z.at_)).setCell ⟨(ad.add ((κ + 1) * 3)).block, (ad.add ((κ + 1) * 3)).off + 1, none⟩ (.int .i64 z.del)).setCell ⟨(ad.add ((κ + 1) * 3)).block, (ad.add ((κ + 1) * 3)).off + 2, none⟩ (.string (S z.ins))).cell? (ad.add (κ * 3)) = some (.int .i64 z.at_) ∧ (((wr.setCell (ad.add ((κ + 1) * 3)) (.int .i64 z.at_)).setCell ⟨(ad.add ((κ + 1) * 3)).block, (ad.add ((κ + 1) * 3)).off + 1, none⟩ (.int .i64 z.del)).setCell ⟨(ad.add ((κ + 1) * 3)).block, (ad.add ((κ + 1) * 3)).off + 2, none⟩ (.string (S z.ins))).cell? ⟨(ad.add (κ * 3)).block, (ad.add (κ * 3)).off + 1, none⟩ = some (.int .i64 z.del) ∧ (((wr.setCell (ad.add ((κ + 1) * 3)) (.int .i64 z.at_)).setCell ⟨(ad.add ((κ + 1) * 3)).block, (ad.add ((κ + 1) * 3)).off + 1, none⟩ (.int .i64 z.del)).setCell ⟨(ad.add ((κ + 1) * 3)).block, (ad.add ((κ + 1) * 3)).off + 2, none⟩ (.string (S z.ins))).cell? ⟨(ad.add (κ * 3)).block, (ad.add (κ * 3)).off + 2, none⟩ = some (.string (S z.ins)) := ⟨pj0, pj1, pj2⟩
            have HKJ := Lib.hid kj; clear kj
            go_wp2_with fail
            obtain ⟨F1, hFd⟩ : ∃ F : World → Prop, F = fun w' => w'.cell? (ad.add (κ * 3)) = some (.int .i64 z.at_) ∧ w'.cell? ⟨(ad.add (κ * 3)).block, (ad.add (κ * 3)).off + 1, none⟩ = some (.int .i64 z.del) ∧ w'.cell? ⟨(ad.add (κ * 3)).block, (ad.add (κ * 3)).off + 2, none⟩ = some (.string (S z.ins)) := ⟨_, rfl⟩
            have HF1 := Lib.hid hFd
            clear hFd
            have hcell10 : ∀ p' : Wof F1, p'.w.cell? (ad.add (κ * 3)) = some (.int .i64 z.at_) := fun ⟨x, hx⟩ => by rw [HF1.out] at hx; exact hx.1
            have hcell11 : ∀ p' : Wof F1, p'.w.cell? ⟨(ad.add (κ * 3)).block, (ad.add (κ * 3)).off + 1, none⟩ = some (.int .i64 z.del) := fun ⟨x, hx⟩ => by rw [HF1.out] at hx; exact hx.2.1
            have hcell12 : ∀ p' : Wof F1, p'.w.cell? ⟨(ad.add (κ * 3)).block, (ad.add (κ * 3)).off + 2, none⟩ = some (.string (S z.ins)) := fun ⟨x, hx⟩ => by rw [HF1.out] at hx; exact hx.2.2
            refine wp_region_schedT (.op 0 true (.op 1 true (.op 2 true (.op 3 true (.op 4 true (.op 5 true (.op 6 true (.op 7 true (.op 8 true (.op 9 true (.op 10 true (.op 11 true (.op 12 true (.op 13 false (.op 14 true (.op 15 false .nil)))))))))))))))) 16 16 [17] F1 (by kernel_rfl) (by kernel_rfl) (by kernel_rfl) rfl (fun _ _ _ _ _ h => h) (by kernel_rfl) (by rw [HF1.out]; exact HK0.out) (by rw [HF1.out]; exact fun h => h) ?_
            intro hne1
            simp only [opersT, opsAt, List.getElem?_toArray, List.getElem?_cons_succ, List.getElem?_cons_zero]
            repeat (first | (refine wpT_free rfl ?_; intro K hK; go_big_quiet_op; go_big_quiet_on) | (refine wpT_wantS _ rfl rfl rfl ?_; intro K hK; go_big_quiet_op; go_big_quiet_on) | (refine wpT_skipS _ rfl rfl rfl rfl ?_; simp only [Act.put, List.setIfInBounds_toArray, List.set_cons_zero, List.set_cons_succ]) | (refine wpT_skipU _ rfl rfl rfl ?_; simp only [Act.put, List.setIfInBounds_toArray, List.set_cons_zero, List.set_cons_succ]))
            refine wpT_other ?_
            go_wp2_with fail
            refine sched_back (by rw [HF1.out]; exact HK0.out) ?_
            repeat (first | (refine wpT_free rfl ?_; intro K hK; go_big_quiet_op; go_big_quiet_on) | (refine wpT_wantS _ rfl rfl rfl ?_; intro K hK; go_big_quiet_op; go_big_quiet_on) | (refine wpT_skipS _ rfl rfl rfl rfl ?_; simp only [Act.put, List.setIfInBounds_toArray, List.set_cons_zero, List.set_cons_succ]) | (refine wpT_skipU _ rfl rfl rfl ?_; simp only [Act.put, List.setIfInBounds_toArray, List.set_cons_zero, List.set_cons_succ]))
            refine wpT_other ?_
            go_wp2_with fail
            refine sched_back (by rw [HF1.out]; exact HKJ.out) ?_
            repeat (first | (refine wpT_free rfl ?_; intro K hK; go_big_quiet_op; go_big_quiet_on) | (refine wpT_wantS _ rfl rfl rfl ?_; intro K hK; go_big_quiet_op; go_big_quiet_on) | (refine wpT_skipS _ rfl rfl rfl rfl ?_; simp only [Act.put, List.setIfInBounds_toArray, List.set_cons_zero, List.set_cons_succ]) | (refine wpT_skipU _ rfl rfl rfl ?_; simp only [Act.put, List.setIfInBounds_toArray, List.set_cons_zero, List.set_cons_succ]))
            refine wpT_nil ?_
            refine wpTail_cons ?_
            go_wp2_with fail
            refine tail_back ?_
            refine wpTail_cons ?_
            go_wp2_with fail
            refine tail_back ?_
            refine wpTail_nil ?_
            clear mi1 mi2 pj0 pj1 pj2 mj1 mj2 HKJ HK0
            clear fi0 fj0 fi1 fj1 fi2 fj2
            rw [HSET.out] at HS9
            have HN9 := Lib.hid (HROW.out.two HS9.out)
            clear HSET HROW HOWN HS9
            rw [Hid, ← HLI.out] at HN9
            have HN9 := Lib.hid HN9
            have hgF := gb_trans hgb hg9
            clear HLI HC9 hgb hg9
            go_wp2_with fail
            rw [← HW9.out]
            exact ⟨⟨r, κ, by go_num, by have := hjr.out; unfold Hid; omega, by omega, by omega, HN9.out.drew, HN.out, gb_drew hgF⟩, by simp [intOf]⟩
          · have g3 : decide (cvE e z < 0) = false := decide_eq_false hc
            have HF := HSTOP.out.resolve_left hc
            have hrow := HR.out
            rw [HF] at hrow
            have HR9 := Lib.hid hrow
            clear hrow HF HSTOP HR HAB HLI HC9 HB HZ HQS
            go_wp2_with fail
            refine wp_region_quiet_below (by kernel_rfl) (by kernel_rfl) ?_
            repeat (go_big_quiet_step ((go_at_call 19; exact Calls.regrown_of (HC.out _))))
            refine wpQuiet_nil ?_
            intro w5 hb50
            have hb5 := below_of_regrown hb50
            clear hb50
            go_wp2_with fail
            go_roundw
            case rel => exact ⟨t + 1, i + 1, by go_num, by have := hit.out; unfold Hid; omega, by omega, .inl (by omega), HR9.out.below hb5, gb_below hgb hb5⟩
            case measure => simp [intOf]; omega
    · have g1 : decide ((i : Int) < (b : Int)) = false := decide_eq_false (by omega)
      have g1' : decide (i < b) = false := decide_eq_false hlt
      have ht : x.length ≤ t := by have := hit.out; have := HH.out; omega
      rw [List.take_of_length_le ht, List.drop_of_length_le ht, List.nil_append] at hrow
      have HO := Lib.hid hrow
      clear hrow ht
      go_wp2_with fail
      go_end0
      exact ⟨rfl, HO.out, hgb⟩
set_option maxRecDepth 100000 in
set_option maxHeartbeats 16000000 in
theorem stableE_any (x : List Ed) (ad : Addr) (c N base : Nat) (w : World) (h : RowE w base ad c N x) (hN : N ≤ 1000000) (hq : ∀ z ∈ x, QE z) :
    Calls Try.prog 25 #[.slice (some ad) N c, .int .i64 (N : Int), .func (.func 19) #[] #[]] w fun e w' => e = .returned (.tuple #[]) ∧ RowE w' base ad c N (ssort leE x) ∧ w.grownBy w' (some ad.block) := by
  have HQ := Lib.hid hq
  have HXN := Lib.hid h.len
  have HROW := Lib.hid h
  clear h hq
  go_enter Try.func25, Try.ntmps25
  go_wp2_with fail
  go_loopw [7, 8] (fun av bv wr => ∃ (ys : List (List Ed)) (r : List Ed) (ka kb : Nat), av = .int .i64 (ka : Int) ∧ bv = .int .i64 (kb : Int) ∧ Hid (x = ys.flatten ++ r ∧ (∀ y ∈ ys, y.length = 20) ∧ ka = ys.length * 20 ∧ kb = ka + 20) ∧ ka ≤ N ∧ kb ≤ N + 20 ∧ ka + 20 ≤ kb ∧ kb ≤ ka + 20 ∧ RowE wr base ad c N (blks leE ys ++ r) ∧ w.grownBy wr (some ad.block)) (fun _ bv _ => N + 40 - (intOf bv).toNat)
  case atStart => exact ⟨[], x, 0, 20, rfl, rfl, ⟨rfl, fun y hy => absurd hy (by simp), rfl, rfl⟩, Nat.zero_le _, by omega, by omega, by omega, HROW.out, gb_refl _ _⟩
  case round =>
    clear HROW
    obtain ⟨ys, r, ka, kb, rfl, rfl, HB, hka, hkb, hk1, hk2, hrow, hgb⟩ := hrel
    by_cases hlt : kb ≤ N
    · have g1 : decide ((kb : Int) ≤ (N : Int)) = true := decide_eq_true (by omega)
      have g1' : decide (kb ≤ N) = true := decide_eq_true hlt
      obtain ⟨h1, h2, h3, h4⟩ := HB.out
      have hfl := flat_len_of h2
      have hxl := congrArg List.length h1
      rw [List.length_append, HXN.out, hfl] at hxl
      have hr20 : 20 ≤ r.length := by omega
      have er : r.take 20 ++ r.drop 20 = r := List.take_append_drop _ _
      have hl20 : (r.take 20).length = 20 := by rw [List.length_take]; omega
      have hrow1 : RowE wr base ad c N (blks leE ys ++ (r.take 20 ++ r.drop 20)) := by rw [er]; exact hrow
      have HC := Lib.hid (insE_any (blks leE ys) (r.take 20) (r.drop 20) ad c N base ka kb wr hrow1 hN (by rw [blks_len, hfl, h3]) (by rw [hl20, h4]) (fun z hz => HQ.out z (by rw [h1]; exact List.mem_append_right _ (List.mem_of_mem_take hz))))
      have HB2 : Hid (x = (ys ++ [r.take 20]).flatten ++ r.drop 20 ∧ (∀ y ∈ ys ++ [r.take 20], y.length = 20) ∧ kb = (ys ++ [r.take 20]).length * 20 ∧ kb + 20 = kb + 20) := by
        refine ⟨?_, ?_, ?_, rfl⟩
        · rw [h1]; simp
        · intro y hy
          rcases List.mem_append.1 hy with hy | hy
          · exact h2 y hy
          · rw [List.mem_singleton] at hy; rw [hy]; exact hl20
        · rw [List.length_append, List.length_singleton, Nat.succ_mul]; omega
      have HE : Hid (blks leE ys ++ (ssort leE (r.take 20) ++ r.drop 20) = blks leE (ys ++ [r.take 20]) ++ r.drop 20) := by rw [Hid, blks_snoc, List.append_assoc]
      clear h1 h2 h3 h4 hfl hxl hr20 er hl20 hrow1 hrow HB
      go_wp2_with fail
      refine HC.out.mono ?_
      rintro e w2 ⟨rfl, hr2, hg2⟩
      rw [HE.out] at hr2
      have HR2 := Lib.hid hr2
      have hgF := gb_trans hgb hg2
      clear hr2 hg2 hgb HC HE
      go_wp2_with fail
      go_roundw
      case rel => exact ⟨ys ++ [r.take 20], r.drop 20, kb, kb + 20, rfl, by go_num, ⟨HB2.out.1, HB2.out.2.1, HB2.out.2.2.1, rfl⟩, hlt, by omega, by omega, by omega, HR2.out, hgF⟩
      case measure => simp [intOf]; omega
    · have g1 : decide ((kb : Int) ≤ (N : Int)) = false := decide_eq_false (by omega)
      have g1' : decide (kb ≤ N) = false := decide_eq_false hlt
      obtain ⟨h1, h2, h3, h4⟩ := HB.out
      have hfl := flat_len_of h2
      have hxl := congrArg List.length h1
      rw [List.length_append, HXN.out, hfl] at hxl
      have hrow1 : RowE wr base ad c N (blks leE ys ++ (r ++ [])) := by rw [List.append_nil]; exact hrow
      have HC := Lib.hid (insE_any (blks leE ys) r [] ad c N base ka N wr hrow1 hN (by rw [blks_len, hfl, h3]) (by omega) (fun z hz => HQ.out z (by rw [h1]; exact List.mem_append_right _ hz)))
      have HB2 : Hid (x = ys.flatten ++ r ∧ (∀ y ∈ ys, y.length = 20) ∧ r.length < 20) := ⟨h1, h2, by omega⟩
      clear h1 h2 h3 h4 hfl hxl hrow1 hrow HB
      go_wp2_with fail
      refine HC.out.mono ?_
      rintro e w2 ⟨rfl, hr2, hg2⟩
      rw [List.append_nil] at hr2
      have HR2 := Lib.hid hr2
      have hgF := gb_trans hgb hg2
      clear hr2 hg2 hgb HC
      go_wp2_with fail
      go_loopw [6] (fun Bv wr => ∃ (ys : List (List Ed)) (t : List Ed) (B : Nat), Bv = .int .i64 (B : Int) ∧ Hid (x = ys.flatten ++ t ∧ (∀ y ∈ ys, y.length = B) ∧ t.length < B) ∧ 20 ≤ B ∧ B ≤ N + N + 20 ∧ RowE wr base ad c N (blks leE ys ++ ssort leE t) ∧ w.grownBy wr (some ad.block)) (fun Bv _ => N - (intOf Bv).toNat)
      case atStart => exact ⟨ys, r, 20, rfl, HB2, Nat.le_refl _, by omega, HR2.out, hgF⟩
      case round =>
        clear HB2 HR2 hgF hka hkb hk1 hk2 g1 g1' hlt
        obtain ⟨ys, t, B, rfl, HB, hB20, hBN, hrow, hgb⟩ := hrel
        by_cases hlt : B < N
        · have g1 : decide ((B : Int) < (N : Int)) = true := decide_eq_true (by omega)
          have g1' : decide (B < N) = true := decide_eq_true hlt
          obtain ⟨B2, hB2⟩ : ∃ B2, B2 = 2 * B := ⟨_, rfl⟩
          have e2 : 2 * (B : Int) = (B2 : Int) := by omega
          have HE2 := Lib.hid (And.intro e2 hB2)
          have hR0 : Hid (RowE wr base ad c N (blks leE [] ++ (blks leE ys ++ ssort leE t))) := hrow
          have HB0 : Hid (x = ([] : List (List Ed)).flatten ++ (ys.flatten ++ t) ∧ (∀ z ∈ ([] : List (List Ed)), z.length = B2) ∧ (∀ y ∈ ys, y.length = B) ∧ t.length < B ∧ 0 = ([] : List (List Ed)).length * B2) := ⟨HB.out.1, fun z hz => absurd hz (by simp), HB.out.2.1, HB.out.2.2, by simp⟩
          have hb1 : B + B ≤ B2 := by omega
          have hb2 : B2 ≤ B + B := by omega
          clear hrow HB e2 hB2
          go_wp2_with fail
          rw [HE2.out.1]
          go_loopw [7, 8] (fun av bv wr => ∃ (zs xs : List (List Ed)) (ka kb : Nat), av = .int .i64 (ka : Int) ∧ bv = .int .i64 (kb : Int) ∧ Hid (x = zs.flatten ++ (xs.flatten ++ t) ∧ (∀ z ∈ zs, z.length = B2) ∧ (∀ y ∈ xs, y.length = B) ∧ t.length < B ∧ ka = zs.length * B2) ∧ ka ≤ N ∧ ka + B2 ≤ kb ∧ kb ≤ ka + B2 ∧ RowE wr base ad c N (blks leE zs ++ (blks leE xs ++ ssort leE t)) ∧ w.grownBy wr (some ad.block)) (fun _ bv _ => N + B2 + B2 - (intOf bv).toNat)
          case atStart => exact ⟨[], ys, 0, B2, rfl, rfl, HB0, Nat.zero_le _, by omega, by omega, hR0.out, hgb⟩
          case round =>
            clear hR0 HB0 hgb
            obtain ⟨zs, xs, ka, kb, rfl, rfl, HB, hka, hk1, hk2, hrow, hgb⟩ := hrel
            obtain ⟨h1, h2, h3, h4, h5⟩ := HB.out
            have hfz := flat_len_of h2
            have hfx := flat_len_of h3
            have hxl := congrArg List.length h1
            rw [List.length_append, List.length_append, HXN.out, hfz, hfx] at hxl
            have hqm : ∀ z, z ∈ zs.flatten ∨ z ∈ xs.flatten ∨ z ∈ t → QE z := fun z hz => HQ.out z (by rw [h1]; simp only [List.mem_append]; exact hz)
            by_cases hlt2 : kb ≤ N
            · have g2 : decide ((kb : Int) ≤ (N : Int)) = true := decide_eq_true (by omega)
              have g2' : decide (kb ≤ N) = true := decide_eq_true hlt2
              obtain ⟨x1, x2, xs', hxs⟩ : ∃ x1 x2 xs', xs = x1 :: x2 :: xs' := by
                match xs, hxl with
                | [], e => simp at e; omega
                | [_], e => simp at e; omega
                | x1 :: x2 :: xs', _ => exact ⟨x1, x2, xs', rfl⟩
              subst hxs
              have l1 := h3 x1 (by simp)
              have l2 := h3 x2 (by simp)
              have hrow1 : RowE wr base ad c N (blks leE zs ++ (ssort leE x1 ++ (ssort leE x2 ++ (blks leE xs' ++ ssort leE t)))) := by
                have e : blks leE (x1 :: x2 :: xs') ++ ssort leE t = ssort leE x1 ++ (ssort leE x2 ++ (blks leE xs' ++ ssort leE t)) := by rw [blks_cons, blks_cons]; simp only [List.append_assoc]
                rw [← e]; exact hrow
              have HC := Lib.hid (symMergeE_any (B + B) (blks leE zs) (ssort leE x1) (ssort leE x2) (blks leE xs' ++ ssort leE t) ad c N base ka (ka + B) kb wr hrow1 hN (by rw [blks_len, hfz, h5]) (by rw [ssort_len, l1]) (by rw [ssort_len, l2]; omega) (by rw [ssort_len]; omega) (by rw [ssort_len]; omega) (ssort_srt tpE _) (ssort_srt tpE _)
                (fun z hz => hqm z (by
                  simp only [List.mem_append, mem_blks, mem_ssort] at hz
                  rcases hz with h | h | h | h | h
                  · exact .inl h
                  · exact .inr (.inl (by simp [h]))
                  · exact .inr (.inl (by simp [h]))
                  · exact .inr (.inl (by
                      rw [List.flatten_cons, List.flatten_cons]
                      exact List.mem_append_right _ (List.mem_append_right _ h)))
                  · exact .inr (.inr h))) (by rw [ssort_len, ssort_len]; omega))
              have HBN : Hid (x = (zs ++ [x1 ++ x2]).flatten ++ (xs'.flatten ++ t) ∧ (∀ z ∈ zs ++ [x1 ++ x2], z.length = B2) ∧ (∀ y ∈ xs', y.length = B) ∧ t.length < B ∧ kb = (zs ++ [x1 ++ x2]).length * B2) := by
                refine ⟨?_, ?_, fun y hy => h3 y (by simp [hy]), h4, ?_⟩
                · rw [h1]; simp
                · intro z hz
                  rcases List.mem_append.1 hz with hz | hz
                  · exact h2 z hz
                  · rw [List.mem_singleton] at hz; rw [hz, List.length_append]; omega
                · rw [List.length_append, List.length_singleton, Nat.succ_mul]; omega
              have HE : Hid (blks leE zs ++ ((ssort leE x1).merge (ssort leE x2) leE ++ (blks leE xs' ++ ssort leE t)) = blks leE (zs ++ [x1 ++ x2]) ++ (blks leE xs' ++ ssort leE t)) := by
                rw [Hid, ← ssort_append tpE, blks_snoc]; simp only [List.append_assoc]
              have e7 : ((ka + B : Nat) : Int) = (ka : Int) + (B : Int) := by omega
              rw [Hid, e7] at HC
              have HC := Lib.hid HC
              have e8 : (kb : Int) + (B2 : Int) = ((kb + B2 : Nat) : Int) := by omega
              have HE8 := Lib.hid e8
              clear h1 h2 h3 h4 h5 hfz hfx hxl hqm l1 l2 hrow1 hrow HB e7 e8
              go_wp2_with fail
              refine HC.out.mono ?_
              rintro e w2 ⟨rfl, hr2, hg2⟩
              rw [HE.out] at hr2
              have HR2 := Lib.hid hr2
              have hgF := gb_trans hgb hg2
              clear hr2 hg2 hgb HC HE
              go_wp2_with fail
              rw [HE2.out.1, HE8.out]
              go_roundw
              case rel => exact ⟨zs ++ [x1 ++ x2], xs', kb, kb + B2, rfl, rfl, HBN, hlt2, by omega, by omega, HR2.out, hgF⟩
              case measure => simp [intOf]; omega
            · have g2 : decide ((kb : Int) ≤ (N : Int)) = false := decide_eq_false (by omega)
              have g2' : decide (kb ≤ N) = false := decide_eq_false hlt2
              have e9 : (B : Int) * 2 = (B2 : Int) := by omega
              have HE9 := Lib.hid e9
              by_cases hm : ka + B < N
              · have g3 : decide ((ka : Int) + (B : Int) < (N : Int)) = true := decide_eq_true (by omega)
                obtain ⟨x1, hxs⟩ : ∃ x1, xs = [x1] := by
                  match xs, hxl with
                  | [], e => simp at e; omega
                  | [x1], _ => exact ⟨x1, rfl⟩
                  | _ :: _ :: xs', e =>
                    simp only [List.length_cons, Nat.succ_mul] at e
                    omega
                subst hxs
                have l1 := h3 x1 (by simp)
                simp only [List.length_singleton, Nat.one_mul] at hxl
                have ht0 : 0 < t.length := by omega
                have hrow1 : RowE wr base ad c N (blks leE zs ++ (ssort leE x1 ++ (ssort leE t ++ []))) := by
                  have e : blks leE [x1] ++ ssort leE t = ssort leE x1 ++ (ssort leE t ++ []) := by rw [blks_cons, blks_nil, List.append_nil, List.append_nil]
                  rw [← e]; exact hrow
                have HC := Lib.hid (symMergeE_any (B + B) (blks leE zs) (ssort leE x1) (ssort leE t) [] ad c N base ka (ka + B) N wr hrow1 hN (by rw [blks_len, hfz, h5]) (by rw [ssort_len, l1]) (by rw [ssort_len]; omega) (by rw [ssort_len]; omega) (by rw [ssort_len]; omega) (ssort_srt tpE _) (ssort_srt tpE _)
                  (fun z hz => hqm z (by
                    simp only [List.mem_append, mem_blks, mem_ssort] at hz
                    rcases hz with h | h | h | h
                    · exact .inl h
                    · exact .inr (.inl (by simp [h]))
                    · exact .inr (.inr h)
                    · cases h)) (by rw [ssort_len, ssort_len]; omega))
                have HBN : Hid (x = zs.flatten ++ (x1 ++ t) ∧ (∀ z ∈ zs, z.length = B2) ∧ (x1 ++ t).length < B2) := by
                  refine ⟨?_, h2, ?_⟩
                  · rw [h1]; simp
                  · rw [List.length_append]; omega
                have HE : Hid (blks leE zs ++ ((ssort leE x1).merge (ssort leE t) leE ++ []) = blks leE zs ++ ssort leE (x1 ++ t)) := by
                  rw [Hid, ← ssort_append tpE, List.append_nil]
                have e7 : ((ka + B : Nat) : Int) = (ka : Int) + (B : Int) := by omega
                rw [Hid, e7] at HC
                have HC := Lib.hid HC
                clear h1 h2 h3 h4 h5 hfz hfx hxl hqm l1 ht0 hrow1 hrow HB e7 e9
                go_wp2_with fail
                refine HC.out.mono ?_
                rintro e w2 ⟨rfl, hr2, hg2⟩
                rw [HE.out] at hr2
                have HR2 := Lib.hid hr2
                have hgF := gb_trans hgb hg2
                clear hr2 hg2 hgb HC HE
                go_wp2_with fail
                rw [HE9.out]
                go_roundw
                case rel => exact ⟨zs, x1 ++ t, B2, rfl, HBN, by omega, by omega, HR2.out, hgF⟩
                case measure => simp [intOf]; omega
              · have g3 : decide ((ka : Int) + (B : Int) < (N : Int)) = false := decide_eq_false (by omega)
                obtain ⟨t', ht', hl', hr'⟩ : ∃ t', xs.flatten ++ t = t' ∧ t'.length < B2 ∧ blks leE xs ++ ssort leE t = ssort leE t' := by
                  match xs, hxl, h3 with
                  | [], _, _ => exact ⟨t, rfl, by omega, rfl⟩
                  | [x1], e, h3 =>
                    have l1 := h3 x1 (by simp)
                    simp only [List.length_singleton, Nat.one_mul] at e
                    have ht0 : t = [] := List.eq_nil_of_length_eq_zero (by omega)
                    subst ht0
                    refine ⟨x1, by simp, by omega, ?_⟩
                    rw [blks_cons, blks_nil, List.append_nil, ssort_nil, List.append_nil]
                  | _ :: _ :: xs', e, _ =>
                    simp only [List.length_cons, Nat.succ_mul] at e
                    omega
                rw [hr'] at hrow
                have HR2 := Lib.hid hrow
                have HBN : Hid (x = zs.flatten ++ t' ∧ (∀ z ∈ zs, z.length = B2) ∧ t'.length < B2) := ⟨by rw [h1, ht'], h2, hl'⟩
                clear h1 h2 h3 h4 h5 hfz hfx hxl hqm hrow HB e9 ht' hl' hr'
                go_wp2_with fail
                rw [HE9.out]
                go_roundw
                case rel => exact ⟨zs, t', B2, rfl, HBN, by omega, by omega, HR2.out, hgb⟩
                case measure => simp [intOf]; omega
        · have g1 : decide ((B : Int) < (N : Int)) = false := decide_eq_false (by omega)
          have g1' : decide (B < N) = false := decide_eq_false hlt
          obtain ⟨h1, h2, h3⟩ := HB.out
          have hfy := flat_len_of h2
          have hxl := congrArg List.length h1
          rw [List.length_append, HXN.out, hfy] at hxl
          have hE : blks leE ys ++ ssort leE t = ssort leE x := by
            match ys, hxl, h1 with
            | [], _, h1 => rw [h1]; rfl
            | [y], e, h1 =>
              simp only [List.length_singleton, Nat.one_mul] at e
              have ht0 : t = [] := List.eq_nil_of_length_eq_zero (by omega)
              subst ht0
              rw [h1, blks_cons, blks_nil, List.append_nil, ssort_nil, List.append_nil]; simp
            | _ :: _ :: ys', e, _ =>
              simp only [List.length_cons, Nat.succ_mul] at e
              omega
          rw [hE] at hrow
          have HO := Lib.hid hrow
          clear hrow hE hxl hfy h1 h2 h3 HB
          go_wp2_with fail
          go_end0
          exact ⟨rfl, HO.out, hgb⟩
set_option maxRecDepth 100000 in
theorem sortStableE_any (x : List Ed) (ad : Addr) (c N base : Nat) (w : World) (h : RowE w base ad c N x) (hN : N ≤ 1000000) (hq : ∀ z ∈ x, QE z) :
    Calls Try.prog 18 #[.slice (some ad) N c, .func (.func 19) #[] #[]] w fun e w' => e = .returned (.tuple #[]) ∧ RowE w' base ad c N (ssort leE x) ∧ w.grownBy w' (some ad.block) := by
  have HS := Lib.hid (stableE_any x ad c N base w h hN hq)
  clear h hq
  go_enter Try.func18, Try.ntmps18
  go_wp2_with fail
  refine HS.out.mono ?_
  rintro e w1 ⟨rfl, ho1, hg1⟩
  have HO1 := Lib.hid ho1
  clear ho1
  go_wp2_with fail
  go_end0
  exact ⟨rfl, HO1.out, hg1⟩
/-- Of none there is nothing to sort. -/
theorem sortStableE_none (A : Option Addr) (c : Nat) (w : World) :
    Calls Try.prog 18 #[.slice A 0 c, .func (.func 19) #[] #[]] w fun e w' => e = .returned (.tuple #[]) ∧ w' = w := by
  have HI : Hid (∀ W, Calls Try.prog 27 #[.slice A 0 c, .int .i64 0, .int .i64 0, .func (.func 19) #[] #[]] W fun e w' => e = .returned (.tuple #[]) ∧ w' = W) := fun W => by
    go_enter Try.func27, Try.ntmps27
    go_wp2_with fail
    refine wp_loop_rounds 1 ?_
    rw [rounds_succ]
    go_wp2_with fail
    go_end0
    exact ⟨rfl, rfl⟩
  have HS : Hid (Calls Try.prog 25 #[.slice A 0 c, .int .i64 0, .func (.func 19) #[] #[]] w fun e w' => e = .returned (.tuple #[]) ∧ w' = w) := by
    unfold Hid
    go_enter Try.func25, Try.ntmps25
    go_wp2_with fail
    refine wp_loop_rounds 1 ?_
    rw [rounds_succ]
    go_wp2_with fail
    refine (HI.out _).mono ?_
    rintro e w1 ⟨rfl, rfl⟩
    go_wp2_with fail
    refine wp_loop_rounds 1 ?_
    rw [rounds_succ]
    go_wp2_with fail
    go_end0
    exact ⟨rfl, rfl⟩
  go_enter Try.func18, Try.ntmps18
  go_wp2_with fail
  refine HS.out.mono ?_
  rintro e w1 ⟨rfl, rfl⟩
  go_wp2_with fail
  go_end0
  exact ⟨rfl, rfl⟩
end Go.Proofs.Ytmikckhihfcooaa
namespace Go.Proofs.Ytmikckhihfcooaa
open Go.RowKit
theorem own_cellsS {base : Nat} {e : TypeId} {size n c g o : Nat} : ∀ {zs : List Value} {w : World} {xs : List Value} {j : Nat}, OwnO w base e size (.slice (some ⟨g, o, none⟩) n c) n xs → j + zs.length ≤ n * size →
    OwnO (w.setCells g (o + j) zs) base e size (.slice (some ⟨g, o, none⟩) n c) n (xs.take j ++ zs ++ xs.drop (j + zs.length))
  | [], w, xs, j, h, _ => by
    have e : xs.take j ++ [] ++ xs.drop (j + ([] : List Value).length) = xs := by simp
    rw [e]
    exact h
  | z :: zs, w, xs, j, h, hj => by
    rw [List.length_cons] at hj
    have hl := h.1
    have h1 := (own_setS h (j := j) (by omega) z).1
    have ea : (⟨g, o, none⟩ : Addr).add j = ⟨g, o + j, none⟩ := by unfold Addr.add; split <;> simp_all
    rw [ea] at h1
    have h2 := own_cellsS (zs := zs) (j := j + 1) h1 (by omega)
    have e : (xs.set j z).take (j + 1) ++ zs ++ (xs.set j z).drop (j + 1 + zs.length) = xs.take j ++ (z :: zs) ++ xs.drop (j + (z :: zs).length) := by
      rw [List.length_cons, List.take_set, List.drop_set_of_lt (by omega), List.take_succ_eq_append_getElem (by omega), List.set_append_right _ _ (by rw [List.length_take]; omega), List.length_take, Nat.min_eq_left (by omega), Nat.sub_self, List.set_cons_zero, show j + 1 + zs.length = j + (zs.length + 1) by omega]
      simp
    rw [e] at h2
    exact h2
theorem setCells_grown {g : Nat} : ∀ (zs : List Value) (o : Nat) (w : World), w.grownBy (w.setCells g o zs) (some g)
  | [], _, w => gb_refl w _
  | z :: zs, o, w => gb_trans (gb_at (ad := ⟨g, o, none⟩) (gb_refl w _) ⟨g, o, none⟩ z rfl) (setCells_grown zs (o + 1) _)
theorem clear_ed {l : List Ed} {base N c c' k : Nat} {ad : Addr} {w : World} (h : RowE w base ad c N l) (hk : k < N) (ty : TypeId) : ∃ w', (Builtin.clear_ #[22] ty #[.slice (some (ad.add (k * 3))) (N - k) c']).run Try.prog w = .ok (.tuple #[]) w' ∧
    OwnO w' base 30 3 (.slice (some ad) k c) k ((edCells l).take (k * 3)) ∧ w.grownBy w' (some ad.block) := by
  obtain ⟨hown, _⟩ := h
  rcases hown.2 with ⟨h1, _⟩ | ⟨g, o, cap, cur, h1, h2, h3, h4, h5, h6, h7⟩
  · cases h1
  · cases h1
    obtain ⟨zs, hzs⟩ : ∃ zs, zs = (Builtin.zeroCells (Value.agg #[.int .i64 0, .int .i64 0, .string ByteArray.empty]).cells (N - k)).toList := ⟨_, rfl⟩
    have hlz : zs.length = (N - k) * 3 := by rw [hzs, Array.length_toList, size_zeroCells]; rfl
    have h8 : ∀ v ∈ zs, v.oneCell' = true := by
      intro v hv
      rw [hzs] at hv
      unfold Builtin.zeroCells at hv
      rw [Array.toList_map, List.mem_map] at hv
      obtain ⟨i, _, rfl⟩ := hv
      have hm : i % 3 < 3 := Nat.mod_lt _ (by omega)
      show ((#[Value.int .i64 0, .int .i64 0, .string ByteArray.empty])[i % 3]!).oneCell' = true
      rcases (by omega : i % 3 = 0 ∨ i % 3 = 1 ∨ i % 3 = 2) with e | e | e <;> rw [e] <;> rfl
    have e0 : (⟨g, o, none⟩ : Addr).add (k * 3) = ⟨g, o + k * 3, none⟩ := by unfold Addr.add; split <;> simp_all
    have hcz : cur.toList.length = cur.size := by simp
    have hst := run_storeCells_cells (P := Try.prog) g (o + k * 3) zs 0 w (fun j hj => by
      rw [cell_of_row w g _ cur _ _ h3]
      rw [Array.getElem?_eq_getElem (by omega)]; rfl) (fun j _ => by simp [World.frozen?, h3]) h8
    simp only [Nat.add_zero] at hst
    have h9 := own_cellsS hown (zs := zs) (j := k * 3) (by omega)
    have hxl := hown.1
    rw [List.drop_of_length_le (by omega), List.append_nil] at h9
    have h10 := h9.front (some ⟨g, o, none⟩) c k rfl (by omega) (by simp)
    rw [List.take_left' (by rw [List.length_take]; omega)] at h10
    refine ⟨_, ?_, h10, setCells_grown zs (o + k * 3) w⟩
    rw [e0]
    obtain ⟨q, hq⟩ : ∃ q, N - k = q + 1 := ⟨N - k - 1, by omega⟩
    rw [hq] at hzs ⊢
    have hv : ∀ w, (zeroValue 30).run Try.prog w = .ok (.agg #[.int .i64 0, .int .i64 0, .string ByteArray.empty]) w := fun w => by kernel_rfl
    simp [Builtin.clear_, run_underlying Try.underlying22, hv, ← hzs, hst]
end Go.Proofs.Ytmikckhihfcooaa
namespace Go.Proofs.Ytmikckhihfcooaa
open Go.RowKit
/-- Neighbours that are the same become one. -/
def cmpE : List Ed → List Ed
  | [] => []
  | [x] => [x]
  | x :: y :: r => if x = y then cmpE (y :: r) else x :: cmpE (y :: r)
theorem cmpE_lt {x : Ed} : ∀ {l : List Ed}, (∀ z ∈ l, x.at_ < z.at_) → cmpE (x :: l) = x :: cmpE l
  | [], _ => rfl
  | y :: l, h => by
    have := h y (.head _)
    rw [cmpE, if_neg (fun e => by rw [e] at this; omega)]
theorem cmpE_two (x : Ed) (l : List Ed) : cmpE (x :: x :: l) = cmpE (x :: l) := by rw [cmpE, if_pos rfl]
theorem leE_le {x y : Ed} : leE x y = true ↔ x.at_ ≤ y.at_ := by rw [leE_iff]; unfold cvE; omega
theorem ssort_of_srt {l : List Ed} (h : Srt leE l) : ssort leE l = l := by
  induction l with
  | nil => rfl
  | cons x l ih =>
    obtain ⟨h1, h2⟩ := List.pairwise_cons.1 h
    rw [ssort, ih h2]
    cases l with
    | nil => rw [List.merge_right]
    | cons y l => rw [merge_cc, if_pos (h1 y (.head _)), List.nil_merge]
theorem Asc.srt {l : List Ed} (h : Asc l) : Srt leE l := by
  obtain ⟨h1, h2⟩ := h
  refine List.Pairwise.imp_of_mem (fun {a b} ha _ hab => ?_) h1
  have := (h2 a ha).2
  rw [leE_le]; omega
theorem merge_gt {x : Ed} {a b : List Ed} (ha : ∀ z ∈ a, x.at_ < z.at_) (hb : ∀ z ∈ b, x.at_ < z.at_) : ∀ z ∈ a.merge b leE, x.at_ < z.at_ := fun z hz => (mem_merge'.1 hz).elim (ha z) (hb z)
theorem cmpE_asc : ∀ {b : List Ed}, Asc b → cmpE b = b
  | [], _ => rfl
  | x :: b, h => by
    obtain ⟨h1, h2, h3, h4⟩ := h.tail
    rw [cmpE_lt (fun z hz => by have := h2 z hz; omega), cmpE_asc h1]
theorem cmp_merge : ∀ (n : Nat) (a b : List Ed), a.length + b.length ≤ n → Asc a → Asc b → noClash a b → cmpE (a.merge b leE) = mergeB a b
  | _, [], b, _, _, hb, _ => by
    rw [List.nil_merge, cmpE_asc hb]
    cases b <;> simp [mergeB]
  | _, x :: a, [], _, ha, _, _ => by rw [List.merge_right, mergeB_nil, cmpE_asc ha]
  | n + 1, x :: a, y :: b, hn, ha, hb, hc => by
    obtain ⟨a1, a2, a3, a4⟩ := ha.tail
    obtain ⟨b1, b2, b3, b4⟩ := hb.tail
    simp only [List.length_cons] at hn
    rw [merge_cc]
    by_cases h1 : x.at_ < y.at_
    · rw [if_pos (leE_le.2 (by omega)), mergeB_lt h1, cmpE_lt (merge_gt (fun z hz => by have := a2 z hz; omega) (fun z hz => by
        rcases List.mem_cons.1 hz with rfl | hz
        · exact h1
        · have := b2 z hz; omega)), cmp_merge n a (y :: b) (by simp only [List.length_cons]; omega) a1 hb (fun z hz => hc z (.tail _ hz))]
    · by_cases h2 : y.at_ < x.at_
      · rw [if_neg (fun h => by rw [leE_le] at h; omega), mergeB_gt h2, cmpE_lt (merge_gt (fun z hz => by
          rcases List.mem_cons.1 hz with rfl | hz
          · exact h2
          · have := a2 z hz; omega) (fun z hz => by have := b2 z hz; omega)), cmp_merge n (x :: a) b (by simp only [List.length_cons]; omega) ha b1 (fun z hz v hv => hc z hz v (.tail _ hv))]
      · have exy : x = y := by
          refine Decidable.byContradiction fun hne => ?_
          exact hc x (.head _) y (.head _) ⟨hne, by omega, by omega⟩
        subst exy
        rw [if_pos (leE_le.2 (by omega)), mergeB_eq h1 h2]
        have e : a.merge (x :: b) leE = x :: a.merge b leE := by
          cases a with
          | nil => rw [List.nil_merge, List.nil_merge]
          | cons z a => rw [merge_cc, if_neg (fun h => by rw [leE_le] at h; have := a2 z (.head _); omega)]
        rw [e, cmpE_two, cmpE_lt (merge_gt (fun z hz => by have := a2 z hz; omega) (fun z hz => by have := b2 z hz; omega)), cmp_merge n a b (by omega) a1 b1 (fun z hz v hv => hc z (.tail _ hz) v (.tail _ hv))]
theorem both_is {a b : List Ed} (ha : Asc a) (hb : Asc b) (hc : noClash a b) : cmpE (ssort leE (a ++ b)) = mergeB a b := by
  rw [ssort_append tpE, ssort_of_srt ha.srt, ssort_of_srt hb.srt, cmp_merge _ a b (Nat.le_refl _) ha hb hc]
end Go.Proofs.Ytmikckhihfcooaa
