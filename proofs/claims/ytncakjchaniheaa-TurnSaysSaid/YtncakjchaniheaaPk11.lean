/- The stable sort at rows of records, third part: the insertion sort, the blocks, the whole. A word out of its turns' last bytes: by the order of the bytes, and by rows that are sorted again and again (plain). TurnSays: the reference's turns in their order (plain). -/
import Derived.Test.YtncakjchaniheaaPk10
import Derived.Test.YtncakjchaniheaaPk01
namespace Go.Proofs.Ytncakjchaniheaa
open Go.RowKit
set_option maxRecDepth 100000 in
set_option maxHeartbeats 16000000 in
theorem insT_any (A x C : List Tn) (ad : Addr) (c N base a b : Nat) (w : World) (h : RowT w base ad c N (A ++ (x ++ C))) (hN : N ≤ 1000000) (ha : a = A.length) (hb : b = a + x.length) (hq : ∀ z ∈ x, QT z) :
    Calls Try.prog 44 #[.slice (some ad) N c, .int .i64 (a : Int), .int .i64 (b : Int), .func (.func 18) #[] #[]] w fun e w' => e = .returned (.tuple #[]) ∧ RowT w' base ad c N (A ++ (ssort leT x ++ C)) ∧ w.grownBy w' (some ad.block) := by
  have hlen := h.len
  have hbN : b ≤ N := by simp only [List.length_append] at hlen; omega
  have hab : a ≤ b := by omega
  have HQ := Lib.hid hq
  have HH := Lib.hid (And.intro ha hb)
  have HR0 : Hid (RowT w base ad c N (A ++ (ssort leT (x.take 1) ++ (x.drop 1 ++ C)))) := by
    have e : ssort leT (x.take 1) ++ (x.drop 1 ++ C) = x ++ C := by
      cases x with
      | nil => rfl
      | cons y x => show ssort leT [y] ++ (x ++ C) = _; rw [ssort_one]; rfl
    rw [Hid, e]; exact h
  clear h hlen ha hb hq
  go_enter Try.func44, Try.ntmps44
  go_wp2_with fail
  go_loopw [8] (fun iv wr => ∃ t i : Nat, iv = .int .i64 (i : Int) ∧ Hid (i = a + t) ∧ a + 1 ≤ i ∧ (i ≤ b ∨ i = a + 1) ∧ RowT wr base ad c N (A ++ (ssort leT (x.take t) ++ (x.drop t ++ C))) ∧ w.grownBy wr (some ad.block)) (fun iv _ => b + 1 - (intOf iv).toNat)
  case atStart => exact ⟨1, a + 1, by go_num, rfl, Nat.le_refl _, .inr rfl, HR0.out, gb_refl _ _⟩
  case round =>
    clear HR0
    obtain ⟨t, i, rfl, hit, hi1, hi2, hrow, hgb⟩ := hrel
    by_cases hlt : i < b
    · have g1 : decide ((i : Int) < (b : Int)) = true := decide_eq_true (by omega)
      have g1' : decide (i < b) = true := decide_eq_true hlt
      obtain ⟨h1, h2⟩ := HH.out
      have ht : t < x.length := by have := hit.out; omega
      have hsl : (ssort leT (x.take t)).length = t := by rw [ssort_len, List.length_take]; omega
      have hd : x.drop t = x[t] :: x.drop (t + 1) := List.drop_eq_getElem_cons ht
      have hnx : ssort leT (x.take (t + 1)) = (ssort leT (x.take t)).merge [x[t]] leT := by
        rw [List.take_succ_eq_append_getElem ht, ssort_snoc tpT]
      have hst := ssort_srt tpT (x.take t)
      have hqs : ∀ z ∈ ssort leT (x.take t), QT z := fun z hz => HQ.out z (List.mem_of_mem_take (mem_ssort.1 hz))
      have hqx : QT x[t] := HQ.out _ (List.getElem_mem _)
      rw [hd] at hrow
      have HNX := Lib.hid hnx
      have HST := Lib.hid hst
      have HQS := Lib.hid hqs
      have HQX := Lib.hid hqx
      clear hnx hst hqs hqx hd
      generalize x[t] = e at *
      generalize hss : ssort leT (x.take t) = s at *
      clear hss
      have HSL := Lib.hid hsl
      have hrow0 : RowT wr base ad c N (A ++ (s.take t ++ (e :: (s.drop t ++ (x.drop (t + 1) ++ C))))) := by
        rw [List.take_of_length_le (Nat.le_of_eq hsl), List.drop_of_length_le (Nat.le_of_eq hsl)]; exact hrow
      generalize hC0 : x.drop (t + 1) ++ C = C0 at *
      have HC0 := Lib.hid hC0
      have HROW0 := Lib.hid hrow0
      have HHL := Lib.hid (And.intro h1 h2)
      clear hrow hrow0 hC0 hsl h1 h2 ht
      go_wp2_with fail
      go_loopw [9] (fun jv w2 => ∃ r j : Nat, jv = .int .i64 (j : Int) ∧ Hid (j = a + r) ∧ a ≤ j ∧ j ≤ i ∧ RowT w2 base ad c N (A ++ (s.take r ++ (e :: (s.drop r ++ C0)))) ∧ Hid (∀ z, s[r]? = some z → leT z e = false) ∧ w.grownBy w2 (some ad.block)) (fun jv _ => (intOf jv).toNat)
      case atStart => exact ⟨t, i, rfl, hit, by omega, Nat.le_refl _, HROW0.out, (fun z hz => by rw [List.getElem?_eq_none (by rw [HSL.out]; exact Nat.le_refl _)] at hz; cases hz), hgb⟩
      case round =>
        clear HROW0 hgb
        obtain ⟨r, j, rfl, hjr, haj, hji, hrow, HB, hgb⟩ := hrel
        rcases Nat.eq_or_lt_of_le haj with hj0 | hj0
        · have g2 : decide ((a : Int) < (j : Int)) = false := decide_eq_false (by omega)
          have g2' : decide (a < j) = false := decide_eq_false (by omega)
          have hr0 : r = 0 := by have := hjr.out; omega
          subst hr0
          have HF : Hid (A ++ (s.take 0 ++ (e :: (s.drop 0 ++ C0))) = A ++ (ssort leT (x.take (t + 1)) ++ (x.drop (t + 1) ++ C))) := by
            have h9 := merge_one_r tpT (y := e) (u1 := s.take 0) (u2 := s.drop 0) (by rw [List.take_append_drop]; exact HST.out) (fun z hz => by rw [List.take_zero] at hz; cases hz) (fun z hz => by rw [List.head?_drop] at hz; exact HB.out z hz)
            rw [List.take_append_drop] at h9
            rw [Hid, HNX.out, h9, HC0.out]
            simp only [List.append_assoc, List.cons_append]
          rw [HF.out] at hrow
          have HR9 := Lib.hid hrow
          clear hrow hj0 HF
          go_wp2_with fail
          go_quiet (fail)
          go_wp2_with fail
          go_roundw
          case rel => exact ⟨t + 1, i + 1, by go_num, by have := hit.out; unfold Hid; omega, by omega, .inl (by omega), HR9.out.drewN _, gb_drewN hgb _⟩
          case measure => simp [intOf]; omega
        · obtain ⟨κ, rfl⟩ : ∃ κ, j = κ + 1 := ⟨j - 1, by omega⟩
          obtain ⟨r, rfl⟩ : ∃ q, r = q + 1 := ⟨r - 1, by have := hjr.out; omega⟩
          have g2 : decide ((a : Int) < (κ : Int) + 1) = true := decide_eq_true (by omega)
          have g2' : decide (a < κ + 1) = true := decide_eq_true (by omega)
          have g2'' : decide ((a : Int) < ((κ + 1 : Nat) : Int)) = true := decide_eq_true (by omega)
          have hk1 : κ < N := by omega
          have hk3 : κ + 1 < N := by omega
          have hr : r < s.length := by rw [HSL.out]; have := hjr.out; have := hit.out; omega
          have hd : s.drop r = s[r] :: s.drop (r + 1) := List.drop_eq_getElem_cons hr
          have hlist : A ++ (s.take (r + 1) ++ (e :: (s.drop (r + 1) ++ C0))) = (A ++ s.take r) ++ s[r] :: ([] ++ e :: (s.drop (r + 1) ++ C0)) := by rw [List.take_succ_eq_append_getElem hr]; simp only [List.append_assoc, List.cons_append, List.nil_append]
          have hlist2 : A ++ (s.take r ++ (e :: (s.drop r ++ C0))) = (A ++ s.take r) ++ e :: ([] ++ s[r] :: (s.drop (r + 1) ++ C0)) := by rw [hd]; simp only [List.append_assoc, List.cons_append, List.nil_append]
          have hA9 : κ = (A ++ s.take r).length := by simp only [List.length_append, List.length_take]; have := hjr.out; have := HHL.out; omega
          have hB9 : κ + 1 = (A ++ s.take r).length + 1 + ([] : List Tn).length := by rw [← hA9]; rfl
          have HLI := Lib.hid hlist2
          have hz := HQS.out _ (List.getElem_mem hr)
          have HZ : Hid (s[r]? = some s[r]) := List.getElem?_eq_getElem hr
          have HSTOP : Hid (cvT e s[r] < 0 ∨ A ++ (s.take (r + 1) ++ (e :: (s.drop (r + 1) ++ C0))) = A ++ (ssort leT (x.take (t + 1)) ++ (x.drop (t + 1) ++ C))) := by
            by_cases hc : cvT e s[r] < 0
            · exact .inl hc
            · right
              have h9 := merge_one_r tpT (y := e) (u1 := s.take (r + 1)) (u2 := s.drop (r + 1)) (by rw [List.take_append_drop]; exact HST.out) (fun z hz => by
                rw [List.take_succ_eq_append_getElem hr, List.getLast?_append] at hz
                simp only [List.getLast?_singleton, Option.some_or, Option.some.injEq] at hz
                rw [← hz]; exact leT_iff.2 hc) (fun z hz => by rw [List.head?_drop] at hz; exact HB.out z hz)
              rw [List.take_append_drop] at h9
              rw [HNX.out, h9, HC0.out]
              simp only [List.append_assoc, List.cons_append]
          rw [Hid, hlist] at HSTOP
          have HSTOP := Lib.hid HSTOP
          rw [hlist] at hrow
          clear hlist hlist2 hd
          generalize s[r] = z at *
          generalize A ++ s.take r = A9 at *
          generalize ([] : List Tn) = B9 at *
          generalize hC9 : s.drop (r + 1) ++ C0 = C9 at *
          have HC9 := Lib.hid hC9
          clear hr hC9
          obtain ⟨hxi, hyj, _, _⟩ := swap_two A9 B9 C9 z e hA9 hB9
          obtain ⟨ci0, ci1⟩ := recT_at hrow hyj
          have ci0r := cell_regrown ci0
          have ci1r := cell_regrown ci1
          obtain ⟨cj0, cj1⟩ := recT_at hrow hxi
          have cj0r := cell_regrown cj0
          have cj1r := cell_regrown cj1
          have HC := Lib.hid (cmpT_any e z HQX.out hz)
          have HR := Lib.hid hrow
          have HAB := Lib.hid (And.intro hA9 hB9)
          clear hrow hxi hyj hz hA9 hB9
          by_cases hc : cvT e z < 0
          · have g3 : decide (cvT e z < 0) = true := decide_eq_true hc
            have HN : Hid (∀ z', s[r]? = some z' → leT z' e = false) := fun z' hz' => by
              have h8 := HZ.out
              rw [h8] at hz'
              cases hz'
              exact leT_not.2 hc
            go_wp2_with fail
            refine wp_region_quiet_below (by kernel_rfl) (by kernel_rfl) ?_
            repeat (go_big_quiet_step ((go_at_call 18; exact Calls.regrown_of (HC.out _))))
            refine wpQuiet_nil ?_
            intro wr hb50
            have hb5 := below_of_regrown hb50
            clear hb50
            have hrow := HR.out.below hb5
            have hgb := gb_below hgb hb5
            obtain ⟨hA9, hB9⟩ := HAB.out
            clear ci0 ci0r cj0 cj0r
            clear ci1 ci1r cj1 cj1r
            clear HSTOP HR HAB HC hb5 g3 hc HQS HB HZ
            obtain ⟨hxi, hyj, hsw, hsw2⟩ := swap_two A9 B9 C9 z e hA9 hB9
            have HROW := Lib.hid hrow
            have HOWN := Lib.hid hrow.own
            obtain ⟨ci0, ci1⟩ := recT_at HROW.out hyj
            obtain ⟨cj0, cj1⟩ := recT_at HROW.out hxi
            have hlen := hrow.len
            have hset := cellsT_set (l := A9 ++ z :: (B9 ++ e :: C9)) (j := (κ + 1)) (by omega) z
            have hset2 := cellsT_set (l := (A9 ++ z :: (B9 ++ e :: C9)).set (κ + 1) z) (j := κ) (by rw [List.length_set]; omega) e
            rw [← hset, hsw2] at hset2
            have HSET := Lib.hid hset2
            clear hA9 hB9 hsw hsw2 hrow hxi hyj hset hset2 hlen
            obtain ⟨s0, f0⟩ := own_setS HOWN.out (j := (κ + 1) * 2) (by omega) (.string (S z.text))
            obtain ⟨s1, f1⟩ := own_setS s0 (j := (κ + 1) * 2 + 1) (by omega) (.int .i64 z.at_)
            obtain ⟨s2, f2⟩ := own_setS s1 (j := κ * 2) (by omega) (.string (S e.text))
            obtain ⟨s3, f3⟩ := own_setS s2 (j := κ * 2 + 1) (by omega) (.int .i64 e.at_)
            have fi0 := (own_setS HOWN.out (j := (κ + 1) * 2) (by omega) (.int .i64 0)).2
            have fj0 := (own_setS HOWN.out (j := κ * 2) (by omega) (.int .i64 0)).2
            have fi1 := (own_setS HOWN.out (j := (κ + 1) * 2 + 1) (by omega) (.int .i64 0)).2
            have fj1 := (own_setS HOWN.out (j := κ * 2 + 1) (by omega) (.int .i64 0)).2
            rw [add_one] at fi1
            rw [add_one] at fj1
            rw [add_one ad ((κ + 1) * 2), add_one ad (κ * 2)] at s3
            have hna := own_addrS HOWN.out
            have mi1 : (wr.setCell (ad.add ((κ + 1) * 2)) (.string (S z.text))).cell? ⟨(ad.add ((κ + 1) * 2)).block, (ad.add ((κ + 1) * 2)).off + 1, none⟩ = some (.int .i64 e.at_) := ((World.cell?_setCell_other _ _ _ _ (show ((ad.add ((κ + 1) * 2)) : Addr) ≠ (⟨(ad.add ((κ + 1) * 2)).block, (ad.add ((κ + 1) * 2)).off + 1, none⟩ : Addr) by rw [← add_one ad ((κ + 1) * 2)]; exact hna _ _ (by omega))).trans ci1)
            have pj0 : ((wr.setCell (ad.add ((κ + 1) * 2)) (.string (S z.text))).setCell ⟨(ad.add ((κ + 1) * 2)).block, (ad.add ((κ + 1) * 2)).off + 1, none⟩ (.int .i64 z.at_)).cell? (ad.add (κ * 2)) = some (.string (S z.text)) := ((World.cell?_setCell_other _ _ _ _ (show (⟨(ad.add ((κ + 1) * 2)).block, (ad.add ((κ + 1) * 2)).off + 1, none⟩ : Addr) ≠ ((ad.add (κ * 2)) : Addr) by rw [← add_one ad ((κ + 1) * 2)]; exact hna _ _ (by omega))).trans ((World.cell?_setCell_other _ _ _ _ (show ((ad.add ((κ + 1) * 2)) : Addr) ≠ ((ad.add (κ * 2)) : Addr) by exact hna _ _ (by omega))).trans cj0))
            have pj1 : ((wr.setCell (ad.add ((κ + 1) * 2)) (.string (S z.text))).setCell ⟨(ad.add ((κ + 1) * 2)).block, (ad.add ((κ + 1) * 2)).off + 1, none⟩ (.int .i64 z.at_)).cell? ⟨(ad.add (κ * 2)).block, (ad.add (κ * 2)).off + 1, none⟩ = some (.int .i64 z.at_) := ((World.cell?_setCell_other _ _ _ _ (show (⟨(ad.add ((κ + 1) * 2)).block, (ad.add ((κ + 1) * 2)).off + 1, none⟩ : Addr) ≠ (⟨(ad.add (κ * 2)).block, (ad.add (κ * 2)).off + 1, none⟩ : Addr) by rw [← add_one ad ((κ + 1) * 2), ← add_one ad (κ * 2)]; exact hna _ _ (by omega))).trans ((World.cell?_setCell_other _ _ _ _ (show ((ad.add ((κ + 1) * 2)) : Addr) ≠ (⟨(ad.add (κ * 2)).block, (ad.add (κ * 2)).off + 1, none⟩ : Addr) by rw [← add_one ad (κ * 2)]; exact hna _ _ (by omega))).trans cj1))
            have mj1 : (((wr.setCell (ad.add ((κ + 1) * 2)) (.string (S z.text))).setCell ⟨(ad.add ((κ + 1) * 2)).block, (ad.add ((κ + 1) * 2)).off + 1, none⟩ (.int .i64 z.at_)).setCell (ad.add (κ * 2)) (.string (S e.text))).cell? ⟨(ad.add (κ * 2)).block, (ad.add (κ * 2)).off + 1, none⟩ = some (.int .i64 z.at_) := ((World.cell?_setCell_other _ _ _ _ (show ((ad.add (κ * 2)) : Addr) ≠ (⟨(ad.add (κ * 2)).block, (ad.add (κ * 2)).off + 1, none⟩ : Addr) by rw [← add_one ad (κ * 2)]; exact hna _ _ (by omega))).trans ((World.cell?_setCell_other _ _ _ _ (show (⟨(ad.add ((κ + 1) * 2)).block, (ad.add ((κ + 1) * 2)).off + 1, none⟩ : Addr) ≠ (⟨(ad.add (κ * 2)).block, (ad.add (κ * 2)).off + 1, none⟩ : Addr) by rw [← add_one ad ((κ + 1) * 2), ← add_one ad (κ * 2)]; exact hna _ _ (by omega))).trans ((World.cell?_setCell_other _ _ _ _ (show ((ad.add ((κ + 1) * 2)) : Addr) ≠ (⟨(ad.add (κ * 2)).block, (ad.add (κ * 2)).off + 1, none⟩ : Addr) by rw [← add_one ad (κ * 2)]; exact hna _ _ (by omega))).trans cj1)))
            obtain ⟨W9, hW9⟩ : ∃ W9, W9 = ((((wr.setCell (ad.add ((κ + 1) * 2)) (.string (S z.text))).setCell ⟨(ad.add ((κ + 1) * 2)).block, (ad.add ((κ + 1) * 2)).off + 1, none⟩ (.int .i64 z.at_)).setCell (ad.add (κ * 2)) (.string (S e.text))).setCell ⟨(ad.add (κ * 2)).block, (ad.add (κ * 2)).off + 1, none⟩ (.int .i64 e.at_)) := ⟨_, rfl⟩
            rw [← hW9] at s3
            have hg9 : wr.grownBy W9 (some ad.block) := by
              rw [hW9]
              refine gb_at (gb_at (gb_at (gb_at (gb_refl _ _) _ _ ?_) _ _ ?_) _ _ ?_) _ _ ?_
              all_goals exact blk_add _ _
            have HW9 := Lib.hid hW9
            clear hW9
            have HS9 := Lib.hid s3
            clear s0 s1 s2 s3 hna
            clear f0 f1 f2 f3
            have k0 : wr.cell? (ad.add (κ * 2)) = some (.string (S z.text)) ∧ wr.cell? ⟨(ad.add (κ * 2)).block, (ad.add (κ * 2)).off + 1, none⟩ = some (.int .i64 z.at_) := ⟨cj0, cj1⟩
            have HK0 := Lib.hid k0; clear k0
            have kj : ((wr.setCell (ad.add ((κ + 1) * 2)) (.string (S z.text))).setCell ⟨(ad.add ((κ + 1) * 2)).block, (ad.add ((κ + 1) * 2)).off + 1, none⟩ (.int .i64 z.at_)).cell? (ad.add (κ * 2)) = some (.string (S z.text)) ∧ ((wr.setCell (ad.add ((κ + 1) * 2)) (.string (S z.text))).setCell ⟨(ad.add ((κ + 1) * 2)).block, (ad.add ((κ + 1) * 2)).off + 1, none⟩ (.int .i64 z.at_)).cell? ⟨(ad.add (κ * 2)).block, (ad.add (κ * 2)).off + 1, none⟩ = some (.int .i64 z.at_) := ⟨pj0, pj1⟩
            have HKJ := Lib.hid kj; clear kj
            go_wp2_with fail
            obtain ⟨F1, hFd⟩ : ∃ F : World → Prop, F = fun w' => w'.cell? (ad.add (κ * 2)) = some (.string (S z.text)) ∧ w'.cell? ⟨(ad.add (κ * 2)).block, (ad.add (κ * 2)).off + 1, none⟩ = some (.int .i64 z.at_) := ⟨_, rfl⟩
            have HF1 := Lib.hid hFd
            clear hFd
            have hcell10 : ∀ p' : Wof F1, p'.w.cell? (ad.add (κ * 2)) = some (.string (S z.text)) := fun ⟨x, hx⟩ => by rw [HF1.out] at hx; exact hx.1
            have hcell11 : ∀ p' : Wof F1, p'.w.cell? ⟨(ad.add (κ * 2)).block, (ad.add (κ * 2)).off + 1, none⟩ = some (.int .i64 z.at_) := fun ⟨x, hx⟩ => by rw [HF1.out] at hx; exact hx.2
            refine wp_region_schedT (.op 0 true (.op 1 true (.op 2 true (.op 3 true (.op 4 true (.op 5 true (.op 6 true (.op 7 true (.op 8 true (.op 9 true (.op 10 true (.op 11 true (.op 12 true (.op 13 false (.op 14 true (.op 15 false .nil)))))))))))))))) 16 16 [17] F1 (by kernel_rfl) (by kernel_rfl) (by kernel_rfl) rfl (fun _ _ _ _ _ h => h) (by kernel_rfl) (by rw [HF1.out]; exact HK0.out) (by rw [HF1.out]; exact fun h => h) ?_
            intro hne1
            simp only [opersT, opsAt, List.getElem?_toArray, List.getElem?_cons_succ, List.getElem?_cons_zero]
            repeat (first | (refine wpT_free rfl ?_; intro K hK; go_big_quiet_op; go_big_quiet_on) | (refine wpT_wantS _ rfl rfl rfl ?_; intro K hK; go_big_quiet_op; go_big_quiet_on) | (refine wpT_skipS _ rfl rfl rfl rfl ?_; simp only [Act.put, List.setIfInBounds_toArray, List.set_cons_zero, List.set_cons_succ]) | (refine wpT_skipU _ rfl rfl rfl ?_; simp only [Act.put, List.setIfInBounds_toArray, List.set_cons_zero, List.set_cons_succ]))
            refine wpT_other ?_
            go_wp2_with fail
            refine sched_back (by rw [HF1.out]; exact HK0.out) ?_
            repeat (first | (refine wpT_free rfl ?_; intro K hK; go_big_quiet_op; go_big_quiet_on) | (refine wpT_wantS _ rfl rfl rfl ?_; intro K hK; go_big_quiet_op; go_big_quiet_on) | (refine wpT_skipS _ rfl rfl rfl rfl ?_; simp only [Act.put, List.setIfInBounds_toArray, List.set_cons_zero, List.set_cons_succ]) | (refine wpT_skipU _ rfl rfl rfl ?_; simp only [Act.put, List.setIfInBounds_toArray, List.set_cons_zero, List.set_cons_succ]))
            refine wpT_other ?_
            go_wp2_with fail
            refine sched_back (by rw [HF1.out]; exact HKJ.out) ?_
            repeat (first | (refine wpT_free rfl ?_; intro K hK; go_big_quiet_op; go_big_quiet_on) | (refine wpT_wantS _ rfl rfl rfl ?_; intro K hK; go_big_quiet_op; go_big_quiet_on) | (refine wpT_skipS _ rfl rfl rfl rfl ?_; simp only [Act.put, List.setIfInBounds_toArray, List.set_cons_zero, List.set_cons_succ]) | (refine wpT_skipU _ rfl rfl rfl ?_; simp only [Act.put, List.setIfInBounds_toArray, List.set_cons_zero, List.set_cons_succ]))
            refine wpT_nil ?_
            refine wpTail_cons ?_
            go_wp2_with fail
            refine tail_back ?_
            refine wpTail_cons ?_
            go_wp2_with fail
            refine tail_back ?_
            refine wpTail_nil ?_
            clear mi1 pj0 pj1 mj1 HKJ HK0
            clear fi0 fj0 fi1 fj1
            rw [HSET.out] at HS9
            have HN9 := Lib.hid (HROW.out.two HS9.out)
            clear HSET HROW HOWN HS9
            rw [Hid, ← HLI.out] at HN9
            have HN9 := Lib.hid HN9
            have hgF := gb_trans hgb hg9
            clear HLI HC9 hgb hg9
            go_wp2_with fail
            rw [← HW9.out]
            exact ⟨⟨r, κ, by go_num, by have := hjr.out; unfold Hid; omega, by omega, by omega, HN9.out.drew, HN.out, gb_drew hgF⟩, by simp [intOf]⟩
          · have g3 : decide (cvT e z < 0) = false := decide_eq_false hc
            have HF := HSTOP.out.resolve_left hc
            have hrow := HR.out
            rw [HF] at hrow
            have HR9 := Lib.hid hrow
            clear hrow HF HSTOP HR HAB HLI HC9 HB HZ HQS
            go_wp2_with fail
            refine wp_region_quiet_below (by kernel_rfl) (by kernel_rfl) ?_
            repeat (go_big_quiet_step ((go_at_call 18; exact Calls.regrown_of (HC.out _))))
            refine wpQuiet_nil ?_
            intro w5 hb50
            have hb5 := below_of_regrown hb50
            clear hb50
            go_wp2_with fail
            go_roundw
            case rel => exact ⟨t + 1, i + 1, by go_num, by have := hit.out; unfold Hid; omega, by omega, .inl (by omega), HR9.out.below hb5, gb_below hgb hb5⟩
            case measure => simp [intOf]; omega
    · have g1 : decide ((i : Int) < (b : Int)) = false := decide_eq_false (by omega)
      have g1' : decide (i < b) = false := decide_eq_false hlt
      have ht : x.length ≤ t := by have := hit.out; have := HH.out; omega
      rw [List.take_of_length_le ht, List.drop_of_length_le ht, List.nil_append] at hrow
      have HO := Lib.hid hrow
      clear hrow ht
      go_wp2_with fail
      go_end0
      exact ⟨rfl, HO.out, hgb⟩
set_option maxRecDepth 100000 in
set_option maxHeartbeats 16000000 in
theorem stableT_any (x : List Tn) (ad : Addr) (c N base : Nat) (w : World) (h : RowT w base ad c N x) (hN : N ≤ 1000000) (hq : ∀ z ∈ x, QT z) :
    Calls Try.prog 30 #[.slice (some ad) N c, .int .i64 (N : Int), .func (.func 18) #[] #[]] w fun e w' => e = .returned (.tuple #[]) ∧ RowT w' base ad c N (ssort leT x) ∧ w.grownBy w' (some ad.block) := by
  have HQ := Lib.hid hq
  have HXN := Lib.hid h.len
  have HROW := Lib.hid h
  clear h hq
  go_enter Try.func30, Try.ntmps30
  go_wp2_with fail
  go_loopw [7, 8] (fun av bv wr => ∃ (ys : List (List Tn)) (r : List Tn) (ka kb : Nat), av = .int .i64 (ka : Int) ∧ bv = .int .i64 (kb : Int) ∧ Hid (x = ys.flatten ++ r ∧ (∀ y ∈ ys, y.length = 20) ∧ ka = ys.length * 20 ∧ kb = ka + 20) ∧ ka ≤ N ∧ kb ≤ N + 20 ∧ ka + 20 ≤ kb ∧ kb ≤ ka + 20 ∧ RowT wr base ad c N (blks leT ys ++ r) ∧ w.grownBy wr (some ad.block)) (fun _ bv _ => N + 40 - (intOf bv).toNat)
  case atStart => exact ⟨[], x, 0, 20, rfl, rfl, ⟨rfl, fun y hy => absurd hy (by simp), rfl, rfl⟩, Nat.zero_le _, by omega, by omega, by omega, HROW.out, gb_refl _ _⟩
  case round =>
    clear HROW
    obtain ⟨ys, r, ka, kb, rfl, rfl, HB, hka, hkb, hk1, hk2, hrow, hgb⟩ := hrel
    by_cases hlt : kb ≤ N
    · have g1 : decide ((kb : Int) ≤ (N : Int)) = true := decide_eq_true (by omega)
      have g1' : decide (kb ≤ N) = true := decide_eq_true hlt
      obtain ⟨h1, h2, h3, h4⟩ := HB.out
      have hfl := flat_len_of h2
      have hxl := congrArg List.length h1
      rw [List.length_append, HXN.out, hfl] at hxl
      have hr20 : 20 ≤ r.length := by omega
      have er : r.take 20 ++ r.drop 20 = r := List.take_append_drop _ _
      have hl20 : (r.take 20).length = 20 := by rw [List.length_take]; omega
      have hrow1 : RowT wr base ad c N (blks leT ys ++ (r.take 20 ++ r.drop 20)) := by rw [er]; exact hrow
      have HC := Lib.hid (insT_any (blks leT ys) (r.take 20) (r.drop 20) ad c N base ka kb wr hrow1 hN (by rw [blks_len, hfl, h3]) (by rw [hl20, h4]) (fun z hz => HQ.out z (by rw [h1]; exact List.mem_append_right _ (List.mem_of_mem_take hz))))
      have HB2 : Hid (x = (ys ++ [r.take 20]).flatten ++ r.drop 20 ∧ (∀ y ∈ ys ++ [r.take 20], y.length = 20) ∧ kb = (ys ++ [r.take 20]).length * 20 ∧ kb + 20 = kb + 20) := by
        refine ⟨?_, ?_, ?_, rfl⟩
        · rw [h1]; simp
        · intro y hy
          rcases List.mem_append.1 hy with hy | hy
          · exact h2 y hy
          · rw [List.mem_singleton] at hy; rw [hy]; exact hl20
        · rw [List.length_append, List.length_singleton, Nat.succ_mul]; omega
      have HE : Hid (blks leT ys ++ (ssort leT (r.take 20) ++ r.drop 20) = blks leT (ys ++ [r.take 20]) ++ r.drop 20) := by rw [Hid, blks_snoc, List.append_assoc]
      clear h1 h2 h3 h4 hfl hxl hr20 er hl20 hrow1 hrow HB
      go_wp2_with fail
      refine HC.out.mono ?_
      rintro e w2 ⟨rfl, hr2, hg2⟩
      rw [HE.out] at hr2
      have HR2 := Lib.hid hr2
      have hgF := gb_trans hgb hg2
      clear hr2 hg2 hgb HC HE
      go_wp2_with fail
      go_roundw
      case rel => exact ⟨ys ++ [r.take 20], r.drop 20, kb, kb + 20, rfl, by go_num, ⟨HB2.out.1, HB2.out.2.1, HB2.out.2.2.1, rfl⟩, hlt, by omega, by omega, by omega, HR2.out, hgF⟩
      case measure => simp [intOf]; omega
    · have g1 : decide ((kb : Int) ≤ (N : Int)) = false := decide_eq_false (by omega)
      have g1' : decide (kb ≤ N) = false := decide_eq_false hlt
      obtain ⟨h1, h2, h3, h4⟩ := HB.out
      have hfl := flat_len_of h2
      have hxl := congrArg List.length h1
      rw [List.length_append, HXN.out, hfl] at hxl
      have hrow1 : RowT wr base ad c N (blks leT ys ++ (r ++ [])) := by rw [List.append_nil]; exact hrow
      have HC := Lib.hid (insT_any (blks leT ys) r [] ad c N base ka N wr hrow1 hN (by rw [blks_len, hfl, h3]) (by omega) (fun z hz => HQ.out z (by rw [h1]; exact List.mem_append_right _ hz)))
      have HB2 : Hid (x = ys.flatten ++ r ∧ (∀ y ∈ ys, y.length = 20) ∧ r.length < 20) := ⟨h1, h2, by omega⟩
      clear h1 h2 h3 h4 hfl hxl hrow1 hrow HB
      go_wp2_with fail
      refine HC.out.mono ?_
      rintro e w2 ⟨rfl, hr2, hg2⟩
      rw [List.append_nil] at hr2
      have HR2 := Lib.hid hr2
      have hgF := gb_trans hgb hg2
      clear hr2 hg2 hgb HC
      go_wp2_with fail
      go_loopw [6] (fun Bv wr => ∃ (ys : List (List Tn)) (t : List Tn) (B : Nat), Bv = .int .i64 (B : Int) ∧ Hid (x = ys.flatten ++ t ∧ (∀ y ∈ ys, y.length = B) ∧ t.length < B) ∧ 20 ≤ B ∧ B ≤ N + N + 20 ∧ RowT wr base ad c N (blks leT ys ++ ssort leT t) ∧ w.grownBy wr (some ad.block)) (fun Bv _ => N - (intOf Bv).toNat)
      case atStart => exact ⟨ys, r, 20, rfl, HB2, Nat.le_refl _, by omega, HR2.out, hgF⟩
      case round =>
        clear HB2 HR2 hgF hka hkb hk1 hk2 g1 g1' hlt
        obtain ⟨ys, t, B, rfl, HB, hB20, hBN, hrow, hgb⟩ := hrel
        by_cases hlt : B < N
        · have g1 : decide ((B : Int) < (N : Int)) = true := decide_eq_true (by omega)
          have g1' : decide (B < N) = true := decide_eq_true hlt
          obtain ⟨B2, hB2⟩ : ∃ B2, B2 = 2 * B := ⟨_, rfl⟩
          have e2 : 2 * (B : Int) = (B2 : Int) := by omega
          have HE2 := Lib.hid (And.intro e2 hB2)
          have hR0 : Hid (RowT wr base ad c N (blks leT [] ++ (blks leT ys ++ ssort leT t))) := hrow
          have HB0 : Hid (x = ([] : List (List Tn)).flatten ++ (ys.flatten ++ t) ∧ (∀ z ∈ ([] : List (List Tn)), z.length = B2) ∧ (∀ y ∈ ys, y.length = B) ∧ t.length < B ∧ 0 = ([] : List (List Tn)).length * B2) := ⟨HB.out.1, fun z hz => absurd hz (by simp), HB.out.2.1, HB.out.2.2, by simp⟩
          have hb1 : B + B ≤ B2 := by omega
          have hb2 : B2 ≤ B + B := by omega
          clear hrow HB e2 hB2
          go_wp2_with fail
          rw [HE2.out.1]
          go_loopw [7, 8] (fun av bv wr => ∃ (zs xs : List (List Tn)) (ka kb : Nat), av = .int .i64 (ka : Int) ∧ bv = .int .i64 (kb : Int) ∧ Hid (x = zs.flatten ++ (xs.flatten ++ t) ∧ (∀ z ∈ zs, z.length = B2) ∧ (∀ y ∈ xs, y.length = B) ∧ t.length < B ∧ ka = zs.length * B2) ∧ ka ≤ N ∧ ka + B2 ≤ kb ∧ kb ≤ ka + B2 ∧ RowT wr base ad c N (blks leT zs ++ (blks leT xs ++ ssort leT t)) ∧ w.grownBy wr (some ad.block)) (fun _ bv _ => N + B2 + B2 - (intOf bv).toNat)
          case atStart => exact ⟨[], ys, 0, B2, rfl, rfl, HB0, Nat.zero_le _, by omega, by omega, hR0.out, hgb⟩
          case round =>
            clear hR0 HB0 hgb
            obtain ⟨zs, xs, ka, kb, rfl, rfl, HB, hka, hk1, hk2, hrow, hgb⟩ := hrel
            obtain ⟨h1, h2, h3, h4, h5⟩ := HB.out
            have hfz := flat_len_of h2
            have hfx := flat_len_of h3
            have hxl := congrArg List.length h1
            rw [List.length_append, List.length_append, HXN.out, hfz, hfx] at hxl
            have hqm : ∀ z, z ∈ zs.flatten ∨ z ∈ xs.flatten ∨ z ∈ t → QT z := fun z hz => HQ.out z (by rw [h1]; simp only [List.mem_append]; exact hz)
            by_cases hlt2 : kb ≤ N
            · have g2 : decide ((kb : Int) ≤ (N : Int)) = true := decide_eq_true (by omega)
              have g2' : decide (kb ≤ N) = true := decide_eq_true hlt2
              obtain ⟨x1, x2, xs', hxs⟩ : ∃ x1 x2 xs', xs = x1 :: x2 :: xs' := by
                match xs, hxl with
                | [], e => simp at e; omega
                | [_], e => simp at e; omega
                | x1 :: x2 :: xs', _ => exact ⟨x1, x2, xs', rfl⟩
              subst hxs
              have l1 := h3 x1 (by simp)
              have l2 := h3 x2 (by simp)
              have hrow1 : RowT wr base ad c N (blks leT zs ++ (ssort leT x1 ++ (ssort leT x2 ++ (blks leT xs' ++ ssort leT t)))) := by
                have e : blks leT (x1 :: x2 :: xs') ++ ssort leT t = ssort leT x1 ++ (ssort leT x2 ++ (blks leT xs' ++ ssort leT t)) := by rw [blks_cons, blks_cons]; simp only [List.append_assoc]
                rw [← e]; exact hrow
              have HC := Lib.hid (symMergeT_any (B + B) (blks leT zs) (ssort leT x1) (ssort leT x2) (blks leT xs' ++ ssort leT t) ad c N base ka (ka + B) kb wr hrow1 hN (by rw [blks_len, hfz, h5]) (by rw [ssort_len, l1]) (by rw [ssort_len, l2]; omega) (by rw [ssort_len]; omega) (by rw [ssort_len]; omega) (ssort_srt tpT _) (ssort_srt tpT _)
                (fun z hz => hqm z (by
                  simp only [List.mem_append, mem_blks, mem_ssort] at hz
                  rcases hz with h | h | h | h | h
                  · exact .inl h
                  · exact .inr (.inl (by simp [h]))
                  · exact .inr (.inl (by simp [h]))
                  · exact .inr (.inl (by
                      rw [List.flatten_cons, List.flatten_cons]
                      exact List.mem_append_right _ (List.mem_append_right _ h)))
                  · exact .inr (.inr h))) (by rw [ssort_len, ssort_len]; omega))
              have HBN : Hid (x = (zs ++ [x1 ++ x2]).flatten ++ (xs'.flatten ++ t) ∧ (∀ z ∈ zs ++ [x1 ++ x2], z.length = B2) ∧ (∀ y ∈ xs', y.length = B) ∧ t.length < B ∧ kb = (zs ++ [x1 ++ x2]).length * B2) := by
                refine ⟨?_, ?_, fun y hy => h3 y (by simp [hy]), h4, ?_⟩
                · rw [h1]; simp
                · intro z hz
                  rcases List.mem_append.1 hz with hz | hz
                  · exact h2 z hz
                  · rw [List.mem_singleton] at hz; rw [hz, List.length_append]; omega
                · rw [List.length_append, List.length_singleton, Nat.succ_mul]; omega
              have HE : Hid (blks leT zs ++ ((ssort leT x1).merge (ssort leT x2) leT ++ (blks leT xs' ++ ssort leT t)) = blks leT (zs ++ [x1 ++ x2]) ++ (blks leT xs' ++ ssort leT t)) := by
                rw [Hid, ← ssort_append tpT, blks_snoc]; simp only [List.append_assoc]
              have e7 : ((ka + B : Nat) : Int) = (ka : Int) + (B : Int) := by omega
              rw [Hid, e7] at HC
              have HC := Lib.hid HC
              have e8 : (kb : Int) + (B2 : Int) = ((kb + B2 : Nat) : Int) := by omega
              have HE8 := Lib.hid e8
              clear h1 h2 h3 h4 h5 hfz hfx hxl hqm l1 l2 hrow1 hrow HB e7 e8
              go_wp2_with fail
              refine HC.out.mono ?_
              rintro e w2 ⟨rfl, hr2, hg2⟩
              rw [HE.out] at hr2
              have HR2 := Lib.hid hr2
              have hgF := gb_trans hgb hg2
              clear hr2 hg2 hgb HC HE
              go_wp2_with fail
              rw [HE2.out.1, HE8.out]
              go_roundw
              case rel => exact ⟨zs ++ [x1 ++ x2], xs', kb, kb + B2, rfl, rfl, HBN, hlt2, by omega, by omega, HR2.out, hgF⟩
              case measure => simp [intOf]; omega
            · have g2 : decide ((kb : Int) ≤ (N : Int)) = false := decide_eq_false (by omega)
              have g2' : decide (kb ≤ N) = false := decide_eq_false hlt2
              have e9 : (B : Int) * 2 = (B2 : Int) := by omega
              have HE9 := Lib.hid e9
              by_cases hm : ka + B < N
              · have g3 : decide ((ka : Int) + (B : Int) < (N : Int)) = true := decide_eq_true (by omega)
                obtain ⟨x1, hxs⟩ : ∃ x1, xs = [x1] := by
                  match xs, hxl with
                  | [], e => simp at e; omega
                  | [x1], _ => exact ⟨x1, rfl⟩
                  | _ :: _ :: xs', e =>
                    simp only [List.length_cons, Nat.succ_mul] at e
                    omega
                subst hxs
                have l1 := h3 x1 (by simp)
                simp only [List.length_singleton, Nat.one_mul] at hxl
                have ht0 : 0 < t.length := by omega
                have hrow1 : RowT wr base ad c N (blks leT zs ++ (ssort leT x1 ++ (ssort leT t ++ []))) := by
                  have e : blks leT [x1] ++ ssort leT t = ssort leT x1 ++ (ssort leT t ++ []) := by rw [blks_cons, blks_nil, List.append_nil, List.append_nil]
                  rw [← e]; exact hrow
                have HC := Lib.hid (symMergeT_any (B + B) (blks leT zs) (ssort leT x1) (ssort leT t) [] ad c N base ka (ka + B) N wr hrow1 hN (by rw [blks_len, hfz, h5]) (by rw [ssort_len, l1]) (by rw [ssort_len]; omega) (by rw [ssort_len]; omega) (by rw [ssort_len]; omega) (ssort_srt tpT _) (ssort_srt tpT _)
                  (fun z hz => hqm z (by
                    simp only [List.mem_append, mem_blks, mem_ssort] at hz
                    rcases hz with h | h | h | h
                    · exact .inl h
                    · exact .inr (.inl (by simp [h]))
                    · exact .inr (.inr h)
                    · cases h)) (by rw [ssort_len, ssort_len]; omega))
                have HBN : Hid (x = zs.flatten ++ (x1 ++ t) ∧ (∀ z ∈ zs, z.length = B2) ∧ (x1 ++ t).length < B2) := by
                  refine ⟨?_, h2, ?_⟩
                  · rw [h1]; simp
                  · rw [List.length_append]; omega
                have HE : Hid (blks leT zs ++ ((ssort leT x1).merge (ssort leT t) leT ++ []) = blks leT zs ++ ssort leT (x1 ++ t)) := by
                  rw [Hid, ← ssort_append tpT, List.append_nil]
                have e7 : ((ka + B : Nat) : Int) = (ka : Int) + (B : Int) := by omega
                rw [Hid, e7] at HC
                have HC := Lib.hid HC
                clear h1 h2 h3 h4 h5 hfz hfx hxl hqm l1 ht0 hrow1 hrow HB e7 e9
                go_wp2_with fail
                refine HC.out.mono ?_
                rintro e w2 ⟨rfl, hr2, hg2⟩
                rw [HE.out] at hr2
                have HR2 := Lib.hid hr2
                have hgF := gb_trans hgb hg2
                clear hr2 hg2 hgb HC HE
                go_wp2_with fail
                rw [HE9.out]
                go_roundw
                case rel => exact ⟨zs, x1 ++ t, B2, rfl, HBN, by omega, by omega, HR2.out, hgF⟩
                case measure => simp [intOf]; omega
              · have g3 : decide ((ka : Int) + (B : Int) < (N : Int)) = false := decide_eq_false (by omega)
                obtain ⟨t', ht', hl', hr'⟩ : ∃ t', xs.flatten ++ t = t' ∧ t'.length < B2 ∧ blks leT xs ++ ssort leT t = ssort leT t' := by
                  match xs, hxl, h3 with
                  | [], _, _ => exact ⟨t, rfl, by omega, rfl⟩
                  | [x1], e, h3 =>
                    have l1 := h3 x1 (by simp)
                    simp only [List.length_singleton, Nat.one_mul] at e
                    have ht0 : t = [] := List.eq_nil_of_length_eq_zero (by omega)
                    subst ht0
                    refine ⟨x1, by simp, by omega, ?_⟩
                    rw [blks_cons, blks_nil, List.append_nil, ssort_nil, List.append_nil]
                  | _ :: _ :: xs', e, _ =>
                    simp only [List.length_cons, Nat.succ_mul] at e
                    omega
                rw [hr'] at hrow
                have HR2 := Lib.hid hrow
                have HBN : Hid (x = zs.flatten ++ t' ∧ (∀ z ∈ zs, z.length = B2) ∧ t'.length < B2) := ⟨by rw [h1, ht'], h2, hl'⟩
                clear h1 h2 h3 h4 h5 hfz hfx hxl hqm hrow HB e9 ht' hl' hr'
                go_wp2_with fail
                rw [HE9.out]
                go_roundw
                case rel => exact ⟨zs, t', B2, rfl, HBN, by omega, by omega, HR2.out, hgb⟩
                case measure => simp [intOf]; omega
        · have g1 : decide ((B : Int) < (N : Int)) = false := decide_eq_false (by omega)
          have g1' : decide (B < N) = false := decide_eq_false hlt
          obtain ⟨h1, h2, h3⟩ := HB.out
          have hfy := flat_len_of h2
          have hxl := congrArg List.length h1
          rw [List.length_append, HXN.out, hfy] at hxl
          have hE : blks leT ys ++ ssort leT t = ssort leT x := by
            match ys, hxl, h1 with
            | [], _, h1 => rw [h1]; rfl
            | [y], e, h1 =>
              simp only [List.length_singleton, Nat.one_mul] at e
              have ht0 : t = [] := List.eq_nil_of_length_eq_zero (by omega)
              subst ht0
              rw [h1, blks_cons, blks_nil, List.append_nil, ssort_nil, List.append_nil]; simp
            | _ :: _ :: ys', e, _ =>
              simp only [List.length_cons, Nat.succ_mul] at e
              omega
          rw [hE] at hrow
          have HO := Lib.hid hrow
          clear hrow hE hxl hfy h1 h2 h3 HB
          go_wp2_with fail
          go_end0
          exact ⟨rfl, HO.out, hgb⟩
set_option maxRecDepth 100000 in
theorem sortStableT_any (x : List Tn) (ad : Addr) (c N base : Nat) (w : World) (h : RowT w base ad c N x) (hN : N ≤ 1000000) (hq : ∀ z ∈ x, QT z) :
    Calls Try.prog 17 #[.slice (some ad) N c, .func (.func 18) #[] #[]] w fun e w' => e = .returned (.tuple #[]) ∧ RowT w' base ad c N (ssort leT x) ∧ w.grownBy w' (some ad.block) := by
  have HS := Lib.hid (stableT_any x ad c N base w h hN hq)
  clear h hq
  go_enter Try.func17, Try.ntmps17
  go_wp2_with fail
  refine HS.out.mono ?_
  rintro e w1 ⟨rfl, ho1, hg1⟩
  have HO1 := Lib.hid ho1
  clear ho1
  go_wp2_with fail
  go_end0
  exact ⟨rfl, HO1.out, hg1⟩
/-- Of none there is nothing to sort. -/
theorem sortStableT_none (A : Option Addr) (c : Nat) (w : World) :
    Calls Try.prog 17 #[.slice A 0 c, .func (.func 18) #[] #[]] w fun e w' => e = .returned (.tuple #[]) ∧ w' = w := by
  have HI : Hid (∀ W, Calls Try.prog 44 #[.slice A 0 c, .int .i64 0, .int .i64 0, .func (.func 18) #[] #[]] W fun e w' => e = .returned (.tuple #[]) ∧ w' = W) := fun W => by
    go_enter Try.func44, Try.ntmps44
    go_wp2_with fail
    refine wp_loop_rounds 1 ?_
    rw [rounds_succ]
    go_wp2_with fail
    go_end0
    exact ⟨rfl, rfl⟩
  have HS : Hid (Calls Try.prog 30 #[.slice A 0 c, .int .i64 0, .func (.func 18) #[] #[]] w fun e w' => e = .returned (.tuple #[]) ∧ w' = w) := by
    unfold Hid
    go_enter Try.func30, Try.ntmps30
    go_wp2_with fail
    refine wp_loop_rounds 1 ?_
    rw [rounds_succ]
    go_wp2_with fail
    refine (HI.out _).mono ?_
    rintro e w1 ⟨rfl, rfl⟩
    go_wp2_with fail
    refine wp_loop_rounds 1 ?_
    rw [rounds_succ]
    go_wp2_with fail
    go_end0
    exact ⟨rfl, rfl⟩
  go_enter Try.func17, Try.ntmps17
  go_wp2_with fail
  refine HS.out.mono ?_
  rintro e w1 ⟨rfl, rfl⟩
  go_wp2_with fail
  go_end0
  exact ⟨rfl, rfl⟩
end Go.Proofs.Ytncakjchaniheaa
namespace Go.Proofs.Ytncakjchaniheaa
/-- The place before, round the ring. -/
def prevT (n x : Nat) : Nat := (x + n - 1) % n
theorem prevT_lt {n x : Nat} (h : 0 < n) : prevT n x < n := Nat.mod_lt _ h
theorem prevT_next {n x : Nat} (hx : x < n) : (prevT n x + 1) % n = x := by
  unfold prevT
  rcases Nat.eq_zero_or_pos x with h | h
  · subst h
    rw [Nat.zero_add, Nat.mod_eq_of_lt (show n - 1 < n by omega), show n - 1 + 1 = n by omega, Nat.mod_self]
  · rw [show x + n - 1 = x - 1 + n by omega, Nat.add_mod_right, Nat.mod_eq_of_lt (show x - 1 < n by omega), show x - 1 + 1 = x by omega, Nat.mod_eq_of_lt hx]
theorem next_prevT {n x : Nat} (hx : x < n) : prevT n ((x + 1) % n) = x := by
  unfold prevT
  rcases Nat.lt_or_ge (x + 1) n with h | h
  · rw [Nat.mod_eq_of_lt h, show x + 1 + n - 1 = x + n by omega, Nat.add_mod_right, Nat.mod_eq_of_lt hx]
  · rw [show x + 1 = n by omega, Nat.mod_self, Nat.zero_add, Nat.mod_eq_of_lt (by omega)]; omega
theorem prevT_perm {n : Nat} (h : 0 < n) : ((List.range n).map (prevT n)).Perm (List.range n) := by
  have h1 := (next_perm h).map (prevT n)
  rw [List.map_map] at h1
  have e : (List.range n).map (prevT n ∘ fun x => (x + 1) % n) = List.range n := by
    conv => rhs; rw [← List.map_id (List.range n)]
    refine List.map_congr_left fun x hx => ?_
    rw [List.mem_range] at hx
    exact next_prevT hx
  rw [e] at h1
  exact h1.symm
theorem lastT_prev {s : List UInt8} {x : Nat} : lastT s x = s.getD (prevT s.length x) 0 := rfl
/-- A turn is known by its bytes. -/
theorem rotT_eq_iff {s : List UInt8} {x y : Nat} (hx : x < s.length) (hy : y < s.length) : rotT s x = rotT s y ↔ ∀ m, s.getD ((x + m) % s.length) 0 = s.getD ((y + m) % s.length) 0 := by
  have h0 : 0 < s.length := by omega
  constructor
  · intro h m
    have hm : m % s.length < s.length := Nat.mod_lt _ h0
    have h1 := rotT_cyc hx hm
    have h2 := rotT_cyc hy hm
    rw [h, h2] at h1
    rw [Nat.add_mod_mod, Nat.add_mod_mod] at h1
    exact h1.symm
  · intro h
    apply List.ext_getElem?
    intro j
    rw [rotT_getElem? hx, rotT_getElem? hy, h j]
theorem rotT_next {s : List UInt8} {x y : Nat} (hx : x < s.length) (hy : y < s.length) (h : rotT s x = rotT s y) : rotT s ((x + 1) % s.length) = rotT s ((y + 1) % s.length) := by
  have h0 : 0 < s.length := by omega
  refine (rotT_eq_iff (Nat.mod_lt _ h0) (Nat.mod_lt _ h0)).2 fun m => ?_
  have := (rotT_eq_iff hx hy).1 h (1 + m)
  rw [Nat.mod_add_mod, Nat.mod_add_mod, Nat.add_assoc, Nat.add_assoc]
  exact this
theorem rotT_first {s : List UInt8} {x y : Nat} (hx : x < s.length) (hy : y < s.length) (h : rotT s x = rotT s y) : s.getD x 0 = s.getD y 0 := by
  have := (rotT_eq_iff hx hy).1 h 0
  rwa [Nat.add_zero, Nat.add_zero, Nat.mod_eq_of_lt hx, Nat.mod_eq_of_lt hy] at this
/-- Places by their bytes, and of the same by place. -/
def ltB (t : List UInt8) (x y : Nat) : Prop := t.getD x 0 < t.getD y 0 ∨ (t.getD x 0 = t.getD y 0 ∧ x < y)
instance (t : List UInt8) (x y : Nat) : Decidable (ltB t x y) := inferInstanceAs (Decidable (_ ∨ _))
theorem ltB_irrefl (t : List UInt8) (x : Nat) : ¬ ltB t x x := by
  rintro (h | ⟨_, h⟩)
  · exact UInt8.lt_irrefl _ h
  · omega
theorem ltB_trans {t : List UInt8} {x y z : Nat} (h1 : ltB t x y) (h2 : ltB t y z) : ltB t x z := by
  rcases h1 with h1 | ⟨e1, h1⟩
  · rcases h2 with h2 | ⟨e2, h2⟩
    · exact .inl (UInt8.lt_trans h1 h2)
    · rw [e2] at h1; exact .inl h1
  · rcases h2 with h2 | ⟨e2, h2⟩
    · rw [← e1] at h2; exact .inl h2
    · exact .inr ⟨e1.trans e2, by omega⟩
theorem ltB_tri {t : List UInt8} {x y : Nat} (h1 : ¬ ltB t x y) (h2 : ¬ ltB t y x) : x = y := by
  have e : t.getD x 0 = t.getD y 0 := UInt8.le_antisymm (UInt8.not_lt.1 fun h => h2 (.inl h)) (UInt8.not_lt.1 fun h => h1 (.inl h))
  rcases Nat.lt_trichotomy x y with h | h | h
  · exact absurd (.inr ⟨e, h⟩) h1
  · exact h
  · exact absurd (.inr ⟨e.symm, h⟩) h2
def ordO (t : List UInt8) : List Nat := (List.range t.length).mergeSort fun x y => decide (¬ ltB t y x)
theorem ordO_perm (t : List UInt8) : (ordO t).Perm (List.range t.length) := List.mergeSort_perm _ _
theorem ordO_len (t : List UInt8) : (ordO t).length = t.length := by rw [(ordO_perm t).length_eq, List.length_range]
theorem ordO_lt {t : List UInt8} {k : Nat} (h : k < t.length) : (ordO t).getD k 0 < t.length := by
  rw [List.getD_eq_getElem?_getD, List.getElem?_eq_getElem (by rw [ordO_len]; exact h)]
  exact List.mem_range.1 ((ordO_perm t).mem_iff.1 (List.getElem_mem _))
theorem ordO_pw (t : List UInt8) : (ordO t).Pairwise fun x y => ¬ ltB t y x := by
  have h := List.pairwise_mergeSort (le := fun (x y : Nat) => decide (¬ ltB t y x)) (fun a b c h1 h2 => by
    rw [decide_eq_true_iff] at *
    intro h3
    by_cases h4 : ltB t b c
    · exact h1 (ltB_trans h4 h3)
    · have := ltB_tri h4 h2
      subst this
      exact h1 h3) (fun a b => by
    rw [Bool.or_eq_true, decide_eq_true_iff, decide_eq_true_iff]
    by_cases h : ltB t b a
    · right; intro h2; exact ltB_irrefl _ _ (ltB_trans h h2)
    · exact .inl h) (List.range t.length)
  exact h.imp fun h => by rwa [decide_eq_true_iff] at h
def getGo (t : List UInt8) (l : List Nat) : Nat → Nat → List UInt8
  | _, 0 => []
  | k, m + 1 => t.getD (l.getD k 0) 0 :: getGo t l (l.getD k 0) m
def getT (t : List UInt8) (at_ : Nat) : List UInt8 := getGo t (ordO t) at_ t.length
theorem getGo_len (t : List UInt8) (l : List Nat) : ∀ m k, (getGo t l k m).length = m
  | 0, _ => rfl
  | m + 1, k => by rw [getGo, List.length_cons, getGo_len t l m]
theorem getT_len (t : List UInt8) (k : Nat) : (getT t k).length = t.length := getGo_len _ _ _ _
/-- Rows that are sorted stand in one way. -/
theorem sorted_one {a b : List (List UInt8)} (h : a.Perm b) (ha : a.Pairwise (· ≤ ·)) (hb : b.Pairwise (· ≤ ·)) : a = b :=
  List.Perm.eq_of_pairwise (le := (· ≤ ·)) (fun _ _ _ _ h1 h2 => List.le_antisymm h1 h2) ha hb h
theorem rows_up (s : List UInt8) : ((turnO s).map (rotT s)).Pairwise (· ≤ ·) := by
  rw [List.pairwise_map]
  refine (turnO_pw s).imp fun h => ?_
  exact fun h2 => h (.inl h2)
/-- The turn before, of a turn that stands at j. -/
def befT (s : List UInt8) (j : Nat) : List UInt8 := rotT s (prevT s.length ((turnO s).getD j 0))
theorem bef_cons {s : List UInt8} {j : Nat} (hj : j < s.length) : befT s j = (turnL s).getD j 0 :: ((rotT s ((turnO s).getD j 0)).take (s.length - 1)) := by
  have ho := turnO_lt hj
  have h0 : 0 < s.length := by omega
  have hp : prevT s.length ((turnO s).getD j 0) < s.length := prevT_lt h0
  have e1 : (turnL s).getD j 0 = s.getD (prevT s.length ((turnO s).getD j 0)) 0 := by
    rw [← lastT_prev]
    unfold turnL
    rw [List.getD_eq_getElem?_getD, List.getElem?_map, List.getD_eq_getElem?_getD, List.getElem?_eq_getElem (by rw [turnO_len]; exact hj)]; rfl
  have h1 := preT_succ (s := s) (m := s.length - 1) hp (by omega)
  rw [prevT_next ho, show s.length - 1 + 1 = s.length by omega] at h1
  unfold befT
  rw [e1]
  unfold preT at h1
  rw [List.take_of_length_le (Nat.le_of_eq (rotT_len (Nat.le_of_lt hp)))] at h1
  exact h1
theorem map_getD {α β : Type} (l : List α) (d : α) (f : α → β) : (List.range l.length).map (fun j => f (l.getD j d)) = l.map f := by
  apply List.ext_getElem?
  intro i
  rw [List.getElem?_map, List.getElem?_map]
  by_cases h : i < l.length
  · rw [List.getElem?_range h, List.getElem?_eq_getElem h, Option.map_some, Option.map_some, List.getD_eq_getElem?_getD, List.getElem?_eq_getElem h]; rfl
  · rw [List.getElem?_eq_none (by rw [List.length_range]; omega), List.getElem?_eq_none (by omega)]; rfl
theorem bef_rows (s : List UInt8) : ((List.range s.length).map (befT s)).Perm ((turnO s).map (rotT s)) := by
  rcases Nat.eq_zero_or_pos s.length with h0 | h0
  · have h1 : turnO s = [] := List.eq_nil_of_length_eq_zero (by rw [turnO_len, h0])
    rw [h0, h1]; exact List.Perm.refl _
  · have e : (List.range s.length).map (befT s) = (turnO s).map (fun x => rotT s (prevT s.length x)) := by
      have := map_getD (turnO s) 0 (fun x => rotT s (prevT s.length x))
      rw [turnO_len] at this
      exact this
    rw [e]
    have h1 := (turnO_perm s).map (fun x => rotT s (prevT s.length x))
    have h2 := ((prevT_perm h0).map (rotT s))
    rw [List.map_map] at h2
    exact h1.trans (h2.trans ((turnO_perm s).map (rotT s)).symm)
/-- By the order of the last bytes the turns before stand in the turns' order. -/
theorem bef_sorted (s : List UInt8) : (ordO (turnL s)).map (befT s) = (turnO s).map (rotT s) := by
  refine sorted_one ?_ ?_ (rows_up s)
  · have h1 := (ordO_perm (turnL s)).map (befT s)
    rw [turnL_len] at h1
    exact h1.trans (bef_rows s)
  · rw [List.pairwise_map]
    have hm : ∀ x ∈ ordO (turnL s), x < s.length := fun x hx => by
      have := List.mem_range.1 ((ordO_perm (turnL s)).mem_iff.1 hx)
      rwa [turnL_len] at this
    refine List.Pairwise.imp_of_mem (fun {x y} hx hy h => ?_) (ordO_pw (turnL s))
    rw [bef_cons (hm x hx), bef_cons (hm y hy)]
    rw [leB_cons]
    by_cases h1 : (turnL s).getD x 0 < (turnL s).getD y 0
    · exact .inl h1
    · right
      have h2 : ¬ (turnL s).getD y 0 < (turnL s).getD x 0 := fun h3 => h (.inl h3)
      have e : (turnL s).getD x 0 = (turnL s).getD y 0 := UInt8.le_antisymm (UInt8.not_lt.1 h2) (UInt8.not_lt.1 h1)
      refine ⟨e, leB_take _ _ _ ?_⟩
      have hxy : x ≤ y := Nat.le_of_not_lt fun h3 => h (.inr ⟨e.symm, h3⟩)
      rcases Nat.eq_or_lt_of_le hxy with h4 | h4
      · rw [h4]; exact List.le_refl _
      · have h5 := List.pairwise_iff_getElem.1 (turnO_pw s) x y (by rw [turnO_len]; exact hm x hx) (by rw [turnO_len]; exact hm y hy) h4
        rw [List.getD_eq_getElem?_getD, List.getD_eq_getElem?_getD, List.getElem?_eq_getElem (by rw [turnO_len]; exact hm x hx), List.getElem?_eq_getElem (by rw [turnO_len]; exact hm y hy)]
        exact fun h6 => h5 (.inl h6)
/-- One step: from a turn to the next. -/
theorem get_step {s : List UInt8} {k i : Nat} (hk : k < s.length) (hi : i < s.length) (h : rotT s ((turnO s).getD k 0) = rotT s i) :
    (ordO (turnL s)).getD k 0 < s.length ∧ (turnL s).getD ((ordO (turnL s)).getD k 0) 0 = s.getD i 0 ∧ rotT s ((turnO s).getD ((ordO (turnL s)).getD k 0) 0) = rotT s ((i + 1) % s.length) := by
  have h0 : 0 < s.length := by omega
  have hl : (ordO (turnL s)).getD k 0 < s.length := by
    have := ordO_lt (t := turnL s) (k := k) (by rw [turnL_len]; exact hk)
    rwa [turnL_len] at this
  have e1 := congrArg (fun l => l[k]?) (bef_sorted s)
  simp only [List.getElem?_map] at e1
  rw [List.getElem?_eq_getElem (by rw [ordO_len, turnL_len]; exact hk), List.getElem?_eq_getElem (by rw [turnO_len]; exact hk)] at e1
  simp only [Option.map_some, Option.some.injEq] at e1
  have e2 : (ordO (turnL s))[k]'(by rw [ordO_len, turnL_len]; exact hk) = (ordO (turnL s)).getD k 0 := by
    rw [List.getD_eq_getElem?_getD, List.getElem?_eq_getElem (by rw [ordO_len, turnL_len]; exact hk)]; rfl
  have e3 : (turnO s)[k]'(by rw [turnO_len]; exact hk) = (turnO s).getD k 0 := by
    rw [List.getD_eq_getElem?_getD, List.getElem?_eq_getElem (by rw [turnO_len]; exact hk)]; rfl
  rw [e2, e3] at e1
  generalize (ordO (turnL s)).getD k 0 = j at *
  unfold befT at e1
  have ho := turnO_lt hl
  have hp : prevT s.length ((turnO s).getD j 0) < s.length := prevT_lt h0
  rw [h] at e1
  refine ⟨hl, ?_, ?_⟩
  · have e4 : (turnL s).getD j 0 = s.getD (prevT s.length ((turnO s).getD j 0)) 0 := by
      rw [← lastT_prev]
      unfold turnL
      rw [List.getD_eq_getElem?_getD, List.getElem?_map, List.getD_eq_getElem?_getD, List.getElem?_eq_getElem (by rw [turnO_len]; exact hl)]; rfl
    rw [e4]
    exact rotT_first hp hi e1
  · have := rotT_next hp hi e1
    rwa [prevT_next ho] at this
theorem get_go {s : List UInt8} : ∀ (m k i : Nat), k < s.length → i + m ≤ s.length → rotT s ((turnO s).getD k 0) = rotT s (i % s.length) → getGo (turnL s) (ordO (turnL s)) k m = (s.drop i).take m
  | 0, k, i, _, _, _ => by simp [getGo]
  | m + 1, k, i, hk, hi, h => by
    have hi' : i < s.length := by omega
    rw [Nat.mod_eq_of_lt hi'] at h
    obtain ⟨h1, h2, h3⟩ := get_step hk hi' h
    rw [getGo, h2, get_go m _ (i + 1) h1 (by omega) h3, List.drop_eq_getElem_cons hi', List.take_succ_cons, List.getD_eq_getElem?_getD, List.getElem?_eq_getElem hi']
    rfl
theorem turnAt_lt {s : List UInt8} (h : s ≠ []) : turnAt s < s.length ∧ (turnO s).getD (turnAt s) 0 = 0 := by
  unfold turnAt
  rw [if_neg h]
  have hm : 0 ∈ turnO s := (turnO_perm s).mem_iff.2 (List.mem_range.2 (List.length_pos_iff.2 h))
  have hl := List.idxOf_lt_length_of_mem hm
  refine ⟨by rw [turnO_len] at hl; exact hl, ?_⟩
  rw [List.getD_eq_getElem?_getD, List.getElem?_eq_getElem hl, List.getElem_idxOf]; rfl
theorem turnL_nil : turnL [] = [] := List.eq_nil_of_length_eq_zero (turnL_len [])
/-- The word is read again. -/
theorem get_turn (s : List UInt8) : getT (turnL s) (turnAt s) = s := by
  by_cases h : s = []
  · subst h; exact List.eq_nil_of_length_eq_zero (by rw [getT_len, turnL_nil]; rfl)
  · obtain ⟨h1, h2⟩ := turnAt_lt h
    have := get_go (s := s) s.length (turnAt s) 0 h1 (by omega) (by rw [h2, Nat.zero_mod])
    unfold getT
    rw [turnL_len, this, List.drop_zero, List.take_length]
/-- Rows, byte by byte from behind, sorted each time. -/
def sortR (l : List (List UInt8)) : List (List UInt8) := l.mergeSort fun a b => decide (¬ b < a)
theorem sortR_pw (l : List (List UInt8)) : (sortR l).Pairwise (· ≤ ·) := by
  have h := List.pairwise_mergeSort (le := fun (a b : List UInt8) => decide (¬ b < a)) (fun a b c h1 h2 => by
    rw [decide_eq_true_iff] at *
    exact List.le_trans (l₁ := a) (l₂ := b) (l₃ := c) h1 h2) (fun a b => by
    rw [Bool.or_eq_true, decide_eq_true_iff, decide_eq_true_iff]
    by_cases h : b < a
    · right; exact List.lt_asymm h
    · exact .inl h) l
  exact h.imp fun h => by rw [decide_eq_true_iff] at h; exact h
def rowsB (t : List UInt8) : Nat → List (List UInt8)
  | 0 => List.replicate t.length []
  | j + 1 => sortR (List.zipWith (fun c r => c :: r) t (rowsB t j))
theorem rows_turn (s : List UInt8) : ∀ j, j ≤ s.length → rowsB (turnL s) j = (turnO s).map (preT s j)
  | 0, _ => by
    rw [rowsB, turnL_len]
    apply List.ext_getElem
    · simp [turnO_len]
    · intro i h1 h2; simp [preT]
  | j + 1, hj => by
    have h0 : 0 < s.length := by omega
    rw [rowsB, rows_turn s j (by omega)]
    have e : List.zipWith (fun c r => c :: r) (turnL s) ((turnO s).map (preT s j)) = (turnO s).map (fun x => preT s (j + 1) (prevT s.length x)) := by
      apply List.ext_getElem
      · simp [turnL_len, turnO_len]
      · intro i h1 h2
        have hi : i < (turnO s).length := by simpa using h2
        have hx : (turnO s)[i] < s.length := List.mem_range.1 ((turnO_perm s).mem_iff.1 (List.getElem_mem hi))
        simp only [List.getElem_zipWith, List.getElem_map]
        rw [preT_succ (prevT_lt h0) (by omega), prevT_next hx]
        congr 1
        simp only [turnL, List.getElem_map]
        exact lastT_prev
    rw [e]
    refine sorted_one ((List.mergeSort_perm _ _).trans ?_) (sortR_pw _) ?_
    · have h1 := (turnO_perm s).map (fun x => preT s (j + 1) (prevT s.length x))
      have h2 := ((prevT_perm h0).map (preT s (j + 1)))
      rw [List.map_map] at h2
      exact h1.trans (h2.trans ((turnO_perm s).map (preT s (j + 1))).symm)
    · rw [List.pairwise_map]
      refine (turnO_pw s).imp fun h => ?_
      exact leB_take _ _ _ (fun h2 => h (.inl h2))
theorem rowsB_len (t : List UInt8) : ∀ j, (rowsB t j).length = t.length
  | 0 => by simp [rowsB]
  | j + 1 => by rw [rowsB, sortR, List.length_mergeSort, List.length_zipWith, rowsB_len t j]; omega
/-- The row that is the word. -/
def backB (t : List UInt8) (at_ : Nat) : List UInt8 := (rowsB t t.length).getD at_ []
theorem back_turn (s : List UInt8) (h : s ≠ []) : backB (turnL s) (turnAt s) = s := by
  obtain ⟨h1, h2⟩ := turnAt_lt h
  unfold backB
  rw [turnL_len, rows_turn s _ (Nat.le_refl _)]
  rw [List.getD_eq_getElem?_getD, List.getElem?_map, List.getElem?_eq_getElem (by rw [turnO_len]; exact h1)]
  rw [List.getD_eq_getElem?_getD, List.getElem?_eq_getElem (by rw [turnO_len]; exact h1)] at h2
  have h3 : (turnO s)[turnAt s]'(by rw [turnO_len]; exact h1) = 0 := h2
  rw [Option.map_some, h3]
  unfold preT rotT
  simp
/-- Both ways say the same. -/
theorem get_back {t : List UInt8} {at_ : Nat} (h : t ≠ []) :
    ((turnL (getT t at_) = t ∧ turnAt (getT t at_) = at_) ↔ (turnL (backB t at_) = t ∧ turnAt (backB t at_) = at_)) ∧
    ((turnL (getT t at_) = t ∧ turnAt (getT t at_) = at_) → getT t at_ = backB t at_) := by
  have hne : ∀ u : List UInt8, turnL u = t → u ≠ [] := fun u hu e => h (by rw [← hu, e, turnL_nil])
  have h1 : (turnL (getT t at_) = t ∧ turnAt (getT t at_) = at_) → getT t at_ = backB t at_ := fun ⟨a, b⟩ => by
    have := back_turn (getT t at_) (hne _ a)
    rw [a, b] at this
    exact this.symm
  have h2 : (turnL (backB t at_) = t ∧ turnAt (backB t at_) = at_) → getT t at_ = backB t at_ := fun ⟨a, b⟩ => by
    have := get_turn (backB t at_)
    rw [a, b] at this
    exact this
  refine ⟨⟨fun h3 => ?_, fun h3 => ?_⟩, h1⟩
  · rw [← h1 h3]; exact h3
  · rw [h2 h3]; exact h3
end Go.Proofs.Ytncakjchaniheaa
namespace Go.Proofs.Ytncakjchaniheaa
open Go.RowKit
/-- What a stable sort keeps. -/
theorem one_pw {α : Type} {le : α → α → Bool} (h : Tp le) {R : α → α → Prop} {x : α} : ∀ {v : List α}, (∀ y ∈ v, R x y) → (v.Pairwise fun x y => le x y = true ∧ (le y x = true → R x y)) → ([x].merge v le).Pairwise fun x y => le x y = true ∧ (le y x = true → R x y)
  | [], _, _ => by rw [List.merge_right]; exact List.pairwise_singleton _ _
  | y :: v, hr, hp => by
    rw [merge_cc]
    by_cases hc : le x y = true
    · rw [if_pos hc, List.nil_merge]
      refine List.pairwise_cons.2 ⟨fun z hz => ⟨?_, fun _ => hr z hz⟩, hp⟩
      rcases List.mem_cons.1 hz with rfl | hz
      · exact hc
      · exact h.trans _ _ _ hc ((List.pairwise_cons.1 hp).1 z hz).1
    · rw [if_neg hc]
      have hyx : le y x = true := h.flip (by rwa [Bool.not_eq_true] at hc)
      refine List.pairwise_cons.2 ⟨fun z hz => ?_, one_pw h (fun z hz => hr z (.tail _ hz)) (List.pairwise_cons.1 hp).2⟩
      rcases mem_merge'.1 hz with hz | hz
      · rw [List.mem_singleton] at hz; subst hz
        exact ⟨hyx, fun e => absurd e hc⟩
      · exact (List.pairwise_cons.1 hp).1 z hz
theorem stable_pw {α : Type} {le : α → α → Bool} (h : Tp le) {R : α → α → Prop} : ∀ {l : List α}, l.Pairwise R → (ssort le l).Pairwise fun x y => le x y = true ∧ (le y x = true → R x y)
  | [], _ => List.Pairwise.nil
  | x :: l, hp => by
    rw [ssort]
    obtain ⟨h1, h2⟩ := List.pairwise_cons.1 hp
    exact one_pw h (fun y hy => h1 y (mem_ssort.1 hy)) (stable_pw h h2)
def tnOf (s : List UInt8) (i : Nat) : Tn := ⟨rotT s i, (i : Int)⟩
def baseT (s : List UInt8) (n : Nat) : List Tn := (List.range n).map (tnOf s)
theorem baseT_len (s : List UInt8) (n : Nat) : (baseT s n).length = n := by simp [baseT]
theorem baseT_succ (s : List UInt8) (n : Nat) : baseT s (n + 1) = baseT s n ++ [tnOf s n] := by unfold baseT; rw [List.range_succ, List.map_append]; rfl
theorem leT_tn {s : List UInt8} {i j : Nat} : leT (tnOf s i) (tnOf s j) = true ↔ ¬ rotT s j < rotT s i := by
  rw [leT_iff]
  unfold cvT tnOf
  rw [(cmpB_ltT _ _).1]
theorem turnO_nodup (s : List UInt8) : (turnO s).Nodup := (turnO_perm s).nodup_iff.2 List.nodup_range
theorem ssort_turn (s : List UInt8) : ssort leT (baseT s s.length) = (turnO s).map (tnOf s) := by
  refine List.Perm.eq_of_pairwise (le := fun x y => leT x y = true ∧ (leT y x = true → x.at_ < y.at_)) (fun a b _ _ h1 h2 => ?_) (stable_pw tpT ?_) ?_ ((ssort_perm _).trans ((turnO_perm s).symm.map _))
  · have := h1.2 h2.1
    have := h2.2 h1.1
    omega
  · unfold baseT
    rw [List.pairwise_map]
    exact List.pairwise_lt_range.imp fun {a b} h => by show (a : Int) < (b : Int); omega
  · rw [List.pairwise_map]
    refine ((turnO_pw s).and (List.nodup_iff_pairwise_ne.1 (turnO_nodup s))).imp fun {a b} ⟨h1, h2⟩ => ?_
    rw [leT_tn, leT_tn]
    refine ⟨fun h => h1 (.inl h), fun h => ?_⟩
    have e : rotT s b = rotT s a := List.le_antisymm h (fun h3 => h1 (.inl h3))
    have h4 : ¬ b < a := fun h3 => h1 (.inr ⟨e, h3⟩)
    show (a : Int) < (b : Int)
    omega
theorem rot_last {s : List UInt8} {i : Nat} (h : i < s.length) : (rotT s i).drop (s.length - 1) = [lastT s i] := by
  have hl := rotT_len (s := s) (i := i) (by omega)
  have hc := rotT_cyc (s := s) (i := i) (j := s.length - 1) h (by omega)
  rw [List.drop_eq_getElem_cons (by omega), List.drop_eq_nil_of_le (by omega)]
  congr 1
  rw [List.getD_eq_getElem?_getD, List.getElem?_eq_getElem (by omega)] at hc
  unfold lastT
  rw [show i + s.length - 1 = i + (s.length - 1) by omega]
  exact hc
/-- Where the word is, as the reference looks for it. -/
def atF (s : List UInt8) (k : Nat) : Nat := if (turnO s).idxOf 0 < k then (turnO s).idxOf 0 else 0
theorem atF_zero (s : List UInt8) : atF s 0 = 0 := rfl
theorem turnO_at {s : List UInt8} {k : Nat} (hk : k < s.length) : (turnO s)[k]? = some ((turnO s).getD k 0) := by
  rw [List.getD_eq_getElem?_getD, List.getElem?_eq_getElem (by rw [turnO_len]; exact hk)]; rfl
theorem atF_hit {s : List UInt8} {k : Nat} (hk : k < s.length) (h : (turnO s).getD k 0 = 0) : atF s (k + 1) = k := by
  have hl : k < (turnO s).length := by rw [turnO_len]; exact hk
  have e : (turnO s)[k] = 0 := by rw [← h, List.getD_eq_getElem?_getD, List.getElem?_eq_getElem hl]; rfl
  have := (turnO_nodup s).idxOf_getElem k hl
  rw [e] at this
  unfold atF
  rw [this, if_pos (by omega)]
theorem atF_miss {s : List UInt8} {k : Nat} (hk : k < s.length) (h : (turnO s).getD k 0 ≠ 0) : atF s (k + 1) = atF s k := by
  have hne : (turnO s).idxOf 0 ≠ k := fun e => h (by
    have hl : (turnO s).idxOf 0 < (turnO s).length := by rw [e, turnO_len]; exact hk
    rw [List.getD_eq_getElem?_getD, ← e, List.getElem?_eq_getElem hl]
    exact List.getElem_idxOf hl)
  unfold atF
  by_cases h1 : (turnO s).idxOf 0 < k
  · rw [if_pos h1, if_pos (by omega)]
  · rw [if_neg h1, if_neg (by omega)]
theorem atF_end (s : List UInt8) : atF s s.length = turnAt s := by
  unfold atF turnAt
  by_cases h : s = []
  · subst h; rfl
  · rw [if_neg h, if_pos]
    have hm : 0 ∈ turnO s := (turnO_perm s).mem_iff.2 (List.mem_range.2 (List.length_pos_iff.2 h))
    have := List.idxOf_lt_length_of_mem hm
    rwa [turnO_len] at this
end Go.Proofs.Ytncakjchaniheaa
