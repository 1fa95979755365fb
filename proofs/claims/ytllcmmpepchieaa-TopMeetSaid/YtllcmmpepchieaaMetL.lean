/- The law TopMeet, walked. -/
import Derived.Test.YtllcmmpepchieaaMetE
import Derived.Test.YtllcmmpepchieaaShA4
import Derived.Test.YtllcmmpepchieaaEditA
import Derived.Test.YtllcmmpepchieaaTop0
import Derived.Test.YtllcmmpepchieaaSched
namespace Go.Proofs.Ytllcmmpepchieaa
open Go.RowKit
theorem chk_vals {la lb : Int} : ∀ {l : List Op} {m : Int}, okL m l → 0 ≤ m → m ≤ 200 → chk la lb m l = 0 ∨ chk la lb m l = 11 := by
  intro l
  induction l with
  | nil =>
    intro m _ _ _
    unfold chk
    split
    · exact .inr rfl
    · exact .inl rfl
  | cons x l ih =>
    intro m ho h0 h1
    obtain ⟨hv, ho⟩ := ho
    unfold chk
    by_cases hx : opErr m x = 0
    · rw [if_pos hx]
      obtain ⟨_, _, _, v4, v5⟩ := vld_of_err hx
      exact ih ho v4 v5
    · rw [if_neg hx]
      right
      unfold vld at hv
      unfold opErr at hx ⊢
      rw [if_neg (by omega)] at hx ⊢
      rcases hv with ⟨e, v1, v2⟩ | ⟨e, v1, v2, v3⟩ | ⟨e, v1, v2⟩
      · rw [if_pos e, if_neg (by omega)] at hx ⊢
        by_cases hn : m = 200
        · rw [if_pos hn]
        · rw [if_neg hn] at hx; exact absurd rfl hx
      · rw [if_neg (by omega), if_pos e, if_neg (by omega), if_pos v3] at hx
        exact absurd rfl hx
      · rw [if_neg (by omega), if_neg (by omega), if_pos e, if_pos v1, if_pos v2] at hx
        exact absurd rfl hx
theorem all_vals {n : Int} {a b : List Op} (ha : okL n a) (hb : okL n b) (h0 : 0 ≤ n) (h1 : n ≤ 200) : allErr n a b = 0 ∨ allErr n a b = 2 ∨ allErr n a b = 11 := by
  unfold allErr
  split
  · exact .inr (.inl rfl)
  · have h2 := chk_vals (la := a.length) (lb := b.length) ha h0 h1
    have h3 := chk_vals (la := a.length) (lb := b.length) hb h0 h1
    split <;> omega
theorem okL_opsL {n : Int} {l : List Ed} (h : edErr n l = 0) : okL n (opsL l) := by
  obtain ⟨h0, h1, h2, h3, h4⟩ := edErr_zero.1 h
  exact okL_opsR h3.asc.desc fun z hz => by have := h3.mem z (List.mem_reverse.1 hz); omega
theorem ops_b : ∀ {l : List Ed}, ∀ x ∈ opsL l, (x.kind = 1 ∨ x.kind = 2) ∧ 0 ≤ x.b ∧ x.b < 256
  | [], x, h => by cases h
  | y :: l, x, h => by
    rw [opsL_cons] at h
    rcases List.mem_append.1 h with h | h
    · exact ops_b x h
    · rcases List.mem_append.1 h with h | h
      · rw [(List.mem_replicate.1 h).2]
        exact ⟨.inr rfl, (show (0 : Int) ≤ 0 by decide), (show (0 : Int) < 256 by decide)⟩
      · have hp : ∀ (l : List UInt8) (p : Int), ∀ x ∈ putsE p l, (x.kind = 1 ∨ x.kind = 2) ∧ 0 ≤ x.b ∧ x.b < 256 := by
          intro l
          induction l with
          | nil => intro p x h; cases h
          | cons b l ih =>
            intro p x h
            rcases List.mem_cons.1 h with rfl | h
            · have := b.toNat_lt
              exact ⟨.inl rfl, by show (0 : Int) ≤ (b.toNat : Int); omega, by show (b.toNat : Int) < 256; omega⟩
            · exact ih _ x h
        exact hp _ _ x h
theorem ops_ok (l : List Ed) : OpsOk (opsL l) := ⟨fun x hx => by have := (ops_b x hx).1; omega, fun x hx => (ops_b x hx).2⟩
theorem past_b {x y : Op} {f : Bool} (h : 0 ≤ x.b ∧ x.b < 256) : 0 ≤ (past x y f).b ∧ (past x y f).b < 256 := by
  unfold past
  repeat' split
  all_goals first | exact h | exact ⟨by decide, by decide⟩
theorem row_b {f : Bool} : ∀ {l : List Op} {x : Op}, (0 ≤ x.b ∧ x.b < 256) → (∀ y ∈ l, 0 ≤ y.b ∧ y.b < 256) → (0 ≤ (rowX f x l).b ∧ (rowX f x l).b < 256) ∧ ∀ y ∈ rowL f x l, 0 ≤ y.b ∧ y.b < 256
  | [], x, hx, _ => ⟨hx, (fun y h => by cases h)⟩
  | z :: l, x, hx, hl => by
    obtain ⟨h1, h2⟩ := row_b (f := f) (l := l) (x := past x z f) (past_b hx) fun y hy => hl y (List.mem_cons_of_mem _ hy)
    refine ⟨h1, fun y hy => ?_⟩
    rcases List.mem_cons.1 hy with rfl | hy
    · exact past_b (hl z List.mem_cons_self)
    · exact h2 y hy
theorem run_b {f : Bool} : ∀ {a l : List Op}, (∀ y ∈ a, 0 ≤ y.b ∧ y.b < 256) → (∀ y ∈ l, 0 ≤ y.b ∧ y.b < 256) → (∀ y ∈ runO f a l, 0 ≤ y.b ∧ y.b < 256) ∧ ∀ y ∈ runL f a l, 0 ≤ y.b ∧ y.b < 256
  | [], l, _, hl => ⟨(fun y h => by cases h), hl⟩
  | x :: a, l, ha, hl => by
    obtain ⟨h1, h2⟩ := row_b (f := f) (ha x List.mem_cons_self) hl
    obtain ⟨h3, h4⟩ := run_b (f := f) (a := a) (l := rowL f x l) (fun y hy => ha y (List.mem_cons_of_mem _ hy)) h2
    refine ⟨fun y hy => ?_, h4⟩
    rcases List.mem_cons.1 hy with rfl | hy
    · exact h1
    · exact h3 y hy
/-- What the walk needs of two scripts that do not touch. -/
structure MeetOk (t : ByteArray) (a b : List Ed) : Prop where
  u : doAll (L t) (opsL a ++ runL true (opsL a) (opsL b)) = edDone (L t) (mergeB a b)
  v : doAll (L t) (opsL b ++ runO true (opsL a) (opsL b)) = edDone (L t) (mergeB a b)
  gu : GoOk t.size (opsL a ++ runL true (opsL a) (opsL b))
  gv : GoOk t.size (opsL b ++ runO true (opsL a) (opsL b))
theorem meetOk_of {t : ByteArray} {a b : List Ed} (ht : t.size ≤ 200) (ha : edErr t.size a = 0) (hb : edErr t.size b = 0) (hc : noClash a b) (hn : anyIn a b = false) (hm : edErr t.size (mergeB a b) = 0) (hall : allErr t.size (opsL a) (opsL b) = 0) : MeetOk t a b := by
  obtain ⟨_, _, _, a3, _⟩ := edErr_zero.1 ha
  obtain ⟨_, _, _, b3, _⟩ := edErr_zero.1 hb
  obtain ⟨_, _, _, m3, _⟩ := edErr_zero.1 hm
  have hz := L_len t
  have hap : ∀ x ∈ a, ∀ y ∈ b, x.at_ + x.del < y.at_ ∨ y.at_ + y.del < x.at_ := by
    intro x hx y hy
    have h1 := hc x hx y hy
    have h2 : x ≠ y := by
      rintro rfl
      unfold anyIn at hn
      rw [List.any_eq_false] at hn
      have := hn x hx
      simp [hy] at this
    unfold clashE at h1
    have h3 : ¬ (x.at_ ≤ y.at_ + y.del ∧ y.at_ ≤ x.at_ + x.del) := fun h => h1 ⟨h2, h⟩
    omega
  obtain ⟨h1, h2, h3, h4⟩ := meet_law (s := L t) a3.asc b3.asc (fun z hz' => by have := a3.mem z hz'; rw [hz]; omega) (fun z hz' => by have := b3.mem z hz'; rw [hz]; omega) hap (by omega) (by rw [hz]; exact hall)
  have h5 := doAll_opsL (s := L t) hz m3 (k := 0) rfl (Nat.zero_le _)
  rw [hz] at h3 h4
  exact ⟨h1.trans h5, h2.trans h5, h3, h4⟩
set_option maxRecDepth 100000 in
set_option maxHeartbeats 8000000 in
theorem topMeet_any (s : ByteArray) (A : Option Addr) (m c : Nat) (a : List Ed) (A2 : Option Addr) (m2 c2 : Nat) (b : List Ed) (w : World) (hr : Rd w w.heap.size 3 A m (edCells a)) (hr2 : Rd w w.heap.size 3 A2 m2 (edCells b)) (hm : m ≤ 9223372036854775807) (hm2 : m2 ≤ 9223372036854775807) :
    Calls Try.prog 3 #[.string s, .slice A m c, .slice A2 m2 c2] w fun e w' => e = .returned (.bool true) ∧ Below w.heap.size w w' := by
  have HWK := Lib.hid works_any
  obtain ⟨t, ht⟩ : ∃ t, s.extract 0 (min s.size 100) = t := ⟨_, rfl⟩
  have hz : t.size ≤ 100 := by rw [← ht, ByteArray.size_extract]; omega
  have HT := Lib.hid ht
  have hb0 : Below w.heap.size w (w.alloc (.cells #[.slice A2 m2 c2] 22)) := (Below.refl _ _).alloc (Nat.le_refl _) _
  have HBK := Lib.hid (Blk.new_ w 22 #[.slice A2 m2 c2])
  have HB0 := Lib.hid hb0
  have H1 : Hid (∀ W, Below w.heap.size w W → Rd W w.heap.size 3 A m (edCells a)) := fun W hW => hr.below hW
  have H2 : Hid (∀ W, Below w.heap.size w W → Rd W w.heap.size 3 A2 m2 (edCells b)) := fun W hW => hr2.below hW
  clear hr hr2 hb0 ht
  by_cases hab : edErr t.size a = 0 ∧ edErr t.size b = 0
  · have HBO := Lib.hid (both_any t.size a b A A2 m c m2 c2 w.heap.size _ (H1.out _ HB0.out) (H2.out _ HB0.out) HB0.out.size hab.1 hab.2)
    have HAB := Lib.hid hab
    clear hab
    by_cases h0 : bothE t.size a b = 0
    · have HM : Hid (noClash a b ∧ edErr t.size (mergeB a b) = 0) := by
        by_cases hc : noClash a b
        · exact ⟨hc, by rw [← bothE_ok HAB.out.1 HAB.out.2 hc]; exact h0⟩
        · rw [bothE_c HAB.out.1 HAB.out.2 hc] at h0
          exact absurd h0 (by decide)
      have HBOK : Hid (Calls Try.prog 8 #[.int .i64 (t.size : Int), .slice A m c, .slice A2 m2 c2] (w.alloc (.cells #[.slice A2 m2 c2] 22)) fun e w' => ∃ v, e = .returned (.tuple #[v, .int .i64 0]) ∧ w'.ownsRow (w.alloc (.cells #[.slice A2 m2 c2] 22)).heap.size 30 3 v (mergeB a b).length (edCells (mergeB a b)) ∧ Below (w.alloc (.cells #[.slice A2 m2 c2] 22)).heap.size (w.alloc (.cells #[.slice A2 m2 c2] 22)) w') :=
        HBO.out.mono fun e w' ⟨v, h1, _, h2, h3⟩ => ⟨v, by rw [h1, h0], h2 h0, h3⟩
      clear HBO h0
      obtain ⟨mm, hmm⟩ : ∃ mm, mergeB a b = mm := ⟨_, rfl⟩
      rw [hmm] at HBOK HM
      have HMM := Lib.hid hmm
      clear hmm
      obtain ⟨wb, hwb⟩ : ∃ wb, wb = w.alloc (.cells #[.slice A2 m2 c2] 22) := ⟨_, rfl⟩
      rw [← hwb] at HBK HB0 HBOK
      have HWB := Lib.hid hwb
      clear hwb
      cases hany : anyIn a b with
      | true =>
        have HANY := Lib.hid hany
        clear hany
        go_enter Try.func3, Try.ntmps3
        go_wp2_with fail
        refine (cut_any s 100 (by omega) _).mono ?_
        rintro e w1 ⟨rfl, rfl⟩
        rw [HT.out]
        have k0 := HBK.out.cell0
        rw [← HWB.out]
        go_wp2_with fail
        refine HBOK.out.mono ?_
        rintro e w2 ⟨v2, rfl, _, hb2⟩
        have hB2 := bthen HB0.out hb2
        have hbk2 := HBK.out.below' hb2
        go_wp2_with fail
        refine (HWK.out _).mono ?_
        rintro e w3 ⟨rfl, hb3⟩
        have hB3 := bthen hB2 hb3
        have hbk3 := hbk2.below' hb3
        have HMF := Lib.hid (meetF_any a b A A2 m c m2 c2 w.heap.size w.heap.size w3 (H1.out w3 hB3) (H2.out w3 hB3) hB3.size hm hm2 hbk3.lt hbk3.cell0)
        rw [HANY.out] at HMF
        go_wp2_with fail
        refine HMF.out.mono ?_
        rintro e w4 ⟨rfl, hb4⟩
        go_wp2_with fail
        refine (HWK.out _).mono ?_
        rintro e w5 ⟨rfl, hb5⟩
        go_wp2_with fail
        go_ret
        exact ⟨rfl, bthen (bthen hB3 hb4) hb5⟩
      | false =>
        have HANY := Lib.hid hany
        clear hany
        have HAP : Hid (apOut t mm = S (edDone (L t) mm)) := by
          unfold Hid apOut
          rw [if_pos HM.out.2]
        obtain ⟨R, hR⟩ : ∃ R, S (edDone (L t) mm) = R := ⟨_, rfl⟩
        rw [hR] at HAP
        have HRR := Lib.hid hR
        clear hR
        obtain ⟨pa, hpa⟩ : ∃ pa, opsL a = pa := ⟨_, rfl⟩
        obtain ⟨pb, hpb⟩ : ∃ pb, opsL b = pb := ⟨_, rfl⟩
        have hla : pa.length ≤ 4800 := by
          rw [← hpa]
          obtain ⟨h1, h2⟩ := ed_bd2 HAB.out.1
          have h3 := opsL_long fun x hx => by have := h2 x hx; omega
          omega
        have hlb : pb.length ≤ 4800 := by
          rw [← hpb]
          obtain ⟨h1, h2⟩ := ed_bd2 HAB.out.2
          have h3 := opsL_long fun x hx => by have := h2 x hx; omega
          omega
        have HOA : Hid (∀ W, Below w.heap.size w W → Calls Try.prog 15 #[.slice A m c] W fun e w' => ∃ v, e = .returned v ∧ w'.ownsRow W.heap.size 43 3 v pa.length (opCells pa) ∧ Below W.heap.size W w') := fun W hW => hpa ▸ ops_any t.size a A m c w.heap.size W (H1.out W hW) hW.size HAB.out.1
        have HOB : Hid (∀ W, Below w.heap.size w W → Calls Try.prog 15 #[.slice A2 m2 c2] W fun e w' => ∃ v, e = .returned v ∧ w'.ownsRow W.heap.size 43 3 v pb.length (opCells pb) ∧ Below W.heap.size W w') := fun W hW => hpb ▸ ops_any t.size b A2 m2 c2 w.heap.size W (H2.out W hW) hW.size HAB.out.2
        have hoka : OpsOk pa := hpa ▸ ops_ok a
        have hokb : OpsOk pb := hpb ▸ ops_ok b
        have HOKA := Lib.hid hoka
        have HOKB := Lib.hid hokb
        have HVAL : Hid (allErr t.size pa pb = 0 ∨ allErr t.size pa pb = 2 ∨ allErr t.size pa pb = 11) := by
          rw [← hpa, ← hpb]
          exact all_vals (okL_opsL HAB.out.1) (okL_opsL HAB.out.2) (by omega) (by omega)
        have HMO : Hid (allErr t.size pa pb = 0 → S (doAll (L t) (pa ++ runL true pa pb)) = R ∧ S (doAll (L t) (pb ++ runO true pa pb)) = R ∧ GoOk t.size (pa ++ runL true pa pb) ∧ GoOk t.size (pb ++ runO true pa pb) ∧ pa.length ≤ 30 ∧ pb.length ≤ 30) := by
          intro hall
          have h := meetOk_of (t := t) (by omega) HAB.out.1 HAB.out.2 HM.out.1 HANY.out (by rw [HMM.out]; exact HM.out.2) (by rw [hpa, hpb]; exact hall)
          obtain ⟨h1, h2, h3, h4⟩ := h
          rw [hpa, hpb] at h1 h2 h3 h4
          rw [HMM.out] at h1 h2
          have hl : pa.length ≤ 30 ∧ pb.length ≤ 30 := by
            have hA : okL t.size pa := hpa ▸ okL_opsL HAB.out.1
            obtain ⟨_, _, _, _, h5, h6⟩ := allRoom hall (by omega) (by omega)
            exact ⟨h5, h6⟩
          exact ⟨by rw [h1]; exact HRR.out, by rw [h2]; exact HRR.out, h3, h4, hl.1, hl.2⟩
        clear hpa hpb hoka hokb
        go_enter Try.func3, Try.ntmps3
        go_wp2_with fail
        refine (cut_any s 100 (by omega) _).mono ?_
        rintro e w1 ⟨rfl, rfl⟩
        rw [HT.out]
        have k0 := HBK.out.cell0
        rw [← HWB.out]
        go_wp2_with fail
        refine HBOK.out.mono ?_
        rintro e w2 ⟨v2, rfl, hown2, hb2⟩
        obtain ⟨A8, c8, rfl, hn8, hm8, hrd8⟩ := own_form hown2
        have HL8 : Hid (∀ W, Below w2.heap.size w2 W → Rd W w2.heap.size 3 A8 mm.length (edCells mm)) := fun W hW => hrd8.below hW
        clear hown2 hrd8
        have hB2 := bthen HB0.out hb2
        have hbk2 := HBK.out.below' hb2
        go_wp2_with fail
        refine (HWK.out _).mono ?_
        rintro e w3 ⟨rfl, hb3⟩
        have hB3 := bthen hB2 hb3
        have hbk3 := hbk2.below' hb3
        have HMF := Lib.hid (meetF_any a b A A2 m c m2 c2 w.heap.size w.heap.size w3 (H1.out w3 hB3) (H2.out w3 hB3) hB3.size hm hm2 hbk3.lt hbk3.cell0)
        rw [HANY.out] at HMF
        go_wp2_with fail
        refine HMF.out.mono ?_
        rintro e w4 ⟨rfl, hb4⟩
        have hb24 := bthen hb3 hb4
        have hB4 := bthen hB3 hb4
        have hbk4 := hbk3.below' hb4
        have hmx : c8 ≤ 9223372036854775807 := by unfold maxLen at hm8; omega
        have HAPP := Lib.hid (edApply_any t mm A8 mm.length c8 w2.heap.size w4 (HL8.out w4 hb24) hb24.size (by omega) (by omega))
        rw [HM.out.2, HAP.out] at HAPP
        clear HMF
        go_wp2_with fail
        refine HAPP.out.mono ?_
        rintro e w5 ⟨rfl, hb5⟩
        have hB5 := bthen hB4 hb5
        have hbk5 := hbk4.below' hb5
        have k5 := hbk5.cell0
        clear HAPP k0
        go_wp2_with fail
        obtain ⟨F1, hFd⟩ : ∃ F : World → Prop, F = fun w' => w'.cell? ⟨w.heap.size, 0, none⟩ = some (.slice A2 m2 c2) := ⟨_, rfl⟩
        have HF1 := Lib.hid hFd
        clear hFd
        have hcell10 : ∀ p' : Wof F1, p'.w.cell? ⟨w.heap.size, 0, none⟩ = some (.slice A2 m2 c2) := fun ⟨x, hx⟩ => by rw [HF1.out] at hx; exact hx
        refine wp_region_schedF [(0, true), (1, true), (2, true), (4, true), (3, false), (5, false), (6, false), (7, true), (8, true), (9, true), (10, true), (11, true), (12, true), (13, true)] F1 (by kernel_rfl) (by kernel_rfl) rfl (fun _ _ _ _ _ h => h) (by kernel_rfl) (by rw [HF1.out]; first | trivial | (repeat' apply And.intro) <;> assumption | (simp; done) | (simp [*]; done)) (by rw [HF1.out]; exact fun h => h) ?_
        intro hne1
        simp only [opersOf, List.getElem?_toArray, List.getElem?_cons_succ, List.getElem?_cons_zero]
        repeat (first | (refine wpSched_free rfl ?_; intro K hK; go_big_quiet_op; go_big_quiet_on) | (refine wpSched_wantS _ rfl rfl rfl ?_; intro K hK; go_big_quiet_op; go_big_quiet_on) | (refine wpSched_skipS _ rfl rfl rfl rfl ?_; simp only [Act.put, List.setIfInBounds_toArray, List.set_cons_zero, List.set_cons_succ]) | (refine wpSched_skipU _ rfl rfl rfl ?_; simp only [Act.put, List.setIfInBounds_toArray, List.set_cons_zero, List.set_cons_succ]))
        refine wpSched_other ?_
        go_wp2_with fail
        have hB5d : Below w.heap.size w w5.drew := Below.drew hB5
        refine (HOA.out _ hB5d).mono ?_
        rintro e w6 ⟨v6, rfl, hown6, hb6⟩
        obtain ⟨A6, c6, rfl, hn6, hm6, hrd6⟩ := own_form hown6
        have HA6 : Hid (∀ W, Below w6.heap.size w6 W → Rd W w6.heap.size 3 A6 pa.length (opCells pa)) := fun W hW => hrd6.below hW
        clear hown6 hrd6 hn6 hm6
        have hB6 := hB5d.trans (hb6.mono hB5.size)
        have hbk6 := Blk.below' (w := w5.drew) hbk5 hb6
        have k6 := hbk6.cell0
        go_wp2_with fail
        refine sched_back (by rw [HF1.out]; exact k6) ?_
        repeat (first | (refine wpSched_free rfl ?_; intro K hK; go_big_quiet_op; go_big_quiet_on) | (refine wpSched_wantS _ rfl rfl rfl ?_; intro K hK; go_big_quiet_op; go_big_quiet_on) | (refine wpSched_skipS _ rfl rfl rfl rfl ?_; simp only [Act.put, List.setIfInBounds_toArray, List.set_cons_zero, List.set_cons_succ]) | (refine wpSched_skipU _ rfl rfl rfl ?_; simp only [Act.put, List.setIfInBounds_toArray, List.set_cons_zero, List.set_cons_succ]))
        refine wpSched_other ?_
        go_wp2_with fail
        refine (HOB.out _ hB6).mono ?_
        rintro e w7 ⟨v7, rfl, hown7, hb7⟩
        obtain ⟨A7, c7, rfl, hn7, hm7, hrd7⟩ := own_form hown7
        have HA7 : Hid (∀ W, Below w7.heap.size w7 W → Rd W w7.heap.size 3 A7 pb.length (opCells pb)) := fun W hW => hrd7.below hW
        clear hown7 hrd7 hn7 hm7
        have hB7 := bthen hB6 hb7
        have hbk7 := hbk6.below' hb7
        have k7 := hbk7.cell0
        go_wp2_with fail
        refine sched_back (by rw [HF1.out]; exact k7) ?_
        repeat (first | (refine wpSched_free rfl ?_; intro K hK; go_big_quiet_op; go_big_quiet_on) | (refine wpSched_wantS _ rfl rfl rfl ?_; intro K hK; go_big_quiet_op; go_big_quiet_on) | (refine wpSched_skipS _ rfl rfl rfl rfl ?_; simp only [Act.put, List.setIfInBounds_toArray, List.set_cons_zero, List.set_cons_succ]) | (refine wpSched_skipU _ rfl rfl rfl ?_; simp only [Act.put, List.setIfInBounds_toArray, List.set_cons_zero, List.set_cons_succ]))
        have HSA := Lib.hid (shAll_any t.size pa pb A6 A7 pa.length c6 pb.length c7 w7.heap.size w7 ((HA6.out w7 hb7).more hb7.size) (HA7.out w7 (Below.refl _ _)) (Nat.le_refl _) (by omega) (by omega) HOKA.out HOKB.out)
        refine wpSched_other ?_
        go_wp2_with fail
        refine HSA.out.mono ?_
        rintro e w8 ⟨u8, v8, rfl, hbad8, hok8, hb8⟩
        have hB8 := bthen hB7 hb8
        have hbk8 := hbk7.below' hb8
        have k8 := hbk8.cell0
        have HOK8 := Lib.hid hok8
        clear hok8 hbad8 HSA
        go_wp2_with fail
        refine sched_back (by rw [HF1.out]; exact k8) ?_
        repeat (first | (refine wpSched_free rfl ?_; intro K hK; go_big_quiet_op; go_big_quiet_on) | (refine wpSched_wantS _ rfl rfl rfl ?_; intro K hK; go_big_quiet_op; go_big_quiet_on) | (refine wpSched_skipS _ rfl rfl rfl rfl ?_; simp only [Act.put, List.setIfInBounds_toArray, List.set_cons_zero, List.set_cons_succ]) | (refine wpSched_skipU _ rfl rfl rfl ?_; simp only [Act.put, List.setIfInBounds_toArray, List.set_cons_zero, List.set_cons_succ]))
        refine wpSched_nil ?_
        clear HF1 hcell10 hne1 k5 k6 k7
        by_cases hall : allErr t.size pa pb = 0
        · obtain ⟨hu, hv⟩ := HOK8.out hall
          obtain ⟨hm1, hm2', hgu, hgv, hl1, hl2⟩ := HMO.out hall
          rw [hall]
          obtain ⟨AU, cu, rfl, _, _, hrdu⟩ := own_form hu
          obtain ⟨AV, cv, rfl, _, _, hrdv⟩ := own_form hv
          have HU : Hid (∀ W, Below w8.heap.size w8 W → Rd W w8.heap.size 3 AU pa.length (opCells (runO true pa pb))) := fun W hW => hrdu.below hW
          have HV : Hid (∀ W, Below w8.heap.size w8 W → Rd W w8.heap.size 3 AV pb.length (opCells (runL true pa pb))) := fun W hW => hrdv.below hW
          have hrb := run_b (f := true) (a := pa) (l := pb) (fun x hx => HOKA.out.b x hx) (fun x hx => HOKB.out.b x hx)
          have HRB := Lib.hid hrb
          have hlo : (runO true pa pb).length = pa.length := runO_length _ _ _
          have hlv : (runL true pa pb).length = pb.length := runL_length _ _ _
          have HLO := Lib.hid hlo
          have HLV := Lib.hid hlv
          have HM1 := Lib.hid hm1
          have HM2 := Lib.hid hm2'
          have HGU := Lib.hid hgu
          have HGV := Lib.hid hgv
          obtain ⟨ro, hro⟩ : ∃ ro, runO true pa pb = ro := ⟨_, rfl⟩
          obtain ⟨rl, hrl⟩ : ∃ rl, runL true pa pb = rl := ⟨_, rfl⟩
          rw [hro] at HU HRB HLO HM2 HGV
          rw [hrl] at HV HRB HLV HM1 HGU
          obtain ⟨qa, hqa⟩ : ∃ qa, pa ++ rl = qa := ⟨_, rfl⟩
          obtain ⟨qb, hqb⟩ : ∃ qb, pb ++ ro = qb := ⟨_, rfl⟩
          have hqal : qa.length ≤ 60 := by rw [← hqa, List.length_append, HLV.out]; omega
          have hqbl : qb.length ≤ 60 := by rw [← hqb, List.length_append, HLO.out]; omega
          rw [hqa] at HM1 HGU
          rw [hqb] at HM2 HGV
          have HBA : Hid (∀ x ∈ qa, 0 ≤ x.b ∧ x.b < 256) := by
            rw [← hqa]
            intro x hx
            rcases List.mem_append.1 hx with hx | hx
            · exact HOKA.out.b x hx
            · exact HRB.out.2 x hx
          have HBB : Hid (∀ x ∈ qb, 0 ≤ x.b ∧ x.b < 256) := by
            rw [← hqb]
            intro x hx
            rcases List.mem_append.1 hx with hx | hx
            · exact HOKB.out.b x hx
            · exact HRB.out.1 x hx
          have HQA := Lib.hid hqa
          have HQB := Lib.hid hqb
          clear HOK8 hu hv hrdu hrdv hrb hlo hlv hm1 hm2' hgu hgv hro hrl hall HMO hqa hqb
          go_wp2_with fail
          refine (HOA.out _ hB8).mono ?_
          rintro e w9 ⟨v9, rfl, hown9, hb9⟩
          obtain ⟨A9, c9, rfl, _, _, hrd9⟩ := own_form hown9
          have hB9 := bthen hB8 hb9
          have hbk9 := hbk8.below' hb9
          have hbA : Below w9.heap.size w9 (w9.alloc (.cells #[.slice A9 pa.length c9, .slice AV pb.length cv] 35)) := (Below.refl _ _).alloc (Nat.le_refl _) _
          have hbkA := Blk.new_ w9 35 #[.slice A9 pa.length c9, .slice AV pb.length cv]
          have HCA := Lib.hid (concatOp_any pa rl A9 pa.length c9 AV pb.length cv w9.heap.size w9.heap.size (w9.alloc (.cells #[.slice A9 pa.length c9, .slice AV pb.length cv] 35)) (hrd9.below hbA) ((HV.out _ (bthen hb9 hbA)).more hb9.size) hbA.size hbkA.lt hbkA.cell0 hbkA.cell1 (by omega) (by omega))
          rw [HQA.out] at HCA
          have hB9A := bthen hB9 hbA
          have hbk9A := hbk9.below' hbA
          have hb89 := bthen hb9 hbA
          clear hown9 hrd9 hbkA hbA k8
          go_wp2_with fail
          refine HCA.out.mono ?_
          rintro e w10 ⟨v10, rfl, hown10, hb10⟩
          obtain ⟨A10, c10, rfl, _, _, hrd10⟩ := own_form hown10
          have hB10 := bthen hB9A hb10
          have hbk10 := hbk9A.below' hb10
          have hb810 := bthen hb89 hb10
          have HTY := Lib.hid (typed_any t qa A10 qa.length c10 w10.heap.size w10 hrd10 (Nat.le_refl _) (by omega) HGU.out HBA.out)
          rw [HM1.out] at HTY
          clear hown10 hrd10 HCA
          go_wp2_with fail
          refine HTY.out.mono ?_
          rintro e w11 ⟨rfl, hb11⟩
          have hB11 := bthen hB10 hb11
          have hbk11 := hbk10.below' hb11
          have hb811 := bthen hb810 hb11
          have k11 := hbk11.cell0
          clear HTY
          go_wp2_with fail
          refine (HOB.out _ hB11).mono ?_
          rintro e w12 ⟨v12, rfl, hown12, hb12⟩
          obtain ⟨A12, c12, rfl, _, _, hrd12⟩ := own_form hown12
          have hB12 := bthen hB11 hb12
          have hb812 := bthen hb811 hb12
          have hbB : Below w12.heap.size w12 (w12.alloc (.cells #[.slice A12 pb.length c12, .slice AU pa.length cu] 35)) := (Below.refl _ _).alloc (Nat.le_refl _) _
          have hbkB := Blk.new_ w12 35 #[.slice A12 pb.length c12, .slice AU pa.length cu]
          have HCB := Lib.hid (concatOp_any pb ro A12 pb.length c12 AU pa.length cu w12.heap.size w12.heap.size (w12.alloc (.cells #[.slice A12 pb.length c12, .slice AU pa.length cu] 35)) (hrd12.below hbB) ((HU.out _ (bthen hb812 hbB)).more hb812.size) hbB.size hbkB.lt hbkB.cell0 hbkB.cell1 (by omega) (by omega))
          rw [HQB.out] at HCB
          have hB12B := bthen hB12 hbB
          clear hown12 hrd12 hbkB hbB k11
          go_wp2_with fail
          refine HCB.out.mono ?_
          rintro e w13 ⟨v13, rfl, hown13, hb13⟩
          obtain ⟨A13, c13, rfl, _, _, hrd13⟩ := own_form hown13
          have hB13 := bthen hB12B hb13
          have HTZ := Lib.hid (typed_any t qb A13 qb.length c13 w13.heap.size w13 hrd13 (Nat.le_refl _) (by omega) HGV.out HBB.out)
          rw [HM2.out] at HTZ
          clear hown13 hrd13 HCB
          go_wp2_with fail
          refine HTZ.out.mono ?_
          rintro e w14 ⟨rfl, hb14⟩
          go_wp2_with fail
          go_ret
          exact ⟨ret_bool (by simp), bthen hB13 hb14⟩
        · have g1 : (allErr t.size pa pb != 0) = true := by rw [bne_iff_ne]; exact hall
          have HV2 : Hid (allErr t.size pa pb = 2 ∨ allErr t.size pa pb = 11) := by
            rcases HVAL.out with h | h
            · exact absurd h hall
            · exact h
          clear hall HVAL HMO HOK8
          generalize allErr t.size pa pb = er at *
          rcases HV2.out with rfl | rfl
          · go_wp2_with fail
            go_ret
            exact ⟨ret_bool (by simp), hB8⟩
          · go_wp2_with fail
            go_ret
            exact ⟨ret_bool (by simp), hB8⟩
    · have g1 : (bothE t.size a b != 0) = true := by rw [bne_iff_ne]; exact h0
      obtain ⟨er, her⟩ : ∃ er, bothE t.size a b = er := ⟨_, rfl⟩
      rw [her] at HBO g1
      clear h0 her
      obtain ⟨wb, hwb⟩ : ∃ wb, wb = w.alloc (.cells #[.slice A2 m2 c2] 22) := ⟨_, rfl⟩
      rw [← hwb] at HBK HB0 HBO
      have HWB := Lib.hid hwb
      clear hwb
      go_enter Try.func3, Try.ntmps3
      go_wp2_with fail
      refine (cut_any s 100 (by omega) _).mono ?_
      rintro e w1 ⟨rfl, rfl⟩
      rw [HT.out]
      have k0 := HBK.out.cell0
      rw [← HWB.out]
      go_wp2_with fail
      refine HBO.out.mono ?_
      rintro e w2 ⟨v2, rfl, _, _, hb2⟩
      have hB2 := bthen HB0.out hb2
      go_wp2_with fail
      refine (HWK.out _).mono ?_
      rintro e w3 ⟨rfl, hb3⟩
      go_wp2_with fail
      refine (HWK.out _).mono ?_
      rintro e w4 ⟨rfl, hb4⟩
      go_wp2_with fail
      go_ret
      exact ⟨rfl, bthen (bthen hB2 hb3) hb4⟩
  · have HBO := Lib.hid (bothErr_any t.size a b A A2 m c m2 c2 w.heap.size _ (H1.out _ HB0.out) (H2.out _ HB0.out) HB0.out.size hm hm2 hab)
    obtain ⟨er, her⟩ : ∃ er, bothE t.size a b = er := ⟨_, rfl⟩
    rw [her] at HBO
    clear her hab
    obtain ⟨wb, hwb⟩ : ∃ wb, wb = w.alloc (.cells #[.slice A2 m2 c2] 22) := ⟨_, rfl⟩
    rw [← hwb] at HBK HB0 HBO
    have HWB := Lib.hid hwb
    clear hwb
    go_enter Try.func3, Try.ntmps3
    go_wp2_with fail
    refine (cut_any s 100 (by omega) _).mono ?_
    rintro e w1 ⟨rfl, rfl⟩
    rw [HT.out]
    have k0 := HBK.out.cell0
    rw [← HWB.out]
    go_wp2_with fail
    refine HBO.out.mono ?_
    rintro e w2 ⟨rfl, hne, hb2⟩
    have g1 : (er != 0) = true := by rw [bne_iff_ne]; exact hne
    clear hne
    have hB2 := bthen HB0.out hb2
    go_wp2_with fail
    refine (HWK.out _).mono ?_
    rintro e w3 ⟨rfl, hb3⟩
    go_wp2_with fail
    refine (HWK.out _).mono ?_
    rintro e w4 ⟨rfl, hb4⟩
    go_wp2_with fail
    go_ret
    exact ⟨rfl, bthen (bthen hB2 hb3) hb4⟩
end Go.Proofs.Ytllcmmpepchieaa
