/- seek.Fronts. -/
import Derived.Test.YtolnhplgaolieaaDoorSeek0
import Derived.Test.YtolnhplgaolieaaDoorWord1
namespace Go.Proofs.YtolnhplgaolieaaDoor
open Go.RowKit
def zI (s : List UInt8) : List Int := (List.range s.length).map fun i => (zAt s i : Int)
theorem zI_at (s : List UInt8) {i : Nat} (h : i < s.length) : (zI s).getD i 0 = (zAt s i : Int) := by
  unfold zI
  rw [List.getD_eq_getElem?_getD, List.getElem?_map, List.getElem?_range h]; rfl
theorem ZfAt.all {s : List UInt8} {f t : Nat} {o : List Int} (h : ZfAt s s.length f t o) : o = zI s := by
  apply List.ext_getElem
  · rw [h.len]; simp [zI]
  · intro j h1 h2
    rw [h.len] at h1
    have h3 := h.done j h1
    rw [← zI_at s h1, List.getD_eq_getElem?_getD, List.getD_eq_getElem?_getD, List.getElem?_eq_getElem h2, List.getElem?_eq_getElem (by rw [h.len]; exact h1)] at h3
    exact h3
set_option maxHeartbeats 2000000 in
theorem seekFronts_large (s : ByteArray) (hs : 200 < s.size) (w : World) : Calls Tryd.prog 5 #[.string s] w fun e w' => e = .returned (.tuple #[.slice none 0 0, .int .i64 2]) ∧ Below w.heap.size w w' := by
  have HE : Hid (longErr s.size = 2) := by unfold Hid longErr; rw [if_pos hs]
  go_enter Tryd.func5, Tryd.ntmps5
  go_wp2_with fail
  refine (wordCheck_any s _).mono ?_
  rintro e w1 ⟨rfl, hb1⟩
  rw [HE.out]
  go_wp2_with fail
  go_ret2
  exact ⟨rfl, hb1⟩
set_option maxRecDepth 100000 in
set_option maxHeartbeats 8000000 in
theorem seekFronts_any (s : ByteArray) (hs : s.size ≤ 200) (w : World) :
    Calls Tryd.prog 5 #[.string s] w fun e w' => ∃ g, e = .returned (.tuple #[.slice (some ⟨g, 0, none⟩) s.size s.size, .int .i64 0]) ∧ ArrI w' w.heap.size g s.size (zI (L s)) ∧ Below w.heap.size w w' := by
  obtain ⟨i0, hi0, hz0, hz1, hz2⟩ := info_parts info_int
  have HE : Hid (longErr s.size = 0) := by unfold Hid longErr; rw [if_neg (by omega)]
  have HZ : Hid ((L s).length = s.size) := L_len s
  go_enter Tryd.func5, Tryd.ntmps5
  go_wp2_with fail
  refine (wordCheck_any s _).mono ?_
  rintro e w1 ⟨rfl, hb1⟩
  rw [HE.out]
  go_wp2_with (at_make; go_must (refine wpList_make_full _ rfl _ _ _ rfl w1.heap.size 3 i0 _ 1 Tryd.underlying22 hi0 hz0 hz1 .i64 .i64 (s.size : Int) (s.size : Int) s.size rfl rfl (by omega) (by omega) (by rw [hz2]; omega) (by unfold maxLen; omega) (Nat.le_refl _) ?_); intro w2 hown2 hg2)
  have hb2 : Below w1.heap.size w1 w2 := (Below.refl _ _).grown hg2 (Nat.le_refl _) (fun _ h => by cases h)
  have hown2 : ArrI w2 w1.heap.size w1.heap.size s.size (List.replicate s.size 0) := by
    rw [made_ints] at hown2; exact hown2
  clear hg2
  obtain ⟨g, hg⟩ : ∃ g, w1.heap.size = g := ⟨_, rfl⟩
  have hown2 : ArrI w2 w1.heap.size g s.size (List.replicate s.size 0) := by rw [← hg]; rw [← hg] at *; exact hown2
  rw [hg]
  clear hg
  have HM0 := Lib.hid (ZfAt.start (L s))
  rw [HZ.out] at HM0
  go_loopw [20, 6, 7] (fun iv fv tv wr => ∃ (i f t : Nat) (l : List Int), i ≤ s.size ∧ f ≤ s.size ∧ t ≤ s.size ∧ iv = .int .i64 (i : Int) ∧ fv = .int .i64 (f : Int) ∧ tv = .int .i64 (t : Int) ∧ ArrI wr w1.heap.size g s.size l ∧ Hid (ZfAt (L s) i f t l) ∧ Below w1.heap.size w1 wr) (fun iv _ _ _ => s.size - (intOf iv).toNat)
  case atStart => exact ⟨0, 0, 0, _, Nat.zero_le _, Nat.zero_le _, Nat.zero_le _, rfl, rfl, rfl, hown2, HM0, hb2⟩
  case round =>
    clear hown2 hb2 HM0
    obtain ⟨i, f, t, l, hi, hf, ht, rfl, rfl, rfl, hrow, HM, hb⟩ := hrel
    have hgl := hrow.lt
    have hln := hrow.len
    by_cases hlt : i < s.size
    · have g1 : decide ((i : Int) < (s.size : Int)) = true := decide_eq_true (by omega)
      have g1' : decide (i < s.size) = true := decide_eq_true hlt
      obtain ⟨wo, hwo⟩ : ∃ wo : World, wo = wr := ⟨_, rfl⟩
      subst hwo
      have HROW := Lib.hid hrow
      clear hrow
      by_cases hi1 : 0 < i
      · have g5 : decide ((0 : Int) < (i : Int)) = true := decide_eq_true (by omega)
        have g5' : decide (0 < i) = true := decide_eq_true hi1
        by_cases hit : i < t
        · have g6 : decide ((i : Int) < (t : Int)) = true := decide_eq_true (by omega)
          have g6' : decide (i < t) = true := decide_eq_true hit
          obtain ⟨hfi, hq, _, hqx, HFX⟩ := HM.out.first hi1 hit
          have HFH := Lib.hid HFX
          rw [HZ.out] at hqx
          have cz := HROW.out.at_ (k := i - f) (by omega)
          rw [hq] at cz
          generalize zAt (L s) (i - f) = z at *
          obtain ⟨b, hb9⟩ : ∃ b, b = i - f := ⟨_, rfl⟩
          rw [← hb9] at cz
          have gb : (i : Int) - (f : Int) = (b : Int) := by omega
          have hbs : b < s.size := by omega
          clear hq hb9 HFX
          go_wp2_with fail
          · have hle : t - i ≤ z := by omega
            rw [Nat.min_eq_right hle] at HFH hqx
            go_loopw [9] (fun kv wr => ∃ x m : Nat, Hid (∀ j, j < x → (L s).getD j 0 = (L s).getD (i + j) 0) ∧ i + x ≤ s.size ∧ kv = .int .i64 (x : Int) ∧ wr = wo.drewN m) (fun kv _ => s.size - (intOf kv).toNat)
            case atStart => exact ⟨t - i, 0, HFH, hqx, congrArg (Value.int .i64) (by omega), rfl⟩
            case round =>
              obtain ⟨x, m, HX, hx, rfl, rfl⟩ := hrel
              have c1 := HROW.out.at_ (k := i) hlt
              have f1 := HROW.out.free i
              generalize l.getD i 0 = u1 at c1
              by_cases hix : i + x < s.size
              · have g3 : decide ((i : Int) + (x : Int) < (s.size : Int)) = true := decide_eq_true (by omega)
                obtain ⟨a, ha⟩ : ∃ a, a = i + x := ⟨_, rfl⟩
                have has : a < s.size := by omega
                have hxs : x < s.size := by omega
                have gx : (i : Int) + (x : Int) = (a : Int) := by omega
                have g3' : decide ((a : Int) < (s.size : Int)) = true := decide_eq_true (by omega)
                have e1 := getB s x hxs
                have e2 := getB s a has
                have HA := Lib.hid ha
                clear ha
                by_cases he : s[x] = s[a]
                · have g4 : ((s[x].toNat : Int) == (s[a].toNat : Int)) = true := by rw [he]; exact beq_self_eq_true _
                  have HX2 : Hid (∀ j, j < x + 1 → (L s).getD j 0 = (L s).getD (i + j) 0) := fun j hj => by
                    rcases Nat.lt_or_ge j x with h1 | h1
                    · exact HX.out j h1
                    · obtain rfl : j = x := by omega
                      rw [← HA.out, ← e1, ← e2, he]
                  clear e1 e2 he
                  go_wp2_with fail
                  go_quiet (fail)
                  go_wp2_with fail
                  go_roundw
                  case rel => exact ⟨x + 1, _, HX2, by omega, by go_num, rfl⟩
                  case measure => simp [intOf]; omega
                · have g4 : ((s[x].toNat : Int) == (s[a].toNat : Int)) = false := by
                    rw [beq_eq_false_iff_ne]; intro h; exact he (UInt8.toNat_inj.1 (by omega))
                  have HS2 : Hid ((L s).getD x 0 ≠ (L s).getD (i + x) 0) := by unfold Hid; rw [← HA.out, ← e1, ← e2]; exact he
                  clear e1 e2 he
                  go_wp2_with fail
                  go_quiet (fail)
                  have hzk : Hid (zAt (L s) i = x) := zAt_eq (by rw [HZ.out]; omega) HX.out (.inr HS2.out)
                  have HSTEP := Lib.hid (HM.out.step (by rw [HZ.out]; exact hlt) hzk.out)
                  clear hzk HX
                  by_cases hti : t < i + x
                  · have g8 : decide ((t : Int) < (i : Int) + (x : Int)) = true := decide_eq_true (by omega)
                    have HN : Hid (ZfAt (L s) (i + 1) i (i + x) (l.set i (x : Int))) := by
                      have h := HSTEP.out
                      rw [if_pos ⟨hi1, hti⟩, if_pos ⟨hi1, hti⟩] at h
                      exact h
                    go_wp2_with fail
                    refine ⟨⟨i + 1, i, i + x, _, by omega, by omega, by omega, by go_num, by go_num, by go_num, ?_, HN, ?_⟩, by simp [intOf]; omega⟩
                    · exact (HROW.out.drewN _).set_ i _
                    · exact (below_drewN hb _).setCell (p := ⟨g, i, none⟩) hgl.1 _
                  · try (exfalso; omega)
                    all_goals
                      have g8 : decide ((t : Int) < (i : Int) + (x : Int)) = false := decide_eq_false (by omega)
                      have HN : Hid (ZfAt (L s) (i + 1) f t (l.set i (x : Int))) := by
                        have h := HSTEP.out
                        rw [if_neg (fun h => hti h.2), if_neg (fun h => hti h.2)] at h
                        exact h
                      go_wp2_with fail
                      refine ⟨⟨i + 1, f, t, _, by omega, by omega, by omega, by go_num, rfl, rfl, ?_, HN, ?_⟩, by simp [intOf]; omega⟩
                      · exact (HROW.out.drewN _).set_ i _
                      · exact (below_drewN hb _).setCell (p := ⟨g, i, none⟩) hgl.1 _
              · have g3 : decide ((i : Int) + (x : Int) < (s.size : Int)) = false := decide_eq_false (by omega)
                go_wp2_with fail
                go_quiet (fail)
                have hzk : Hid (zAt (L s) i = x) := zAt_eq (by rw [HZ.out]; omega) HX.out (.inl (by rw [HZ.out]; omega))
                have HSTEP := Lib.hid (HM.out.step (by rw [HZ.out]; exact hlt) hzk.out)
                clear hzk HX
                by_cases hti : t < i + x
                · have g8 : decide ((t : Int) < (i : Int) + (x : Int)) = true := decide_eq_true (by omega)
                  have HN : Hid (ZfAt (L s) (i + 1) i (i + x) (l.set i (x : Int))) := by
                    have h := HSTEP.out
                    rw [if_pos ⟨hi1, hti⟩, if_pos ⟨hi1, hti⟩] at h
                    exact h
                  go_wp2_with fail
                  refine ⟨⟨i + 1, i, i + x, _, by omega, by omega, by omega, by go_num, by go_num, by go_num, ?_, HN, ?_⟩, by simp [intOf]; omega⟩
                  · exact (HROW.out.drewN _).set_ i _
                  · exact (below_drewN hb _).setCell (p := ⟨g, i, none⟩) hgl.1 _
                · try (exfalso; omega)
                  all_goals
                    have g8 : decide ((t : Int) < (i : Int) + (x : Int)) = false := decide_eq_false (by omega)
                    have HN : Hid (ZfAt (L s) (i + 1) f t (l.set i (x : Int))) := by
                      have h := HSTEP.out
                      rw [if_neg (fun h => hti h.2), if_neg (fun h => hti h.2)] at h
                      exact h
                    go_wp2_with fail
                    refine ⟨⟨i + 1, f, t, _, by omega, by omega, by omega, by go_num, rfl, rfl, ?_, HN, ?_⟩, by simp [intOf]; omega⟩
                    · exact (HROW.out.drewN _).set_ i _
                    · exact (below_drewN hb _).setCell (p := ⟨g, i, none⟩) hgl.1 _
          · have hle : z ≤ t - i := by omega
            rw [Nat.min_eq_left hle] at HFH hqx
            go_loopw [9] (fun kv wr => ∃ x m : Nat, Hid (∀ j, j < x → (L s).getD j 0 = (L s).getD (i + j) 0) ∧ i + x ≤ s.size ∧ kv = .int .i64 (x : Int) ∧ wr = wo.drewN m) (fun kv _ => s.size - (intOf kv).toNat)
            case atStart => exact ⟨z, 0, HFH, hqx, rfl, rfl⟩
            case round =>
              obtain ⟨x, m, HX, hx, rfl, rfl⟩ := hrel
              have c1 := HROW.out.at_ (k := i) hlt
              have f1 := HROW.out.free i
              generalize l.getD i 0 = u1 at c1
              by_cases hix : i + x < s.size
              · have g3 : decide ((i : Int) + (x : Int) < (s.size : Int)) = true := decide_eq_true (by omega)
                obtain ⟨a, ha⟩ : ∃ a, a = i + x := ⟨_, rfl⟩
                have has : a < s.size := by omega
                have hxs : x < s.size := by omega
                have gx : (i : Int) + (x : Int) = (a : Int) := by omega
                have g3' : decide ((a : Int) < (s.size : Int)) = true := decide_eq_true (by omega)
                have e1 := getB s x hxs
                have e2 := getB s a has
                have HA := Lib.hid ha
                clear ha
                by_cases he : s[x] = s[a]
                · have g4 : ((s[x].toNat : Int) == (s[a].toNat : Int)) = true := by rw [he]; exact beq_self_eq_true _
                  have HX2 : Hid (∀ j, j < x + 1 → (L s).getD j 0 = (L s).getD (i + j) 0) := fun j hj => by
                    rcases Nat.lt_or_ge j x with h1 | h1
                    · exact HX.out j h1
                    · obtain rfl : j = x := by omega
                      rw [← HA.out, ← e1, ← e2, he]
                  clear e1 e2 he
                  go_wp2_with fail
                  go_quiet (fail)
                  go_wp2_with fail
                  go_roundw
                  case rel => exact ⟨x + 1, _, HX2, by omega, by go_num, rfl⟩
                  case measure => simp [intOf]; omega
                · have g4 : ((s[x].toNat : Int) == (s[a].toNat : Int)) = false := by
                    rw [beq_eq_false_iff_ne]; intro h; exact he (UInt8.toNat_inj.1 (by omega))
                  have HS2 : Hid ((L s).getD x 0 ≠ (L s).getD (i + x) 0) := by unfold Hid; rw [← HA.out, ← e1, ← e2]; exact he
                  clear e1 e2 he
                  go_wp2_with fail
                  go_quiet (fail)
                  have hzk : Hid (zAt (L s) i = x) := zAt_eq (by rw [HZ.out]; omega) HX.out (.inr HS2.out)
                  have HSTEP := Lib.hid (HM.out.step (by rw [HZ.out]; exact hlt) hzk.out)
                  clear hzk HX
                  by_cases hti : t < i + x
                  · have g8 : decide ((t : Int) < (i : Int) + (x : Int)) = true := decide_eq_true (by omega)
                    have HN : Hid (ZfAt (L s) (i + 1) i (i + x) (l.set i (x : Int))) := by
                      have h := HSTEP.out
                      rw [if_pos ⟨hi1, hti⟩, if_pos ⟨hi1, hti⟩] at h
                      exact h
                    go_wp2_with fail
                    refine ⟨⟨i + 1, i, i + x, _, by omega, by omega, by omega, by go_num, by go_num, by go_num, ?_, HN, ?_⟩, by simp [intOf]; omega⟩
                    · exact (HROW.out.drewN _).set_ i _
                    · exact (below_drewN hb _).setCell (p := ⟨g, i, none⟩) hgl.1 _
                  · try (exfalso; omega)
                    all_goals
                      have g8 : decide ((t : Int) < (i : Int) + (x : Int)) = false := decide_eq_false (by omega)
                      have HN : Hid (ZfAt (L s) (i + 1) f t (l.set i (x : Int))) := by
                        have h := HSTEP.out
                        rw [if_neg (fun h => hti h.2), if_neg (fun h => hti h.2)] at h
                        exact h
                      go_wp2_with fail
                      refine ⟨⟨i + 1, f, t, _, by omega, by omega, by omega, by go_num, rfl, rfl, ?_, HN, ?_⟩, by simp [intOf]; omega⟩
                      · exact (HROW.out.drewN _).set_ i _
                      · exact (below_drewN hb _).setCell (p := ⟨g, i, none⟩) hgl.1 _
              · have g3 : decide ((i : Int) + (x : Int) < (s.size : Int)) = false := decide_eq_false (by omega)
                go_wp2_with fail
                go_quiet (fail)
                have hzk : Hid (zAt (L s) i = x) := zAt_eq (by rw [HZ.out]; omega) HX.out (.inl (by rw [HZ.out]; omega))
                have HSTEP := Lib.hid (HM.out.step (by rw [HZ.out]; exact hlt) hzk.out)
                clear hzk HX
                by_cases hti : t < i + x
                · have g8 : decide ((t : Int) < (i : Int) + (x : Int)) = true := decide_eq_true (by omega)
                  have HN : Hid (ZfAt (L s) (i + 1) i (i + x) (l.set i (x : Int))) := by
                    have h := HSTEP.out
                    rw [if_pos ⟨hi1, hti⟩, if_pos ⟨hi1, hti⟩] at h
                    exact h
                  go_wp2_with fail
                  refine ⟨⟨i + 1, i, i + x, _, by omega, by omega, by omega, by go_num, by go_num, by go_num, ?_, HN, ?_⟩, by simp [intOf]; omega⟩
                  · exact (HROW.out.drewN _).set_ i _
                  · exact (below_drewN hb _).setCell (p := ⟨g, i, none⟩) hgl.1 _
                · try (exfalso; omega)
                  all_goals
                    have g8 : decide ((t : Int) < (i : Int) + (x : Int)) = false := decide_eq_false (by omega)
                    have HN : Hid (ZfAt (L s) (i + 1) f t (l.set i (x : Int))) := by
                      have h := HSTEP.out
                      rw [if_neg (fun h => hti h.2), if_neg (fun h => hti h.2)] at h
                      exact h
                    go_wp2_with fail
                    refine ⟨⟨i + 1, f, t, _, by omega, by omega, by omega, by go_num, rfl, rfl, ?_, HN, ?_⟩, by simp [intOf]; omega⟩
                    · exact (HROW.out.drewN _).set_ i _
                    · exact (below_drewN hb _).setCell (p := ⟨g, i, none⟩) hgl.1 _
        · have g6 : decide ((i : Int) < (t : Int)) = false := decide_eq_false (by omega)
          have g6' : decide (i < t) = false := decide_eq_false hit
          go_wp2_with fail
          go_loopw [9] (fun kv wr => ∃ x m : Nat, Hid (∀ j, j < x → (L s).getD j 0 = (L s).getD (i + j) 0) ∧ i + x ≤ s.size ∧ kv = .int .i64 (x : Int) ∧ wr = wo.drewN m) (fun kv _ => s.size - (intOf kv).toNat)
          case atStart => exact ⟨0, 0, Lib.hid (fun j hj => by omega), by omega, rfl, rfl⟩
          case round =>
            obtain ⟨x, m, HX, hx, rfl, rfl⟩ := hrel
            have c1 := HROW.out.at_ (k := i) hlt
            have f1 := HROW.out.free i
            generalize l.getD i 0 = u1 at c1
            by_cases hix : i + x < s.size
            · have g3 : decide ((i : Int) + (x : Int) < (s.size : Int)) = true := decide_eq_true (by omega)
              obtain ⟨a, ha⟩ : ∃ a, a = i + x := ⟨_, rfl⟩
              have has : a < s.size := by omega
              have hxs : x < s.size := by omega
              have gx : (i : Int) + (x : Int) = (a : Int) := by omega
              have g3' : decide ((a : Int) < (s.size : Int)) = true := decide_eq_true (by omega)
              have e1 := getB s x hxs
              have e2 := getB s a has
              have HA := Lib.hid ha
              clear ha
              by_cases he : s[x] = s[a]
              · have g4 : ((s[x].toNat : Int) == (s[a].toNat : Int)) = true := by rw [he]; exact beq_self_eq_true _
                have HX2 : Hid (∀ j, j < x + 1 → (L s).getD j 0 = (L s).getD (i + j) 0) := fun j hj => by
                  rcases Nat.lt_or_ge j x with h1 | h1
                  · exact HX.out j h1
                  · obtain rfl : j = x := by omega
                    rw [← HA.out, ← e1, ← e2, he]
                clear e1 e2 he
                go_wp2_with fail
                go_quiet (fail)
                go_wp2_with fail
                go_roundw
                case rel => exact ⟨x + 1, _, HX2, by omega, by go_num, rfl⟩
                case measure => simp [intOf]; omega
              · have g4 : ((s[x].toNat : Int) == (s[a].toNat : Int)) = false := by
                  rw [beq_eq_false_iff_ne]; intro h; exact he (UInt8.toNat_inj.1 (by omega))
                have HS2 : Hid ((L s).getD x 0 ≠ (L s).getD (i + x) 0) := by unfold Hid; rw [← HA.out, ← e1, ← e2]; exact he
                clear e1 e2 he
                go_wp2_with fail
                go_quiet (fail)
                have hzk : Hid (zAt (L s) i = x) := zAt_eq (by rw [HZ.out]; omega) HX.out (.inr HS2.out)
                have HSTEP := Lib.hid (HM.out.step (by rw [HZ.out]; exact hlt) hzk.out)
                clear hzk HX
                by_cases hti : t < i + x
                · have g8 : decide ((t : Int) < (i : Int) + (x : Int)) = true := decide_eq_true (by omega)
                  have HN : Hid (ZfAt (L s) (i + 1) i (i + x) (l.set i (x : Int))) := by
                    have h := HSTEP.out
                    rw [if_pos ⟨hi1, hti⟩, if_pos ⟨hi1, hti⟩] at h
                    exact h
                  go_wp2_with fail
                  refine ⟨⟨i + 1, i, i + x, _, by omega, by omega, by omega, by go_num, by go_num, by go_num, ?_, HN, ?_⟩, by simp [intOf]; omega⟩
                  · exact (HROW.out.drewN _).set_ i _
                  · exact (below_drewN hb _).setCell (p := ⟨g, i, none⟩) hgl.1 _
                · try (exfalso; omega)
                  all_goals
                    have g8 : decide ((t : Int) < (i : Int) + (x : Int)) = false := decide_eq_false (by omega)
                    have HN : Hid (ZfAt (L s) (i + 1) f t (l.set i (x : Int))) := by
                      have h := HSTEP.out
                      rw [if_neg (fun h => hti h.2), if_neg (fun h => hti h.2)] at h
                      exact h
                    go_wp2_with fail
                    refine ⟨⟨i + 1, f, t, _, by omega, by omega, by omega, by go_num, rfl, rfl, ?_, HN, ?_⟩, by simp [intOf]; omega⟩
                    · exact (HROW.out.drewN _).set_ i _
                    · exact (below_drewN hb _).setCell (p := ⟨g, i, none⟩) hgl.1 _
            · have g3 : decide ((i : Int) + (x : Int) < (s.size : Int)) = false := decide_eq_false (by omega)
              go_wp2_with fail
              go_quiet (fail)
              have hzk : Hid (zAt (L s) i = x) := zAt_eq (by rw [HZ.out]; omega) HX.out (.inl (by rw [HZ.out]; omega))
              have HSTEP := Lib.hid (HM.out.step (by rw [HZ.out]; exact hlt) hzk.out)
              clear hzk HX
              by_cases hti : t < i + x
              · have g8 : decide ((t : Int) < (i : Int) + (x : Int)) = true := decide_eq_true (by omega)
                have HN : Hid (ZfAt (L s) (i + 1) i (i + x) (l.set i (x : Int))) := by
                  have h := HSTEP.out
                  rw [if_pos ⟨hi1, hti⟩, if_pos ⟨hi1, hti⟩] at h
                  exact h
                go_wp2_with fail
                refine ⟨⟨i + 1, i, i + x, _, by omega, by omega, by omega, by go_num, by go_num, by go_num, ?_, HN, ?_⟩, by simp [intOf]; omega⟩
                · exact (HROW.out.drewN _).set_ i _
                · exact (below_drewN hb _).setCell (p := ⟨g, i, none⟩) hgl.1 _
              · try (exfalso; omega)
                all_goals
                  have g8 : decide ((t : Int) < (i : Int) + (x : Int)) = false := decide_eq_false (by omega)
                  have HN : Hid (ZfAt (L s) (i + 1) f t (l.set i (x : Int))) := by
                    have h := HSTEP.out
                    rw [if_neg (fun h => hti h.2), if_neg (fun h => hti h.2)] at h
                    exact h
                  go_wp2_with fail
                  refine ⟨⟨i + 1, f, t, _, by omega, by omega, by omega, by go_num, rfl, rfl, ?_, HN, ?_⟩, by simp [intOf]; omega⟩
                  · exact (HROW.out.drewN _).set_ i _
                  · exact (below_drewN hb _).setCell (p := ⟨g, i, none⟩) hgl.1 _
      · have g5 : decide ((0 : Int) < (i : Int)) = false := decide_eq_false (by omega)
        have g5' : decide (0 < i) = false := decide_eq_false hi1
        go_wp2_with fail
        go_loopw [9] (fun kv wr => ∃ x m : Nat, Hid (∀ j, j < x → (L s).getD j 0 = (L s).getD (i + j) 0) ∧ i + x ≤ s.size ∧ kv = .int .i64 (x : Int) ∧ wr = wo.drewN m) (fun kv _ => s.size - (intOf kv).toNat)
        case atStart => exact ⟨0, 0, Lib.hid (fun j hj => by omega), by omega, rfl, rfl⟩
        case round =>
          obtain ⟨x, m, HX, hx, rfl, rfl⟩ := hrel
          have c1 := HROW.out.at_ (k := i) hlt
          have f1 := HROW.out.free i
          generalize l.getD i 0 = u1 at c1
          by_cases hix : i + x < s.size
          · have g3 : decide ((i : Int) + (x : Int) < (s.size : Int)) = true := decide_eq_true (by omega)
            obtain ⟨a, ha⟩ : ∃ a, a = i + x := ⟨_, rfl⟩
            have has : a < s.size := by omega
            have hxs : x < s.size := by omega
            have gx : (i : Int) + (x : Int) = (a : Int) := by omega
            have g3' : decide ((a : Int) < (s.size : Int)) = true := decide_eq_true (by omega)
            have e1 := getB s x hxs
            have e2 := getB s a has
            have HA := Lib.hid ha
            clear ha
            by_cases he : s[x] = s[a]
            · have g4 : ((s[x].toNat : Int) == (s[a].toNat : Int)) = true := by rw [he]; exact beq_self_eq_true _
              have HX2 : Hid (∀ j, j < x + 1 → (L s).getD j 0 = (L s).getD (i + j) 0) := fun j hj => by
                rcases Nat.lt_or_ge j x with h1 | h1
                · exact HX.out j h1
                · obtain rfl : j = x := by omega
                  rw [← HA.out, ← e1, ← e2, he]
              clear e1 e2 he
              go_wp2_with fail
              go_quiet (fail)
              go_wp2_with fail
              go_roundw
              case rel => exact ⟨x + 1, _, HX2, by omega, by go_num, rfl⟩
              case measure => simp [intOf]; omega
            · have g4 : ((s[x].toNat : Int) == (s[a].toNat : Int)) = false := by
                rw [beq_eq_false_iff_ne]; intro h; exact he (UInt8.toNat_inj.1 (by omega))
              have HS2 : Hid ((L s).getD x 0 ≠ (L s).getD (i + x) 0) := by unfold Hid; rw [← HA.out, ← e1, ← e2]; exact he
              clear e1 e2 he
              go_wp2_with fail
              go_quiet (fail)
              have hzk : Hid (zAt (L s) i = x) := zAt_eq (by rw [HZ.out]; omega) HX.out (.inr HS2.out)
              have HSTEP := Lib.hid (HM.out.step (by rw [HZ.out]; exact hlt) hzk.out)
              clear hzk HX
              have HN : Hid (ZfAt (L s) (i + 1) f t (l.set i (x : Int))) := by
                have h := HSTEP.out
                rw [if_neg (fun h => hi1 h.1), if_neg (fun h => hi1 h.1)] at h
                exact h
              go_wp2_with fail
              refine ⟨⟨i + 1, f, t, _, by omega, by omega, by omega, by go_num, rfl, rfl, ?_, HN, ?_⟩, by simp [intOf]; omega⟩
              · exact (HROW.out.drewN _).set_ i _
              · exact (below_drewN hb _).setCell (p := ⟨g, i, none⟩) hgl.1 _
          · have g3 : decide ((i : Int) + (x : Int) < (s.size : Int)) = false := decide_eq_false (by omega)
            go_wp2_with fail
            go_quiet (fail)
            have hzk : Hid (zAt (L s) i = x) := zAt_eq (by rw [HZ.out]; omega) HX.out (.inl (by rw [HZ.out]; omega))
            have HSTEP := Lib.hid (HM.out.step (by rw [HZ.out]; exact hlt) hzk.out)
            clear hzk HX
            have HN : Hid (ZfAt (L s) (i + 1) f t (l.set i (x : Int))) := by
              have h := HSTEP.out
              rw [if_neg (fun h => hi1 h.1), if_neg (fun h => hi1 h.1)] at h
              exact h
            go_wp2_with fail
            refine ⟨⟨i + 1, f, t, _, by omega, by omega, by omega, by go_num, rfl, rfl, ?_, HN, ?_⟩, by simp [intOf]; omega⟩
            · exact (HROW.out.drewN _).set_ i _
            · exact (below_drewN hb _).setCell (p := ⟨g, i, none⟩) hgl.1 _
    · obtain rfl : i = s.size := by omega
      have g1 : decide ((s.size : Int) < (s.size : Int)) = false := decide_eq_false (by omega)
      have g1' : decide (s.size < s.size) = false := decide_eq_false hlt
      have hL : l = zI (L s) := by
        have h := HM.out
        rw [← HZ.out] at h
        exact h.all
      go_wp2_with fail
      go_ret2
      refine ⟨g, rfl, ?_, bthen hb1 hb⟩
      rw [← hL]
      exact own_lower hrow (by have := hb1.size; omega)
end Go.Proofs.YtolnhplgaolieaaDoor
