/- mirror.Arms. -/
import Derived.Test.YtmmamdjbbpeifaaMirr0
import Derived.Test.YtmmamdjbbpeifaaWord1
namespace Go.Proofs.Ytmmamdjbbpeifaa
open Go.RowKit
theorem ArrI_list {w : World} {B g n : Nat} {l l' : List Int} (h : ArrI w B g n l) (e : l = l') : ArrI w B g n l' := e ▸ h
/-- The arms of all middles. -/
noncomputable def armOf (s : List UInt8) (k : Nat) : Nat := if h : k ≤ 2 * s.length then (maxR_ex (s := s) h).choose else 0
theorem armOf_max {s : List UInt8} {k : Nat} (h : k ≤ 2 * s.length) : MaxR s k (armOf s k) := by
  unfold armOf; rw [dif_pos h]; exact (maxR_ex h).choose_spec
noncomputable def armI (s : List UInt8) : List Int := (List.range (2 * s.length + 1)).map fun k => (armOf s k : Int)
theorem armI_len (s : List UInt8) : (armI s).length = 2 * s.length + 1 := by simp [armI]
theorem armI_at (s : List UInt8) (k : Nat) (h : k ≤ 2 * s.length) : (armI s).getD k 0 = (armOf s k : Int) := by
  rw [List.getD_eq_getElem?_getD, armI, List.getElem?_map, List.getElem?_range (by omega)]; rfl
theorem MnAt.all {s : List UInt8} {o : List Int} {mid e : Nat} (h : MnAt s (2 * s.length + 1) o mid e) : o = armI s := by
  apply List.ext_getElem
  · rw [h.len, armI_len]
  · intro j h1 h2
    rw [h.len] at h1
    obtain ⟨r, hr, hm⟩ := h.done j (by omega)
    have h3 := armI_at s j (by omega)
    rw [(armOf_max (s := s) (k := j) (by omega)).uniq hm, ← hr] at h3
    rw [List.getD_eq_getElem?_getD, List.getElem?_eq_getElem h2, List.getD_eq_getElem?_getD, List.getElem?_eq_getElem (by rw [h.len]; omega)] at h3
    exact h3.symm
set_option maxRecDepth 100000 in
set_option maxHeartbeats 8000000 in
theorem mirrArms_any (s : ByteArray) (hs : s.size ≤ 200) (w : World) :
    Calls Try.prog 7 #[.string s] w fun e w' => ∃ g, e = .returned (.tuple #[.slice (some ⟨g, 0, none⟩) (2 * s.size + 1 : Nat) (2 * s.size + 1 : Nat), .int .i64 0]) ∧ ArrI w' w.heap.size g (2 * s.size + 1) (armI (L s)) ∧ Below w.heap.size w w' := by
  obtain ⟨i0, hi0, hz0, hz1, hz2⟩ := info_parts info_int
  have HE : Hid (longErr s.size = 0) := by unfold Hid longErr; rw [if_neg (by omega)]
  obtain ⟨z, hz⟩ : ∃ z, z = s.size := ⟨_, rfl⟩
  have hzL : (L s).length = z := by rw [hz]; simp [L]
  go_enter Try.func7, Try.ntmps7
  go_wp2_with fail
  refine (wordCheck_any s _).mono ?_
  rintro e w1 ⟨rfl, hb1⟩
  rw [HE.out]
  go_wp2_with (at_make; go_must (refine wpList_make_full _ rfl _ _ _ rfl w.heap.size 3 i0 _ 1 Try.underlying22 hi0 hz0 hz1 .i64 .i64 (2 * (s.size : Int) + 1) (2 * (s.size : Int) + 1) (2 * s.size + 1) rfl rfl (by omega) (by omega) (by rw [hz2]; omega) (by unfold maxLen; omega) hb1.size ?_); intro w2 hown2 hg2)
  have hb2 : Below w.heap.size w w2 := hb1.grown hg2 hb1.size (fun _ h => by cases h)
  have hgz : w.heap.size ≤ w1.heap.size := hb1.size
  have hown2 : ArrI w2 w.heap.size w1.heap.size (2 * s.size + 1) (List.replicate (2 * s.size + 1) 0) := by
    rw [made_ints] at hown2; exact hown2
  clear hg2 hb1
  generalize w1.heap.size = g at *
  have HM0 := Lib.hid (MnAt.start (L s))
  rw [hzL] at HM0
  have hL2 : List.replicate (2 * z + 1) (0 : Int) = List.replicate (2 * s.size + 1) 0 := by rw [hz]
  rw [hL2] at HM0
  go_loopw [22, 6, 7] (fun i md en wr => ∃ (k mid e : Nat) (l : List Int), k ≤ 2 * s.size + 1 ∧ mid ≤ 2 * s.size ∧ e ≤ 2 * s.size ∧ i = .int .i64 (k : Nat) ∧ md = .int .i64 (mid : Nat) ∧ en = .int .i64 (e : Nat) ∧ ArrI wr w.heap.size g (2 * s.size + 1) l ∧ Hid (MnAt (L s) k l mid e) ∧ Below w.heap.size w wr) (fun i _ _ _ => 2 * s.size + 1 - (intOf i).toNat)
  case atStart => exact ⟨0, 0, 0, _, by omega, by omega, by omega, rfl, rfl, rfl, hown2, HM0, hb2⟩
  case round =>
    clear hown2 hb2 HM0 hL2
    obtain ⟨k, mid, e, l, hk, hmid, he, rfl, rfl, rfl, hrow, HM, hb⟩ := hrel
    have hln := hrow.len
    by_cases hlt : k < 2 * s.size + 1
    · have g1 : decide ((k : Int) < 2 * (s.size : Int) + 1) = true := decide_eq_true (by omega)
      obtain ⟨wo, hwo⟩ : ∃ wo : World, wo = wr := ⟨_, rfl⟩
      subst hwo
      have HROW := Lib.hid hrow
      clear hrow
      by_cases hke : k < e
      · have g2 : decide ((k : Int) < (e : Int)) = true := decide_eq_true (by omega)
        obtain ⟨hf1, hf2, q, hq, hq2, _, HR⟩ := HM.out.first hke
        have c0 := HROW.out.at_ (k := 2 * mid - k) (by omega)
        rw [hq] at c0
        have hzz0 : (L s).length = s.size := by rw [hzL, hz]
        have l1 := HR.lo
        have l2 := HR.hi
        rw [hzz0] at l2
        go_wp2_with fail
        · have hrq : Rad (L s) k (e - k) := HR.less (by omega)
          have l3 : e - k ≤ k := by omega
          clear c0 hq HR l1 l2
          go_loopw [9] (fun q wr => ∃ x m : Nat, Hid (Rad (L s) k x) ∧ x ≤ k ∧ k + x ≤ 2 * s.size ∧ q = .int .i64 (x : Nat) ∧ wr = wo.drewN m) (fun q _ => 2 * s.size + 1 - (intOf q).toNat)
          case atStart => exact ⟨e - k,0,Lib.hid hrq,l3, by omega, congrArg (Value.int .i64) (by omega), rfl⟩
          case round =>
            obtain ⟨x, m, HX, hx1, hx2, rfl, rfl⟩ := hrel
            have hzz : (L s).length = s.size := by rw [hzL, hz]
            have f1 := HROW.out.free k
            have c1 := HROW.out.at_ (k := k) hlt
            by_cases hxk : x < k
            · have g3 : decide ((0 : Int) < (k : Int) - (x : Int)) = true := decide_eq_true (by omega)
              by_cases hxz : k + x < 2 * s.size
              · have g4 : decide ((k : Int) + (x : Int) < 2 * (s.size : Int)) = true := decide_eq_true (by omega)
                by_cases hxp : (k + x) % 2 = 1
                · have g5 : (((k : Int) + (x : Int)) % 2 == 1) = true := by rw [beq_iff_eq]; omega
                  have HX2 : Hid (Rad (L s) k (x + 1)) := HX.out.more hxk (by omega) (.inl hxp)
                  go_wp2_with fail
                  go_quiet (fail)
                  go_wp2_with fail
                  go_roundw
                  case rel => exact ⟨x + 1, m + nq, HX2, by omega, by omega, by go_num, by first | rfl | simp [World.drewN_drewN] | (rw [World.drewN_add])⟩
                  case measure => simp [intOf]; omega
                · have g5 : (((k : Int) + (x : Int)) % 2 == 1) = false := by rw [beq_eq_false_iff_ne]; omega
                  obtain ⟨a, ha⟩ : ∃ a, a = (k - x) / 2 - 1 := ⟨_, rfl⟩
                  obtain ⟨b, hb'⟩ : ∃ b, b = (k + x) / 2 := ⟨_, rfl⟩
                  have ha1 : a < s.size := by omega
                  have hb1 : b < s.size := by omega
                  have gi : ((k : Int) - (x : Int)) / 2 - 1 = (a : Int) := by omega
                  have gj : ((k : Int) + (x : Int)) / 2 = (b : Int) := by omega
                  have e1 := getB s a ha1
                  have e2 := getB s b hb1
                  have HA := Lib.hid ha
                  have HB := Lib.hid hb'
                  clear ha hb'
                  by_cases hne : s[a] = s[b]
                  · have g6 : ((s[a].toNat : Int) == (s[b].toNat : Int)) = true := by rw [eqB, decide_eq_true_iff]; exact hne
                    have HX2 : Hid (Rad (L s) k (x + 1)) := HX.out.more hxk (by omega) (.inr (by rw [← HA.out, ← HB.out, ← e1, ← e2]; exact hne))
                    clear e1 e2 hne
                    go_wp2_with fail
                    go_quiet (fail)
                    go_wp2_with fail
                    go_roundw
                    case rel => exact ⟨x + 1, m + nq, HX2, by omega, by omega, by go_num, by first | rfl | simp [World.drewN_drewN] | (rw [World.drewN_add])⟩
                    case measure => simp [intOf]; omega
                  · have g6 : ((s[a].toNat : Int) == (s[b].toNat : Int)) = false := by rw [eqB, decide_eq_false_iff_not]; exact hne
                    have HS : Hid ((k + x) % 2 = 0 ∧ (L s).getD ((k - x) / 2 - 1) 0 ≠ (L s).getD ((k + x) / 2) 0) := by
                      refine ⟨by omega, ?_⟩
                      rw [← HA.out, ← HB.out, ← e1, ← e2]; exact hne
                    clear e1 e2 hne
                    go_wp2_with fail
                    go_quiet (fail)
                    go_wp2_with fail
                    all_goals (rename_i hcmp; have hmx : MaxR (L s) k x := MaxR.of_stop HX.out (.inr (.inr HS.out)); have hstp := HM.out.step (by omega) hmx)
                    · rw [if_pos (show e < k + x by omega), if_pos (show e < k + x by omega)] at hstp
                      refine ⟨⟨k + 1, k, k + x, l.set k (x : Int), by omega, by omega, by omega, by go_num, rfl, by go_num, ?_, Lib.hid hstp, ?_⟩, by simp [intOf]; omega⟩
                      · exact (HROW.out.drewN _).set_ k _
                      · exact (by repeat (first | exact Below.refl _ _ | assumption | refine Below.alloc ?_ (by first | exact Nat.le_refl _ | assumption | omega | (simp <;> omega)) _ | refine Below.setCell ?_ (by first | exact Nat.le_refl _ | assumption | omega | (simp <;> omega)) _ | refine Below.drew ?_ | refine below_drewN ?_ _))
                    · rw [if_neg (show ¬ e < k + x by omega), if_neg (show ¬ e < k + x by omega)] at hstp
                      refine ⟨⟨k + 1, mid, e, l.set k (x : Int), by omega, by omega, by omega, by go_num, rfl, rfl, ?_, Lib.hid hstp, ?_⟩, by simp [intOf]; omega⟩
                      · exact (HROW.out.drewN _).set_ k _
                      · exact (by repeat (first | exact Below.refl _ _ | assumption | refine Below.alloc ?_ (by first | exact Nat.le_refl _ | assumption | omega | (simp <;> omega)) _ | refine Below.setCell ?_ (by first | exact Nat.le_refl _ | assumption | omega | (simp <;> omega)) _ | refine Below.drew ?_ | refine below_drewN ?_ _))
              · have g4 : decide ((k : Int) + (x : Int) < 2 * (s.size : Int)) = false := decide_eq_false (by omega)
                go_wp2_with fail
                go_quiet (fail)
                go_wp2_with fail
                all_goals (rename_i hcmp; have hmx : MaxR (L s) k x := MaxR.of_stop HX.out (.inr (.inl (by omega))); have hstp := HM.out.step (by omega) hmx)
                · rw [if_pos (show e < k + x by omega), if_pos (show e < k + x by omega)] at hstp
                  refine ⟨⟨k + 1, k, k + x, l.set k (x : Int), by omega, by omega, by omega, by go_num, rfl, by go_num, ?_, Lib.hid hstp, ?_⟩, by simp [intOf]; omega⟩
                  · exact (HROW.out.drewN _).set_ k _
                  · exact (by repeat (first | exact Below.refl _ _ | assumption | refine Below.alloc ?_ (by first | exact Nat.le_refl _ | assumption | omega | (simp <;> omega)) _ | refine Below.setCell ?_ (by first | exact Nat.le_refl _ | assumption | omega | (simp <;> omega)) _ | refine Below.drew ?_ | refine below_drewN ?_ _))
                · rw [if_neg (show ¬ e < k + x by omega), if_neg (show ¬ e < k + x by omega)] at hstp
                  refine ⟨⟨k + 1, mid, e, l.set k (x : Int), by omega, by omega, by omega, by go_num, rfl, rfl, ?_, Lib.hid hstp, ?_⟩, by simp [intOf]; omega⟩
                  · exact (HROW.out.drewN _).set_ k _
                  · exact (by repeat (first | exact Below.refl _ _ | assumption | refine Below.alloc ?_ (by first | exact Nat.le_refl _ | assumption | omega | (simp <;> omega)) _ | refine Below.setCell ?_ (by first | exact Nat.le_refl _ | assumption | omega | (simp <;> omega)) _ | refine Below.drew ?_ | refine below_drewN ?_ _))
            · have g3 : decide ((0 : Int) < (k : Int) - (x : Int)) = false := decide_eq_false (by omega)
              go_wp2_with fail
              go_quiet (fail)
              go_wp2_with fail
              all_goals (rename_i hcmp; have hmx : MaxR (L s) k x := MaxR.of_stop HX.out (.inl (by omega)); have hstp := HM.out.step (by omega) hmx)
              · rw [if_pos (show e < k + x by omega), if_pos (show e < k + x by omega)] at hstp
                refine ⟨⟨k + 1, k, k + x, l.set k (x : Int), by omega, by omega, by omega, by go_num, rfl, by go_num, ?_, Lib.hid hstp, ?_⟩, by simp [intOf]; omega⟩
                · exact (HROW.out.drewN _).set_ k _
                · exact (by repeat (first | exact Below.refl _ _ | assumption | refine Below.alloc ?_ (by first | exact Nat.le_refl _ | assumption | omega | (simp <;> omega)) _ | refine Below.setCell ?_ (by first | exact Nat.le_refl _ | assumption | omega | (simp <;> omega)) _ | refine Below.drew ?_ | refine below_drewN ?_ _))
              · rw [if_neg (show ¬ e < k + x by omega), if_neg (show ¬ e < k + x by omega)] at hstp
                refine ⟨⟨k + 1, mid, e, l.set k (x : Int), by omega, by omega, by omega, by go_num, rfl, rfl, ?_, Lib.hid hstp, ?_⟩, by simp [intOf]; omega⟩
                · exact (HROW.out.drewN _).set_ k _
                · exact (by repeat (first | exact Below.refl _ _ | assumption | refine Below.alloc ?_ (by first | exact Nat.le_refl _ | assumption | omega | (simp <;> omega)) _ | refine Below.setCell ?_ (by first | exact Nat.le_refl _ | assumption | omega | (simp <;> omega)) _ | refine Below.drew ?_ | refine below_drewN ?_ _))
        · have hrq : Rad (L s) k q := HR.less (by omega)
          have l3 : q ≤ k := by omega
          have l4 : k + q ≤ 2 * s.size := by omega
          clear c0 hq HR l1 l2
          go_loopw [9] (fun q wr => ∃ x m : Nat, Hid (Rad (L s) k x) ∧ x ≤ k ∧ k + x ≤ 2 * s.size ∧ q = .int .i64 (x : Nat) ∧ wr = wo.drewN m) (fun q _ => 2 * s.size + 1 - (intOf q).toNat)
          case atStart => exact ⟨q,0,Lib.hid hrq,l3,l4,rfl, rfl⟩
          case round =>
            obtain ⟨x, m, HX, hx1, hx2, rfl, rfl⟩ := hrel
            have hzz : (L s).length = s.size := by rw [hzL, hz]
            have f1 := HROW.out.free k
            have c1 := HROW.out.at_ (k := k) hlt
            by_cases hxk : x < k
            · have g3 : decide ((0 : Int) < (k : Int) - (x : Int)) = true := decide_eq_true (by omega)
              by_cases hxz : k + x < 2 * s.size
              · have g4 : decide ((k : Int) + (x : Int) < 2 * (s.size : Int)) = true := decide_eq_true (by omega)
                by_cases hxp : (k + x) % 2 = 1
                · have g5 : (((k : Int) + (x : Int)) % 2 == 1) = true := by rw [beq_iff_eq]; omega
                  have HX2 : Hid (Rad (L s) k (x + 1)) := HX.out.more hxk (by omega) (.inl hxp)
                  go_wp2_with fail
                  go_quiet (fail)
                  go_wp2_with fail
                  go_roundw
                  case rel => exact ⟨x + 1, m + nq, HX2, by omega, by omega, by go_num, by first | rfl | simp [World.drewN_drewN] | (rw [World.drewN_add])⟩
                  case measure => simp [intOf]; omega
                · have g5 : (((k : Int) + (x : Int)) % 2 == 1) = false := by rw [beq_eq_false_iff_ne]; omega
                  obtain ⟨a, ha⟩ : ∃ a, a = (k - x) / 2 - 1 := ⟨_, rfl⟩
                  obtain ⟨b, hb'⟩ : ∃ b, b = (k + x) / 2 := ⟨_, rfl⟩
                  have ha1 : a < s.size := by omega
                  have hb1 : b < s.size := by omega
                  have gi : ((k : Int) - (x : Int)) / 2 - 1 = (a : Int) := by omega
                  have gj : ((k : Int) + (x : Int)) / 2 = (b : Int) := by omega
                  have e1 := getB s a ha1
                  have e2 := getB s b hb1
                  have HA := Lib.hid ha
                  have HB := Lib.hid hb'
                  clear ha hb'
                  by_cases hne : s[a] = s[b]
                  · have g6 : ((s[a].toNat : Int) == (s[b].toNat : Int)) = true := by rw [eqB, decide_eq_true_iff]; exact hne
                    have HX2 : Hid (Rad (L s) k (x + 1)) := HX.out.more hxk (by omega) (.inr (by rw [← HA.out, ← HB.out, ← e1, ← e2]; exact hne))
                    clear e1 e2 hne
                    go_wp2_with fail
                    go_quiet (fail)
                    go_wp2_with fail
                    go_roundw
                    case rel => exact ⟨x + 1, m + nq, HX2, by omega, by omega, by go_num, by first | rfl | simp [World.drewN_drewN] | (rw [World.drewN_add])⟩
                    case measure => simp [intOf]; omega
                  · have g6 : ((s[a].toNat : Int) == (s[b].toNat : Int)) = false := by rw [eqB, decide_eq_false_iff_not]; exact hne
                    have HS : Hid ((k + x) % 2 = 0 ∧ (L s).getD ((k - x) / 2 - 1) 0 ≠ (L s).getD ((k + x) / 2) 0) := by
                      refine ⟨by omega, ?_⟩
                      rw [← HA.out, ← HB.out, ← e1, ← e2]; exact hne
                    clear e1 e2 hne
                    go_wp2_with fail
                    go_quiet (fail)
                    go_wp2_with fail
                    all_goals (rename_i hcmp; have hmx : MaxR (L s) k x := MaxR.of_stop HX.out (.inr (.inr HS.out)); have hstp := HM.out.step (by omega) hmx)
                    · rw [if_pos (show e < k + x by omega), if_pos (show e < k + x by omega)] at hstp
                      refine ⟨⟨k + 1, k, k + x, l.set k (x : Int), by omega, by omega, by omega, by go_num, rfl, by go_num, ?_, Lib.hid hstp, ?_⟩, by simp [intOf]; omega⟩
                      · exact (HROW.out.drewN _).set_ k _
                      · exact (by repeat (first | exact Below.refl _ _ | assumption | refine Below.alloc ?_ (by first | exact Nat.le_refl _ | assumption | omega | (simp <;> omega)) _ | refine Below.setCell ?_ (by first | exact Nat.le_refl _ | assumption | omega | (simp <;> omega)) _ | refine Below.drew ?_ | refine below_drewN ?_ _))
                    · rw [if_neg (show ¬ e < k + x by omega), if_neg (show ¬ e < k + x by omega)] at hstp
                      refine ⟨⟨k + 1, mid, e, l.set k (x : Int), by omega, by omega, by omega, by go_num, rfl, rfl, ?_, Lib.hid hstp, ?_⟩, by simp [intOf]; omega⟩
                      · exact (HROW.out.drewN _).set_ k _
                      · exact (by repeat (first | exact Below.refl _ _ | assumption | refine Below.alloc ?_ (by first | exact Nat.le_refl _ | assumption | omega | (simp <;> omega)) _ | refine Below.setCell ?_ (by first | exact Nat.le_refl _ | assumption | omega | (simp <;> omega)) _ | refine Below.drew ?_ | refine below_drewN ?_ _))
              · have g4 : decide ((k : Int) + (x : Int) < 2 * (s.size : Int)) = false := decide_eq_false (by omega)
                go_wp2_with fail
                go_quiet (fail)
                go_wp2_with fail
                all_goals (rename_i hcmp; have hmx : MaxR (L s) k x := MaxR.of_stop HX.out (.inr (.inl (by omega))); have hstp := HM.out.step (by omega) hmx)
                · rw [if_pos (show e < k + x by omega), if_pos (show e < k + x by omega)] at hstp
                  refine ⟨⟨k + 1, k, k + x, l.set k (x : Int), by omega, by omega, by omega, by go_num, rfl, by go_num, ?_, Lib.hid hstp, ?_⟩, by simp [intOf]; omega⟩
                  · exact (HROW.out.drewN _).set_ k _
                  · exact (by repeat (first | exact Below.refl _ _ | assumption | refine Below.alloc ?_ (by first | exact Nat.le_refl _ | assumption | omega | (simp <;> omega)) _ | refine Below.setCell ?_ (by first | exact Nat.le_refl _ | assumption | omega | (simp <;> omega)) _ | refine Below.drew ?_ | refine below_drewN ?_ _))
                · rw [if_neg (show ¬ e < k + x by omega), if_neg (show ¬ e < k + x by omega)] at hstp
                  refine ⟨⟨k + 1, mid, e, l.set k (x : Int), by omega, by omega, by omega, by go_num, rfl, rfl, ?_, Lib.hid hstp, ?_⟩, by simp [intOf]; omega⟩
                  · exact (HROW.out.drewN _).set_ k _
                  · exact (by repeat (first | exact Below.refl _ _ | assumption | refine Below.alloc ?_ (by first | exact Nat.le_refl _ | assumption | omega | (simp <;> omega)) _ | refine Below.setCell ?_ (by first | exact Nat.le_refl _ | assumption | omega | (simp <;> omega)) _ | refine Below.drew ?_ | refine below_drewN ?_ _))
            · have g3 : decide ((0 : Int) < (k : Int) - (x : Int)) = false := decide_eq_false (by omega)
              go_wp2_with fail
              go_quiet (fail)
              go_wp2_with fail
              all_goals (rename_i hcmp; have hmx : MaxR (L s) k x := MaxR.of_stop HX.out (.inl (by omega)); have hstp := HM.out.step (by omega) hmx)
              · rw [if_pos (show e < k + x by omega), if_pos (show e < k + x by omega)] at hstp
                refine ⟨⟨k + 1, k, k + x, l.set k (x : Int), by omega, by omega, by omega, by go_num, rfl, by go_num, ?_, Lib.hid hstp, ?_⟩, by simp [intOf]; omega⟩
                · exact (HROW.out.drewN _).set_ k _
                · exact (by repeat (first | exact Below.refl _ _ | assumption | refine Below.alloc ?_ (by first | exact Nat.le_refl _ | assumption | omega | (simp <;> omega)) _ | refine Below.setCell ?_ (by first | exact Nat.le_refl _ | assumption | omega | (simp <;> omega)) _ | refine Below.drew ?_ | refine below_drewN ?_ _))
              · rw [if_neg (show ¬ e < k + x by omega), if_neg (show ¬ e < k + x by omega)] at hstp
                refine ⟨⟨k + 1, mid, e, l.set k (x : Int), by omega, by omega, by omega, by go_num, rfl, rfl, ?_, Lib.hid hstp, ?_⟩, by simp [intOf]; omega⟩
                · exact (HROW.out.drewN _).set_ k _
                · exact (by repeat (first | exact Below.refl _ _ | assumption | refine Below.alloc ?_ (by first | exact Nat.le_refl _ | assumption | omega | (simp <;> omega)) _ | refine Below.setCell ?_ (by first | exact Nat.le_refl _ | assumption | omega | (simp <;> omega)) _ | refine Below.drew ?_ | refine below_drewN ?_ _))
      · have g2 : decide ((k : Int) < (e : Int)) = false := decide_eq_false (by omega)
        go_wp2_with fail
        go_loopw [9] (fun q wr => ∃ x m : Nat, Hid (Rad (L s) k x) ∧ x ≤ k ∧ k + x ≤ 2 * s.size ∧ q = .int .i64 (x : Nat) ∧ wr = wo.drewN m) (fun q _ => 2 * s.size + 1 - (intOf q).toNat)
        case atStart => exact ⟨0,0,Lib.hid (Rad.zero (by rw [hzL, hz]; omega)),Nat.zero_le _, by omega, rfl, rfl⟩
        case round =>
          obtain ⟨x, m, HX, hx1, hx2, rfl, rfl⟩ := hrel
          have hzz : (L s).length = s.size := by rw [hzL, hz]
          have f1 := HROW.out.free k
          have c1 := HROW.out.at_ (k := k) hlt
          by_cases hxk : x < k
          · have g3 : decide ((0 : Int) < (k : Int) - (x : Int)) = true := decide_eq_true (by omega)
            by_cases hxz : k + x < 2 * s.size
            · have g4 : decide ((k : Int) + (x : Int) < 2 * (s.size : Int)) = true := decide_eq_true (by omega)
              by_cases hxp : (k + x) % 2 = 1
              · have g5 : (((k : Int) + (x : Int)) % 2 == 1) = true := by rw [beq_iff_eq]; omega
                have HX2 : Hid (Rad (L s) k (x + 1)) := HX.out.more hxk (by omega) (.inl hxp)
                go_wp2_with fail
                go_quiet (fail)
                go_wp2_with fail
                go_roundw
                case rel => exact ⟨x + 1, m + nq, HX2, by omega, by omega, by go_num, by first | rfl | simp [World.drewN_drewN] | (rw [World.drewN_add])⟩
                case measure => simp [intOf]; omega
              · have g5 : (((k : Int) + (x : Int)) % 2 == 1) = false := by rw [beq_eq_false_iff_ne]; omega
                obtain ⟨a, ha⟩ : ∃ a, a = (k - x) / 2 - 1 := ⟨_, rfl⟩
                obtain ⟨b, hb'⟩ : ∃ b, b = (k + x) / 2 := ⟨_, rfl⟩
                have ha1 : a < s.size := by omega
                have hb1 : b < s.size := by omega
                have gi : ((k : Int) - (x : Int)) / 2 - 1 = (a : Int) := by omega
                have gj : ((k : Int) + (x : Int)) / 2 = (b : Int) := by omega
                have e1 := getB s a ha1
                have e2 := getB s b hb1
                have HA := Lib.hid ha
                have HB := Lib.hid hb'
                clear ha hb'
                by_cases hne : s[a] = s[b]
                · have g6 : ((s[a].toNat : Int) == (s[b].toNat : Int)) = true := by rw [eqB, decide_eq_true_iff]; exact hne
                  have HX2 : Hid (Rad (L s) k (x + 1)) := HX.out.more hxk (by omega) (.inr (by rw [← HA.out, ← HB.out, ← e1, ← e2]; exact hne))
                  clear e1 e2 hne
                  go_wp2_with fail
                  go_quiet (fail)
                  go_wp2_with fail
                  go_roundw
                  case rel => exact ⟨x + 1, m + nq, HX2, by omega, by omega, by go_num, by first | rfl | simp [World.drewN_drewN] | (rw [World.drewN_add])⟩
                  case measure => simp [intOf]; omega
                · have g6 : ((s[a].toNat : Int) == (s[b].toNat : Int)) = false := by rw [eqB, decide_eq_false_iff_not]; exact hne
                  have HS : Hid ((k + x) % 2 = 0 ∧ (L s).getD ((k - x) / 2 - 1) 0 ≠ (L s).getD ((k + x) / 2) 0) := by
                    refine ⟨by omega, ?_⟩
                    rw [← HA.out, ← HB.out, ← e1, ← e2]; exact hne
                  clear e1 e2 hne
                  go_wp2_with fail
                  go_quiet (fail)
                  go_wp2_with fail
                  all_goals (rename_i hcmp; have hmx : MaxR (L s) k x := MaxR.of_stop HX.out (.inr (.inr HS.out)); have hstp := HM.out.step (by omega) hmx)
                  · rw [if_pos (show e < k + x by omega), if_pos (show e < k + x by omega)] at hstp
                    refine ⟨⟨k + 1, k, k + x, l.set k (x : Int), by omega, by omega, by omega, by go_num, rfl, by go_num, ?_, Lib.hid hstp, ?_⟩, by simp [intOf]; omega⟩
                    · exact (HROW.out.drewN _).set_ k _
                    · exact (by repeat (first | exact Below.refl _ _ | assumption | refine Below.alloc ?_ (by first | exact Nat.le_refl _ | assumption | omega | (simp <;> omega)) _ | refine Below.setCell ?_ (by first | exact Nat.le_refl _ | assumption | omega | (simp <;> omega)) _ | refine Below.drew ?_ | refine below_drewN ?_ _))
                  · rw [if_neg (show ¬ e < k + x by omega), if_neg (show ¬ e < k + x by omega)] at hstp
                    refine ⟨⟨k + 1, mid, e, l.set k (x : Int), by omega, by omega, by omega, by go_num, rfl, rfl, ?_, Lib.hid hstp, ?_⟩, by simp [intOf]; omega⟩
                    · exact (HROW.out.drewN _).set_ k _
                    · exact (by repeat (first | exact Below.refl _ _ | assumption | refine Below.alloc ?_ (by first | exact Nat.le_refl _ | assumption | omega | (simp <;> omega)) _ | refine Below.setCell ?_ (by first | exact Nat.le_refl _ | assumption | omega | (simp <;> omega)) _ | refine Below.drew ?_ | refine below_drewN ?_ _))
            · have g4 : decide ((k : Int) + (x : Int) < 2 * (s.size : Int)) = false := decide_eq_false (by omega)
              go_wp2_with fail
              go_quiet (fail)
              go_wp2_with fail
              all_goals (rename_i hcmp; have hmx : MaxR (L s) k x := MaxR.of_stop HX.out (.inr (.inl (by omega))); have hstp := HM.out.step (by omega) hmx)
              · rw [if_pos (show e < k + x by omega), if_pos (show e < k + x by omega)] at hstp
                refine ⟨⟨k + 1, k, k + x, l.set k (x : Int), by omega, by omega, by omega, by go_num, rfl, by go_num, ?_, Lib.hid hstp, ?_⟩, by simp [intOf]; omega⟩
                · exact (HROW.out.drewN _).set_ k _
                · exact (by repeat (first | exact Below.refl _ _ | assumption | refine Below.alloc ?_ (by first | exact Nat.le_refl _ | assumption | omega | (simp <;> omega)) _ | refine Below.setCell ?_ (by first | exact Nat.le_refl _ | assumption | omega | (simp <;> omega)) _ | refine Below.drew ?_ | refine below_drewN ?_ _))
              · rw [if_neg (show ¬ e < k + x by omega), if_neg (show ¬ e < k + x by omega)] at hstp
                refine ⟨⟨k + 1, mid, e, l.set k (x : Int), by omega, by omega, by omega, by go_num, rfl, rfl, ?_, Lib.hid hstp, ?_⟩, by simp [intOf]; omega⟩
                · exact (HROW.out.drewN _).set_ k _
                · exact (by repeat (first | exact Below.refl _ _ | assumption | refine Below.alloc ?_ (by first | exact Nat.le_refl _ | assumption | omega | (simp <;> omega)) _ | refine Below.setCell ?_ (by first | exact Nat.le_refl _ | assumption | omega | (simp <;> omega)) _ | refine Below.drew ?_ | refine below_drewN ?_ _))
          · have g3 : decide ((0 : Int) < (k : Int) - (x : Int)) = false := decide_eq_false (by omega)
            go_wp2_with fail
            go_quiet (fail)
            go_wp2_with fail
            all_goals (rename_i hcmp; have hmx : MaxR (L s) k x := MaxR.of_stop HX.out (.inl (by omega)); have hstp := HM.out.step (by omega) hmx)
            · rw [if_pos (show e < k + x by omega), if_pos (show e < k + x by omega)] at hstp
              refine ⟨⟨k + 1, k, k + x, l.set k (x : Int), by omega, by omega, by omega, by go_num, rfl, by go_num, ?_, Lib.hid hstp, ?_⟩, by simp [intOf]; omega⟩
              · exact (HROW.out.drewN _).set_ k _
              · exact (by repeat (first | exact Below.refl _ _ | assumption | refine Below.alloc ?_ (by first | exact Nat.le_refl _ | assumption | omega | (simp <;> omega)) _ | refine Below.setCell ?_ (by first | exact Nat.le_refl _ | assumption | omega | (simp <;> omega)) _ | refine Below.drew ?_ | refine below_drewN ?_ _))
            · rw [if_neg (show ¬ e < k + x by omega), if_neg (show ¬ e < k + x by omega)] at hstp
              refine ⟨⟨k + 1, mid, e, l.set k (x : Int), by omega, by omega, by omega, by go_num, rfl, rfl, ?_, Lib.hid hstp, ?_⟩, by simp [intOf]; omega⟩
              · exact (HROW.out.drewN _).set_ k _
              · exact (by repeat (first | exact Below.refl _ _ | assumption | refine Below.alloc ?_ (by first | exact Nat.le_refl _ | assumption | omega | (simp <;> omega)) _ | refine Below.setCell ?_ (by first | exact Nat.le_refl _ | assumption | omega | (simp <;> omega)) _ | refine Below.drew ?_ | refine below_drewN ?_ _))
    · have g1 : decide ((k : Int) < 2 * (s.size : Int) + 1) = false := decide_eq_false (by omega)
      go_wp2_with fail
      go_ret2
      refine ⟨g, rfl, ?_, hb⟩
      obtain rfl : k = 2 * s.size + 1 := by omega
      have : l = armI (L s) := by
        refine MnAt.all (mid := mid) (e := e) ?_
        rw [hzL, hz]; exact HM.out
      rw [← this]; exact hrow
end Go.Proofs.Ytmmamdjbbpeifaa
