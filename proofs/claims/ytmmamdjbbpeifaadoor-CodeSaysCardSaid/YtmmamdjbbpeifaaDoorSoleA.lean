/- The recursive closure of the document's SoleCode. -/
import Derived.Test.YtmmamdjbbpeifaaDoorSole1
import Derived.Test.YtmmamdjbbpeifaaDoorMapSI
import Derived.Test.YtmmamdjbbpeifaaDoorSched
import Derived.Test.YtmmamdjbbpeifaaDoorBlk
import Derived.Test.YtmmamdjbbpeifaaDoorCdpB
namespace Go.Proofs.YtmmamdjbbpeifaaDoor
open Go.RowKit Go.Maps
/-- The three boxes of the closure, and the words. -/
structure So (w : World) (B bm bl bf M : Nat) (A : Option Addr) (n c : Nat) (l : List (List UInt8)) : Prop where
  c1 : w.cell? ⟨bm, 0, none⟩ = some (.map (some M))
  c2 : w.cell? ⟨bl, 0, none⟩ = some (.slice A n c)
  c3 : w.cell? ⟨bf, 0, none⟩ = some (.func (.func 42) #[] #[.pointer (some ⟨bm, 0, none⟩), .pointer (some ⟨bl, 0, none⟩), .pointer (some ⟨bf, 0, none⟩)])
  n1 : bm ≠ M
  n2 : bl ≠ M
  n3 : bf ≠ M
  hr : Rd w B 1 A n (strCells l)
  hB : B ≤ M
  hw : B ≤ w.heap.size
theorem So.grown {w w' : World} {B bm bl bf M n c : Nat} {A : Option Addr} {l : List (List UInt8)} (h : So w B bm bl bf M A n c l) (hg : w.grownBy w' (some M)) : So w' B bm bl bf M A n c l :=
  ⟨World.grownBy.cell (a := ⟨bm, 0, none⟩) hg h.c1 (fun e => h.n1 (by injection e)), World.grownBy.cell (a := ⟨bl, 0, none⟩) hg h.c2 (fun e => h.n2 (by injection e)), World.grownBy.cell (a := ⟨bf, 0, none⟩) hg h.c3 (fun e => h.n3 (by injection e)),
    h.n1, h.n2, h.n3, h.hr.below ((Below.refl B w).grown hg h.hw (fun k hk => by cases hk; exact h.hB)), h.hB, Nat.le_trans h.hw hg.size⟩
theorem vis_of {f : List UInt8 → Option Int} {s : List UInt8} (h : vis f s = true) : ∃ v, f s = some v := by
  unfold vis at h
  exact Option.isSome_iff_exists.1 h
theorem vis_none {f : List UInt8 → Option Int} {s : List UInt8} (h : vis f s = false) : f s = none := by
  unfold vis at h
  exact Option.not_isSome_iff_eq_none.1 (by rw [h]; decide)
def CloPost (w : World) (l : List (List UInt8)) (f : List UInt8 → Option Int) (m M : Nat) (s : List UInt8) (b : Bool) (w' : World) : Prop :=
  w.grownBy w' (some M) ∧ ((b = true ∧ Left l []) ∨ (b = false ∧ ∃ f' m', MapSI w' M m' f' ∧ Vok f' m' ∧ Grow l f f' ∧ phi l f' m' ≤ phi l f m + 1 ∧ vis f' s = true))
set_option maxRecDepth 100000 in
set_option maxHeartbeats 16000000 in
theorem clo_any (B bm bl bf M : Nat) (A : Option Addr) (n c : Nat) (l : List (List UInt8)) (hco : Cod l) (hn : n ≤ c) (d : Nat) : ∀ (f : List UInt8 → Option Int) (m : Nat) (s : ByteArray) (w : World), unv l (vis f) ≤ d → So w B bm bl bf M A n c l → MapSI w M m f → Vok f m → phi l f m ≤ 10000 → Left l (L s) →
    Calls Tryd.prog 42 #[.string s, .pointer (some ⟨bm, 0, none⟩), .pointer (some ⟨bl, 0, none⟩), .pointer (some ⟨bf, 0, none⟩)] w fun e w' => ∃ b, e = .returned (.bool b) ∧ CloPost w l f m M (L s) b w' := by
  induction d using Nat.strongRecOn with
  | _ d ih =>
  intro f m s w hd hso hmap hok hph hlf
  have IH := Lib.hid ih
  have HSO := Lib.hid hso
  have HM := Lib.hid hmap
  have HOK := Lib.hid hok
  have HLF := Lib.hid hlf
  have HCO := Lib.hid hco
  have hun := left_uni hco hlf
  have HUN := Lib.hid hun
  have hln : l.length = n := by have := hso.hr.1; simpa [strCells] using this
  have HLN := Lib.hid hln
  have hn12 := hco.len
  have hs12 : s.size ≤ 12 := by
    obtain ⟨i, k, hi, _, e⟩ := uni_mem.1 hun
    have h1 := hco.le i hi
    have h2 := congrArg List.length e
    rw [L_len, List.length_drop] at h2; omega
  have hm10 : m ≤ 10000 := by unfold phi at hph; omega
  have HPH := Lib.hid hph
  have c1 := hso.c1
  have c2 := hso.c2
  clear ih hso hmap hok hlf hco hun hln hph
  go_enter Tryd.func42, Tryd.ntmps42
  by_cases hs0 : s.size = 0
  · obtain ⟨z1, z2⟩ := (emp_facts s).1 hs0
    have HV : Hid (Left l []) := by
      have h : L s = [] := List.eq_nil_of_length_eq_zero (by rw [L_len]; exact hs0)
      have := HLF.out
      rw [h] at this; exact this
    go_wp2_with fail
    go_ret
    exact ⟨true, rfl, gb_refl _ _, .inl ⟨rfl, HV.out⟩⟩
  · obtain ⟨z1, z2⟩ := (emp_facts s).2 hs0
    have HSN : Hid (L s ≠ []) := fun h => hs0 (by rw [← L_len, h]; rfl)
    have hk1 := HM.out.look s (by unfold maxLen; omega)
    cases hv : vis f (L s) with
    | true =>
      obtain ⟨v, hfv⟩ := vis_of hv
      obtain ⟨v1, v2⟩ := HOK.out.val _ _ hfv
      rw [hfv, Option.getD_some] at hk1
      have HAG := Lib.hid (again (l := l) (n := m) (v := v + 1) hv)
      have HOK2 := Lib.hid (HOK.out.put HSN.out (v := v + 1) (by omega) (by omega))
      have g1 : decide ((1 : Int) < v + 1) = true := decide_eq_true (by omega)
      clear hv hfv
      go_wp2_with (at_mapUpdate; go_must (refine MapSI.store HM.out (by unfold maxLen; omega) s (by unfold maxLen; omega) (v + 1) (WalkArith.wf_i64 (by omega)) rfl _ _ _ rfl rfl rfl rfl ?_); intro w7 hm7 hg7; have c1' := (HSO.out.grown hg7).c1; have hk2 : (Instr.lookup 75 (.map (some M)) (.string s) false).run Tryd.prog w7 = .ok (.int .i64 (v + 1)) w7 := (hm7.look s (by unfold maxLen; omega)).trans (by simp))
      go_ret
      exact ⟨false, rfl, hg7, .inr ⟨rfl, _, _, hm7, HOK2.out, HAG.out.1, HAG.out.2.1, HAG.out.2.2⟩⟩
    | false =>
      rw [vis_none hv] at hk1
      have HV0 := Lib.hid hv
      have HOK1 := Lib.hid (HOK.out.put HSN.out (v := 1) (by omega) (by omega))
      clear hv
      simp only [Option.getD_none] at hk1
      go_wp2_with (at_mapUpdate; go_must (refine MapSI.store HM.out (by unfold maxLen; omega) s (by unfold maxLen; omega) 1 (by decide) rfl _ _ _ rfl rfl rfl rfl ?_); intro w7 hm7 hg7; have c1' := (HSO.out.grown hg7).c1; have c2' := (HSO.out.grown hg7).c2; have hk2 : (Instr.lookup 75 (.map (some M)) (.string s) false).run Tryd.prog w7 = .ok (.int .i64 1) w7 := (hm7.look s (by unfold maxLen; omega)).trans (by simp))
      have HM7 : Hid (MapSI w7 M (m + 1) (put1 f (L s) 1)) := hm7
      have HSO7 := Lib.hid (HSO.out.grown hg7)
      have hlu := less_unv (v := 1) HUN.out HV0.out
      have HLU := Lib.hid hlu
      have hph1 : phi l (put1 f (L s) 1) (m + 1) + 23 ≤ phi l f m := by unfold phi; omega
      have HPH1 := Lib.hid hph1
      clear hm7 hk1 hk2 c1 c2 c1' c2' hlu hph1 HM HSO
      go_loopw [20] (fun jv wr => ∃ (j mj : Nat) (fj : List UInt8 → Option Int), j ≤ n ∧ jv = .int .i64 (j : Int) ∧ w.grownBy wr (some M) ∧ Hid (So wr B bm bl bf M A n c l) ∧ Hid (MapSI wr M mj fj) ∧ Hid (Lp l (L s) (put1 f (L s) 1) fj (m + 1) mj j)) (fun jv _ => n - (intOf jv).toNat)
      case atStart => exact ⟨0, _, _, Nat.zero_le _, rfl, hg7, HSO7, HM7, Lib.hid (Lp.start HOK1.out)⟩
      case round =>
        clear hg7 HSO7 HM7
        obtain ⟨j, mj, fj, hj, rfl, hgw, HSO, HM, HLP⟩ := hrel
        by_cases hjn : j < n
        · have g2 : decide ((j : Int) < (n : Int)) = true := decide_eq_true (by omega)
          have g2' : decide (j < n) = true := decide_eq_true hjn
          obtain ⟨ad, rfl, hab, c0⟩ := str_cell HSO.out.hr hjn
          have hjl : j < l.length := by rw [HLN.out]; exact hjn
          have hxl := HCO.out.le j hjl
          obtain ⟨X, hX⟩ : ∃ X, S (l.getD j []) = X := ⟨_, rfl⟩
          have hxz : X.size ≤ 12 := by rw [← hX, S_size]; exact hxl
          have HLX : Hid (L X = l.getD j []) := by rw [← hX]; exact L_S _
          rw [hX] at c0
          have HPA : Hid (∀ W, Calls Tryd.prog 34 #[.string X, .string s] W fun e W' => e = .returned (.bool (pfx (L s) (l.getD j []))) ∧ W' = W) := fun W => by
            have h := Tryd.strings_HasPrefix X s W
            rw [← HLX.out]
            exact h
          have HPB : Hid (∀ W, Calls Tryd.prog 34 #[.string s, .string X] W fun e W' => e = .returned (.bool (pfx (l.getD j []) (L s))) ∧ W' = W) := fun W => by
            have h := Tryd.strings_HasPrefix s X W
            rw [← HLX.out]
            exact h
          have HSUA : Hid (pfx (L s) (l.getD j []) = true → s.size ≤ X.size ∧ Left l (L (X.extract s.size X.size)) ∧ L (X.extract s.size X.size) = (l.getD j []).drop (L s).length) := fun h => by
            have h1 := pfx_len h
            rw [← HLX.out, L_len, L_len] at h1
            have e : L (X.extract s.size X.size) = (l.getD j []).drop (L s).length := by
              rw [L_extract, List.take_of_length_le (by rw [List.length_drop, L_len]; exact Nat.le_refl _), HLX.out, L_len]
            exact ⟨h1, by rw [e]; exact .suc HLF.out ⟨j, hjl, .inl ⟨h, rfl⟩⟩, e⟩
          have HSUB : Hid (pfx (l.getD j []) (L s) = true → X.size ≤ s.size ∧ Left l (L (s.extract X.size s.size)) ∧ L (s.extract X.size s.size) = (L s).drop (l.getD j []).length) := fun h => by
            have h1 := pfx_len h
            rw [← HLX.out, L_len, L_len] at h1
            have e : L (s.extract X.size s.size) = (L s).drop (l.getD j []).length := by
              rw [L_extract, List.take_of_length_le (by rw [List.length_drop, L_len]; exact Nat.le_refl _), ← HLX.out, L_len]
            exact ⟨h1, by rw [e]; exact .suc HLF.out ⟨j, hjl, .inr ⟨h, rfl⟩⟩, e⟩
          have hphj : phi l fj mj ≤ 9999 := by
            have h1 := HLP.out.ph
            have h2 := HPH1.out
            have h3 := HPH.out
            omega
          have huj : unv l (vis fj) < d := by
            have h1 := HLP.out.gr.unv
            have h2 := HLU.out
            omega
          clear hX hxl
          generalize hAA : pfx (L s) (l.getD j []) = aa at *
          generalize hBB : pfx (l.getD j []) (L s) = bb at *
          have HAA := Lib.hid hAA
          have HBB := Lib.hid hBB
          clear hAA hBB
          have c3 := HSO.out.c3
          cases aa with
          | true =>
            obtain ⟨hxs, hlfa, hea⟩ := HSUA.out rfl
            have HEA := Lib.hid hea
            have HCA := Lib.hid (IH.out _ huj fj mj (X.extract s.size X.size) wr.drew (Nat.le_refl _) (HSO.out.grown (gb_drew (gb_refl wr _))) HM.out.drew HLP.out.ok (by omega) hlfa)
            clear hlfa hea
            go_wp2_with fail
            obtain ⟨F1, hFd⟩ : ∃ F : World → Prop, F = fun w' => w'.cell? ⟨bf, 0, none⟩ = some (.func (.func 42) #[] #[.pointer (some ⟨bm, 0, none⟩), .pointer (some ⟨bl, 0, none⟩), .pointer (some ⟨bf, 0, none⟩)]) := ⟨_, rfl⟩
            have HF1 := Lib.hid hFd
            clear hFd
            have hcell10 : ∀ p' : Wof F1, p'.w.cell? ⟨bf, 0, none⟩ = some (.func (.func 42) #[] #[.pointer (some ⟨bm, 0, none⟩), .pointer (some ⟨bl, 0, none⟩), .pointer (some ⟨bf, 0, none⟩)]) := fun ⟨x, hx⟩ => by rw [HF1.out] at hx; exact hx
            refine wp_region_schedF [(0, true), (1, true), (2, false), (3, true), (4, true), (5, true), (6, true), (7, true), (8, true), (9, false), (10, true), (11, true), (12, true), (13, true), (14, false), (15, true), (16, true), (17, true), (18, true), (19, true), (20, true), (21, false), (22, true), (23, true)] F1 (by kernel_rfl) (by kernel_rfl) rfl (fun _ _ _ _ _ h => h) (by kernel_rfl) (by rw [HF1.out]; first | trivial | (repeat' apply And.intro) <;> assumption | (simp; done) | (simp [*]; done)) (by rw [HF1.out]; exact fun h => h) ?_
            intro hne1
            simp only [opersOf, List.getElem?_toArray, List.getElem?_cons_succ, List.getElem?_cons_zero]
            repeat (first | (refine wpSched_free rfl ?_; intro K hK; go_big_quiet_op; go_big_quiet_on) | (refine wpSched_wantS _ rfl rfl rfl ?_; intro K hK; go_big_quiet_op; go_big_quiet_on) | (refine wpSched_skipS _ rfl rfl rfl rfl ?_; simp only [Act.put, List.setIfInBounds_toArray, List.set_cons_zero, List.set_cons_succ]) | (refine wpSched_skipU _ rfl rfl rfl ?_; simp only [Act.put, List.setIfInBounds_toArray, List.set_cons_zero, List.set_cons_succ]))
            refine wpSched_other ?_
            go_wp2_with fail
            refine (HPA.out _).mono ?_
            rintro e w2 ⟨rfl, rfl⟩
            go_wp2_with fail
            refine sched_back (by rw [HF1.out]; first | trivial | (repeat' apply And.intro) <;> assumption | (simp; done) | (go_simp; done) | (simp [*]; done)) ?_
            repeat (first | (refine wpSched_free rfl ?_; intro K hK; go_big_quiet_op; go_big_quiet_on) | (refine wpSched_wantS _ rfl rfl rfl ?_; intro K hK; go_big_quiet_op; go_big_quiet_on) | (refine wpSched_skipS _ rfl rfl rfl rfl ?_; simp only [Act.put, List.setIfInBounds_toArray, List.set_cons_zero, List.set_cons_succ]) | (refine wpSched_skipU _ rfl rfl rfl ?_; simp only [Act.put, List.setIfInBounds_toArray, List.set_cons_zero, List.set_cons_succ]))
            refine wpSched_other ?_
            go_wp2_with fail
            refine HCA.out.mono ?_
            rintro e w3 ⟨b, rfl, hg3, hpost⟩
            have hg3w : w.grownBy w3 (some M) := gb_trans hgw (gb_trans (gb_drew (gb_refl wr _)) hg3)
            have HSO3 := Lib.hid ((HSO.out.grown (gb_drew (gb_refl wr _))).grown hg3)
            have c33 := HSO3.out.c3
            rcases hpost with ⟨rfl, hl0⟩ | ⟨rfl, f', m', hm', hok', hgr', hph', hvs'⟩
            · clear HM HSO hg3 c0 c3
              go_wp2_with fail
              refine sched_back (by rw [HF1.out]; first | trivial | (repeat' apply And.intro) <;> assumption | (simp; done) | (go_simp; done) | (simp [*]; done)) ?_
              repeat (first | (refine wpSched_free rfl ?_; intro K hK; go_big_quiet_op; go_big_quiet_on) | (refine wpSched_wantS _ rfl rfl rfl ?_; intro K hK; go_big_quiet_op; go_big_quiet_on) | (refine wpSched_skipS _ rfl rfl rfl rfl ?_; simp only [Act.put, List.setIfInBounds_toArray, List.set_cons_zero, List.set_cons_succ]) | (refine wpSched_skipU _ rfl rfl rfl ?_; simp only [Act.put, List.setIfInBounds_toArray, List.set_cons_zero, List.set_cons_succ]))
              refine wpSched_other ?_
              go_wp2_with fail
              refine sched_back (by rw [HF1.out]; first | trivial | (repeat' apply And.intro) <;> assumption | (simp; done) | (go_simp; done) | (simp [*]; done)) ?_
              repeat (first | (refine wpSched_free rfl ?_; intro K hK; go_big_quiet_op; go_big_quiet_on) | (refine wpSched_wantS _ rfl rfl rfl ?_; intro K hK; go_big_quiet_op; go_big_quiet_on) | (refine wpSched_skipS _ rfl rfl rfl rfl ?_; simp only [Act.put, List.setIfInBounds_toArray, List.set_cons_zero, List.set_cons_succ]) | (refine wpSched_skipU _ rfl rfl rfl ?_; simp only [Act.put, List.setIfInBounds_toArray, List.set_cons_zero, List.set_cons_succ]))
              refine wpSched_other ?_
              go_wp2_with fail
              refine sched_back (by rw [HF1.out]; first | trivial | (repeat' apply And.intro) <;> assumption | (simp; done) | (go_simp; done) | (simp [*]; done)) ?_
              repeat (first | (refine wpSched_free rfl ?_; intro K hK; go_big_quiet_op; go_big_quiet_on) | (refine wpSched_wantS _ rfl rfl rfl ?_; intro K hK; go_big_quiet_op; go_big_quiet_on) | (refine wpSched_skipS _ rfl rfl rfl rfl ?_; simp only [Act.put, List.setIfInBounds_toArray, List.set_cons_zero, List.set_cons_succ]) | (refine wpSched_skipU _ rfl rfl rfl ?_; simp only [Act.put, List.setIfInBounds_toArray, List.set_cons_zero, List.set_cons_succ]))
              refine wpSched_nil ?_
              go_wp2_with fail
              go_ret
              exact ⟨true, rfl, hg3w, .inl ⟨rfl, hl0⟩⟩
            · rw [HEA.out] at hvs'
              have HM3 := Lib.hid hm'
              have HOK3 := Lib.hid hok'
              have HGR3 := Lib.hid hgr'
              have HVS3 := Lib.hid hvs'
              have hu3 := hgr'.unv
              clear hm' hok' hgr' hvs' HM HSO hg3 c0 c3 HCA hgw
              go_wp2_with fail
              refine sched_back (by rw [HF1.out]; first | trivial | (repeat' apply And.intro) <;> assumption | (simp; done) | (go_simp; done) | (simp [*]; done)) ?_
              repeat (first | (refine wpSched_free rfl ?_; intro K hK; go_big_quiet_op; go_big_quiet_on) | (refine wpSched_wantS _ rfl rfl rfl ?_; intro K hK; go_big_quiet_op; go_big_quiet_on) | (refine wpSched_skipS _ rfl rfl rfl rfl ?_; simp only [Act.put, List.setIfInBounds_toArray, List.set_cons_zero, List.set_cons_succ]) | (refine wpSched_skipU _ rfl rfl rfl ?_; simp only [Act.put, List.setIfInBounds_toArray, List.set_cons_zero, List.set_cons_succ]))
              refine wpSched_other ?_
              go_wp2_with fail
              refine (HPB.out _).mono ?_
              rintro e w4 ⟨rfl, rfl⟩
              cases bb with
              | true =>
                obtain ⟨hxs2, hlfb, heb⟩ := HSUB.out rfl
                have HEB := Lib.hid heb
                have HCB := Lib.hid (IH.out _ (Nat.lt_of_le_of_lt hu3 huj) f' m' (s.extract X.size s.size) w4 (Nat.le_refl _) HSO3.out HM3.out HOK3.out (by omega) hlfb)
                clear hlfb heb
                go_wp2_with fail
                refine sched_back (by rw [HF1.out]; first | trivial | (repeat' apply And.intro) <;> assumption | (simp; done) | (go_simp; done) | (simp [*]; done)) ?_
                repeat (first | (refine wpSched_free rfl ?_; intro K hK; go_big_quiet_op; go_big_quiet_on) | (refine wpSched_wantS _ rfl rfl rfl ?_; intro K hK; go_big_quiet_op; go_big_quiet_on) | (refine wpSched_skipS _ rfl rfl rfl rfl ?_; simp only [Act.put, List.setIfInBounds_toArray, List.set_cons_zero, List.set_cons_succ]) | (refine wpSched_skipU _ rfl rfl rfl ?_; simp only [Act.put, List.setIfInBounds_toArray, List.set_cons_zero, List.set_cons_succ]))
                refine wpSched_other ?_
                go_wp2_with fail
                refine HCB.out.mono ?_
                rintro e w5 ⟨b, rfl, hg5, hpost⟩
                have hg5w : w.grownBy w5 (some M) := gb_trans hg3w hg5
                have HSO5 := Lib.hid (HSO3.out.grown hg5)
                have c35 := HSO5.out.c3
                rcases hpost with ⟨rfl, hl0⟩ | ⟨rfl, f2, m2, hm2, hok2, hgr2, hph2, hvs2⟩
                · clear HM3 HSO3 hg5 c33
                  go_wp2_with fail
                  refine sched_back (by rw [HF1.out]; first | trivial | (repeat' apply And.intro) <;> assumption | (simp; done) | (go_simp; done) | (simp [*]; done)) ?_
                  repeat (first | (refine wpSched_free rfl ?_; intro K hK; go_big_quiet_op; go_big_quiet_on) | (refine wpSched_wantS _ rfl rfl rfl ?_; intro K hK; go_big_quiet_op; go_big_quiet_on) | (refine wpSched_skipS _ rfl rfl rfl rfl ?_; simp only [Act.put, List.setIfInBounds_toArray, List.set_cons_zero, List.set_cons_succ]) | (refine wpSched_skipU _ rfl rfl rfl ?_; simp only [Act.put, List.setIfInBounds_toArray, List.set_cons_zero, List.set_cons_succ]))
                  refine wpSched_nil ?_
                  go_wp2_with fail
                  go_ret
                  exact ⟨true, rfl, hg5w, .inl ⟨rfl, hl0⟩⟩
                · rw [HEB.out] at hvs2
                  have HM5 := Lib.hid hm2
                  have HLP5 := Lib.hid (HLP.out.next hok2 (HGR3.out.trans hgr2) (by omega) (fun _ => hgr2.mono _ HVS3.out) (fun _ => hvs2))
                  clear hm2 hok2 hgr2 hvs2 HM3 HSO3 hg5 c33 hg3w HCB
                  go_wp2_with fail
                  refine sched_back (by rw [HF1.out]; first | trivial | (repeat' apply And.intro) <;> assumption | (simp; done) | (go_simp; done) | (simp [*]; done)) ?_
                  repeat (first | (refine wpSched_free rfl ?_; intro K hK; go_big_quiet_op; go_big_quiet_on) | (refine wpSched_wantS _ rfl rfl rfl ?_; intro K hK; go_big_quiet_op; go_big_quiet_on) | (refine wpSched_skipS _ rfl rfl rfl rfl ?_; simp only [Act.put, List.setIfInBounds_toArray, List.set_cons_zero, List.set_cons_succ]) | (refine wpSched_skipU _ rfl rfl rfl ?_; simp only [Act.put, List.setIfInBounds_toArray, List.set_cons_zero, List.set_cons_succ]))
                  refine wpSched_nil ?_
                  go_wp2_with fail
                  go_roundw
                  case rel => exact ⟨j + 1, m2, f2, by omega, by go_num, hg5w, HSO5, HM5, HLP5⟩
                  case measure => simp [intOf]; omega
              | false =>
                have HLP5 := Lib.hid (HLP.out.next HOK3.out HGR3.out (by omega) (fun _ => HVS3.out) (fun h => by rw [HBB.out] at h; cases h))
                go_wp2_with fail
                refine sched_back (by rw [HF1.out]; first | trivial | (repeat' apply And.intro) <;> assumption | (simp; done) | (go_simp; done) | (simp [*]; done)) ?_
                repeat (first | (refine wpSched_free rfl ?_; intro K hK; go_big_quiet_op; go_big_quiet_on) | (refine wpSched_wantS _ rfl rfl rfl ?_; intro K hK; go_big_quiet_op; go_big_quiet_on) | (refine wpSched_skipS _ rfl rfl rfl rfl ?_; simp only [Act.put, List.setIfInBounds_toArray, List.set_cons_zero, List.set_cons_succ]) | (refine wpSched_skipU _ rfl rfl rfl ?_; simp only [Act.put, List.setIfInBounds_toArray, List.set_cons_zero, List.set_cons_succ]))
                refine wpSched_other ?_
                go_wp2_with fail
                refine sched_back (by rw [HF1.out]; first | trivial | (repeat' apply And.intro) <;> assumption | (simp; done) | (go_simp; done) | (simp [*]; done)) ?_
                repeat (first | (refine wpSched_free rfl ?_; intro K hK; go_big_quiet_op; go_big_quiet_on) | (refine wpSched_wantS _ rfl rfl rfl ?_; intro K hK; go_big_quiet_op; go_big_quiet_on) | (refine wpSched_skipS _ rfl rfl rfl rfl ?_; simp only [Act.put, List.setIfInBounds_toArray, List.set_cons_zero, List.set_cons_succ]) | (refine wpSched_skipU _ rfl rfl rfl ?_; simp only [Act.put, List.setIfInBounds_toArray, List.set_cons_zero, List.set_cons_succ]))
                refine wpSched_nil ?_
                go_wp2_with fail
                go_roundw
                case rel => exact ⟨j + 1, m', f', by omega, by go_num, hg3w, HSO3, HM3, HLP5⟩
                case measure => simp [intOf]; omega
          | false =>
            go_wp2_with fail
            obtain ⟨F1, hFd⟩ : ∃ F : World → Prop, F = fun w' => w'.cell? ⟨bf, 0, none⟩ = some (.func (.func 42) #[] #[.pointer (some ⟨bm, 0, none⟩), .pointer (some ⟨bl, 0, none⟩), .pointer (some ⟨bf, 0, none⟩)]) := ⟨_, rfl⟩
            have HF1 := Lib.hid hFd
            clear hFd
            have hcell10 : ∀ p' : Wof F1, p'.w.cell? ⟨bf, 0, none⟩ = some (.func (.func 42) #[] #[.pointer (some ⟨bm, 0, none⟩), .pointer (some ⟨bl, 0, none⟩), .pointer (some ⟨bf, 0, none⟩)]) := fun ⟨x, hx⟩ => by rw [HF1.out] at hx; exact hx
            refine wp_region_schedF [(0, true), (1, true), (2, false), (3, true), (4, true), (5, true), (6, true), (7, true), (8, true), (9, false), (10, true), (11, true), (12, true), (13, true), (14, false), (15, true), (16, true), (17, true), (18, true), (19, true), (20, true), (21, false), (22, true), (23, true)] F1 (by kernel_rfl) (by kernel_rfl) rfl (fun _ _ _ _ _ h => h) (by kernel_rfl) (by rw [HF1.out]; first | trivial | (repeat' apply And.intro) <;> assumption | (simp; done) | (simp [*]; done)) (by rw [HF1.out]; exact fun h => h) ?_
            intro hne1
            simp only [opersOf, List.getElem?_toArray, List.getElem?_cons_succ, List.getElem?_cons_zero]
            repeat (first | (refine wpSched_free rfl ?_; intro K hK; go_big_quiet_op; go_big_quiet_on) | (refine wpSched_wantS _ rfl rfl rfl ?_; intro K hK; go_big_quiet_op; go_big_quiet_on) | (refine wpSched_skipS _ rfl rfl rfl rfl ?_; simp only [Act.put, List.setIfInBounds_toArray, List.set_cons_zero, List.set_cons_succ]) | (refine wpSched_skipU _ rfl rfl rfl ?_; simp only [Act.put, List.setIfInBounds_toArray, List.set_cons_zero, List.set_cons_succ]))
            refine wpSched_other ?_
            go_wp2_with fail
            refine (HPA.out _).mono ?_
            rintro e w2 ⟨rfl, rfl⟩
            go_wp2_with fail
            refine sched_back (by rw [HF1.out]; first | trivial | (repeat' apply And.intro) <;> assumption | (simp; done) | (go_simp; done) | (simp [*]; done)) ?_
            repeat (first | (refine wpSched_free rfl ?_; intro K hK; go_big_quiet_op; go_big_quiet_on) | (refine wpSched_wantS _ rfl rfl rfl ?_; intro K hK; go_big_quiet_op; go_big_quiet_on) | (refine wpSched_skipS _ rfl rfl rfl rfl ?_; simp only [Act.put, List.setIfInBounds_toArray, List.set_cons_zero, List.set_cons_succ]) | (refine wpSched_skipU _ rfl rfl rfl ?_; simp only [Act.put, List.setIfInBounds_toArray, List.set_cons_zero, List.set_cons_succ]))
            refine wpSched_other ?_
            go_wp2_with fail
            refine sched_back (by rw [HF1.out]; first | trivial | (repeat' apply And.intro) <;> assumption | (simp; done) | (go_simp; done) | (simp [*]; done)) ?_
            repeat (first | (refine wpSched_free rfl ?_; intro K hK; go_big_quiet_op; go_big_quiet_on) | (refine wpSched_wantS _ rfl rfl rfl ?_; intro K hK; go_big_quiet_op; go_big_quiet_on) | (refine wpSched_skipS _ rfl rfl rfl rfl ?_; simp only [Act.put, List.setIfInBounds_toArray, List.set_cons_zero, List.set_cons_succ]) | (refine wpSched_skipU _ rfl rfl rfl ?_; simp only [Act.put, List.setIfInBounds_toArray, List.set_cons_zero, List.set_cons_succ]))
            refine wpSched_other ?_
            go_wp2_with fail
            refine (HPB.out _).mono ?_
            rintro e w4 ⟨rfl, rfl⟩
            cases bb with
            | true =>
              obtain ⟨hxs2, hlfb, heb⟩ := HSUB.out rfl
              have HEB := Lib.hid heb
              have HCB := Lib.hid (IH.out _ huj fj mj (s.extract X.size s.size) wr.drew (Nat.le_refl _) (HSO.out.grown (gb_drew (gb_refl wr _))) HM.out.drew HLP.out.ok (by omega) hlfb)
              clear hlfb heb
              go_wp2_with fail
              refine sched_back (by rw [HF1.out]; first | trivial | (repeat' apply And.intro) <;> assumption | (simp; done) | (go_simp; done) | (simp [*]; done)) ?_
              repeat (first | (refine wpSched_free rfl ?_; intro K hK; go_big_quiet_op; go_big_quiet_on) | (refine wpSched_wantS _ rfl rfl rfl ?_; intro K hK; go_big_quiet_op; go_big_quiet_on) | (refine wpSched_skipS _ rfl rfl rfl rfl ?_; simp only [Act.put, List.setIfInBounds_toArray, List.set_cons_zero, List.set_cons_succ]) | (refine wpSched_skipU _ rfl rfl rfl ?_; simp only [Act.put, List.setIfInBounds_toArray, List.set_cons_zero, List.set_cons_succ]))
              refine wpSched_other ?_
              go_wp2_with fail
              refine HCB.out.mono ?_
              rintro e w5 ⟨b, rfl, hg5, hpost⟩
              have hg5w : w.grownBy w5 (some M) := gb_trans hgw (gb_trans (gb_drew (gb_refl wr _)) hg5)
              have HSO5 := Lib.hid ((HSO.out.grown (gb_drew (gb_refl wr _))).grown hg5)
              have c35 := HSO5.out.c3
              rcases hpost with ⟨rfl, hl0⟩ | ⟨rfl, f2, m2, hm2, hok2, hgr2, hph2, hvs2⟩
              · clear HM HSO hg5 c0 c3
                go_wp2_with fail
                refine sched_back (by rw [HF1.out]; first | trivial | (repeat' apply And.intro) <;> assumption | (simp; done) | (go_simp; done) | (simp [*]; done)) ?_
                repeat (first | (refine wpSched_free rfl ?_; intro K hK; go_big_quiet_op; go_big_quiet_on) | (refine wpSched_wantS _ rfl rfl rfl ?_; intro K hK; go_big_quiet_op; go_big_quiet_on) | (refine wpSched_skipS _ rfl rfl rfl rfl ?_; simp only [Act.put, List.setIfInBounds_toArray, List.set_cons_zero, List.set_cons_succ]) | (refine wpSched_skipU _ rfl rfl rfl ?_; simp only [Act.put, List.setIfInBounds_toArray, List.set_cons_zero, List.set_cons_succ]))
                refine wpSched_nil ?_
                go_wp2_with fail
                go_ret
                exact ⟨true, rfl, hg5w, .inl ⟨rfl, hl0⟩⟩
              · rw [HEB.out] at hvs2
                have HM5 := Lib.hid hm2
                have HLP5 := Lib.hid (HLP.out.next hok2 hgr2 (by omega) (fun h => by rw [HAA.out] at h; cases h) (fun _ => hvs2))
                clear hm2 hok2 hgr2 hvs2 HM HSO hg5 c0 c3 hgw HCB
                go_wp2_with fail
                refine sched_back (by rw [HF1.out]; first | trivial | (repeat' apply And.intro) <;> assumption | (simp; done) | (go_simp; done) | (simp [*]; done)) ?_
                repeat (first | (refine wpSched_free rfl ?_; intro K hK; go_big_quiet_op; go_big_quiet_on) | (refine wpSched_wantS _ rfl rfl rfl ?_; intro K hK; go_big_quiet_op; go_big_quiet_on) | (refine wpSched_skipS _ rfl rfl rfl rfl ?_; simp only [Act.put, List.setIfInBounds_toArray, List.set_cons_zero, List.set_cons_succ]) | (refine wpSched_skipU _ rfl rfl rfl ?_; simp only [Act.put, List.setIfInBounds_toArray, List.set_cons_zero, List.set_cons_succ]))
                refine wpSched_nil ?_
                go_wp2_with fail
                go_roundw
                case rel => exact ⟨j + 1, m2, f2, by omega, by go_num, hg5w, HSO5, HM5, HLP5⟩
                case measure => simp [intOf]; omega
            | false =>
              have HLP5 := Lib.hid (HLP.out.next HLP.out.ok (Grow.refl l fj) (by omega) (fun h => by rw [HAA.out] at h; cases h) (fun h => by rw [HBB.out] at h; cases h))
              go_wp2_with fail
              refine sched_back (by rw [HF1.out]; first | trivial | (repeat' apply And.intro) <;> assumption | (simp; done) | (go_simp; done) | (simp [*]; done)) ?_
              repeat (first | (refine wpSched_free rfl ?_; intro K hK; go_big_quiet_op; go_big_quiet_on) | (refine wpSched_wantS _ rfl rfl rfl ?_; intro K hK; go_big_quiet_op; go_big_quiet_on) | (refine wpSched_skipS _ rfl rfl rfl rfl ?_; simp only [Act.put, List.setIfInBounds_toArray, List.set_cons_zero, List.set_cons_succ]) | (refine wpSched_skipU _ rfl rfl rfl ?_; simp only [Act.put, List.setIfInBounds_toArray, List.set_cons_zero, List.set_cons_succ]))
              refine wpSched_other ?_
              go_wp2_with fail
              refine sched_back (by rw [HF1.out]; first | trivial | (repeat' apply And.intro) <;> assumption | (simp; done) | (go_simp; done) | (simp [*]; done)) ?_
              repeat (first | (refine wpSched_free rfl ?_; intro K hK; go_big_quiet_op; go_big_quiet_on) | (refine wpSched_wantS _ rfl rfl rfl ?_; intro K hK; go_big_quiet_op; go_big_quiet_on) | (refine wpSched_skipS _ rfl rfl rfl rfl ?_; simp only [Act.put, List.setIfInBounds_toArray, List.set_cons_zero, List.set_cons_succ]) | (refine wpSched_skipU _ rfl rfl rfl ?_; simp only [Act.put, List.setIfInBounds_toArray, List.set_cons_zero, List.set_cons_succ]))
              refine wpSched_nil ?_
              go_wp2_with fail
              go_roundw
              case rel => exact ⟨j + 1, mj, fj, by omega, by go_num, gb_trans hgw (gb_drew (gb_refl wr _)), Lib.hid (HSO.out.grown (gb_drew (gb_refl wr _))), Lib.hid HM.out.drew, HLP5⟩
              case measure => simp [intOf]; omega
        · obtain rfl : j = n := by omega
          have g2 : decide ((j : Int) < (j : Int)) = false := decide_eq_false (by omega)
          have g2' : decide (j < j) = false := decide_eq_false hjn
          have HFI : Hid (Grow l f fj ∧ phi l fj mj ≤ phi l f m + 1 ∧ vis fj (L s) = true) := by
            have h := HLP.out
            rw [← HLN.out] at h
            exact h.fin HCO.out HUN.out HV0.out
          go_wp2_with fail
          go_ret
          exact ⟨false, rfl, hgw, .inr ⟨rfl, fj, mj, HM.out, HLP.out.ok, HFI.out.1, HFI.out.2.1, HFI.out.2.2⟩⟩
end Go.Proofs.YtmmamdjbbpeifaaDoor
