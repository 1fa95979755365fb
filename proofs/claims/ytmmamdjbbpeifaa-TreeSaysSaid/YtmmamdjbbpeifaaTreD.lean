/- The document's LeastCost, walked. -/
import Derived.Test.YtmmamdjbbpeifaaTreC
namespace Go.Proofs.Ytmmamdjbbpeifaa
open Go.RowKit Go.Proofs
theorem lq_box (w : World) (B ga gb : Nat) (va vb : Value) (a b : List Nat) (h : Lq w B ga gb va vb a b) (vb' : Value) (b' : List Nat) {w' : World} (hg : w.grownBy w' vb.ownBlock) (hb' : OwnO w' B 3 1 vb' b'.length (ints (intN b'))) :
    Lq (w'.setCell ⟨gb, 0, none⟩ vb') B ga gb va vb' a b' := by
  have hvb : ∀ k, vb.ownBlock = some k → B ≤ k := fun k hk => (h.rb.lt k hk).1
  have h1 : Blk w' ga 22 #[va] := h.ba.grown hg (fun e => by have := hvb ga e.symm; have := h.lt.1; omega)
  have h2 : Blk w' gb 22 #[vb] := h.bb.grown hg (fun e => by have := hvb gb e.symm; have := h.lt.2; omega)
  have h3 : OwnO w' 0 3 1 va a.length (ints (intN a)) := h.ra.kept hg (by
    cases hva : va.ownBlock with
    | none => exact .inl rfl
    | some k => exact .inr fun e => by have := hvb k e.symm; have := h.la k hva; omega)
  refine ⟨h1.far h.ne _, ?_, h3.kept (gb_set (gb_refl _ _) 0 _) (h3.ne_blk h2 (by decide)), h.la, hb'.kept (gb_set (gb_refl _ _) 0 _) (hb'.ne_blk h2 (by decide)), h.lt, h.ne⟩
  exact h2.set_ 0 vb'
def lenV : Option Value → Nat
  | some (.slice _ n _) => n
  | _ => 0
theorem leastC_one {ws : List Nat} (h : ws.length = 1) : leastC ws = (srtN ws).getD 0 0 := by
  unfold leastC
  rw [if_pos h]
  cases ws with
  | nil => simp at h
  | cons x r =>
    cases r with
    | nil => rfl
    | cons y r => simp at h
theorem lc_small {ws a b : List Nat} {sum : Nat} (h : LcAt ws a b sum) : sum ≤ leastC ws := by
  obtain ⟨f, _, h2⟩ := h.tot
  omega
set_option maxRecDepth 100000 in
set_option maxHeartbeats 16000000 in
theorem leastCost_any (ws : List Nat) (A : Option Addr) (m c B0 : Nat) (w : World) (hr : Rd w B0 1 A m (ints (intN ws))) (hB0 : B0 ≤ w.heap.size) (hm : m ≤ 12) (hlc : leastC ws ≤ 10000000) :
    Calls Try.prog 37 #[.slice A m c] w fun e w' => e = .returned (.int .i64 (leastC ws : Nat)) ∧ Below w.heap.size w w' := by
  obtain ⟨i0, hi0, hz0, hz1, hz2⟩ := info_parts info_int
  have hml : ws.length = m := by have := hr.1; simpa [ints, intN] using this
  subst hml
  have HCL := Lib.hid (cloneInt_any A ws.length c B0 (intN ws) w hr hB0 (by omega))
  clear hr
  go_enter Try.func37, Try.ntmps37
  go_wp2_with fail
  refine HCL.out.mono ?_
  rintro e w1 ⟨v, rfl, hown1, hb1⟩
  have hs1 := hb1.size
  have hba1 : Blk (w1.alloc (.cells #[v] 22)) w1.heap.size 22 #[v] := Blk.new_ w1 22 #[v]
  have hown2 := own_below hown1 ((Below.refl w1.heap.size w1).alloc (Nat.le_refl _) (.cells #[v] 22))
  have hbl2 : Below w.heap.size w (w1.alloc (.cells #[v] 22)) := hb1.alloc hs1 _
  obtain ⟨A1, c1, rfl, hnc1, hcm1, _⟩ := own_form hown1
  clear hown1
  go_wp2_with fail
  generalize hw2 : (w1.alloc (.cells #[.slice A1 ws.length c1] 22)) = w2 at *
  generalize hga : w1.heap.size = ga at *
  have c0 := hba1.cell0
  have HSO := Lib.hid (sortInt_own ws _ w.heap.size w2 hown2 (by omega))
  clear hw2 hga
  go_wp2_with fail
  refine HSO.out.mono ?_
  rintro e w3 ⟨rfl, hown3, hg3⟩
  have hne3 : (Value.slice A1 ws.length c1).ownBlock = none ∨ (Value.slice A1 ws.length c1).ownBlock ≠ some ga := (OwnO.of_own hown2).ne_blk hba1 (by decide)
  have hba3 : Blk w3 ga 22 #[.slice A1 ws.length c1] := hba1.grown hg3 (fun e => by
    rcases hne3 with h | h
    · rw [h] at e; cases e
    · exact h e.symm)
  have hb3 : Below w.heap.size w w3 := hbl2.grown hg3 hbl2.size (fun k hk => ((OwnO.of_own hown2).lt k hk).1)
  have c0 := hba3.cell0
  by_cases h1 : ws.length = 1
  · have g1 : ((ws.length : Int) == 1) = true := by rw [beq_iff_eq]; omega
    have g1' : (ws.length == 1) = true := by rw [beq_iff_eq]; exact h1
    have hol : (srtN ws).length = ws.length := (srtN_up_perm ws).2.length_eq
    have hO := OwnO.of_own hown3
    rw [← hol] at hO
    obtain ⟨ad, rfl, d0⟩ := headN hO (by omega)
    have HV := Lib.hid (leastC_one h1)
    have hl1 : 1 ≤ ws.length := by omega
    clear hown2 hown3 hO hba1 hba3 hg3 hne3 h1
    generalize (srtN ws).getD 0 0 = z at *
    go_wp2_with fail
    go_ret
    rw [HV.out]
    exact ⟨rfl, hb3⟩
  · have g1 : ((ws.length : Int) == 1) = false := by rw [beq_eq_false_iff_ne]; omega
    have g1' : (ws.length == 1) = false := by rw [beq_eq_false_iff_ne]; exact h1
    have HL0 : Hid (LcAt ws (srtN ws) [] 0) := LcAt.start h1
    have hol : (srtN ws).length = ws.length := (srtN_up_perm ws).2.length_eq
    have hga3 := hba3.lt
    have hbx : Below w3.heap.size w3 (w3.alloc (.cells #[.slice none 0 0] 22)) := (Below.refl _ _).alloc (Nat.le_refl _) _
    have HQ0 : Hid (Lq (w3.alloc (.cells #[.slice none 0 0] 22)) (w3.heap.size + 1) ga w3.heap.size (.slice A1 ws.length c1) (.slice none 0 0) (srtN ws) []) := by
      have hO : OwnO w3 0 3 1 (.slice A1 ws.length c1) (srtN ws).length (ints (intN (srtN ws))) := by rw [hol]; exact OwnO.of_own (own_lower hown3 (Nat.zero_le _))
      refine ⟨hba3.below' hbx, Blk.new_ w3 22 #[.slice none 0 0], hO.below hbx, fun k hk => by have := (hO.lt k hk).2; omega, OwnO.nil_, ⟨by omega, by omega⟩, by omega⟩
    have hb4 : Below w.heap.size w (w3.alloc (.cells #[.slice none 0 0] 22)) := hb3.alloc hb3.size _
    have hga2 : w.heap.size ≤ ga := hs1
    have hgb2 : w.heap.size ≤ w3.heap.size := hb3.size
    have hz4 : w3.heap.size + 1 ≤ (w3.alloc (.cells #[.slice none 0 0] 22)).heap.size := by simp
    have hsl : (srtN ws).length + ([] : List Nat).length ≤ ws.length := by rw [hol]; exact Nat.le_refl _
    clear hown2 hown3 hba1 hba3 hg3 hne3 h1 hbx hol
    go_wp2_with fail
    generalize (w3.alloc (.cells #[.slice none 0 0] 22)) = w4 at *
    obtain ⟨gb, hgb⟩ : ∃ gb, w3.heap.size = gb := ⟨_, rfl⟩
    rw [hgb] at HQ0 hgb2 hz4 ⊢
    clear hgb c0
    go_loopw [6] (fun sv wr => ∃ (a b : List Nat) (sum : Nat) (va vb : Value), sv = .int .i64 (sum : Int) ∧ Hid (LcAt ws a b sum) ∧ Lq wr (gb + 1) ga gb va vb a b ∧ a.length + b.length ≤ ws.length ∧ Below w.heap.size w wr ∧ gb + 1 ≤ wr.heap.size) (fun _ wr => lenV (wr.cell? ⟨ga, 0, none⟩) + lenV (wr.cell? ⟨gb, 0, none⟩))
    case atStart => exact ⟨srtN ws, [], 0, _, _, rfl, HL0, HQ0.out, hsl, hb4, hz4⟩
    case round =>
      clear HL0 HQ0 hb4 hz4 hsl
      obtain ⟨a, b, sum, va, vb, rfl, HL, hq, hl, hb, hgz⟩ := hrel
      obtain ⟨Aa, ca, rfl, hna, hma, _⟩ := hq.ra.form
      obtain ⟨Ab, cb, rfl, hnb, hmb, _⟩ := hq.rb.form
      have c0 := hq.ba.cell0
      have c1 := hq.bb.cell0
      have hsm := lc_small HL.out
      by_cases hlt : 1 < a.length + b.length
      · have g2 : decide ((1 : Int) < (a.length : Int) + (b.length : Int)) = true := decide_eq_true (by omega)
        have HT1 := Lib.hid (take_any wr (gb + 1) w.heap.size ga gb _ _ a b hq (by omega) ⟨hga2, hgb2⟩ ⟨by omega, by omega⟩)
        have hST := HL.out.step (by omega)
        have hsm2 := lc_small hST
        obtain ⟨_, _, _, _, l1, _⟩ := take_ok HL.out.upa HL.out.upb (by omega)
        obtain ⟨_, u1, u2, _, _, _⟩ := take_ok HL.out.upa HL.out.upb (by omega)
        obtain ⟨_, _, _, _, l2, _⟩ := take_ok u1 u2 (by omega)
        have HSTEP := Lib.hid hST
        have HQ := Lib.hid hq
        clear hST hq u1 u2
        generalize takeV a b = x1 at *
        generalize takeL a b = a1 at *
        generalize takeR a b = b1 at *
        go_wp2_with fail
        refine HT1.out.mono ?_
        rintro e w5 ⟨rfl, va5, vb5, hq5, hb5⟩
        have hB5 := hb.trans hb5
        have hs5 := hb5.size
        have HT2 := Lib.hid (take_any w5 (gb + 1) w.heap.size ga gb _ _ a1 b1 hq5 (by omega) ⟨hga2, hgb2⟩ ⟨by omega, by omega⟩)
        generalize takeV a1 b1 = x2 at *
        generalize takeL a1 b1 = a2 at *
        generalize takeR a1 b1 = b2 at *
        clear hq5
        go_wp2_with fail
        refine HT2.out.mono ?_
        rintro e w6 ⟨rfl, va6, vb6, hq6, hb6⟩
        have hB6 := hB5.trans hb6
        have hs6 := hb6.size
        obtain ⟨Ab6, cb6, rfl, hnb6, hmb6, _⟩ := hq6.rb.form
        obtain ⟨Aa6, ca6, rfl, hna6, hma6, _⟩ := hq6.ra.form
        have d1 := hq6.bb.cell0
        have hbal : Below w6.heap.size w6 (w6.alloc (.cells #[.int .i64 ((x1 : Int) + (x2 : Int))] 3)) := (Below.refl _ _).alloc (Nat.le_refl _) _
        have hq7 : Lq (w6.alloc (.cells #[.int .i64 ((x1 : Int) + (x2 : Int))] 3)) (gb + 1) ga gb (.slice Aa6 a2.length ca6) (.slice Ab6 b2.length cb6) a2 b2 :=
          ⟨hq6.ba.below' hbal, hq6.bb.below' hbal, hq6.ra.below hbal, hq6.la, hq6.rb.below hbal, hq6.lt, hq6.ne⟩
        have HQ7 := Lib.hid hq7
        have HB7 := Lib.hid (hB6.alloc (o := .cells #[.int .i64 ((x1 : Int) + (x2 : Int))] 3) (by have := hB6.size; omega))
        clear hq7 hq6
        go_wp2_with (at_builtin; go_must (refine wpList_appO rfl _ _ _ rfl (gb + 1) 3 i0 _ 1 8 Try.underlying22 hi0 hz0 hz1 hz2 rfl (by omega) _ b2.length (ints (intN b2)) rfl HQ7.out.rb ⟨w6.heap.size, 0, none⟩ 1 1 [.int .i64 ((x1 : Int) + (x2 : Int))] rfl rfl (cell_one_new _ _ _) (by simp [Value.oneCell']) (by omega) (by omega) (by simp; omega) ?_); intro v8 w8 hO8 hg8 hb8 _ha8; obtain ⟨A8, c8, hv8, _, _, _⟩ := OwnO.form hO8; subst hv8; have hb8b := HQ7.out.bb.grown hg8 (fun e => by have := (HQ7.out.rb.lt gb e.symm).1; omega); have d8 := hb8b.cell0; have f8 := hb8b.frozen 0)
        have hO9 : OwnO w8 (gb + 1) 3 1 (.slice A8 (b2.length + 1) c8) (b2 ++ [x1 + x2]).length (ints (intN (b2 ++ [x1 + x2]))) := by
          have e : ints (intN b2) ++ [.int .i64 ((x1 : Int) + (x2 : Int))] = ints (intN (b2 ++ [x1 + x2])) := by simp [intN, ints]
          rw [List.length_append, List.length_singleton, ← e]; exact hO8
        have hq9 := lq_box _ _ _ _ _ _ _ _ HQ7.out _ _ hg8 hO9
        have hb9 : Below w.heap.size w w8 := HB7.out.trans (hb8.mono (by omega))
        have hb10 := hb9.setCell (p := ⟨gb, 0, none⟩) hgb2 (.slice A8 (b2.length + 1) c8)
        have hs8 := hb8.size
        go_roundw
        case rel => exact ⟨a2, b2 ++ [x1 + x2], sum + (x1 + x2), _, _, by go_num, HSTEP.out, hq9, by rw [List.length_append, List.length_singleton]; omega, hb10, by simp at hs8 ⊢; omega⟩
        case measure =>
          rw [hq9.ba.cell0, hq9.bb.cell0]
          rw [HQ.out.ba.cell0, HQ.out.bb.cell0]
          simp [lenV]
          omega
      · have g2 : decide ((1 : Int) < (a.length : Int) + (b.length : Int)) = false := decide_eq_false (by omega)
        have HV := Lib.hid (HL.out.end_ (by omega))
        go_wp2_with fail
        go_ret
        rw [HV.out]
        exact ⟨rfl, hb⟩
end Go.Proofs.Ytmmamdjbbpeifaa
