/- The law RopeSays, walked. -/
import Derived.Test.YtolnhplgaolieaaRopeT
namespace Go.Proofs.Ytolnhplgaolieaa
open Go.RowKit
set_option maxRecDepth 100000 in
set_option maxHeartbeats 4000000 in
theorem ropeSays_any (p q : Parts) (A0 : Option Addr) (n0 c0 : Nat) (A1 : Option Addr) (n1 c1 : Nat) (s : ByteArray) (z at_ : Int) (w : World)
    (hr : Rd w w.heap.size 1 A0 n0 (strCells p)) (hn : n0 ≤ 9223372036854775807) (hnc : n0 ≤ c0) (hsz : ∀ y ∈ p, y.length ≤ 140737488351232)
    (hr1 : Rd w w.heap.size 1 A1 n1 (strCells q)) (hn1 : n1 ≤ 9223372036854775807) (hnc1 : n1 ≤ c1) (hsz1 : ∀ y ∈ q, y.length ≤ 140737488351232)
    (hs : s.size ≤ 140737488351232) (hz : -9223372036854775808 ≤ z ∧ z ≤ 9223372036854775807) (ha : -9223372036854775808 ≤ at_ ∧ at_ ≤ 9223372036854775807) :
    Calls Try.prog 11 #[.agg #[.slice A0 n0 c0], .agg #[.slice A1 n1 c1], .string s, .int .i64 z, .int .i64 at_] w fun e w' => e = .returned (.bool true) ∧ Below w.heap.size w w' := by
  have hsq : ∀ y ∈ p, y.length ≤ 9223372036854775807 := fun y hy => by have := hsz y hy; omega
  have hsq1 : ∀ y ∈ q, y.length ≤ 9223372036854775807 := fun y hy => by have := hsz1 y hy; omega
  have HSZ := Lib.hid hsz; have HSZ1 := Lib.hid hsz1; have HSQ := Lib.hid hsq; have HSQ1 := Lib.hid hsq1
  have HPN := Lib.hid (strCells_len' hr); have HQN := Lib.hid (strCells_len' hr1)
  clear hsz hsz1 hsq hsq1
  obtain ⟨w0, hw0⟩ : ∃ w0, w0 = ((w.alloc (.cells #[.slice A0 n0 c0] 89)).alloc (.cells #[.slice A1 n1 c1] 89)) := ⟨_, rfl⟩
  have hb0 : Below w.heap.size w w0 := by rw [hw0]; exact (by repeat (first | exact Below.refl _ _ | assumption | refine Below.alloc ?_ (by first | exact Nat.le_refl _ | assumption | omega | (simp <;> omega)) _ | refine Below.setCell ?_ (by first | exact Nat.le_refl _ | assumption | omega | (simp <;> omega)) _ | refine Below.drew ?_ | refine below_drewN ?_ _))
  have HL0 : Hid (RBs w0 [(w.heap.size, A0, n0, c0, p), (w.heap.size + 1, A1, n1, c1, q)]) := by
    have h1 := (RBs.nil (w := w.alloc (.cells #[.slice A0 n0 c0] 89))).snoc (RB.new_ hr hnc)
    have h2 := h1.below (below_one (.cells #[.slice A1 n1 c1] 89))
    have h3 := h2.snoc (RB.new_ (l := q) ((hr1.alloc (Nat.le_refl _) (.cells #[.slice A0 n0 c0] 89)).more (by simp)) hnc1)
    rw [World.size_alloc] at h3
    unfold Hid; rw [hw0]; exact h3
  have hw1 := hw0
  clear hr hr1
  have HOF := Lib.hid (fun w => ropeOf_any s z (by omega) hz.1 hz.2 w)
  go_enter Try.func11, Try.ntmps11
  go_wp2_with fail
  rw [← hw1]
  clear hw1 hw0
  refine (HOF.out _).mono ?_
  rintro e w1 ⟨vO, rfl, hoO, hb1⟩
  obtain ⟨AO, nO, cO, rfl, hnO, hncO, hrdO⟩ := rope_own_form hoO
  have HNO := Lib.hid hnO
  have HLa := Lib.hid (HL0.out.below hb1)
  have hB1 := bthen (bthen hb0 hb1) (below_one (.cells #[.slice AO nO cO] 89))
  have HL1 := Lib.hid ((HLa.out.below (below_one (.cells #[.slice AO nO cO] 89))).snoc (RB.new_ hrdO hncO))
  clear hoO hrdO hnO HL0 hb0 hb1 HLa hncO
  have kr := HL1.out.cell 0 rfl
  have HTX := Lib.hid (ropeText_any p A0 n0 c0 _ _ (HL1.out.at_ 0 rfl).r (Nat.le_refl _) hn hnc HSQ.out)
  go_wp2_with fail
  clear kr
  generalize (w1.alloc (.cells #[.slice AO nO cO] 89)) = w1a at *
  generalize w1.heap.size = gO at *
  refine (HTX.out).mono ?_
  rintro e w2 ⟨rfl, hb2⟩
  have HL2 := Lib.hid (HL1.out.below hb2)
  have hB2 := bthen hB1 hb2
  clear HL1 hB1 hb2 HTX
  have kr := HL2.out.cell 0 rfl
  have HCU := Lib.hid (ropeCut_any p A0 n0 c0 _ at_ w2 (HL2.out.at_ 0 rfl).r (Nat.le_refl _) hn hnc HSQ.out ha.1 ha.2)
  go_wp2_with fail
  clear kr
  refine (HCU.out).mono ?_
  rintro e w3 ⟨vA, vB, rfl, hoA, hoB, hap, hb3⟩
  obtain ⟨AA, nA, cA, rfl, hnA, hncA, hrdA⟩ := rope_own_form hoA
  obtain ⟨AB, nB, cB, rfl, hnB, hncB, hrdB⟩ := rope_own_form hoB
  have HNA := Lib.hid hnA
  have HNB := Lib.hid hnB
  have HLa := Lib.hid ((HL2.out.below hb3).below (below_one (.cells #[.slice AA nA cA] 89)) |>.snoc (RB.new_ hrdA hncA))
  have HLb := Lib.hid ((HLa.out.below (below_one (.cells #[.slice AB nB cB] 89))).snoc (RB.new_ (l := cutPB p at_) ((hrdB.alloc (Nat.le_refl _) (.cells #[.slice AA nA cA] 89)).more (by simp)) hncB))
  have hB3 := bthen (bthen (bthen hB2 hb3) (below_one (.cells #[.slice AA nA cA] 89))) (below_one (.cells #[.slice AB nB cB] 89))
  rw [World.size_alloc] at HLb
  clear hoA hoB hap hrdA hrdB hncA hncB hnA hnB HL2 hB2 hb3 HLa HCU
  have kr := HLb.out.cell 0 rfl
  have kq := HLb.out.cell 1 rfl
  have HJ := Lib.hid (ropeJoin_any p q A0 n0 c0 A1 n1 c1 _ _ (HLb.out.at_ 0 rfl).r (HLb.out.at_ 1 rfl).r (Nat.le_refl _) hn hn1 HSQ.out HSQ1.out)
  go_wp2_with fail
  clear kr kq
  generalize ((w3.alloc (.cells #[.slice AA nA cA] 89)).alloc (.cells #[.slice AB nB cB] 89)) = w3b at *
  generalize w3.heap.size = gA at *
  refine (HJ.out).mono ?_
  rintro e w4 ⟨vJ, rfl, hoJ, hb4⟩
  obtain ⟨AJ, nJ, cJ, rfl, hnJ, hncJ, hrdJ⟩ := rope_own_form hoJ
  have HNJ := Lib.hid hnJ
  have HL4 := Lib.hid ((HLb.out.below hb4).below (below_one (.cells #[.slice AJ nJ cJ] 89)) |>.snoc (RB.new_ hrdJ hncJ))
  have hB4 := bthen (bthen hB3 hb4) (below_one (.cells #[.slice AJ nJ cJ] 89))
  clear hoJ hrdJ hnJ HLb hB3 hb4 hncJ HJ
  have kr := HL4.out.cell 0 rfl
  have HAT := Lib.hid (ropeAt_any p A0 n0 c0 _ at_ _ (HL4.out.at_ 0 rfl).r (Nat.le_refl _) hn HSQ.out ha.1 ha.2)
  go_wp2_with fail
  clear kr
  generalize (w4.alloc (.cells #[.slice AJ nJ cJ] 89)) = w4a at *
  generalize w4.heap.size = gJ at *
  refine (HAT.out).mono ?_
  rintro e w5 ⟨rfl, hb5⟩
  have HL5 := Lib.hid (HL4.out.below hb5)
  have hB5 := bthen hB4 hb5
  clear HL4 hB4 hb5 HAT
  go_wp2_with fail
  refine (long_any [s] _ 1 _ (w5.heap.size + 1) _ (Rd.new_ (size := 1) (n := 1) w5 _ _ (Nat.lt_succ_self _) rfl) (by omega)).mono ?_
  rintro e w6 ⟨rfl, hb6⟩
  have hb6' : Below w5.heap.size w5 w6 := ((Below.refl _ _).alloc (Nat.le_refl _) _).trans (hb6.mono (by simp))
  have HL6 := Lib.hid (HL5.out.below hb6')
  have hB6 := bthen hB5 hb6'
  rw [longAll_one]
  clear HL5 hB5 hb6 hb6'
  obtain ⟨bb, hbb⟩ : ∃ bb : Bool, bb = decide (s.size ≤ 200 ∧ ofBad z s.size) := ⟨_, rfl⟩
  have HBB := Lib.hid hbb
  clear hbb
  go_upto_region 7 with (fail)
  go_cut [74] (fun b wx => b = .bool bb ∧ RBs wx [(w.heap.size, A0, n0, c0, p), (w.heap.size + 1, A1, n1, c1, q), (gO, AO, nO, cO, ofP (L s) z), (gA, AA, nA, cA, cutPA p at_), (gA + 1, AB, nB, cB, cutPB p at_), (gJ, AJ, nJ, cJ, joinP p q)] ∧ Below w.heap.size w wx)
  case first =>
    by_cases h2 : 200 < s.size
    · have g1 : (longErr s.size == 0) = false := by unfold longErr; rw [if_pos h2]; rfl
      have HQ : Hid (decide (s.size ≤ 200 ∧ ofBad z s.size) = false) := decide_eq_false (by omega)
      go_wp2_with fail
      go_meet
      exact ⟨by rw [HBB.out, HQ.out], HL6.out, hB6⟩
    have g1 : (longErr s.size == 0) = true := by unfold longErr; rw [if_neg h2]; rfl
    by_cases hz1 : z < 1
    · have g2 : decide (z < 1) = true := decide_eq_true hz1
      have HQ : Hid (decide (s.size ≤ 200 ∧ ofBad z s.size) = true) := decide_eq_true ⟨by omega, .inl hz1⟩
      go_wp2_with fail
      go_meet
      exact ⟨by rw [HBB.out, HQ.out], HL6.out, hB6⟩
    obtain ⟨zn, rfl⟩ : ∃ zn : Nat, z = (zn : Int) := ⟨z.toNat, by omega⟩
    have g2 : decide ((zn : Int) < 1) = false := decide_eq_false hz1
    have hmn : min (zn : Int) 200 = ((min zn 200 : Nat) : Int) := by omega
    have HPO := Lib.hid (fun w => partsOf_any s (min zn 200) (by omega) (by omega) (by omega) w)
    have hmt : (min (zn : Int) 200).toNat = min zn 200 := by omega
    go_wp2_with fail
    refine (HPO.out _).mono ?_
    rintro e w7 ⟨vP, rfl, hoP, hb7⟩
    obtain ⟨AP, nP, cP, rfl, hnP, _, _⟩ := rope_own_form hoP
    have hnc9 : nP = cnt (min zn 200) s.size := by rw [hnP]; unfold partsOf; rw [pcs_len, L_len]
    have HL7 := Lib.hid (HL6.out.below hb7)
    have hB7 := bthen hB6 hb7
    by_cases h60 : 60 < cnt (min zn 200) s.size
    · have HQ : Hid (decide (s.size ≤ 200 ∧ ofBad (zn : Int) s.size) = true) := decide_eq_true ⟨by omega, .inr (by rw [hmt]; exact h60)⟩
      have g3 : decide ((60 : Int) < (nP : Int)) = true := decide_eq_true (by omega)
      have g3' : decide (60 < nP) = true := decide_eq_true (by omega)
      clear hoP hnP hnc9 h60
      go_wp2_with fail
      go_meet
      exact ⟨by rw [HBB.out, HQ.out], HL7.out, hB7⟩
    · have HQ : Hid (decide (s.size ≤ 200 ∧ ofBad (zn : Int) s.size) = false) := decide_eq_false (by
        rintro ⟨_, h | h⟩
        · omega
        · rw [hmt] at h; exact h60 h)
      have g3 : decide ((60 : Int) < (nP : Int)) = false := decide_eq_false (by omega)
      have g3' : decide (60 < nP) = false := decide_eq_false (by omega)
      clear hoP hnP hnc9 h60
      go_wp2_with fail
      go_meet
      exact ⟨by rw [HBB.out, HQ.out], HL7.out, hB7⟩
  case rest =>
    clear HL6 hB6
    obtain ⟨rfl, hl7, hB7⟩ := hcut
    have HL7 := Lib.hid hl7
    clear hl7
    go_upto_if 74 with (fail)
    go_cut [22] (fun x wx => x = .int .i64 (ofE (L s) z) ∧ RBs wx [(w.heap.size, A0, n0, c0, p), (w.heap.size + 1, A1, n1, c1, q), (gO, AO, nO, cO, ofP (L s) z), (gA, AA, nA, cA, cutPA p at_), (gA + 1, AB, nB, cB, cutPB p at_), (gJ, AJ, nJ, cJ, joinP p q)] ∧ Below w.heap.size w wx)
    case first =>
      cases bb with
      | true =>
        have hbad := of_decide_eq_true HBB.out.symm
        have HE : Hid (ofE (L s) z = 1) := by unfold Hid ofE; rw [L_len, if_neg (by omega), if_pos hbad.2]
        clear hbad
        go_wp2_with fail
        go_meet
        exact ⟨by rw [HE.out], HL7.out, hB7⟩
      | false =>
        have hbad := of_decide_eq_false HBB.out.symm
        have HE : Hid (ofE (L s) z = longErr s.size) := by
          unfold Hid ofE longErr; rw [L_len]
          by_cases h2 : 200 < s.size
          · rw [if_pos h2, if_pos h2]
          · rw [if_neg h2, if_neg h2, if_neg (fun h => hbad ⟨by omega, h⟩)]
        clear hbad
        go_wp2_with fail
        go_meet
        exact ⟨by rw [HE.out], HL7.out, hB7⟩
    case rest =>
      clear HL7 hB7
      obtain ⟨rfl, hl8, hB8⟩ := hcut
      exact ‹∀ a w, Code.wp _ _ _ a w → _› _ _ (ropeTail9 p q at_ A0 n0 c0 A1 n1 c1 s z gO AO nO cO gA AA nA cA AB nB cB gJ AJ nJ cJ w wc ⟨hn, hnc, hn1, hnc1, ha, HSZ.out, HSZ1.out, HPN.out, HQN.out, HNA.out, HNB.out, HNJ.out⟩ HNO.out hs hz hl8 hB8 _ _ _ _ _ _ _ _ _ _ _ _ _ _ _ _ _ _ _ _ _ _ _ _ _ _ _ _ _ _ _ _ _ _ _ _ _ _ _ _ _ _ _ _ _ _ _ _ _ _ _ _ _ _ _ _ _ _ _ _ _ _ _ _ _ _ _ _ _ _ _ _ _ _ _ _ _ _ _ _ _ _ _ _ _ _ _ _ _ _ _ _ _ _ _ _ _ _ _ _ _ _ _ _ _ _ _ _ _ _ _ _ _ _ _ _ _ _ _ _ _ _ _ _ _ _ _ _ _ _ _ _ _ _ _ _ _ _ _ _ _ _ _ _ _ _ _ _ _ _ _ _ _ _ _ _ _ _ _ _ _ _ _ _ _ _ _ _ _ _ _ _ _ _ _ _ _ _ _ _ _ _ _ _ _ _ _ _ _ _ _ _ _ _ _ _ _ _ _ _ _ _ _ _ _ _ _ _ _ _ _ _ _ _ _ _ _ _ _ _ _ _ _ _ _ _ _ _ _ _ _ _ _ _ _ _ _)
end Go.Proofs.Ytolnhplgaolieaa
