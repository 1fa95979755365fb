/- The law RopeSays from its region 11 on, walked. -/
import Derived.Test.YtolnhplgaolieaaRopeS
namespace Go.Proofs.Ytolnhplgaolieaa
open Go.RowKit
set_option maxRecDepth 1000000 in
set_option maxHeartbeats 8000000 in
theorem ropeTail10 (p q : Parts) (at_ : Int) (A0 : Option Addr) (n0 c0 : Nat) (A1 : Option Addr) (n1 c1 : Nat) (s : ByteArray) (z : Int) (gO : Nat) (AO : Option Addr) (nO cO gA : Nat) (AA : Option Addr) (nA cA : Nat) (AB : Option Addr) (nB cB gJ : Nat) (AJ : Option Addr) (nJ cJ : Nat) (w wc : World)
    (hctx : RCtx p q at_ n0 c0 n1 c1 nA nB nJ)
    (hl9 : RBs wc [(w.heap.size, A0, n0, c0, p), (w.heap.size + 1, A1, n1, c1, q), (gO, AO, nO, cO, ofP (L s) z), (gA, AA, nA, cA, cutPA p at_), (gA + 1, AB, nB, cB, cutPB p at_), (gJ, AJ, nJ, cJ, joinP p q)]) (hB9 : Below w.heap.size w wc)
    (u2 u3 u7 u8 u9 u11 u12 u22 u23 u24 u25 u26 u27 u28 u29 u30 u31 u32 u33 u34 u35 u36 u37 u38 u39 u40 u41 u42 u43 u44 u45 u46 u47 u48 u49 u50 u51 u52 u53 u54 u55 u56 u57 u58 u59 u60 u61 u62 u63 u64 u65 u66 u67 u68 u69 u70 u71 u72 u73 u74 u75 u76 u77 u78 u79 u80 u81 u82 u83 u84 u85 u86 u87 u88 u89 u90 u91 u92 u93 u94 u95 u96 u97 u98 u99 u100 u101 u102 u103 u104 u105 u106 u107 u108 u109 u110 u111 u112 u113 u114 u115 u116 u117 u118 u119 u120 u121 u122 u123 u124 u125 u126 u127 u128 u129 u130 u131 u132 u133 u134 u135 u136 u137 u138 u139 u140 u141 u142 u143 u144 u145 u146 u147 u148 u149 u150 u151 u152 u153 u154 u155 u156 u157 u158 u159 u160 u161 u162 u163 u164 u165 u166 u167 u168 u169 u170 u171 u172 u173 u174 u175 u176 u177 u178 u179 u180 u181 u182 u183 u184 u185 u186 u187 u188 u189 u190 u191 u192 u193 u194 u195 u196 u197 u198 u199 u200 u201 u202 u203 u204 u205 u206 u207 u208 u209 u210 u211 u212 u213 u214 u215 u216 u217 u218 u219 u220 u221 u222 u223 u224 u225 u226 u227 u228 u229 u230 u231 u232 u233 u234 u235 u236 u237 u238 u239 u240 u241 u242 u243 u244 u245 u246 u247 u248 u249 u250 u251 u252 u253 u254 u255 u256 : Value) :
    Code.wp Try.prog (ropeCode 11) (bodyPost Try.prog Try.f11 fun e w' => e = .returned (.bool true) ∧ Below w.heap.size w w') ⟨List.toArray ((Value.agg #[.slice A0 n0 c0]) :: (Value.agg #[.slice A1 n1 c1]) :: u2 :: u3 :: (Value.int .i64 at_) :: (Value.pointer (some ⟨w.heap.size, 0, none⟩)) :: (Value.pointer (some ⟨w.heap.size + 1, 0, none⟩)) :: u7 :: u8 :: u9 :: (Value.bool false) :: u11 :: u12 :: (Value.string (S (textV p))) :: (Value.int .i64 (ropeErr p)) :: (Value.pointer (some ⟨gA, 0, none⟩)) :: (Value.pointer (some ⟨gA + 1, 0, none⟩)) :: (Value.int .i64 (cutE p at_)) :: (Value.pointer (some ⟨gJ, 0, none⟩)) :: (Value.int .i64 (joinE p q)) :: (Value.int .u8 ((atV p at_).toNat : Int)) :: (Value.int .i64 (atE p at_)) :: u22 :: u23 :: u24 :: u25 :: u26 :: u27 :: u28 :: u29 :: u30 :: u31 :: u32 :: u33 :: u34 :: u35 :: u36 :: u37 :: u38 :: u39 :: u40 :: u41 :: u42 :: u43 :: u44 :: u45 :: u46 :: u47 :: u48 :: u49 :: u50 :: u51 :: u52 :: u53 :: u54 :: u55 :: u56 :: u57 :: u58 :: u59 :: u60 :: u61 :: u62 :: u63 :: u64 :: u65 :: u66 :: u67 :: u68 :: u69 :: u70 :: u71 :: u72 :: u73 :: u74 :: u75 :: u76 :: u77 :: u78 :: u79 :: u80 :: u81 :: u82 :: u83 :: u84 :: u85 :: u86 :: u87 :: u88 :: u89 :: u90 :: u91 :: u92 :: u93 :: u94 :: u95 :: u96 :: u97 :: u98 :: u99 :: u100 :: u101 :: u102 :: u103 :: u104 :: u105 :: u106 :: u107 :: u108 :: u109 :: u110 :: u111 :: u112 :: u113 :: u114 :: u115 :: u116 :: u117 :: u118 :: u119 :: u120 :: u121 :: u122 :: u123 :: u124 :: u125 :: u126 :: u127 :: u128 :: u129 :: u130 :: u131 :: u132 :: u133 :: u134 :: u135 :: u136 :: u137 :: u138 :: u139 :: u140 :: u141 :: u142 :: u143 :: u144 :: u145 :: u146 :: u147 :: u148 :: u149 :: u150 :: u151 :: u152 :: u153 :: u154 :: u155 :: u156 :: u157 :: u158 :: u159 :: u160 :: u161 :: u162 :: u163 :: u164 :: u165 :: u166 :: u167 :: u168 :: u169 :: u170 :: u171 :: u172 :: u173 :: u174 :: u175 :: u176 :: u177 :: u178 :: u179 :: u180 :: u181 :: u182 :: u183 :: u184 :: u185 :: u186 :: u187 :: u188 :: u189 :: u190 :: u191 :: u192 :: u193 :: u194 :: u195 :: u196 :: u197 :: u198 :: u199 :: u200 :: u201 :: u202 :: u203 :: u204 :: u205 :: u206 :: u207 :: u208 :: u209 :: u210 :: u211 :: u212 :: u213 :: u214 :: u215 :: u216 :: u217 :: u218 :: u219 :: u220 :: u221 :: u222 :: u223 :: u224 :: u225 :: u226 :: u227 :: u228 :: u229 :: u230 :: u231 :: u232 :: u233 :: u234 :: u235 :: u236 :: u237 :: u238 :: u239 :: u240 :: u241 :: u242 :: u243 :: u244 :: u245 :: u246 :: u247 :: u248 :: u249 :: u250 :: u251 :: u252 :: u253 :: u254 :: u255 :: u256 :: []), []⟩ wc := by
  have HCTX := Lib.hid hctx
  obtain ⟨hn, hnc, hn1, hnc1, ha, hsz, hsz1, hpn, hqn, hA, hB, hJ⟩ := hctx
  have hsq : ∀ y ∈ p, y.length ≤ 9223372036854775807 := fun y hy => by have := hsz y hy; omega
  have hsq1 : ∀ y ∈ q, y.length ≤ 9223372036854775807 := fun y hy => by have := hsz1 y hy; omega
  have HSZ := Lib.hid hsz; have HSZ1 := Lib.hid hsz1; have HSQ := Lib.hid hsq; have HSQ1 := Lib.hid hsq1
  have HPN := Lib.hid hpn; have HQN := Lib.hid hqn; have HNA := Lib.hid hA; have HNB := Lib.hid hB; have HNJ := Lib.hid hJ
  clear hsz hsz1 hsq hsq1 hpn hqn hA hB hJ
  have HL9 := Lib.hid hl9
  clear hl9
  conv => arg 2; whnf
  have HLP := Lib.hid (fun (w' : World) (hb : Below wc.heap.size wc w') => ropeErrR_any p A0 n0 c0 _ w' (((HL9.out.below hb).at_ 0 rfl).r) (Nat.le_refl _) hn hnc HSZ.out)
  have HCK := Lib.hid (fun (w' : World) (hb : Below wc.heap.size wc w') => ropeCheck_any p A0 n0 c0 _ w' (((HL9.out.below hb).at_ 0 rfl).r) (Nat.le_refl _) hn HSQ.out)
  have kr := HL9.out.cell 0 rfl
  go_wp2_with fail
  clear kr
  refine (HLP.out _ (Below.refl _ _)).mono ?_
  rintro e w10 ⟨rfl, hb10⟩
  have HL10 := Lib.hid (HL9.out.below hb10)
  have hB10 := bthen hB9 hb10
  have kr := HL10.out.cell 0 rfl
  go_wp2_with fail
  clear kr
  refine (HCK.out _ hb10).mono ?_
  rintro e w11 ⟨rfl, hb11⟩
  have HL11 := Lib.hid (HL10.out.below hb11)
  have hB11 := bthen hB10 hb11
  clear HL10 hB10 hb11 hb10 HL9 hB9 HLP HCK
  have gck : (ropeErr p != ropeErr p) = false := by rw [bne_self_eq_false]
  have HLN := Lib.hid ((HL11.out.below (below_one (.cells #[.slice none 0 0] 89))).snoc (RB.new_ (w := w11) (A := none) (n := 0) (c := 0) (l := []) Rd.nil_ (Nat.le_refl _)))
  have hBN := bthen hB11 (below_one (.cells #[.slice none 0 0] 89))
  have ka := HLN.out.cell 3 rfl
  have kb := HLN.out.cell 4 rfl
  have kj := HLN.out.cell 5 rfl
  have kn := HLN.out.cell 6 rfl
  have kr := HLN.out.cell 0 rfl
  by_cases he : ropeErr p = 0
  · have HE0 := Lib.hid he
    have HOK := Lib.hid (ropeErr_zero.1 he)
    have HTV : Hid (textV p = p.flatten) := by unfold Hid textV; rw [if_pos he]
    have HCEq : Hid (cutE p at_ = if at_ < 0 ∨ (tot p : Int) < at_ then 1 else 0) := by unfold Hid cutE; rw [if_neg (by rw [he]; decide)]
    have HAEq : Hid (atE p at_ = if at_ < 0 ∨ (tot p : Int) ≤ at_ then 1 else 0) := by unfold Hid atE; rw [if_neg (by rw [he]; decide)]
    have hts : (S p.flatten).size = tot p := S_size _
    have ht200 := HOK.out.t
    have hn60 : n0 ≤ 60 := by have := HOK.out.n; have := HPN.out; omega
    have HJS := Lib.hid (fun (w' : World) (hb : Below (w11.alloc (.cells #[.slice none 0 0] 89)).heap.size (w11.alloc (.cells #[.slice none 0 0] 89)) w') => joinS p A0 n0 c0 _ w' (((HLN.out.below hb).at_ 0 rfl).r) (Nat.le_refl _) hnc (by omega) (by show tot p ≤ _; omega))
    have HTS := Lib.hid hts
    rw [HE0.out, HTV.out]
    clear he hts
    generalize hTX : S p.flatten = TX at *
    have HTX := Lib.hid hTX
    have hTXs : TX.size ≤ 200 := by have := HTS.out; omega
    clear hTX gck
    go_wp2_with fail
    clear ka kb kj kn kr
    refine (HJS.out _ (Below.refl _ _)).mono ?_
    rintro e w12 ⟨rfl, hb12⟩
    have HL12 := Lib.hid (HLN.out.below hb12)
    have hB12 := bthen hBN hb12
    clear HLN hBN HL11 hB11 hb12 HJS
    generalize w11.heap.size = gN at *
    obtain ⟨b2, hb2⟩ : ∃ b : Bool, b = decide (at_ < 0 ∨ (tot p : Int) < at_) := ⟨_, rfl⟩
    have HB2 := Lib.hid hb2
    clear hb2
    go_upto_region 20 with (fail)
    go_cut [169] (fun b wx => b = .bool b2 ∧ RBs wx [(w.heap.size, A0, n0, c0, p), (w.heap.size + 1, A1, n1, c1, q), (gO, AO, nO, cO, ofP (L s) z), (gA, AA, nA, cA, cutPA p at_), (gA + 1, AB, nB, cB, cutPB p at_), (gJ, AJ, nJ, cJ, joinP p q), (gN, none, 0, 0, [])] ∧ Below w.heap.size w wx)
    case first =>
      by_cases hneg : at_ < 0
      · have g1 : decide (at_ < 0) = true := decide_eq_true hneg
        have HQ : Hid (decide (at_ < 0 ∨ (tot p : Int) < at_) = true) := decide_eq_true (.inl hneg)
        go_wp2_with fail
        go_meet
        exact ⟨by rw [HB2.out, HQ.out], HL12.out, hB12⟩
      obtain ⟨an, rfl⟩ : ∃ an : Nat, at_ = (an : Int) := ⟨at_.toNat, by omega⟩
      have g1 : decide ((an : Int) < 0) = false := decide_eq_false hneg
      by_cases hx : TX.size < an
      · have g2 : decide ((TX.size : Int) < (an : Int)) = true := decide_eq_true (by omega)
        have g2' : decide (TX.size < an) = true := decide_eq_true hx
        have HQ : Hid (decide ((an : Int) < 0 ∨ (tot p : Int) < (an : Int)) = true) := decide_eq_true (.inr (by have := HTS.out; omega))
        go_wp2_with fail
        go_meet
        exact ⟨by rw [HB2.out, HQ.out], HL12.out, hB12⟩
      · have g2 : decide ((TX.size : Int) < (an : Int)) = false := decide_eq_false (by omega)
        have g2' : decide (TX.size < an) = false := decide_eq_false hx
        have HQ : Hid (decide ((an : Int) < 0 ∨ (tot p : Int) < (an : Int)) = false) := decide_eq_false (by have := HTS.out; omega)
        go_wp2_with fail
        go_meet
        exact ⟨by rw [HB2.out, HQ.out], HL12.out, hB12⟩
    case rest =>
      obtain ⟨rfl, hl13, hB13⟩ := hcut
      have HL13 := Lib.hid hl13
      clear hl13 HL12 hB12
      go_upto_if 169 with (fail)
      go_cut [] (fun wx => RBs wx [(w.heap.size, A0, n0, c0, p), (w.heap.size + 1, A1, n1, c1, q), (gO, AO, nO, cO, ofP (L s) z), (gA, AA, nA, cA, cutPA p at_), (gA + 1, AB, nB, cB, cutPB p at_), (gJ, AJ, nJ, cJ, joinP p q), (gN, none, 0, 0, [])] ∧ Below w.heap.size w wx)
      case first =>
        have ka := HL13.out.cell 3 rfl
        have kb := HL13.out.cell 4 rfl
        have kn := HL13.out.cell 6 rfl
        have kr := HL13.out.cell 0 rfl
        cases b2 with
        | true =>
          have hbad := of_decide_eq_true HB2.out.symm
          have HCE : Hid (cutE p at_ = 1) := by unfold Hid; rw [HCEq.out, if_pos hbad]
          have HPA : Hid (cutPA p at_ = []) := by unfold Hid cutPA; rw [HCE.out, if_neg (by decide)]
          have HPB : Hid (cutPB p at_ = []) := by unfold Hid cutPB; rw [HCE.out, if_neg (by decide)]
          have g1 : (cutE p at_ != 1) = false := by rw [HCE.out]; rfl
          have SRA := Lib.hid (HL13.out.same 3 rfl 6 rfl HPA.out (by rw [HNA.out, HPA.out]; decide))
          have SRB := Lib.hid (HL13.out.same 4 rfl 6 rfl HPB.out (by rw [HNB.out, HPB.out]; decide))
          clear hbad
          go_wp2_with fail
          clear ka kb kn
          refine (SRA.out _ (Below.refl _ _)).mono ?_
          rintro e w14 ⟨rfl, hb14⟩
          have HL14 := Lib.hid (HL13.out.below hb14)
          have kb := HL14.out.cell 4 rfl
          have kn := HL14.out.cell 6 rfl
          go_wp2_with fail
          clear kb kn
          refine (SRB.out _ hb14).mono ?_
          rintro e w15 ⟨rfl, hb15⟩
          have HL15 := Lib.hid (HL14.out.below hb15)
          have hB15 := bthen hB13 (bthen hb14 hb15)
          go_wp2_with fail
          go_meet
          exact ⟨HL15.out, hB15⟩
        | false =>
          have hgood := of_decide_eq_false HB2.out.symm
          have HCE : Hid (cutE p at_ = 0) := by unfold Hid; rw [HCEq.out, if_neg hgood]
          obtain ⟨an, rfl⟩ : ∃ an : Nat, at_ = (an : Int) := ⟨at_.toNat, by omega⟩
          have HPA : Hid (cutPA p (an : Int) = cutA an p) := by unfold Hid cutPA; rw [HCE.out, if_pos rfl]; rfl
          have HPB : Hid (cutPB p (an : Int) = cutB an p) := by unfold Hid cutPB; rw [HCE.out, if_pos rfl]; rfl
          have g1 : (cutE p (an : Int) != 0) = false := by rw [HCE.out]; rfl
          have HCO := Lib.hid (cutOf_any p A0 n0 c0 _ an wc (HL13.out.at_ 0 rfl).r (Nat.le_refl _) HOK.out (by omega))
          clear hgood
          go_wp2_with fail
          clear ka kb kn kr
          refine (HCO.out).mono ?_
          rintro e w14 ⟨vY, vZ, rfl, hoY, hoZ, hap, hb14⟩
          obtain ⟨AY, nY, cY, rfl, hnY, hncY, hrdY⟩ := rope_own_form hoY
          obtain ⟨AZ, nZ, cZ, rfl, hnZ, hncZ, hrdZ⟩ := rope_own_form hoZ
          have hnAx : nA ≤ 9223372036854775807 := by rw [HNA.out, HPA.out]; have := cutA_len p an; have := HOK.out.n; omega
          have hnBx : nB ≤ 9223372036854775807 := by rw [HNB.out, HPB.out]; have := cutB_len p an; have := HOK.out.n; omega
          have HLa := Lib.hid ((HL13.out.below hb14).below (below_one (.cells #[.slice AY nY cY] 89)) |>.snoc (RB.new_ hrdY hncY))
          have HL14 := Lib.hid ((HLa.out.below (below_one (.cells #[.slice AZ nZ cZ] 89))).snoc (RB.new_ (l := cutB an p) ((hrdZ.alloc (Nat.le_refl _) (.cells #[.slice AY nY cY] 89)).more (by simp)) hncZ))
          have hB14 := bthen (bthen (bthen hB13 hb14) (below_one (.cells #[.slice AY nY cY] 89))) (below_one (.cells #[.slice AZ nZ cZ] 89))
          rw [World.size_alloc] at HL14
          clear hoY hoZ hap hrdY hrdZ hncY hncZ hnY hnZ hb14 HLa HCO
          have ka := HL14.out.cell 3 rfl
          have kb := HL14.out.cell 4 rfl
          have ky := HL14.out.cell 7 rfl
          have kz := HL14.out.cell 8 rfl
          have SRA := Lib.hid (HL14.out.same 3 rfl 7 rfl HPA.out hnAx)
          have SRB := Lib.hid (HL14.out.same 4 rfl 8 rfl HPB.out hnBx)
          go_wp2_with fail
          clear ka kb ky kz
          refine (SRA.out _ (Below.refl _ _)).mono ?_
          rintro e w15 ⟨rfl, hb15⟩
          have HL15 := Lib.hid (HL14.out.below hb15)
          have kb := HL15.out.cell 4 rfl
          have kz := HL15.out.cell 8 rfl
          go_wp2_with fail
          clear kb kz
          refine (SRB.out _ hb15).mono ?_
          rintro e w16 ⟨rfl, hb16⟩
          have HL16 := Lib.hid (HL15.out.below hb16)
          have hB16 := bthen hB14 (bthen hb15 hb16)
          have HLF : Hid (RBs w16 [(w.heap.size, A0, n0, c0, p), (w.heap.size + 1, A1, n1, c1, q), (gO, AO, nO, cO, ofP (L s) z), (gA, AA, nA, cA, cutPA p (an : Int)), (gA + 1, AB, nB, cB, cutPB p (an : Int)), (gJ, AJ, nJ, cJ, joinP p q), (gN, none, 0, 0, [])]) := fun x hx => HL16.out x (List.mem_append_left _ (List.mem_append_left _ hx))
          go_wp2_with fail
          go_meet
          exact ⟨HLF.out, hB16⟩
      case rest =>
      exact ‹∀ a w, Code.wp _ _ _ a w → _› _ _ (ropeTail26 p q at_ A0 n0 c0 A1 n1 c1 s z gO AO nO cO gA AA nA cA AB nB cB gJ AJ nJ cJ gN TX w wc HCTX.out HE0.out HTX.out hcut.1 hcut.2 _ _ _ _ _ _ _ _ _ _ _ _ _ _ _ _ _ _ _ _ _ _ _ _ _ _ _ _ _ _ _ _ _ _ _ _ _ _ _ _ _ _ _ _ _ _ _ _ _ _ _ _ _ _ _ _ _ _ _ _ _ _ _ _ _ _ _ _ _ _ _ _ _ _ _ _ _ _ _ _ _ _ _ _ _ _ _ _ _ _ _ _ _ _ _ _ _ _ _ _ _ _ _ _ _ _ _ _ _ _ _ _ _ _ _ _ _ _ _ _ _ _ _ _ _ _ _ _ _ _ _ _ _ _ _ _ _ _ _ _ _ _ _ _ _ _ _ _ _ _ _ _ _ _ _ _ _ _ _ _ _ _ _ _ _ _ _ _ _ _ _ _ _ _ _ _ _ _ _ _ _ _ _ _ _ _ _ _ _ _ _ _ _ _ _ _ _ _ _ _ _ _ _ _ _ _ _ _ _ _ _ _ _ _ _ _ _ _ _ _ _ _ _ _ _ _ _ _ _ _ _ _ _ _ _ _ _ _ _ _ _ _ _ _ _ _)
  · have g1 : (ropeErr p != 0) = true := by rw [bne_iff_ne]; exact he
    have HCE : Hid (cutE p at_ = ropeErr p) := by unfold Hid cutE; rw [if_pos he]
    have HJE : Hid (joinE p q = ropeErr p) := by unfold Hid joinE; rw [if_pos he]
    have HAE : Hid (atE p at_ = ropeErr p) := by unfold Hid atE; rw [if_pos he]
    have HAV : Hid (((atV p at_).toNat : Int) = 0) := by unfold Hid atV; rw [HAE.out, if_neg he]; rfl
    have HTV : Hid (textV p = []) := by unfold Hid textV; rw [if_neg he]
    have HPA : Hid (cutPA p at_ = []) := by unfold Hid cutPA; rw [HCE.out, if_neg he]
    have HPB : Hid (cutPB p at_ = []) := by unfold Hid cutPB; rw [HCE.out, if_neg he]
    have HPJ : Hid (joinP p q = []) := by unfold Hid joinP; rw [HJE.out, if_neg he]
    have SRA := Lib.hid (HLN.out.same 3 rfl 6 rfl HPA.out (by rw [HNA.out, HPA.out]; decide))
    have SRB := Lib.hid (HLN.out.same 4 rfl 6 rfl HPB.out (by rw [HNB.out, HPB.out]; decide))
    have SRJ := Lib.hid (HLN.out.same 5 rfl 6 rfl HPJ.out (by rw [HNJ.out, HPJ.out]; decide))
    have gt0 : (S ([] : List UInt8)).toList = [] := ByteArray.toList_mk []
    have gtx : ((S ([] : List UInt8)).toList == []) = true := by rw [gt0]; rfl
    have gty : (S ([] : List UInt8)).toList.isEmpty = true := by rw [gt0]; rfl
    clear gt0
    rw [HCE.out, HJE.out, HAE.out, HAV.out, HTV.out]
    clear he
    generalize ropeErr p = e0 at *
    go_wp2_with fail
    clear ka kb kj kn
    refine (SRA.out _ (Below.refl _ _)).mono ?_
    rintro e w12 ⟨rfl, hb12⟩
    have HLN2 := Lib.hid (HLN.out.below hb12)
    have kb := HLN2.out.cell 4 rfl
    have kn := HLN2.out.cell 6 rfl
    go_wp2_with fail
    clear kb kn
    refine (SRB.out _ hb12).mono ?_
    rintro e w13 ⟨rfl, hb13⟩
    have HLN3 := Lib.hid (HLN2.out.below hb13)
    have hb13' := bthen hb12 hb13
    have kj := HLN3.out.cell 5 rfl
    have kn := HLN3.out.cell 6 rfl
    go_wp2_with fail
    refine (SRJ.out _ hb13').mono ?_
    rintro e w14 ⟨rfl, hb14⟩
    have hbF := bthen hBN (bthen hb13' hb14)
    go_wp2_with fail
    go_ret
    exact ⟨rfl, hbF⟩
set_option maxRecDepth 1000000 in
set_option maxHeartbeats 8000000 in
theorem ropeTail9 (p q : Parts) (at_ : Int) (A0 : Option Addr) (n0 c0 : Nat) (A1 : Option Addr) (n1 c1 : Nat) (s : ByteArray) (z : Int) (gO : Nat) (AO : Option Addr) (nO cO gA : Nat) (AA : Option Addr) (nA cA : Nat) (AB : Option Addr) (nB cB gJ : Nat) (AJ : Option Addr) (nJ cJ : Nat) (w wc : World)
    (hctx : RCtx p q at_ n0 c0 n1 c1 nA nB nJ) (hnO : nO = (ofP (L s) z).length) (hs : s.size ≤ 140737488351232) (hz : -9223372036854775808 ≤ z ∧ z ≤ 9223372036854775807)
    (hl8 : RBs wc [(w.heap.size, A0, n0, c0, p), (w.heap.size + 1, A1, n1, c1, q), (gO, AO, nO, cO, ofP (L s) z), (gA, AA, nA, cA, cutPA p at_), (gA + 1, AB, nB, cB, cutPB p at_), (gJ, AJ, nJ, cJ, joinP p q)]) (hB8 : Below w.heap.size w wc)
    (u7 u8 u9 u23 u24 u25 u26 u27 u28 u29 u30 u31 u32 u33 u34 u35 u36 u37 u38 u39 u40 u41 u42 u43 u44 u45 u46 u47 u48 u49 u50 u51 u52 u53 u54 u55 u56 u57 u58 u59 u60 u61 u62 u63 u64 u65 u66 u67 u68 u69 u70 u71 u72 u73 u74 u75 u76 u77 u78 u79 u80 u81 u82 u83 u84 u85 u86 u87 u88 u89 u90 u91 u92 u93 u94 u95 u96 u97 u98 u99 u100 u101 u102 u103 u104 u105 u106 u107 u108 u109 u110 u111 u112 u113 u114 u115 u116 u117 u118 u119 u120 u121 u122 u123 u124 u125 u126 u127 u128 u129 u130 u131 u132 u133 u134 u135 u136 u137 u138 u139 u140 u141 u142 u143 u144 u145 u146 u147 u148 u149 u150 u151 u152 u153 u154 u155 u156 u157 u158 u159 u160 u161 u162 u163 u164 u165 u166 u167 u168 u169 u170 u171 u172 u173 u174 u175 u176 u177 u178 u179 u180 u181 u182 u183 u184 u185 u186 u187 u188 u189 u190 u191 u192 u193 u194 u195 u196 u197 u198 u199 u200 u201 u202 u203 u204 u205 u206 u207 u208 u209 u210 u211 u212 u213 u214 u215 u216 u217 u218 u219 u220 u221 u222 u223 u224 u225 u226 u227 u228 u229 u230 u231 u232 u233 u234 u235 u236 u237 u238 u239 u240 u241 u242 u243 u244 u245 u246 u247 u248 u249 u250 u251 u252 u253 u254 u255 u256 : Value) :
    Code.wp Try.prog (ropeCode 9) (bodyPost Try.prog Try.f11 fun e w' => e = .returned (.bool true) ∧ Below w.heap.size w w') ⟨List.toArray ((Value.agg #[.slice A0 n0 c0]) :: (Value.agg #[.slice A1 n1 c1]) :: (Value.string s) :: (Value.int .i64 z) :: (Value.int .i64 at_) :: (Value.pointer (some ⟨w.heap.size, 0, none⟩)) :: (Value.pointer (some ⟨w.heap.size + 1, 0, none⟩)) :: u7 :: u8 :: u9 :: (Value.bool false) :: (Value.pointer (some ⟨gO, 0, none⟩)) :: (Value.int .i64 (ofE (L s) z)) :: (Value.string (S (textV p))) :: (Value.int .i64 (ropeErr p)) :: (Value.pointer (some ⟨gA, 0, none⟩)) :: (Value.pointer (some ⟨gA + 1, 0, none⟩)) :: (Value.int .i64 (cutE p at_)) :: (Value.pointer (some ⟨gJ, 0, none⟩)) :: (Value.int .i64 (joinE p q)) :: (Value.int .u8 ((atV p at_).toNat : Int)) :: (Value.int .i64 (atE p at_)) :: (Value.int .i64 (ofE (L s) z)) :: u23 :: u24 :: u25 :: u26 :: u27 :: u28 :: u29 :: u30 :: u31 :: u32 :: u33 :: u34 :: u35 :: u36 :: u37 :: u38 :: u39 :: u40 :: u41 :: u42 :: u43 :: u44 :: u45 :: u46 :: u47 :: u48 :: u49 :: u50 :: u51 :: u52 :: u53 :: u54 :: u55 :: u56 :: u57 :: u58 :: u59 :: u60 :: u61 :: u62 :: u63 :: u64 :: u65 :: u66 :: u67 :: u68 :: u69 :: u70 :: u71 :: u72 :: u73 :: u74 :: u75 :: u76 :: u77 :: u78 :: u79 :: u80 :: u81 :: u82 :: u83 :: u84 :: u85 :: u86 :: u87 :: u88 :: u89 :: u90 :: u91 :: u92 :: u93 :: u94 :: u95 :: u96 :: u97 :: u98 :: u99 :: u100 :: u101 :: u102 :: u103 :: u104 :: u105 :: u106 :: u107 :: u108 :: u109 :: u110 :: u111 :: u112 :: u113 :: u114 :: u115 :: u116 :: u117 :: u118 :: u119 :: u120 :: u121 :: u122 :: u123 :: u124 :: u125 :: u126 :: u127 :: u128 :: u129 :: u130 :: u131 :: u132 :: u133 :: u134 :: u135 :: u136 :: u137 :: u138 :: u139 :: u140 :: u141 :: u142 :: u143 :: u144 :: u145 :: u146 :: u147 :: u148 :: u149 :: u150 :: u151 :: u152 :: u153 :: u154 :: u155 :: u156 :: u157 :: u158 :: u159 :: u160 :: u161 :: u162 :: u163 :: u164 :: u165 :: u166 :: u167 :: u168 :: u169 :: u170 :: u171 :: u172 :: u173 :: u174 :: u175 :: u176 :: u177 :: u178 :: u179 :: u180 :: u181 :: u182 :: u183 :: u184 :: u185 :: u186 :: u187 :: u188 :: u189 :: u190 :: u191 :: u192 :: u193 :: u194 :: u195 :: u196 :: u197 :: u198 :: u199 :: u200 :: u201 :: u202 :: u203 :: u204 :: u205 :: u206 :: u207 :: u208 :: u209 :: u210 :: u211 :: u212 :: u213 :: u214 :: u215 :: u216 :: u217 :: u218 :: u219 :: u220 :: u221 :: u222 :: u223 :: u224 :: u225 :: u226 :: u227 :: u228 :: u229 :: u230 :: u231 :: u232 :: u233 :: u234 :: u235 :: u236 :: u237 :: u238 :: u239 :: u240 :: u241 :: u242 :: u243 :: u244 :: u245 :: u246 :: u247 :: u248 :: u249 :: u250 :: u251 :: u252 :: u253 :: u254 :: u255 :: u256 :: []), []⟩ wc := by
  have HCTX := Lib.hid hctx
  obtain ⟨hn, hnc, hn1, hnc1, ha, hsz, hsz1, hpn, hqn, hA, hB, hJ⟩ := hctx
  have HSZ := Lib.hid hsz; have HSZ1 := Lib.hid hsz1
  have HPN := Lib.hid hpn; have HQN := Lib.hid hqn; have HNA := Lib.hid hA; have HNB := Lib.hid hB; have HNJ := Lib.hid hJ
  have HNO := Lib.hid hnO
  have HL8 := Lib.hid hl8
  clear hl8 hsz hsz1 hpn hqn hA hB hJ hnO
  conv => arg 2; whnf
  go_upto_region 9 with (fail)
  go_cut [101] (fun b wx => b = .bool false ∧ RBs wx [(w.heap.size, A0, n0, c0, p), (w.heap.size + 1, A1, n1, c1, q), (gO, AO, nO, cO, ofP (L s) z), (gA, AA, nA, cA, cutPA p at_), (gA + 1, AB, nB, cB, cutPB p at_), (gJ, AJ, nJ, cJ, joinP p q)] ∧ Below w.heap.size w wx)
  case first =>
    have hc8 := HL8.out.cell 2 rfl
    by_cases hx0 : ofE (L s) z = 0
    · have HP : Hid (ofP (L s) z = partsOf (min z 200).toNat (L s)) := by unfold Hid ofP; rw [if_pos hx0]
      have hok : s.size ≤ 200 ∧ 1 ≤ z := by
        unfold ofE at hx0; rw [L_len] at hx0
        split at hx0
        · cases hx0
        · rename_i h2
          split at hx0
          · cases hx0
          · rename_i h3; unfold ofBad at h3; omega
      obtain ⟨zn, rfl⟩ : ∃ zn : Nat, z = (zn : Int) := ⟨z.toNat, by omega⟩
      have hmt : (min (zn : Int) 200).toNat = min zn 200 := by omega
      have hmn : min (zn : Int) 200 = ((min zn 200 : Nat) : Int) := by omega
      have HPO := Lib.hid (fun w => partsOf_any s (min zn 200) (by omega) (by omega) (by omega) w)
      have gx1 : (ofE (L s) (zn : Int) == 0) = true := by rw [hx0]; rfl
      have gx2 : (ofE (L s) (zn : Int) != 0) = false := by rw [hx0]; rfl
      have HMT := Lib.hid hmt
      clear hx0 hmt
      go_wp2_with fail
      obtain ⟨F1, hFd⟩ : ∃ F : World → Prop, F = fun w' => w'.cell? ⟨gO, 0, none⟩ = some (.slice AO nO cO) := ⟨_, rfl⟩
      have HF1 := Lib.hid hFd
      clear hFd
      have hcell10 : ∀ p' : Wof F1, p'.w.cell? ⟨gO, 0, none⟩ = some (.slice AO nO cO) := fun ⟨x, hx⟩ => by rw [HF1.out] at hx; exact hx
      refine wp_region_schedF [(0, true), (1, true), (2, true), (3, true), (4, true), (5, true), (6, true), (7, true), (8, true), (9, false), (10, true), (11, true), (12, true), (13, true), (14, true), (15, true), (16, true), (17, true), (18, true), (19, true), (20, true), (21, true), (22, false), (23, false), (24, true), (25, true), (26, true)] F1 (by kernel_rfl) (by kernel_rfl) rfl (fun _ _ _ _ _ h => h) (by kernel_rfl) (by rw [HF1.out]; first | trivial | (repeat' apply And.intro) <;> assumption | (simp; done) | (simp [*]; done)) (by rw [HF1.out]; exact fun h => h) ?_
      intro hne1
      simp only [opersOf, List.getElem?_toArray, List.getElem?_cons_succ, List.getElem?_cons_zero]
      repeat (first | (refine wpSched_want rfl ?_; intro K hK; go_big_quiet_op; go_big_quiet_on) | (refine wpSched_skip rfl ?_; simp only [Act.put, List.setIfInBounds_toArray, List.set_cons_zero, List.set_cons_succ]))
      refine wpSched_other ?_
      go_wp2_with fail
      refine sched_back (by rw [HF1.out]; first | trivial | (repeat' apply And.intro) <;> assumption | (simp; done) | (go_simp; done) | (simp [*]; done)) ?_
      repeat (first | (refine wpSched_want rfl ?_; intro K hK; go_big_quiet_op; go_big_quiet_on) | (refine wpSched_skip rfl ?_; simp only [Act.put, List.setIfInBounds_toArray, List.set_cons_zero, List.set_cons_succ]))
      refine wpSched_other ?_
      have hbd : Below wc.heap.size wc wc.drew := (Below.refl _ _).drew
      go_wp2_with fail
      refine (HPO.out _).mono ?_
      rintro e w9 ⟨vP, rfl, hoP, hb9⟩
      obtain ⟨AP, nP, cP, rfl, hnP, _, hrP⟩ := rope_own_form hoP
      have hb9' := bthen hbd hb9
      have HL9 := Lib.hid (HL8.out.below hb9')
      have hB9 := bthen hB8 hb9'
      have hc9 := HL9.out.cell 2 rfl
      have HPQ : Hid (ofP (L s) (zn : Int) = partsOf (min zn 200) (L s)) := by unfold Hid; rw [HP.out, HMT.out]
      have hro := (HL9.out.at_ 2 rfl).r
      rw [HPQ.out] at hro
      obtain rfl : nP = nO := by rw [hnP, HNO.out, HPQ.out]
      have HAL := Lib.hid (fun (w' : World) (hb : Below w9.heap.size w9 w') => alike_str_true AO AP nP cO cP _ _ (partsOf (min zn 200) (L s)) w' (by have := cnt_le (K := min zn 200) (n := s.size) (by omega); rw [hnP]; unfold partsOf; rw [pcs_len, L_len]; omega) (hro.below hb) (hrP.below hb))
      clear hoP hnP hrP hro hb9 hb9' hbd HPO
      go_wp2_with fail
      refine sched_back (by rw [HF1.out]; first | trivial | (repeat' apply And.intro) <;> assumption | (simp; done) | (go_simp; done) | (simp [*]; done)) ?_
      repeat (first | (refine wpSched_want rfl ?_; intro K hK; go_big_quiet_op; go_big_quiet_on) | (refine wpSched_skip rfl ?_; simp only [Act.put, List.setIfInBounds_toArray, List.set_cons_zero, List.set_cons_succ]))
      refine wpSched_other ?_
      go_wp2_with fail
      refine (HAL.out _ (Below.refl _ _)).mono ?_
      rintro e w10 ⟨rfl, hb10⟩
      have HL10 := Lib.hid (HL9.out.below hb10)
      have hB10 := bthen hB9 hb10
      have hc10 := HL10.out.cell 2 rfl
      go_wp2_with fail
      refine sched_back (by rw [HF1.out]; first | trivial | (repeat' apply And.intro) <;> assumption | (simp; done) | (go_simp; done) | (simp [*]; done)) ?_
      repeat (first | (refine wpSched_want rfl ?_; intro K hK; go_big_quiet_op; go_big_quiet_on) | (refine wpSched_skip rfl ?_; simp only [Act.put, List.setIfInBounds_toArray, List.set_cons_zero, List.set_cons_succ]))
      refine wpSched_nil ?_
      go_wp2_with fail
      go_meet
      exact ⟨rfl, HL10.out, hB10⟩
    · have HP : Hid (ofP (L s) z = []) := by unfold Hid ofP; rw [if_neg hx0]
      have g1 : (ofE (L s) z != 0) = true := by rw [bne_iff_ne]; exact hx0
      have g2 : (ofE (L s) z == 0) = false := by rw [beq_eq_false_iff_ne]; exact hx0
      have hnO : nO = 0 := by rw [HNO.out, HP.out]; rfl
      subst hnO
      have hro := (HL8.out.at_ 2 rfl).r
      rw [HP.out] at hro
      have hcr := cell_regrown hc8
      have HSR := Lib.hid (fun (w' : World) (hb : Below wc.heap.size wc w') => sameRope_true [] AO 0 cO _ none 0 0 w' (hro.below hb) (Rd.nil_ (w := w')) hb.size (Nat.zero_le _) (by omega))
      clear hx0
      generalize ofE (L s) z = x at *
      go_wp2_with fail
      refine wp_region_quiet_below (by kernel_rfl) (by kernel_rfl) ?_
      repeat (go_big_quiet_step ((go_at_call 60; exact Calls.regrown_of (HSR.out _ (below_regrown _ _ _)))))
      refine wpQuiet_nil ?_
      intro w9 hb90
      have hb9 := below_of_regrown hb90
      clear hb90
      go_wp2_with fail
      go_meet
      exact ⟨rfl, HL8.out.below hb9, bthen hB8 hb9⟩
  case rest =>
    clear HL8 hB8
    obtain ⟨rfl, hl9, hB9⟩ := hcut
    have HL9 := Lib.hid hl9
    clear hl9
    go_upto_if 101 with (fail)
    refine wp_cond (t := false) rfl ?_
    refine wp_skip ?_
    show _
    exact ‹∀ a w, Code.wp _ _ _ a w → _› _ _ (ropeTail10 p q at_ A0 n0 c0 A1 n1 c1 s z gO AO nO cO gA AA nA cA AB nB cB gJ AJ nJ cJ w wc ⟨hn, hnc, hn1, hnc1, ha, HSZ.out, HSZ1.out, HPN.out, HQN.out, HNA.out, HNB.out, HNJ.out⟩ HL9.out hB9 _ _ _ _ _ _ _ _ _ _ _ _ _ _ _ _ _ _ _ _ _ _ _ _ _ _ _ _ _ _ _ _ _ _ _ _ _ _ _ _ _ _ _ _ _ _ _ _ _ _ _ _ _ _ _ _ _ _ _ _ _ _ _ _ _ _ _ _ _ _ _ _ _ _ _ _ _ _ _ _ _ _ _ _ _ _ _ _ _ _ _ _ _ _ _ _ _ _ _ _ _ _ _ _ _ _ _ _ _ _ _ _ _ _ _ _ _ _ _ _ _ _ _ _ _ _ _ _ _ _ _ _ _ _ _ _ _ _ _ _ _ _ _ _ _ _ _ _ _ _ _ _ _ _ _ _ _ _ _ _ _ _ _ _ _ _ _ _ _ _ _ _ _ _ _ _ _ _ _ _ _ _ _ _ _ _ _ _ _ _ _ _ _ _ _ _ _ _ _ _ _ _ _ _ _ _ _ _ _ _ _ _ _ _ _ _ _ _ _ _ _ _ _ _ _ _ _ _ _ _ _ _ _ _ _ _ _ _ _ _ _ _)
end Go.Proofs.Ytolnhplgaolieaa
