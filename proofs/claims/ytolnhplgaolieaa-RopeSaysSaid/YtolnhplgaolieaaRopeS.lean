/- Blocks that hold ropes; the law RopeSays from its region 26 on, walked. -/
import Derived.Test.YtolnhplgaolieaaRopeJ
import Derived.Test.YtolnhplgaolieaaRopeH
import Derived.Test.YtolnhplgaolieaaJoinS
import Derived.Deep.DeepCutAuto
namespace Go.Proofs.Ytolnhplgaolieaa
open Go.RowKit
/-- Blocks that hold ropes. -/
structure RB (w : World) (g : Nat) (A : Option Addr) (n c : Nat) (l : Parts) : Prop where
  b : Blk w g 89 #[.slice A n c]
  r : Rd w w.heap.size 1 A n (strCells l)
  h : n ≤ c
abbrev RE := Nat × Option Addr × Nat × Nat × Parts
def RBs (w : World) (l : List RE) : Prop := ∀ x ∈ l, RB w x.1 x.2.1 x.2.2.1 x.2.2.2.1 x.2.2.2.2
section
variable {w w' : World} {g : Nat} {A : Option Addr} {n c : Nat} {l : Parts} {L : List RE}
theorem RB.below (h : RB w g A n c l) (hb : Below w.heap.size w w') : RB w' g A n c l := ⟨h.b.below' hb, (h.r.below hb).more hb.size, h.h⟩
theorem RB.new_ (hr : Rd w w.heap.size 1 A n (strCells l)) (h : n ≤ c) : RB (w.alloc (.cells #[.slice A n c] 89)) w.heap.size A n c l :=
  ⟨Blk.new_ _ _ _, (hr.alloc (Nat.le_refl _) _).more (by simp), h⟩
theorem RB.of_own {base : Nat} (ho : w.ownsRow base 9 1 (.slice A n c) l.length (strCells l)) (h : n ≤ c) : RB (w.alloc (.cells #[.slice A n c] 89)) w.heap.size A n c l := by
  have e : n = l.length := by
    obtain ⟨A', c', e, _⟩ := own_form ho
    injection e
  subst e
  exact RB.new_ (Rd.of_own ho) h
theorem RBs.nil : RBs w [] := fun _ h => by cases h
theorem RBs.below (h : RBs w L) (hb : Below w.heap.size w w') : RBs w' L := fun x hx => (h x hx).below hb
theorem RBs.snoc (h : RBs w L) (h2 : RB w g A n c l) : RBs w (L ++ [(g, A, n, c, l)]) := fun x hx => by
  rcases List.mem_append.1 hx with h3 | h3
  · exact h x h3
  · rw [List.mem_singleton] at h3; subst h3; exact h2
theorem RBs.at_ (h : RBs w L) (i : Nat) (hi : L[i]? = some (g, A, n, c, l)) : RB w g A n c l := h _ (List.mem_of_getElem? hi)
theorem RBs.cell (h : RBs w L) (i : Nat) (hi : L[i]? = some (g, A, n, c, l)) : w.cell? ⟨g, 0, none⟩ = some (.slice A n c) := Blk.cell0 (h.at_ i hi).b
theorem RBs.lt (h : RBs w L) (i : Nat) (hi : L[i]? = some (g, A, n, c, l)) : g < w.heap.size := (h.at_ i hi).b.lt
/-- Two ropes of the same parts. -/
theorem RBs.same {g' : Nat} {A' : Option Addr} {n' c' : Nat} {l' : Parts} (h : RBs w L) (i : Nat) (hi : L[i]? = some (g, A, n, c, l)) (j : Nat) (hj : L[j]? = some (g', A', n', c', l')) (e : l = l') (hn : n ≤ 9223372036854775807)
    (w' : World) (hb : Below w.heap.size w w') : Calls Try.prog 60 #[.agg #[.slice A n c], .agg #[.slice A' n' c']] w' fun e w'' => e = .returned (.bool true) ∧ Below w'.heap.size w' w'' := by
  subst e
  have h1 := ((h.below hb).at_ i hi).r
  have h2 := ((h.below hb).at_ j hj).r
  obtain rfl := strCells_len' h1
  have h3 := strCells_len' h2
  subst h3
  exact sameRope_true l A _ c _ A' c' _ w' h1 h2 (Nat.le_refl _) (Nat.le_refl _) hn
theorem below_one (o : Obj) : Below w.heap.size w (w.alloc o) := (Below.refl _ _).alloc (Nat.le_refl _) _
end
theorem rope_own_form {w : World} {base : Nat} {v : Value} {l : Parts} (ho : w.ownsRow base 9 1 v l.length (strCells l)) : ∃ A n c, v = .slice A n c ∧ n = l.length ∧ n ≤ c ∧ Rd w w.heap.size 1 A n (strCells l) := by
  obtain ⟨A, c, e, h1, h2, h3⟩ := own_form ho
  exact ⟨A, _, c, e, rfl, h1, h3⟩
/-- What the walk knows of the two ropes. -/
structure RCtx (p q : Parts) (at_ : Int) (n0 c0 n1 c1 nA nB nJ : Nat) : Prop where
  hn : n0 ≤ 9223372036854775807
  hnc : n0 ≤ c0
  hn1 : n1 ≤ 9223372036854775807
  hnc1 : n1 ≤ c1
  ha : -9223372036854775808 ≤ at_ ∧ at_ ≤ 9223372036854775807
  hsz : ∀ y ∈ p, y.length ≤ 140737488351232
  hsz1 : ∀ y ∈ q, y.length ≤ 140737488351232
  hpn : p.length = n0
  hqn : q.length = n1
  hA : nA = (cutPA p at_).length
  hB : nB = (cutPB p at_).length
  hJ : nJ = (joinP p q).length
/-- Whether a statement begins with region n. -/
def headIs (n : Nat) : Code → Bool
  | .region id _ _ => id == n
  | .seq a _ => headIs n a
  | .scope a => headIs n a
  | .block _ a => headIs n a
  | _ => false
/-- The code from region n on. -/
def tailAt (n : Nat) : Code → Option Code
  | .seq a b => if headIs n a then some (.seq a b) else match tailAt n b with
    | some c => some c
    | none => tailAt n a
  | .scope a => tailAt n a
  | .block _ a => tailAt n a
  | _ => none
noncomputable def ropeCode (n : Nat) : Code := ((Try.f11.body.bind (tailAt n)).getD .skip)
set_option maxRecDepth 1000000 in
set_option maxHeartbeats 8000000 in
theorem ropeTail26 (p q : Parts) (at_ : Int) (A0 : Option Addr) (n0 c0 : Nat) (A1 : Option Addr) (n1 c1 : Nat) (s : ByteArray) (z : Int) (gO : Nat) (AO : Option Addr) (nO cO gA : Nat) (AA : Option Addr) (nA cA : Nat) (AB : Option Addr) (nB cB gJ : Nat) (AJ : Option Addr) (nJ cJ : Nat) (gN : Nat) (TX : ByteArray) (w wc : World)
    (hctx : RCtx p q at_ n0 c0 n1 c1 nA nB nJ) (he : ropeErr p = 0) (hTX : S p.flatten = TX)
    (hl17 : RBs wc [(w.heap.size, A0, n0, c0, p), (w.heap.size + 1, A1, n1, c1, q), (gO, AO, nO, cO, ofP (L s) z), (gA, AA, nA, cA, cutPA p at_), (gA + 1, AB, nB, cB, cutPB p at_), (gJ, AJ, nJ, cJ, joinP p q), (gN, none, 0, 0, [])]) (hB17 : Below w.heap.size w wc)
    (u2 u3 u7 u8 u9 u10 u11 u12 u13 u14 u15 u16 u17 u22 u23 u26 u27 u28 u29 u30 u31 u32 u33 u34 u35 u36 u37 u38 u39 u40 u41 u42 u43 u44 u45 u46 u47 u48 u49 u50 u51 u52 u53 u54 u55 u56 u57 u58 u59 u60 u61 u62 u63 u64 u65 u66 u67 u68 u69 u70 u71 u72 u73 u74 u75 u76 u77 u78 u79 u80 u81 u82 u83 u84 u85 u86 u87 u88 u89 u90 u91 u92 u93 u94 u95 u96 u97 u98 u99 u100 u101 u102 u103 u104 u105 u106 u107 u108 u109 u110 u111 u112 u113 u114 u115 u116 u117 u118 u119 u120 u121 u122 u123 u124 u125 u126 u127 u128 u129 u130 u131 u132 u133 u134 u135 u136 u137 u138 u139 u140 u141 u142 u143 u144 u145 u146 u147 u148 u149 u150 u151 u152 u153 u154 u155 u156 u157 u158 u159 u160 u161 u162 u163 u164 u165 u166 u167 u168 u169 u170 u171 u172 u173 u174 u175 u176 u177 u178 u179 u180 u181 u182 u183 u184 u185 u186 u187 u188 u189 u190 u191 u192 u193 u194 u195 u196 u197 u198 u199 u200 u201 u202 u203 u204 u205 u206 u207 u208 u209 u210 u211 u212 u213 u214 u215 u216 u217 u218 u219 u220 u221 u222 u223 u224 u225 u226 u227 u228 u229 u230 u231 u232 u233 u234 u235 u236 u237 u238 u239 u240 u241 u242 u243 u244 u245 u246 u247 u248 u249 u250 u251 u252 u253 u254 u255 u256 : Value) :
    Code.wp Try.prog (ropeCode 26) (bodyPost Try.prog Try.f11 fun e w' => e = .returned (.bool true) ∧ Below w.heap.size w w') ⟨List.toArray ((Value.agg #[.slice A0 n0 c0]) :: (Value.agg #[.slice A1 n1 c1]) :: u2 :: u3 :: (Value.int .i64 at_) :: (Value.pointer (some ⟨w.heap.size, 0, none⟩)) :: (Value.pointer (some ⟨w.heap.size + 1, 0, none⟩)) :: u7 :: u8 :: u9 :: u10 :: u11 :: u12 :: u13 :: u14 :: u15 :: u16 :: u17 :: (Value.pointer (some ⟨gJ, 0, none⟩)) :: (Value.int .i64 (joinE p q)) :: (Value.int .u8 ((atV p at_).toNat : Int)) :: (Value.int .i64 (atE p at_)) :: u22 :: u23 :: (Value.pointer (some ⟨gN, 0, none⟩)) :: (Value.string TX) :: u26 :: u27 :: u28 :: u29 :: u30 :: u31 :: u32 :: u33 :: u34 :: u35 :: u36 :: u37 :: u38 :: u39 :: u40 :: u41 :: u42 :: u43 :: u44 :: u45 :: u46 :: u47 :: u48 :: u49 :: u50 :: u51 :: u52 :: u53 :: u54 :: u55 :: u56 :: u57 :: u58 :: u59 :: u60 :: u61 :: u62 :: u63 :: u64 :: u65 :: u66 :: u67 :: u68 :: u69 :: u70 :: u71 :: u72 :: u73 :: u74 :: u75 :: u76 :: u77 :: u78 :: u79 :: u80 :: u81 :: u82 :: u83 :: u84 :: u85 :: u86 :: u87 :: u88 :: u89 :: u90 :: u91 :: u92 :: u93 :: u94 :: u95 :: u96 :: u97 :: u98 :: u99 :: u100 :: u101 :: u102 :: u103 :: u104 :: u105 :: u106 :: u107 :: u108 :: u109 :: u110 :: u111 :: u112 :: u113 :: u114 :: u115 :: u116 :: u117 :: u118 :: u119 :: u120 :: u121 :: u122 :: u123 :: u124 :: u125 :: u126 :: u127 :: u128 :: u129 :: u130 :: u131 :: u132 :: u133 :: u134 :: u135 :: u136 :: u137 :: u138 :: u139 :: u140 :: u141 :: u142 :: u143 :: u144 :: u145 :: u146 :: u147 :: u148 :: u149 :: u150 :: u151 :: u152 :: u153 :: u154 :: u155 :: u156 :: u157 :: u158 :: u159 :: u160 :: u161 :: u162 :: u163 :: u164 :: u165 :: u166 :: u167 :: u168 :: u169 :: u170 :: u171 :: u172 :: u173 :: u174 :: u175 :: u176 :: u177 :: u178 :: u179 :: u180 :: u181 :: u182 :: u183 :: u184 :: u185 :: u186 :: u187 :: u188 :: u189 :: u190 :: u191 :: u192 :: u193 :: u194 :: u195 :: u196 :: u197 :: u198 :: u199 :: u200 :: u201 :: u202 :: u203 :: u204 :: u205 :: u206 :: u207 :: u208 :: u209 :: u210 :: u211 :: u212 :: u213 :: u214 :: u215 :: u216 :: u217 :: u218 :: u219 :: u220 :: u221 :: u222 :: u223 :: u224 :: u225 :: u226 :: u227 :: u228 :: u229 :: u230 :: u231 :: u232 :: u233 :: u234 :: u235 :: u236 :: u237 :: u238 :: u239 :: u240 :: u241 :: u242 :: u243 :: u244 :: u245 :: u246 :: u247 :: u248 :: u249 :: u250 :: u251 :: u252 :: u253 :: u254 :: u255 :: u256 :: []), []⟩ wc := by
  obtain ⟨hn, hnc, hn1, hnc1, ha, hsz, hsz1, hpn, hqn, hA, hB, hJ⟩ := hctx
  have hsq : ∀ y ∈ p, y.length ≤ 9223372036854775807 := fun y hy => by have := hsz y hy; omega
  have hsq1 : ∀ y ∈ q, y.length ≤ 9223372036854775807 := fun y hy => by have := hsz1 y hy; omega
  have HSZ := Lib.hid hsz; have HSZ1 := Lib.hid hsz1; have HSQ := Lib.hid hsq; have HSQ1 := Lib.hid hsq1
  have HPN := Lib.hid hpn; have HQN := Lib.hid hqn; have HNA := Lib.hid hA; have HNB := Lib.hid hB; have HNJ := Lib.hid hJ
  clear hsz hsz1 hsq hsq1 hpn hqn hA hB hJ
  have HL17 := Lib.hid hl17
  have HE0 := Lib.hid he
  have HOK := Lib.hid (ropeErr_zero.1 he)
  have HAEq : Hid (atE p at_ = if at_ < 0 ∨ (tot p : Int) ≤ at_ then 1 else 0) := by unfold Hid atE; rw [if_neg (by rw [he]; decide)]
  have ht200 := HOK.out.t
  have HTS : Hid (TX.size = tot p) := by rw [← hTX]; exact S_size _
  have HTX := Lib.hid hTX
  have hTXs : TX.size ≤ 200 := by have := HTS.out; omega
  clear he hTX hl17
  conv => arg 2; whnf
  obtain ⟨b3, hb3⟩ : ∃ b : Bool, b = decide (at_ < 0 ∨ (tot p : Int) ≤ at_) := ⟨_, rfl⟩
  have HB3 := Lib.hid hb3
  clear hb3
  go_upto_region 26 with (fail)
  go_cut [211] (fun b wx => b = .bool b3 ∧ RBs wx [(w.heap.size, A0, n0, c0, p), (w.heap.size + 1, A1, n1, c1, q), (gO, AO, nO, cO, ofP (L s) z), (gA, AA, nA, cA, cutPA p at_), (gA + 1, AB, nB, cB, cutPB p at_), (gJ, AJ, nJ, cJ, joinP p q), (gN, none, 0, 0, [])] ∧ Below w.heap.size w wx)
  case first =>
    by_cases hneg : at_ < 0
    · have g1 : decide (at_ < 0) = true := decide_eq_true hneg
      have HQ : Hid (decide (at_ < 0 ∨ (tot p : Int) ≤ at_) = true) := decide_eq_true (.inl hneg)
      go_wp2_with fail
      go_meet
      exact ⟨by rw [HB3.out, HQ.out], HL17.out, hB17⟩
    obtain ⟨an, rfl⟩ : ∃ an : Nat, at_ = (an : Int) := ⟨at_.toNat, by omega⟩
    have g1 : decide ((an : Int) < 0) = false := decide_eq_false hneg
    by_cases hx : TX.size ≤ an
    · have g2 : decide ((TX.size : Int) ≤ (an : Int)) = true := decide_eq_true (by omega)
      have g2' : decide (TX.size ≤ an) = true := decide_eq_true hx
      have HQ : Hid (decide ((an : Int) < 0 ∨ (tot p : Int) ≤ (an : Int)) = true) := decide_eq_true (.inr (by have := HTS.out; omega))
      go_wp2_with fail
      go_meet
      exact ⟨by rw [HB3.out, HQ.out], HL17.out, hB17⟩
    · have g2 : decide ((TX.size : Int) ≤ (an : Int)) = false := decide_eq_false (by omega)
      have g2' : decide (TX.size ≤ an) = false := decide_eq_false hx
      have HQ : Hid (decide ((an : Int) < 0 ∨ (tot p : Int) ≤ (an : Int)) = false) := decide_eq_false (by have := HTS.out; omega)
      go_wp2_with fail
      go_meet
      exact ⟨by rw [HB3.out, HQ.out], HL17.out, hB17⟩
  case rest =>
    obtain ⟨rfl, hl18, hB18⟩ := hcut
    have HL18 := Lib.hid hl18
    clear hl18 HL17 hB17
    go_upto_if 211 with (fail)
    go_cut [] (fun wx => RBs wx [(w.heap.size, A0, n0, c0, p), (w.heap.size + 1, A1, n1, c1, q), (gO, AO, nO, cO, ofP (L s) z), (gA, AA, nA, cA, cutPA p at_), (gA + 1, AB, nB, cB, cutPB p at_), (gJ, AJ, nJ, cJ, joinP p q), (gN, none, 0, 0, [])] ∧ Below w.heap.size w wx)
    case first =>
      cases b3 with
      | true =>
        have hbad := of_decide_eq_true HB3.out.symm
        have HAE : Hid (atE p at_ = 1) := by unfold Hid; rw [HAEq.out, if_pos hbad]
        have HAV : Hid (((atV p at_).toNat : Int) = 0) := by unfold Hid atV; rw [HAE.out, if_neg (by decide)]; rfl
        have g1 : (atE p at_ != 1) = false := by rw [HAE.out]; rfl
        have g2 : (((atV p at_).toNat : Int) != 0) = false := by rw [HAV.out]; rfl
        clear hbad
        go_wp2_with fail
        go_meet
        exact ⟨HL18.out, hB18⟩
      | false =>
        have hgood := of_decide_eq_false HB3.out.symm
        have HAE : Hid (atE p at_ = 0) := by unfold Hid; rw [HAEq.out, if_neg hgood]
        obtain ⟨an, rfl⟩ : ∃ an : Nat, at_ = (an : Int) := ⟨at_.toNat, by omega⟩
        have hx : an < TX.size := by have := HTS.out; omega
        have HAV : Hid (atV p (an : Int) = TX[an]) := by
          unfold Hid atV; rw [HAE.out, if_pos rfl]
          have e := HTX.out
          subst e
          rw [getB _ _ hx, L_S]; rfl
        have g1 : (atE p (an : Int) != 0) = false := by rw [HAE.out]; rfl
        have g2 : (((atV p (an : Int)).toNat : Int) != (TX[an].toNat : Int)) = false := by rw [HAV.out, bne_self_eq_false]
        have g3 : ((atV p (an : Int)).toNat != TX[an].toNat) = false := by rw [HAV.out, bne_self_eq_false]
        clear hgood
        go_wp2_with fail
        go_meet
        exact ⟨HL18.out, hB18⟩
    case rest =>
      obtain ⟨hl19, hB19⟩ := hcut
      have HL19 := Lib.hid hl19
      clear hl19 HL18 hB18 HB3 HAEq
      have HQR := Lib.hid (fun (w' : World) (hb : Below wc.heap.size wc w') => ropeErrR_any q A1 n1 c1 _ w' (((HL19.out.below hb).at_ 1 rfl).r) (Nat.le_refl _) hn1 hnc1 HSZ1.out)
      have HJQ : Hid (joinE p q = if ropeErr q ≠ 0 then ropeErr q else joinErr p q) := by unfold Hid joinE; rw [if_neg (by rw [HE0.out]; decide)]
      have kq := HL19.out.cell 1 rfl
      have hncp := (HL19.out.at_ 0 rfl).h
      go_wp2_with fail
      clear kq
      refine (HQR.out _ (Below.refl _ _)).mono ?_
      rintro e w20 ⟨rfl, hb20⟩
      have HL20 := Lib.hid (HL19.out.below hb20)
      have hB20 := bthen hB19 hb20
      clear HL19 hB19 HQR
      by_cases hq0 : ropeErr q = 0
      · have HOQ := Lib.hid (ropeErr_zero.1 hq0)
        have HJE : Hid (joinE p q = joinErr p q) := by unfold Hid; rw [HJQ.out, if_neg (by rw [hq0]; decide)]
        have g1 : (ropeErr q == 0) = true := by rw [hq0]; rfl
        have HJF := Lib.hid (fun (w' : World) (hb : Below w20.heap.size w20 w') => joinErr_any p q A0 n0 c0 A1 n1 c1 _ w' (((HL20.out.below hb).at_ 0 rfl).r) (((HL20.out.below hb).at_ 1 rfl).r) (Nat.le_refl _) HOK.out HOQ.out hnc hnc1)
        have kr := HL20.out.cell 0 rfl
        have kq := HL20.out.cell 1 rfl
        clear hq0
        go_wp2_with fail
        clear kr kq
        refine (HJF.out _ (Below.refl _ _)).mono ?_
        rintro e w21 ⟨rfl, hb21⟩
        have HL21 := Lib.hid (HL20.out.below hb21)
        have hB21 := bthen hB20 hb21
        clear HL20 hB20 HJF
        by_cases hj0 : joinErr p q = 0
        · have g2 : (joinErr p q != 0) = false := by rw [hj0]; rfl
          have g3 : (joinE p q == 0) = true := by rw [HJE.out, hj0]; rfl
          have HPJ : Hid (joinP p q = p ++ q) := by unfold Hid joinP; rw [HJE.out, hj0, if_pos rfl]
          go_wp2_with fail
          have hcp := HL21.out.cell 0 rfl
          have hcq := HL21.out.cell 1 rfl
          have hcj := HL21.out.cell 5 rfl
          obtain ⟨F1, hFd⟩ : ∃ F : World → Prop, F = fun w' => w'.cell? ⟨w.heap.size, 0, none⟩ = some (.slice A0 n0 c0) ∧ w'.cell? ⟨w.heap.size + 1, 0, none⟩ = some (.slice A1 n1 c1) ∧ w'.cell? ⟨gJ, 0, none⟩ = some (.slice AJ nJ cJ) := ⟨_, rfl⟩
          have HF1 := Lib.hid hFd
          clear hFd
          have hcell10 : ∀ p' : Wof F1, p'.w.cell? ⟨w.heap.size, 0, none⟩ = some (.slice A0 n0 c0) := fun ⟨x, hx⟩ => by rw [HF1.out] at hx; exact hx.1
          have hcell11 : ∀ p' : Wof F1, p'.w.cell? ⟨w.heap.size + 1, 0, none⟩ = some (.slice A1 n1 c1) := fun ⟨x, hx⟩ => by rw [HF1.out] at hx; exact hx.2.1
          have hcell12 : ∀ p' : Wof F1, p'.w.cell? ⟨gJ, 0, none⟩ = some (.slice AJ nJ cJ) := fun ⟨x, hx⟩ => by rw [HF1.out] at hx; exact hx.2.2
          refine wp_region_schedF [(0, true), (1, true), (2, true), (3, true), (4, true), (5, true), (6, true), (7, true), (8, true), (9, false), (10, false), (11, false), (12, true), (13, true)] F1 (by kernel_rfl) (by kernel_rfl) rfl (fun _ _ _ _ _ h => h) (by kernel_rfl) (by rw [HF1.out]; first | trivial | (repeat' apply And.intro) <;> assumption | (simp; done) | (simp [*]; done)) (by rw [HF1.out]; exact fun h => h) ?_
          intro hne1
          simp only [opersOf, List.getElem?_toArray, List.getElem?_cons_succ, List.getElem?_cons_zero]
          repeat (first | (refine wpSched_want rfl ?_; intro K hK; go_big_quiet_op; go_big_quiet_on) | (refine wpSched_skip rfl ?_; simp only [Act.put, List.setIfInBounds_toArray, List.set_cons_zero, List.set_cons_succ]))
          refine wpSched_other ?_
          go_wp2_with fail
          clear hcp hcq hcj
          obtain ⟨wd, hwd⟩ : ∃ wd, wd = (w21.alloc (.cells #[.slice A0 n0 c0, .slice A1 n1 c1] 44)).drew := ⟨_, rfl⟩
          have hbd : Below w21.heap.size w21 wd := by rw [hwd]; exact Below.drew (below_one _)
          have hk0 : wd.cell? ⟨w21.heap.size, 0, none⟩ = some (.slice A0 n0 c0) := by rw [hwd]; exact Blk.cell0 (Blk.new_ w21 _ _)
          have hk1 : wd.cell? ⟨w21.heap.size, 1, none⟩ = some (.slice A1 n1 c1) := by rw [hwd]; exact Blk.cell1 (Blk.new_ w21 _ _)
          have hgd : w21.heap.size < wd.heap.size := by rw [hwd]; simp
          rw [← hwd]
          clear hwd
          have HLd := Lib.hid (HL21.out.below hbd)
          have hBd := bthen hB21 hbd
          have hcp := HLd.out.cell 0 rfl
          have hcq := HLd.out.cell 1 rfl
          have hcj := HLd.out.cell 5 rfl
          have hn0' : n0 ≤ 200 := by have := HOK.out.n; have := HPN.out; omega
          have hn1' : n1 ≤ 200 := by have := HOQ.out.n; have := HQN.out; omega
          have HCC := Lib.hid (concat2_any p q A0 n0 c0 A1 n1 c1 _ w21.heap.size wd (HLd.out.at_ 0 rfl).r (HLd.out.at_ 1 rfl).r (Nat.le_refl _) hgd hk0 hk1 hn0' hn1')
          clear hk0 hk1
          refine sched_back (by rw [HF1.out]; first | trivial | (repeat' apply And.intro) <;> assumption | (simp; done) | (go_simp; done) | (simp [*]; done)) ?_
          repeat (first | (refine wpSched_want rfl ?_; intro K hK; go_big_quiet_op; go_big_quiet_on) | (refine wpSched_skip rfl ?_; simp only [Act.put, List.setIfInBounds_toArray, List.set_cons_zero, List.set_cons_succ]))
          refine wpSched_other ?_
          clear hcp hcq hcj
          go_wp2_with fail
          refine (HCC.out).mono ?_
          rintro e w22 ⟨vc, rfl, hoc, hb22⟩
          obtain ⟨AC, nC, cC, rfl, hnC, _, hrC⟩ := rope_own_form hoc
          have HL22 := Lib.hid (HLd.out.below hb22)
          have hB22 := bthen hBd hb22
          have hcp := HL22.out.cell 0 rfl
          have hcq := HL22.out.cell 1 rfl
          have hcj := HL22.out.cell 5 rfl
          have hrJ := (HL22.out.at_ 5 rfl).r
          rw [HPJ.out] at hrJ
          obtain rfl : nC = nJ := by rw [hnC, HNJ.out, HPJ.out]
          have hnCx : nC ≤ 9223372036854775807 := by rw [hnC, List.length_append, HPN.out, HQN.out]; omega
          have HAL := Lib.hid (alike_str_true AJ AC nC cJ cC _ _ (p ++ q) w22 hnCx hrJ hrC)
          clear hoc hnC hrC hrJ hnCx hb22 HCC
          go_wp2_with fail
          refine sched_back (by rw [HF1.out]; first | trivial | (repeat' apply And.intro) <;> assumption | (simp; done) | (go_simp; done) | (simp [*]; done)) ?_
          repeat (first | (refine wpSched_want rfl ?_; intro K hK; go_big_quiet_op; go_big_quiet_on) | (refine wpSched_skip rfl ?_; simp only [Act.put, List.setIfInBounds_toArray, List.set_cons_zero, List.set_cons_succ]))
          refine wpSched_other ?_
          clear hcp hcq hcj
          go_wp2_with fail
          refine (HAL.out).mono ?_
          rintro e w23 ⟨rfl, hb23⟩
          have HL23 := Lib.hid (HL22.out.below hb23)
          have hB23 := bthen hB22 hb23
          have hcp := HL23.out.cell 0 rfl
          have hcq := HL23.out.cell 1 rfl
          have hcj := HL23.out.cell 5 rfl
          go_wp2_with fail
          refine sched_back (by rw [HF1.out]; first | trivial | (repeat' apply And.intro) <;> assumption | (simp; done) | (go_simp; done) | (simp [*]; done)) ?_
          repeat (first | (refine wpSched_want rfl ?_; intro K hK; go_big_quiet_op; go_big_quiet_on) | (refine wpSched_skip rfl ?_; simp only [Act.put, List.setIfInBounds_toArray, List.set_cons_zero, List.set_cons_succ]))
          refine wpSched_nil ?_
          go_wp2_with fail
          go_ret
          exact ⟨rfl, hB23⟩
        · have g2 : (joinErr p q != 0) = true := by rw [bne_iff_ne]; exact hj0
          have HPJ : Hid (joinP p q = []) := by unfold Hid joinP; rw [HJE.out, if_neg hj0]
          have SRJ := Lib.hid (HL21.out.same 5 rfl 6 rfl HPJ.out (by rw [HNJ.out, HPJ.out]; decide))
          have kj := HL21.out.cell 5 rfl
          have kn := HL21.out.cell 6 rfl
          rw [HJE.out]
          clear hj0
          go_wp2_with fail
          refine (SRJ.out _ (Below.refl _ _)).mono ?_
          rintro e w22 ⟨rfl, hb22⟩
          have hbF := bthen hB21 hb22
          go_wp2_with fail
          go_ret
          exact ⟨rfl, hbF⟩
      · have g1 : (ropeErr q == 0) = false := by rw [beq_eq_false_iff_ne]; exact hq0
        have g2 : (ropeErr q != 0) = true := by rw [bne_iff_ne]; exact hq0
        have HJE : Hid (joinE p q = ropeErr q) := by unfold Hid; rw [HJQ.out, if_pos hq0]
        have HPJ : Hid (joinP p q = []) := by unfold Hid joinP; rw [HJE.out, if_neg hq0]
        have SRJ := Lib.hid (HL20.out.same 5 rfl 6 rfl HPJ.out (by rw [HNJ.out, HPJ.out]; decide))
        have kj := HL20.out.cell 5 rfl
        have kn := HL20.out.cell 6 rfl
        rw [HJE.out]
        clear hq0
        go_wp2_with fail
        refine (SRJ.out _ (Below.refl _ _)).mono ?_
        rintro e w22 ⟨rfl, hb22⟩
        have hbF := bthen hB20 hb22
        go_wp2_with fail
        go_ret
        exact ⟨rfl, hbF⟩
end Go.Proofs.Ytolnhplgaolieaa
