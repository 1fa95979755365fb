/- code.Sole. -/
import Derived.Test.YtmmamdjbbpeifaaDoorSoleC
import Derived.Test.YtmmamdjbbpeifaaDoorCdpB
namespace Go.Proofs.YtmmamdjbbpeifaaDoor
open Go.RowKit
theorem size_runS {P : Program} {e : TypeId} {i : TypeInfo} (hi : P.info? e = some i) (w : World) : (sizeOf e).run P w = .ok i.size w := by simp [sizeOf, typeInfo, hi, go_sem]
theorem run_behindS {P : Program} {t : TypeId} (ht : P.underlying t = some (.slice (P.elem t))) {size : Nat} (hz : (P.info? (P.elem t)).map (·.size) = some size) (A : Option Addr) (n c a : Nat) (hab : a ≤ n) (w : World) :
    (Instr.sliceAt t (.slice A n c) (some (.int .i64 (a : Int))) none none).run P w = .ok (.slice (if c = a then A else A.map (·.add (a * size))) (n - a) (c - a)) w := by
  obtain ⟨i, hi, rfl⟩ := Option.map_eq_some_iff.1 hz
  rw [run_sliceAt_slice w t _ _ _ _ ht, run_slice_l w t A n c ht .i64 a (by omega) (by omega)]
  rw [size_runS hi, Result.andThen]
  simp [sliced]
theorem strCells_dropS (l : List (List UInt8)) (k : Nat) : strCells (l.drop k) = (strCells l).drop k := by unfold strCells; rw [List.map_drop]
theorem TwoS.tail {w : World} {base gA gB n c : Nat} {A : Option Addr} {ca cb va : Value} {la lb : List (List UInt8)} (h : TwoS w base gA gB ca cb va (.slice A n c) la lb) (hn : n = lb.length) (hk : 1 ≤ n) (hA : A ≠ none) :
    TwoS (w.setCell ⟨gB, 0, none⟩ (.slice (if c = 1 then A else A.map (·.add (1 * 1))) (n - 1) (c - 1))) base gA gB ca (.slice (if c = 1 then A else A.map (·.add (1 * 1))) (n - 1) (c - 1)) va (.slice (if c = 1 then A else A.map (·.add (1 * 1))) (n - 1) (c - 1)) la (lb.drop 1) := by
  subst hn
  have h1 := h.rb.behind A c 1 rfl hk hA
  have hob : (Value.slice (if c = 1 then A else A.map (·.add (1 * 1))) (lb.length - 1) (c - 1)).ownBlock = (Value.slice A lb.length c).ownBlock := by
    cases A with
    | none => exact absurd rfl hA
    | some a =>
      split
      · rfl
      · simp only [Option.map_some, Value.ownBlock, blk_add]
  have h2 := (h.sw.setA (.slice (if c = 1 then A else A.map (·.add (1 * 1))) (lb.length - 1) (c - 1))).sw
  refine ⟨h2.a, h2.b, h2.ra, ?_, ?_, h2.ga, h2.gb, h2.ne⟩
  · have h3 : OwnO w base 9 1 (.slice (if c = 1 then A else A.map (·.add (1 * 1))) (lb.length - 1) (c - 1)) (lb.drop 1).length (strCells (lb.drop 1)) := by
      rw [List.length_drop, strCells_dropS]; exact h1
    exact h3.farS (by rw [hob]; exact h.rb.ne_blk h.b (by decide)) 0 _
  · have h4 := h.ap
    unfold Apart at h4 ⊢
    rw [hob]; exact h4
theorem addT_drop {S0 : List (List UInt8)} {p : Nat} (hp : p ≤ S0.length) (x : List UInt8) : addT S0 (S0.drop p) x = (addS S0 x).drop p := by
  unfold addT addS
  split
  · rfl
  · rw [List.drop_append_of_le_length hp]
theorem addT_same (S0 : List (List UInt8)) (x : List UInt8) : addT S0 S0 x = addS S0 x := rfl
def lenV (o : Option Value) : Nat := match o with
  | some (.slice _ n _) => n
  | _ => 0
theorem TwoS.meas {w : World} {base gA gB p : Nat} {va vb : Value} {la : List (List UInt8)} (h : TwoS w base gA gB va vb va vb la (la.drop p)) (hp : p ≤ la.length) : lenV (w.cell? ⟨gA, 0, none⟩) - lenV (w.cell? ⟨gB, 0, none⟩) = p := by
  obtain ⟨A1, c1, rfl, _, _, _⟩ := h.ra.form
  obtain ⟨A2, c2, rfl, _, _, _⟩ := h.rb.form
  obtain ⟨b0, b1⟩ := h.cells
  rw [b0, b1]
  have : (la.drop p).length = la.length - p := List.length_drop
  simp only [lenV]
  omega
theorem drop_getD0 (S0 : List (List UInt8)) (p : Nat) : (S0.drop p).getD 0 [] = S0.getD p [] := by
  rw [List.getD_eq_getElem?_getD, List.getD_eq_getElem?_getD, List.getElem?_drop, Nat.add_zero]
set_option maxRecDepth 100000 in
set_option maxHeartbeats 4000000 in
theorem sole_bad (A : Option Addr) (n c B : Nat) (l : List (List UInt8)) (w : World) (hr : Rd w B 1 A n (strCells l)) (hn : n ≤ c) (hB : B ≤ w.heap.size) (hx : ∀ x ∈ l, x.length ≤ maxLen) (hE : codeErr l ≠ 0) :
    Calls Tryd.prog 14 #[.slice A n c] w fun e w' => e = .returned (.tuple #[.bool false, .int .i64 (codeErr l)]) ∧ Below w.heap.size w w' := by
  have HC := Lib.hid (codeCheck_any A n c B l w hr hn hB hx)
  generalize codeErr l = E at *
  have g1 : (E == 0) = false := by rw [beq_eq_false_iff_ne]; exact hE
  have g2 : (E != 0) = true := by rw [bne, g1]; rfl
  clear hE hr
  go_enter Tryd.func14, Tryd.ntmps14
  go_wp2_with fail
  refine HC.out.mono ?_
  rintro e w1 ⟨rfl, hb1⟩
  go_wp2_with fail
  go_ret2
  exact ⟨rfl, hb1⟩
set_option maxRecDepth 100000 in
set_option maxHeartbeats 16000000 in
theorem sole_any (A : Option Addr) (n c B : Nat) (l : List (List UInt8)) (w : World) (hr : Rd w B 1 A n (strCells l)) (hn : n ≤ c) (hB : B ≤ w.heap.size) (hx : ∀ x ∈ l, x.length ≤ maxLen) (hE : codeErr l = 0) :
    Calls Tryd.prog 14 #[.slice A n c] w fun e w' => e = .returned (.tuple #[.bool (soleB l), .int .i64 0]) ∧ Below w.heap.size w w' := by
  have hln : l.length = n := by have := hr.1; simpa [strCells] using this
  have HC := codeCheck_any A n c B l w hr hn hB hx
  rw [hE] at HC
  have HC := Lib.hid HC
  have hco := cod_of hE
  have HCO := Lib.hid hco
  have hn12 := hco.len
  have HR := Lib.hid hr
  have HLN := Lib.hid hln
  have hn12' : n ≤ 12 := by omega
  clear hE hr hco
  go_enter Tryd.func14, Tryd.ntmps14
  go_wp2_with fail
  refine HC.out.mono ?_
  rintro e w1 ⟨rfl, hb1⟩
  have hzw : w.heap.size ≤ w1.heap.size := hb1.size
  obtain ⟨wa, hwa⟩ : ∃ wa, wa = ((w1.alloc (.cells #[.slice none 0 0] 36)).alloc (.cells #[.slice none 0 0] 36)) := ⟨_, rfl⟩
  have HT0 : Hid (TwoS wa w1.heap.size w1.heap.size (w1.heap.size + 1) (.slice none 0 0) (.slice none 0 0) (.slice none 0 0) (.slice none 0 0) [] []) := by
    have h1 := Blk.alloc (Blk.new_ w1 36 #[.slice none 0 0]) (.cells #[.slice none 0 0] 36)
    have h2 := Blk.new_ (w1.alloc (.cells #[.slice none 0 0] 36)) 36 #[.slice none 0 0]
    rw [World.size_alloc] at h2
    rw [← hwa] at h1 h2
    exact ⟨h1, h2, OwnO.nil_, OwnO.nil_, Apart.none_left _, Nat.le_refl _, by omega, by omega⟩
  have hba : Below w1.heap.size w1 wa := by rw [hwa]; exact (by repeat (first | exact Below.refl _ _ | assumption | refine Below.alloc ?_ (by first | exact Nat.le_refl _ | assumption | omega | (simp <;> omega)) _ | refine Below.setCell ?_ (by first | exact Nat.le_refl _ | assumption | omega | (simp <;> omega)) _ | refine Below.drew ?_ | refine below_drewN ?_ _))
  have HR1 := Lib.hid (HR.out.below (hb1.mono hB))
  have hB1 : B ≤ w1.heap.size := Nat.le_trans hB hzw
  go_wp2_with fail
  rw [← hwa]
  clear hwa HC HR
  generalize hg6 : w1.heap.size + 1 = g6 at *
  generalize hg5 : w1.heap.size = g5 at *
  have HG6 : Hid (g5 ≤ g6) := by unfold Hid; omega
  clear hg5 hg6
  go_loopw [23] (fun iv wr => ∃ (i : Nat) (S0 : List (List UInt8)) (vS vT : Value), i ≤ n ∧ iv = .int .i64 (i : Int) ∧ Hid (TwoS wr g5 g5 g6 vS vT vS vT S0 S0) ∧ Hid (Bfs l S0 ∧ Begun l S0 i 0) ∧ Below g5 w1 wr) (fun iv _ => n - (intOf iv).toNat)
  case atStart => exact ⟨0, [], _, _, Nat.zero_le _, rfl, HT0, Lib.hid ⟨Bfs.start HCO.out, fun i' k' _ h => (by omega)⟩, hba⟩
  case round =>
    clear HT0 hba
    obtain ⟨i, S0, vS, vT, hi, rfl, HT, HI, hb⟩ := hrel
    by_cases hin : i < n
    · have g1 : decide ((i : Int) < (n : Int)) = true := decide_eq_true (by omega)
      have g1' : decide (i < n) = true := decide_eq_true hin
      obtain ⟨ad, rfl, hab, c0⟩ := str_cell (HR1.out.below (hb.mono hB1)) hin
      have hil : i < l.length := by rw [HLN.out]; omega
      have hul := HCO.out.le i hil
      obtain ⟨U, hU⟩ : ∃ U, S (l.getD i []) = U := ⟨_, rfl⟩
      have huz : U.size ≤ 12 := by rw [← hU, S_size]; exact hul
      have HLU : Hid (L U = l.getD i []) := by rw [← hU]; exact L_S _
      rw [hU] at c0
      clear hU hul
      go_wp2_with fail
      go_loopw [30] (fun kv wr => ∃ (k : Nat) (S0 : List (List UInt8)) (vS vT : Value), k ≤ n ∧ kv = .int .i64 (k : Int) ∧ Hid (TwoS wr g5 g5 g6 vS vT vS vT S0 S0) ∧ Hid (Bfs l S0 ∧ Begun l S0 i k) ∧ Below g5 w1 wr) (fun kv _ => n - (intOf kv).toNat)
      case atStart => exact ⟨0, S0, vS, vT, Nat.zero_le _, rfl, HT, HI, hb⟩
      case round =>
        clear HT HI hb c0
        obtain ⟨k, S0, vS, vT, hk, rfl, HT, HI, hb⟩ := hrel
        by_cases hkn : k < n
        · have g2 : decide ((k : Int) < (n : Int)) = true := decide_eq_true (by omega)
          have g2' : decide (k < n) = true := decide_eq_true hkn
          obtain ⟨ad', hadd, hab', c0⟩ := str_cell (HR1.out.below (hb.mono hB1)) hkn
          cases hadd
          have hkl : k < l.length := by rw [HLN.out]; omega
          have hul := HCO.out.le k hkl
          obtain ⟨X, hU⟩ : ∃ X, S (l.getD k []) = X := ⟨_, rfl⟩
          have hxz : X.size ≤ 12 := by rw [← hU, S_size]; exact hul
          have HLX : Hid (L X = l.getD k []) := by rw [← hU]; exact L_S _
          rw [hU] at c0
          clear hU hul
          by_cases hik : i = k
          · have e1 : ((i : Int) == (k : Int)) = true := by rw [hik]; exact beq_self_eq_true _
            have e2 : ((i : Int) != (k : Int)) = false := by rw [bne, e1]; rfl
            have HI3 : Hid (Bfs l S0 ∧ Begun l S0 i (k + 1)) := ⟨HI.out.1, HI.out.2.next fun h _ => absurd hik h⟩
            clear hik
            go_wp2_with fail
            go_roundw
            case rel => exact ⟨k + 1, S0, vS, vT, by omega, by go_num, HT, HI3, hb⟩
            case measure => simp [intOf]; omega
          · have e1 : ((i : Int) == (k : Int)) = false := by rw [beq_eq_false_iff_ne]; omega
            have e2 : ((i : Int) != (k : Int)) = true := by rw [bne, e1]; rfl
            have HNE : Hid (i ≠ k) := hik
            have HPA : Hid (∀ W, Calls Tryd.prog 34 #[.string X, .string U] W fun e W' => e = .returned (.bool (pfx (l.getD i []) (l.getD k []))) ∧ W' = W) := fun W => by
              have h := Tryd.strings_HasPrefix X U W
              rw [← HLX.out, ← HLU.out]
              exact h
            clear hik
            cases hp : pfx (l.getD i []) (l.getD k []) with
            | false =>
              have HI3 : Hid (Bfs l S0 ∧ Begun l S0 i (k + 1)) := ⟨HI.out.1, HI.out.2.next fun _ h => by rw [hp] at h; cases h⟩
              rw [hp] at HPA
              clear hp
              go_wp2_with fail
              refine (HPA.out _).mono ?_
              rintro e w2 ⟨rfl, rfl⟩
              go_wp2_with fail
              go_roundw
              case rel => exact ⟨k + 1, S0, vS, vT, by omega, by go_num, HT, HI3, hb⟩
              case measure => simp [intOf]; omega
            | true =>
              have hle := pfx_len hp
              rw [← HLX.out, ← HLU.out, L_len, L_len] at hle
              have he : L (X.extract U.size X.size) = (l.getD k []).drop (l.getD i []).length := by
                rw [L_extract, List.take_of_length_le (by rw [List.length_drop, L_len]; exact Nat.le_refl _), HLX.out, ← HLU.out, L_len]
              have hlb := left_beg HCO.out hil hkl HNE.out hp
              have HI3 : Hid (Bfs l (addS S0 (L (X.extract U.size X.size))) ∧ Begun l (addS S0 (L (X.extract U.size X.size))) i (k + 1)) := by
                rw [he]
                exact ⟨HI.out.1.add HCO.out hlb.1 hlb.2, (HI.out.2.more fun y hy => addS_mono _ hy).next fun _ _ => addS_mem _ _⟩
              have hsl := HI.out.1.len
              have HADD : Hid (∀ W, W = wr → Calls Tryd.prog 35 #[.string (X.extract U.size X.size), .pointer (some ⟨g5, 0, none⟩), .pointer (some ⟨g6, 0, none⟩)] W fun e w' => e = .returned (.tuple #[]) ∧ ∃ vS' vT', TwoS w' g5 g5 g6 vS' vT' vS' vT' (addS S0 (L (X.extract U.size X.size))) (addT S0 S0 (L (X.extract U.size X.size))) ∧ Below g5 W w') := fun W hW => by
                subst hW
                refine soleAdd_any g5 g5 g6 S0 S0 vS vT _ W HT.out (Nat.le_of_lt (Blk.lt HT.out.a)) (by omega) (by omega)
              rw [hp] at HPA
              clear hp he hlb
              go_wp2_with fail
              refine (HPA.out _).mono ?_
              rintro e w2 ⟨rfl, rfl⟩
              go_wp2_with fail
              refine (HADD.out _ rfl).mono ?_
              rintro e w3 ⟨rfl, vS', vT', hT', hb3⟩
              have HT3 := Lib.hid hT'
              go_wp2_with fail
              go_roundw
              case rel => exact ⟨k + 1, _, vS', vT', by omega, by go_num, HT3, HI3, hb.trans hb3⟩
              case measure => simp [intOf]; omega
        · obtain rfl : k = n := by omega
          have g2 : decide ((k : Int) < (k : Int)) = false := decide_eq_false (by omega)
          have g2' : decide (k < k) = false := decide_eq_false hkn
          have HI3 : Hid (Bfs l S0 ∧ Begun l S0 (i + 1) 0) := ⟨HI.out.1, by have h := HI.out.2; rw [← HLN.out] at h; exact h.row⟩
          go_wp2_with fail
          go_roundw
          case rel => exact ⟨i + 1, S0, vS, vT, by omega, by go_num, HT, HI3, hb⟩
          case measure => simp [intOf]; omega
    · obtain rfl : i = n := by omega
      have g1 : decide ((i : Int) < (i : Int)) = false := decide_eq_false (by omega)
      have g1' : decide (i < i) = false := decide_eq_false hin
      have HI2 : Hid (Bfs l S0 ∧ Begun l S0 l.length 0) := ⟨HI.out.1, by rw [HLN.out]; exact HI.out.2⟩
      clear HI
      go_wp2_with fail
      go_loopw [] (fun wr => ∃ (p : Nat) (S0 : List (List UInt8)) (vS vT : Value), p ≤ S0.length ∧ Hid (TwoS wr g5 g5 g6 vS vT vS vT S0 (S0.drop p)) ∧ Hid (Bfs l S0 ∧ Begun l S0 l.length 0 ∧ DoneTo l S0 p) ∧ Below g5 w1 wr) (fun wr => 200 - (lenV (wr.cell? ⟨g5, 0, none⟩) - lenV (wr.cell? ⟨g6, 0, none⟩)))
      case atStart => exact ⟨0, S0, vS, vT, Nat.zero_le _, HT, Lib.hid ⟨HI2.out.1, HI2.out.2, fun m h => (by omega)⟩, hb⟩
      case round =>
        clear HT HI2 hb
        obtain ⟨p, S0, vS, vT, hp, HT, HI, hb⟩ := hrel
        obtain ⟨AS, cS, rfl, hnS, hcS, hrS⟩ := HT.out.ra.form
        obtain ⟨AT, cT, rfl, hnT, hcT, hrT⟩ := HT.out.rb.form
        obtain ⟨b0, b1⟩ := HT.out.cells
        have hsl := HI.out.1.len
        have hdl : (S0.drop p).length = S0.length - p := List.length_drop
        rw [hdl] at b1 hnT
        have HRT := Lib.hid hrT
        clear hrS hrT hcT hcS
        by_cases hps : p < S0.length
        · obtain ⟨q, hq⟩ : ∃ q, S0.length - p = q + 1 := ⟨S0.length - p - 1, by omega⟩
          have HMO := Lib.hid (HT.out.meas hp)
          have hq1 : (S0.drop p).length = q + 1 := by omega
          rw [hq] at b1 hnT
          have g3 : decide ((0 : Int) < (q : Int) + 1) = true := decide_eq_true (by omega)
          have g3' : decide (0 < q + 1) = true := decide_eq_true (by omega)
          obtain ⟨ad', rfl, hab', c0⟩ := str_cell (k := 0) HRT.out (by omega)
          rw [drop_getD0] at c0
          have c0' : wr.cell? ad' = some (.string (S (S0.getD p []))) := by
            have e : ad'.add 0 = ad' := by
              unfold Addr.add; split
              · rfl
              · rename_i h; exact absurd rfl h
            rw [e] at c0; exact c0
          have hls : Left l (S0.getD p []) := HI.out.1.left _ (by rw [List.getD_eq_getElem?_getD, List.getElem?_eq_getElem hps]; exact List.getElem_mem hps)
          have hsu : (S0.getD p []).length ≤ 12 := by
            obtain ⟨i', d, hi', _, e⟩ := uni_mem.1 (left_uni HCO.out hls)
            have h1 := HCO.out.le i' hi'
            rw [e, List.length_drop]; omega
          have HLS := Lib.hid hls
          obtain ⟨y, hy⟩ : ∃ y, S (S0.getD p []) = y := ⟨_, rfl⟩
          have hyz : y.size ≤ 12 := by rw [← hy, S_size]; exact hsu
          have HLY : Hid (L y = S0.getD p []) := by rw [← hy]; exact L_S _
          rw [hy] at c0 c0'
          have HTT := Lib.hid (TwoS.tail (n := q + 1) (by have h := HT.out; rw [hq1] at h; exact h) (by rw [hq1]) (by omega) (by simp))
          have hcut : ∀ W, (Instr.sliceAt 36 (.slice (some ad') (q + 1) cT) (some (.int .i64 1)) none none).run Tryd.prog W = .ok (.slice (if cT = 1 then some ad' else (some ad').map (·.add (1 * 1))) (q + 1 - 1) (cT - 1)) W := fun W => run_behindS Tryd.underlying36 (size := 1) (by kernel_rfl) (some ad') (q + 1) cT 1 (by omega) W
          have f1 := Blk.frozen HT.out.b 0
          have hg6w := Blk.lt HT.out.b
          rw [Nat.add_sub_cancel] at HTT hcut
          generalize (if cT = 1 then some ad' else (some ad').map (·.add (1 * 1))) = A2 at *
          generalize cT - 1 = c2 at *
          rw [List.drop_drop] at HTT
          have hb2 : Below g5 w1 (wr.setCell ⟨g6, 0, none⟩ (.slice A2 q c2)) := Below.setCell hb (p := ⟨g6, 0, none⟩) HG6.out _
          have HB1 := Lib.hid b1
          clear hy hls hsu hq1 hdl HT HRT hnS b0
          go_wp2_with fail
          clear b1 hcut f1
          generalize wr.setCell ⟨g6, 0, none⟩ (.slice A2 q c2) = ws at *
          have HI0 : Hid (Bfs l S0 ∧ Begun l S0 l.length 0 ∧ DoneTo l S0 p ∧ Tried l S0 (S0.getD p []) 0 ∧ S0.getD p [] = S0.getD p [] ∧ p < S0.length) := ⟨HI.out.1, HI.out.2.1, HI.out.2.2, fun i' h => (by omega), rfl, hps⟩
          obtain ⟨sy, hsy⟩ : ∃ sy, sy = S0.getD p [] := ⟨_, rfl⟩
          rw [← hsy] at HLY HLS HI0
          have HI0' : Hid (Bfs l S0 ∧ Begun l S0 l.length 0 ∧ DoneTo l S0 p ∧ Tried l S0 sy 0 ∧ S0.getD p [] = sy ∧ p < S0.length) := by
            have h := HI0.out
            exact ⟨h.1, h.2.1, h.2.2.1, h.2.2.2.1, hsy.symm, h.2.2.2.2.2⟩
          clear HI0 hsy c0 c0' HI HB1
          go_loopw [61] (fun jv w4 => ∃ (j : Nat) (S1 : List (List UInt8)) (vS vT : Value), j ≤ i ∧ jv = .int .i64 (j : Int) ∧ Hid (TwoS w4 g5 g5 g6 vS vT vS vT S1 (S1.drop (p + 1))) ∧ Hid (Bfs l S1 ∧ Begun l S1 l.length 0 ∧ DoneTo l S1 p ∧ Tried l S1 sy j ∧ S1.getD p [] = sy ∧ p < S1.length) ∧ Below g5 w1 w4) (fun jv _ => i - (intOf jv).toNat)
          case atStart => exact ⟨0, S0, _, _, Nat.zero_le _, rfl, HTT, HI0', hb2⟩
          case round =>
            clear HTT HI0' hb2
            obtain ⟨j, S1, vS, vT, hj, rfl, HT, HI, hb3⟩ := hrel
            by_cases hjn : j < i
            · have g4 : decide ((j : Int) < (i : Int)) = true := decide_eq_true (by omega)
              have g4' : decide (j < i) = true := decide_eq_true hjn
              obtain ⟨ad, rfl, hab, c0⟩ := str_cell (HR1.out.below (hb3.mono hB1)) hjn
              have hjl : j < l.length := by rw [HLN.out]; omega
              have hul := HCO.out.le j hjl
              obtain ⟨X, hU⟩ : ∃ X, S (l.getD j []) = X := ⟨_, rfl⟩
              have hxz : X.size ≤ 12 := by rw [← hU, S_size]; exact hul
              have HLX : Hid (L X = l.getD j []) := by rw [← hU]; exact L_S _
              rw [hU] at c0
              clear hU hul
              have hs1 := HI.out.1.len
              have HPA : Hid (∀ W, Calls Tryd.prog 34 #[.string X, .string y] W fun e W' => e = .returned (.bool (pfx sy (l.getD j []))) ∧ W' = W) := fun W => by
                have h := Tryd.strings_HasPrefix X y W
                rw [← HLX.out, ← HLY.out]
                exact h
              have HPB : Hid (∀ W, Calls Tryd.prog 34 #[.string y, .string X] W fun e W' => e = .returned (.bool (pfx (l.getD j []) sy)) ∧ W' = W) := fun W => by
                have h := Tryd.strings_HasPrefix y X W
                rw [← HLX.out, ← HLY.out]
                exact h
              by_cases heq : l.getD j [] = sy
              · have HV : Hid (soleB l = false) := bfs_false HLS.out hjl heq
                have hxy : X = y := by rw [← S_L X, HLX.out, heq, ← HLY.out, S_L]
                have g5' : (X.toList == y.toList) = true := by rw [hxy]; exact beq_self_eq_true _
                clear heq hxy
                go_wp2_with fail
                go_ret2
                exact ⟨by rw [HV.out]; rfl, hb1.trans (hb3.mono hzw)⟩
              · have g5' : (X.toList == y.toList) = false := by
                  rw [beq_eq_false_iff_ne]
                  intro h
                  rw [ByteArray.toList_eq, ByteArray.toList_eq] at h
                  exact heq (by rw [← HLX.out, ← HLY.out]; exact h)
                have HEQ := Lib.hid heq
                clear heq
                cases hpa : pfx sy (l.getD j []) with
                | true =>
                  have hlt := pfx_less hpa HEQ.out
                  have hpb : pfx (l.getD j []) sy = false := by
                    cases h : pfx (l.getD j []) sy with
                    | false => rfl
                    | true => have := pfx_len h; omega
                  have he : L (X.extract y.size X.size) = (l.getD j []).drop sy.length := by
                    rw [L_extract, List.take_of_length_le (by rw [List.length_drop, L_len]; exact Nat.le_refl _), HLX.out, ← HLY.out, L_len]
                  have hzlt : y.size ≤ X.size := by rw [← L_len y, ← L_len X, HLX.out, HLY.out]; omega
                  have HADD := soleAdd_any g5 g5 g6 S1 (S1.drop (p + 1)) vS vT (X.extract y.size X.size) wr HT.out (Nat.le_of_lt (Blk.lt HT.out.a)) (by omega) (by rw [List.length_drop]; omega)
                  rw [he, addT_drop (by have := HI.out.2.2.2.2.2; omega)] at HADD
                  have HADD := Lib.hid HADD
                  have HI3 : Hid (Bfs l (addS S1 ((l.getD j []).drop sy.length)) ∧ Begun l (addS S1 ((l.getD j []).drop sy.length)) l.length 0 ∧ DoneTo l (addS S1 ((l.getD j []).drop sy.length)) p ∧ Tried l (addS S1 ((l.getD j []).drop sy.length)) sy (j + 1) ∧ (addS S1 ((l.getD j []).drop sy.length)).getD p [] = sy ∧ p < (addS S1 ((l.getD j []).drop sy.length)).length) := by
                    obtain ⟨h1, h2, h3, h4, h5, h6⟩ := HI.out
                    exact ⟨h1.add HCO.out (.suc HLS.out ⟨j, hjl, .inl ⟨hpa, rfl⟩⟩) (drop_ne hlt), h2.more fun z hz => addS_mono _ hz, h3.add (Nat.le_of_lt h6) _, (h4.more fun z hz => addS_mono _ hz).next HEQ.out (fun _ => addS_mem _ _) (fun h => by rw [hpb] at h; cases h), by rw [addS_getD _ h6]; exact h5, Nat.lt_of_lt_of_le h6 (addS_len _ _)⟩
                  rw [hpa] at HPA
                  rw [hpb] at HPB
                  clear hpa hpb he hlt
                  go_wp2_with fail
                  refine (HPA.out _).mono ?_
                  rintro e w4 ⟨rfl, rfl⟩
                  go_wp2_with fail
                  refine HADD.out.mono ?_
                  rintro e w5 ⟨rfl, vS', vT', hT', hb5⟩
                  have HT5 := Lib.hid hT'
                  go_wp2_with fail
                  refine (HPB.out _).mono ?_
                  rintro e w6 ⟨rfl, rfl⟩
                  go_wp2_with fail
                  go_roundw
                  case rel => exact ⟨j + 1, _, vS', vT', by omega, by go_num, HT5, HI3, hb3.trans hb5⟩
                  case measure => simp [intOf]; omega
                | false =>
                  cases hpb : pfx (l.getD j []) sy with
                  | true =>
                    have hlt := pfx_less hpb (fun e => HEQ.out e.symm)
                    have he : L (y.extract X.size y.size) = sy.drop (l.getD j []).length := by
                      rw [L_extract, List.take_of_length_le (by rw [List.length_drop, L_len]; exact Nat.le_refl _), HLY.out, ← HLX.out, L_len]
                    have hzlt : X.size ≤ y.size := by rw [← L_len y, ← L_len X, HLX.out, HLY.out]; omega
                    have HADD := soleAdd_any g5 g5 g6 S1 (S1.drop (p + 1)) vS vT (y.extract X.size y.size) wr HT.out (Nat.le_of_lt (Blk.lt HT.out.a)) (by omega) (by rw [List.length_drop]; omega)
                    rw [he, addT_drop (by have := HI.out.2.2.2.2.2; omega)] at HADD
                    have HADD := Lib.hid HADD
                    have HI3 : Hid (Bfs l (addS S1 (sy.drop (l.getD j []).length)) ∧ Begun l (addS S1 (sy.drop (l.getD j []).length)) l.length 0 ∧ DoneTo l (addS S1 (sy.drop (l.getD j []).length)) p ∧ Tried l (addS S1 (sy.drop (l.getD j []).length)) sy (j + 1) ∧ (addS S1 (sy.drop (l.getD j []).length)).getD p [] = sy ∧ p < (addS S1 (sy.drop (l.getD j []).length)).length) := by
                      obtain ⟨h1, h2, h3, h4, h5, h6⟩ := HI.out
                      exact ⟨h1.add HCO.out (.suc HLS.out ⟨j, hjl, .inr ⟨hpb, rfl⟩⟩) (drop_ne hlt), h2.more fun z hz => addS_mono _ hz, h3.add (Nat.le_of_lt h6) _, (h4.more fun z hz => addS_mono _ hz).next HEQ.out (fun h => by rw [hpa] at h; cases h) (fun _ => addS_mem _ _), by rw [addS_getD _ h6]; exact h5, Nat.lt_of_lt_of_le h6 (addS_len _ _)⟩
                    rw [hpa] at HPA
                    rw [hpb] at HPB
                    clear hpa hpb he hlt
                    go_wp2_with fail
                    refine (HPA.out _).mono ?_
                    rintro e w4 ⟨rfl, rfl⟩
                    go_wp2_with fail
                    refine (HPB.out _).mono ?_
                    rintro e w6 ⟨rfl, rfl⟩
                    go_wp2_with fail
                    refine HADD.out.mono ?_
                    rintro e w5 ⟨rfl, vS', vT', hT', hb5⟩
                    have HT5 := Lib.hid hT'
                    go_wp2_with fail
                    go_roundw
                    case rel => exact ⟨j + 1, _, vS', vT', by omega, by go_num, HT5, HI3, hb3.trans hb5⟩
                    case measure => simp [intOf]; omega
                  | false =>
                    have HI3 : Hid (Bfs l S1 ∧ Begun l S1 l.length 0 ∧ DoneTo l S1 p ∧ Tried l S1 sy (j + 1) ∧ S1.getD p [] = sy ∧ p < S1.length) := by
                      obtain ⟨h1, h2, h3, h4, h5, h6⟩ := HI.out
                      exact ⟨h1, h2, h3, h4.next HEQ.out (fun h => by rw [hpa] at h; cases h) (fun h => by rw [hpb] at h; cases h), h5, h6⟩
                    rw [hpa] at HPA
                    rw [hpb] at HPB
                    clear hpa hpb
                    go_wp2_with fail
                    refine (HPA.out _).mono ?_
                    rintro e w4 ⟨rfl, rfl⟩
                    go_wp2_with fail
                    refine (HPB.out _).mono ?_
                    rintro e w6 ⟨rfl, rfl⟩
                    go_wp2_with fail
                    go_roundw
                    case rel => exact ⟨j + 1, S1, vS, vT, by omega, by go_num, HT, HI3, hb3⟩
                    case measure => simp [intOf]; omega
            · obtain rfl : j = i := by omega
              have g4 : decide ((j : Int) < (j : Int)) = false := decide_eq_false (by omega)
              have g4' : decide (j < j) = false := decide_eq_false hjn
              have HI3 : Hid (Bfs l S1 ∧ Begun l S1 l.length 0 ∧ DoneTo l S1 (p + 1)) := by
                obtain ⟨h1, h2, h3, h4, h5, h6⟩ := HI.out
                refine ⟨h1, h2, h3.next ?_⟩
                rw [h5, HLN.out]; exact h4
              have hp1 : p + 1 ≤ S1.length := HI.out.2.2.2.2.2
              have hms := HT.out.meas hp1
              have hs1 := HI.out.1.len
              go_wp2_with fail
              go_roundw
              case rel => exact ⟨p + 1, S1, vS, vT, hp1, HT, HI3, hb3⟩
              case measure =>
                rw [hms, HMO.out]; omega
        · obtain rfl : p = S0.length := by omega
          have HV : Hid (soleB l = true) := bfs_true HI.out.1 HI.out.2.2 HI.out.2.1
          rw [Nat.sub_self] at b1
          go_wp2_with fail
          go_ret2
          exact ⟨by rw [HV.out]; rfl, hb1.trans (hb.mono hzw)⟩
end Go.Proofs.YtmmamdjbbpeifaaDoor
