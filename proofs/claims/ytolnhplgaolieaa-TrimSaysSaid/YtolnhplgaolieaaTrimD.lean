/- trim.Two; the document's ManyOf, walked. -/
import Derived.Test.YtolnhplgaolieaaTrimC
import Derived.Test.YtolnhplgaolieaaEditC
import Derived.Test.YtolnhplgaolieaaFrontX
namespace Go.Proofs.Ytolnhplgaolieaa
open Go.RowKit
set_option maxRecDepth 100000 in
theorem trimTwo_any (n : Int) (x y : Sc) (w : World) (hx : ScOk w w.heap.size x) (hy : ScOk w w.heap.size y) :
    Calls Try.prog 75 #[.int .i64 n, .slice x.A x.n x.c, .slice y.A y.n y.c] w fun e w' => ∃ v', e = .returned (.tuple #[v', .int .i64 (manyErr n [x, y])]) ∧ (manyErr n [x, y] ≠ 0 → v' = .slice none 0 0) ∧
      (manyErr n [x, y] = 0 → w'.ownsRow w.heap.size 73 3 v' (manyOut n [x, y]).length (edCells (manyOut n [x, y]))) ∧ Below w.heap.size w w' := by
  have hb0 : Below w.heap.size w (w.alloc (.cells #[.slice x.A x.n x.c, .slice y.A y.n y.c] 66)) := (Below.refl _ _).alloc (Nat.le_refl _) _
  have HM := Lib.hid (trimMany_any n [x, y] (some ⟨w.heap.size, 0, none⟩) 2 2 (w.heap.size + 1) (w.alloc (.cells #[.slice x.A x.n x.c, .slice y.A y.n y.c] 66))
    (Rd.new_ (size := 1) (n := 2) w _ _ (Nat.lt_succ_self _) rfl) (fun z hz => by
      have h9 : ScOk w w.heap.size z := by
        simp only [List.mem_cons, List.not_mem_nil, or_false] at hz
        rcases hz with rfl | rfl
        · exact hx
        · exact hy
      have h8 := h9.below hb0
      exact ⟨h8.nc, h8.cm, h8.rd.more (Nat.le_succ _)⟩) (by simp) (by omega))
  clear hx hy
  go_enter Try.func75, Try.ntmps75
  go_wp2_with fail
  refine (HM.out).mono ?_
  rintro e w2 ⟨v2, rfl, h0, h1, hb⟩
  have H0 := Lib.hid h0
  have H1 := Lib.hid h1
  clear h0 h1 HM
  go_wp2_with fail
  go_ret2
  have hle : w.heap.size ≤ (w.alloc (.cells #[.slice x.A x.n x.c, .slice y.A y.n y.c] 66)).heap.size := hb0.size
  exact ⟨_, rfl, H0.out, fun h => own_lower (H1.out h) hle, hb0.trans (hb.mono hle)⟩
/-- The places, so far turned. -/
def stepW (es : List Ed) (wh : List Int) (k : Nat) : List Int := (wh.take k).map (wOne es) ++ wh.drop k
theorem stepW_zero (es : List Ed) (wh : List Int) : stepW es wh 0 = wh := by simp [stepW]
theorem stepW_all (es : List Ed) (wh : List Int) {k : Nat} (h : wh.length = k) : stepW es wh k = wh.map (wOne es) := by
  unfold stepW; rw [List.take_of_length_le (by omega), List.drop_eq_nil_of_le (by omega), List.append_nil]
theorem stepW_get (es : List Ed) (wh : List Int) {k : Nat} (h : k < wh.length) : (stepW es wh k).getD k 0 = wh.getD k 0 := by
  unfold stepW
  rw [List.getD_eq_getElem?_getD, List.getElem?_append_right (by rw [List.length_map, List.length_take]; omega), List.length_map, List.length_take, List.getElem?_drop, List.getD_eq_getElem?_getD]
  congr 2; omega
theorem stepW_set (es : List Ed) (wh : List Int) {k : Nat} (h : k < wh.length) : (stepW es wh k).set k (wOne es (wh.getD k 0)) = stepW es wh (k + 1) := by
  have hl : ((wh.take k).map (wOne es)).length = k := by rw [List.length_map, List.length_take]; omega
  unfold stepW
  rw [List.set_append_right _ _ (by omega), hl, Nat.sub_self, List.drop_eq_getElem_cons h, List.set_cons_zero, List.take_succ_eq_append_getElem h, List.map_append, List.getD_eq_getElem?_getD, List.getElem?_eq_getElem h, List.append_assoc]
  rfl
theorem stepW_same (es : List Ed) (wh : List Int) {k : Nat} (h : k < wh.length) (he : wOne es (wh.getD k 0) = wh.getD k 0) : stepW es wh k = stepW es wh (k + 1) := by
  rw [← stepW_set es wh h, he]
  apply List.ext_getElem?
  intro j
  rw [List.getElem?_set]
  by_cases e : k = j
  · subst e
    have h1 := stepW_get es wh h
    have hl : k < (stepW es wh k).length := by unfold stepW; rw [List.length_append, List.length_map, List.length_take, List.length_drop]; omega
    rw [List.getD_eq_getElem?_getD, List.getElem?_eq_getElem hl, Option.getD_some] at h1
    rw [if_pos rfl, if_pos hl, List.getElem?_eq_getElem hl, h1]
  · rw [if_neg e]
/-- Where the last loop stands. -/
def ScrRel (n : Nat) (cs : List Tc) (k f b : Nat) (out : List Ed) : Prop := (k ≤ n ∧ ScrAt n cs k f b out) ∨ (k = n + 1 ∧ scr 0 [] (cs ++ [((n : Int), 0)]) = out)
/-- What the place k brings. -/
theorem ScrAt.any_ {n : Nat} {cs : List Tc} {wh : List Int} (hw : Wh n cs wh) {k f b : Nat} {out : List Ed} (h : ScrAt n cs k f b out) (hk : k < n) :
    (wh.getD k 0 = -1 ∧ ScrRel n cs (k + 1) f b out) ∨ ∃ j : Nat, wh.getD k 0 = (j : Int) ∧ b ≤ j ∧ j ≤ cs.length ∧ ScrRel n cs (k + 1) (k + 1) (j + 1) (out ++ scrOne f (((tText cs).take j).drop b) k) := by
  rcases hw.is_ k hk with ⟨h1, h2⟩ | ⟨j, h1, h2⟩
  · exact .inl ⟨h1, .inl ⟨hk, h.skip h2⟩⟩
  · obtain ⟨h3, h4, h5⟩ := h.hit hw.up h2
    exact .inr ⟨j, h1, h3, by omega, .inl ⟨hk, h5⟩⟩
theorem ArrI.kept2 {w w6 : World} {base g n : Nat} {q : List Int} (h : ArrI w base g n q) {v : Value} {m : Nat} {xs : List Value} (ho : w.ownsRow base 73 3 v m xs) {cs : Array Value} (hg : (w.alloc (.cells cs 73)).grownBy w6 v.ownBlock) : ArrI w6 base g n q := by
  have h1 := World.ownsRow.alloc h (.cells cs 73)
  exact h1.kept hg (own_ne_own h1 (ho.alloc _) (by decide))
set_option maxRecDepth 100000 in
set_option maxHeartbeats 4000000 in
theorem manyOf_any (n : Int) (l : List Sc) (A : Option Addr) (m c B : Nat) (w : World) (hr : Rd w B 1 A m (scCells l)) (hq : ∀ x ∈ l, ScOk w B x) (hB : B ≤ w.heap.size) (hm : m ≤ 9223372036854775807) :
    Calls Try.prog 74 #[.int .i64 n, .slice A m c] w fun e w' => ∃ v', e = .returned (.tuple #[v', .int .i64 (manyErr n l)]) ∧
      (manyErr n l = 0 → w'.ownsRow w.heap.size 73 3 v' (manyOut n l).length (edCells (manyOut n l))) ∧ Below w.heap.size w w' := by
  obtain ⟨i0, hi0, hz0, hz1, hz2⟩ := info_parts info_int
  obtain ⟨q0, hq0, hx0, hx1, hx2⟩ := info_parts info_ed
  have hlen := Rd.rec_len sc_len (by omega) hr
  have HR := Lib.hid hr; clear hr
  have HQ := Lib.hid hq; clear hq
  have HL := Lib.hid hlen; clear hlen
  by_cases h0 : n < 0
  · have g1 : decide (n < 0) = true := decide_eq_true h0
    have HE : Hid (manyErr n l = 1) := by unfold Hid manyErr; rw [if_pos (.inl h0)]
    go_enter Try.func74, Try.ntmps74
    go_wp2_with fail
    go_ret2
    exact ⟨_, by rw [HE.out]; rfl, fun h => by rw [HE.out] at h; (cases h), Below.refl _ _⟩
  have g1 : decide (n < 0) = false := decide_eq_false h0
  by_cases h2 : 200 < n
  · have g2 : decide (200 < n) = true := decide_eq_true h2
    have HE : Hid (manyErr n l = 1) := by unfold Hid manyErr; rw [if_pos (.inr h2)]
    go_enter Try.func74, Try.ntmps74
    go_wp2_with fail
    go_ret2
    exact ⟨_, by rw [HE.out]; rfl, fun h => by rw [HE.out] at h; (cases h), Below.refl _ _⟩
  obtain ⟨n, rfl⟩ := Int.eq_ofNat_of_zero_le (Int.not_lt.1 h0)
  have g2 : decide ((200 : Int) < (n : Int)) = false := decide_eq_false h2
  have g2' : decide (200 < n) = false := decide_eq_false (by omega)
  have hn : n ≤ 200 := by omega
  by_cases h3 : 30 < m
  · have g3 : decide ((30 : Int) < (m : Int)) = true := decide_eq_true (by omega)
    have g3' : decide (30 < m) = true := decide_eq_true h3
    have HE : Hid (manyErr n l = 2) := by unfold Hid manyErr; rw [if_neg (by omega), if_pos (by rw [HL.out]; exact h3)]
    clear h0 h2
    go_enter Try.func74, Try.ntmps74
    go_wp2_with fail
    go_ret2
    exact ⟨_, by rw [HE.out]; rfl, fun h => by rw [HE.out] at h; (cases h), Below.refl _ _⟩
  have g3 : decide ((30 : Int) < (m : Int)) = false := decide_eq_false (by omega)
  have g3' : decide (30 < m) = false := decide_eq_false h3
  have hm30 : m ≤ 30 := by omega
  clear h0 h2 h3
  have hRP := Lib.hid (repeatB_any 63 n hn)
  go_enter Try.func74, Try.ntmps74
  go_wp2_with fail
  refine (hRP.out _).mono ?_
  rintro e w1 ⟨rfl, hb1⟩
  have HTX : Hid (S (List.replicate n 63) = S (tText (tStart n))) := by unfold Hid; rw [tStart_text]
  rw [HTX.out]
  clear hRP HTX
  go_wp2_with (at_make; go_must (refine wpList_make_full _ rfl _ _ _ rfl w.heap.size 3 i0 _ 1 Try.underlying25 hi0 hz0 hz1 .i64 .i64 (n : Int) (n : Int) n rfl rfl rfl rfl (by rw [hz2]; omega) (by unfold maxLen; omega) hb1.size ?_); intro w2 hown2 hg2)
  have hb2 : Below w.heap.size w w2 := hb1.grown hg2 hb1.size (fun _ h => by cases h)
  have HA2 : Hid (ArrI w2 w.heap.size w1.heap.size n (List.replicate n 0)) := by rw [made_ints] at hown2; exact hown2
  have hg7 : w.heap.size ≤ w1.heap.size := hb1.size
  clear hown2 hg2 hb1
  generalize w1.heap.size = g at *
  go_loopw [36] (fun i wr => ∃ (k : Nat) (q : List Int), k ≤ n ∧ i = .int .i64 k ∧ ArrI wr w.heap.size g n q ∧ (∀ j, j < k → q.getD j 0 = (j : Int)) ∧ Below w.heap.size w wr) (fun i _ => n - (intOf i).toNat)
  case atStart => exact ⟨0, _, Nat.zero_le _, rfl, HA2.out, fun j h => by omega, hb2⟩
  case round =>
    clear HA2 hb2
    obtain ⟨k, q, hk, rfl, hrow, hl, hb⟩ := hrel
    have HLQ := Lib.hid hl
    clear hl
    have hln := hrow.len
    by_cases hlt : k < n
    · have c0 := hrow.at_ hlt
      have f0 := hrow.free k
      have HRW := Lib.hid (hrow.set_ k (k : Int))
      have g4 : decide ((k : Int) < (n : Int)) = true := decide_eq_true (by omega)
      clear hrow
      go_wp2_with fail
      go_roundw
      case rel =>
        refine ⟨k + 1, _, by omega, by go_num, HRW.out, fun j hj => ?_, Below.setCell hb hg7 _⟩
        rw [getD_set _ _ _ _ (by omega)]
        split
        · rename_i e; rw [e]
        · exact HLQ.out j (by omega)
      case measure => simp [intOf] <;> omega
    · obtain rfl : n = k := by omega
      have g4 : decide ((n : Int) < (n : Int)) = false := by simp
      have hqs : q = wStart n := by
        apply List.ext_getElem
        · rw [hln]; simp [wStart]
        · intro j h1 h2
          have := HLQ.out j (by omega)
          rw [List.getD_eq_getElem?_getD, List.getElem?_eq_getElem h1, Option.getD_some] at this
          rw [this]; simp [wStart]
      rw [hqs] at hrow
      have HRW := Lib.hid hrow
      have HT := Lib.hid (TmAt.start hn l)
      clear hrow hqs hln HLQ
      go_wp2_with fail
      go_loopw [6, 46] (fun o i wr' => ∃ (j : Nat) (cs : List Tc) (wh : List Int), TmAt n l j cs wh ∧ i = .int .i64 j ∧ o = .string (S (tText cs)) ∧ ArrI wr' w.heap.size g n wh ∧ Below w.heap.size w wr') (fun _ i _ => m - (intOf i).toNat)
      case atStart => exact ⟨0, _, _, HT.out, rfl, rfl, HRW.out, hb⟩
      case round =>
        clear HT HRW hb
        obtain ⟨j, cs, wh, hT, rfl, rfl, hrow, hb⟩ := hrel
        have hj := hT.kl
        rw [HL.out] at hj
        have hsm := hT.sm
        have HT := Lib.hid hT
        have HRW := Lib.hid hrow
        have HTS : Hid ((S (tText cs)).size = cs.length) := by unfold Hid; rw [S_size, tText_len]
        have hts : (S (tText cs)).size ≤ 200 := by rw [HTS.out]; exact hsm
        have hbs := hb.size
        clear hT hrow
        by_cases hlj : j < m
        · have g5 : decide ((j : Int) < (m : Int)) = true := decide_eq_true (by omega)
          obtain ⟨ad, hl, rfl, hab, cc⟩ := (HR.out.below (hb.mono hB)).at_sc hlj
          have HOK0 := Lib.hid (HQ.out _ (List.getElem_mem hl))
          have hok := HOK0.out.below (hb.mono hB)
          have HOK := Lib.hid hok
          have hnm : l[j].n ≤ 9223372036854775807 := by have h1 := hok.nc; have h2 := hok.cm; unfold maxLen at h2; omega
          have HST := Lib.hid (HT.out.step hl)
          have HBD : Hid (edErr cs.length l[j].l ≠ 0 → manyErr n l = edErr cs.length l[j].l) := fun h => HT.out.bad hl h hn (by rw [HL.out]; exact hm30)
          clear hok
          generalize l[j] = x at *
          obtain ⟨xA, xn, xc, xl⟩ := x
          simp only at cc hnm HST HBD
          go_wp2_with fail
          refine (editsErr_any (S (tText cs)).size xl xA xn xc B _ HOK.out.rd (Nat.le_trans hB hbs) hnm).mono ?_
          rintro e w3 ⟨rfl, hb3⟩
          rw [HTS.out]
          have hb3' := bthen hb hb3
          by_cases he : edErr cs.length xl = 0
          · have g6 : (edErr cs.length xl != 0) = false := by rw [he]; rfl
            have HST2 := Lib.hid (HST.out he)
            have HE := Lib.hid he
            have hs3 := hb3.size
            have HRW3 : Hid (ArrI w3 w.heap.size g n (stepW xl wh 0)) := by unfold Hid; rw [stepW_zero]; exact HRW.out.below hb3
            clear HST HBD he
            go_wp2_with fail
            go_loopw [59] (fun i w4 => ∃ p : Nat, p ≤ n ∧ i = .int .i64 p ∧ ArrI w4 w.heap.size g n (stepW xl wh p) ∧ Below w.heap.size w w4) (fun i _ => n - (intOf i).toNat)
            case atStart => exact ⟨0, Nat.zero_le _, rfl, HRW3.out, hb3'⟩
            case round =>
              clear HRW3 hb3' hb3
              obtain ⟨p, hp, rfl, hrow, hb5⟩ := hrel
              have hwl := HT.out.wh.len
              by_cases hpk : p < n
              · have g7 : decide ((p : Int) < (n : Int)) = true := decide_eq_true (by omega)
                have c0 := hrow.at_ hpk
                have f0 := hrow.free p
                rw [stepW_get xl wh (by omega)] at c0
                have HSET := Lib.hid (fun v => hrow.set_ p v)
                have HSS := Lib.hid (stepW_set xl wh (k := p) (by omega))
                have HSM := Lib.hid (stepW_same xl wh (k := p) (by omega))
                have hcase := HT.out.wh.is_ p hpk
                have HRO := Lib.hid hrow
                clear hrow
                rcases hcase with ⟨h1, _⟩ | ⟨at_, h1, h2⟩
                · rw [h1] at c0 HSM
                  have HRN : Hid (ArrI wr w.heap.size g n (stepW xl wh (p + 1))) := by have := HRO.out; rw [HSM.out rfl] at this; exact this
                  clear h1 HSET HSS HSM HRO
                  go_wp2_with fail
                  go_roundw
                  case rel => exact ⟨p + 1, by omega, by go_num, HRN.out, hb5⟩
                  case measure => simp [intOf] <;> omega
                · have hatl : at_ < cs.length := by
                    have := (List.getElem?_eq_some_iff.1 h2).1
                    rw [tF_len] at this; exact this
                  rw [h1] at c0 HSS
                  have HW1 : Hid (wOne xl (at_ : Int) = if (plc at_ 0 xl).2 = true then (plc at_ 0 xl).1 else -1) := by unfold Hid wOne; rw [if_pos (by omega)]
                  have g8 : decide ((0 : Int) ≤ (at_ : Int)) = true := decide_eq_true (by omega)
                  have hb5s := hb5.size
                  have hok5 := HOK0.out.below (hb5.mono hB)
                  have HPL := Lib.hid (edPlaceOf_any cs.length at_ xl xA xn xc B wr hok5.rd (Nat.le_trans hB hb5s) hok5.nc HE.out (by omega) (by omega))
                  clear h1 h2 HSM hok5
                  go_wp2_with fail
                  refine (HPL.out).mono ?_
                  rintro e w6 ⟨rfl, hb6⟩
                  have HRO6 := Lib.hid (HRO.out.below hb6)
                  have c06 := HRO6.out.at_ hpk
                  have f06 := HRO6.out.free p
                  have HRN := Lib.hid (fun v => HRO6.out.set_ p v)
                  have hb6' := bthen hb5 hb6
                  clear HPL HSET HRO c0 f0 hb6
                  generalize hto : plc (at_ : Int) 0 xl = tr at *
                  obtain ⟨tz, is⟩ := tr
                  simp only
                  cases is with
                  | true =>
                    have HRF : Hid (ArrI (w6.setCell ⟨g, p, none⟩ (.int .i64 tz)) w.heap.size g n (stepW xl wh (p + 1))) := by
                      have h9 : wOne xl (at_ : Int) = tz := by rw [HW1.out]; exact if_pos rfl
                      have := HRN.out tz
                      rw [← h9, HSS.out] at this
                      rw [← h9]; exact this
                    clear HRN HRO6 HSS HW1 hto
                    go_wp2_with fail
                    go_roundw
                    case rel => exact ⟨p + 1, by omega, by go_num, HRF.out, Below.setCell hb6' hg7 _⟩
                    case measure => simp [intOf] <;> omega
                  | false =>
                    have HRF : Hid (ArrI (w6.setCell ⟨g, p, none⟩ (.int .i64 (-1))) w.heap.size g n (stepW xl wh (p + 1))) := by
                      have h9 : wOne xl (at_ : Int) = -1 := by rw [HW1.out]; exact if_neg (by simp)
                      have := HRN.out (-1)
                      rw [← h9, HSS.out] at this
                      rw [← h9]; exact this
                    clear HRN HRO6 HSS HW1 hto
                    go_wp2_with fail
                    go_roundw
                    case rel => exact ⟨p + 1, by omega, by go_num, HRF.out, Below.setCell hb6' hg7 _⟩
                    case measure => simp [intOf] <;> omega
              · obtain rfl : p = n := by omega
                have g7 : decide ((p : Int) < (p : Int)) = false := by simp
                have HRF : Hid (ArrI wr w.heap.size g p (wh.map (wOne xl))) := by have := hrow; rw [stepW_all xl wh hwl] at this; exact this
                have hok5 := HOK0.out.below (hb5.mono hB)
                have hb5s := hb5.size
                have HDN := Lib.hid (edDone_any (S (tText cs)) xl xA xn xc B wr hok5.rd (Nat.le_trans hB hb5s) (by rw [HTS.out]; exact HE.out))
                have HTD : Hid (S (edDone (L (S (tText cs))) xl) = S (tText (tApply cs 0 xl))) := by unfold Hid; rw [L_S, tText_done HE.out]
                clear hrow hok5
                go_wp2_with fail
                refine (HDN.out).mono ?_
                rintro e w6 ⟨rfl, hb6⟩
                rw [HTD.out]
                have HRF6 := Lib.hid (HRF.out.below hb6)
                have hb6' := bthen hb5 hb6
                clear HDN HRF hb6
                go_wp2_with fail
                go_roundw
                case rel => exact ⟨j + 1, _, _, HST2.out, by go_num, rfl, HRF6.out, hb6'⟩
                case measure => simp [intOf] <;> omega
          · have g6 : (edErr cs.length xl != 0) = true := by simpa using he
            have HE2 := Lib.hid (HBD.out he)
            have HE := Lib.hid he
            clear HST HBD he
            go_wp2_with fail
            go_ret2
            exact ⟨_, by rw [HE2.out]; rfl, fun h => absurd (by rw [← HE2.out]; exact h) HE.out, hb3'⟩
        · obtain rfl : j = m := by omega
          have g5 : decide ((j : Int) < (j : Int)) = false := by simp
          have hT2 : TmAt n l l.length cs wh := by have := HT.out; rw [HL.out]; exact this
          obtain ⟨hf1, hf2⟩ := hT2.fin hn (by rw [HL.out]; exact hm30)
          have HF1 := Lib.hid hf1
          have HF2 := Lib.hid hf2
          have HWH := Lib.hid hT2.wh
          have HZE : Hid (scrE n cs = edErr n (scr 0 [] (cs ++ [((n : Int), 0)]))) := rfl
          clear hT2 hf1 hf2 HT HQ HR
          go_wp2_with fail
          have HB9 := Lib.hid hb
          clear hb hbs
          generalize wr = wS at *
          go_loopw [16, 17, 18, 19] (fun o f b i wr => ∃ (k f' b' : Nat) (out : List Ed), k ≤ n + 1 ∧ f' ≤ n + 1 ∧ b' ≤ 201 ∧ out.length ≤ k ∧ i = .int .i64 k ∧ f = .int .i64 f' ∧ b = .int .i64 b' ∧ ScrRel n cs k f' b' out ∧ wr.ownsRow w.heap.size 73 3 o out.length (edCells out) ∧ Below w.heap.size w wr ∧ ArrI wr w.heap.size g n wh) (fun _ _ _ i _ => n + 1 - (intOf i).toNat)
          case atStart => exact ⟨0, 0, 0, [], by omega, by omega, by omega, by simp, rfl, rfl, rfl, .inl ⟨Nat.zero_le _, ScrAt.start n cs⟩, World.ownsRow_nil _ _ _ _, HB9.out, HRW.out⟩
          case round =>
            clear HB9 HRW
            obtain ⟨k, f, b, out, hk, hf, hb3, hol, rfl, rfl, rfl, hS, ho, hb9, hrow⟩ := hrel
            have HO9 := Lib.hid ho
            have HRW9 := Lib.hid hrow
            clear ho
            by_cases hle : k ≤ n
            · have g5 : decide ((k : Int) ≤ (n : Int)) = true := decide_eq_true (by omega)
              have g5' : decide (k ≤ n) = true := decide_eq_true hle
              have hA : ScrAt n cs k f b out := by
                rcases hS with h | h
                · exact h.2
                · omega
              have hfk9 := hA.fk
              clear hS
              by_cases hkn : k < n
              · have g6 : decide ((k : Int) < (n : Int)) = true := decide_eq_true (by omega)
                have g6' : decide (k < n) = true := decide_eq_true hkn
                have c0 := hrow.at_ hkn
                clear hrow
                rcases hA.any_ HWH.out hkn with ⟨h1, hR⟩ | ⟨j', h1, hbj, hjc, hR⟩
                · rw [h1] at c0
                  have HREL := Lib.hid hR
                  clear h1 hR hA
                  have ho9 := HO9.out
                  go_wp2_with fail
                  go_roundw
                  case rel => exact ⟨k + 1, f, b, out, by omega, by omega, by omega, by omega, by go_num, rfl, rfl, HREL.out, ho9, hb9, HRW9.out⟩
                  case measure => simp [intOf] <;> omega
                · rw [h1] at c0
                  have HREL := Lib.hid hR
                  have g7 : decide ((j' : Int) < 0) = false := decide_eq_false (by omega)
                  clear h1 hR hA
                  have hinl : (((tText cs).take j').drop b).length = j' - b := by rw [List.length_drop, List.length_take, tText_len]; omega
                  have HINS : Hid ((S (tText cs)).extract b j' = S (((tText cs).take j').drop b)) := by unfold Hid; rw [extract_S, L_S, List.drop_take]
                  have hz9 : ((S (tText cs)).extract b j').size ≤ 200 := by rw [HINS.out, S_size, hinl]; omega
                  have hJs : j' ≤ (S (tText cs)).size := by have := HTS.out; omega
                  have HONE : Hid (scrOne f (((tText cs).take j').drop b) k = if f < k ∨ b < j' then [⟨f, (k : Int) - f, ((tText cs).take j').drop b⟩] else []) := by
                    unfold Hid scrOne
                    by_cases h1 : f < k ∨ b < j'
                    · rw [if_pos h1, if_pos]
                      rcases h1 with h1 | h1
                      · exact .inl (by omega)
                      · right; intro e; rw [e] at hinl; simp at hinl; omega
                    · rw [if_neg h1, if_neg]
                      rintro (h2 | h2)
                      · omega
                      · exact h2 (List.eq_nil_of_length_eq_zero (by omega))
                  clear hinl
                  generalize ((tText cs).take j').drop b = ins at *
                  rcases Nat.lt_or_ge f k with hfk | hfk
                  · have g8 : decide ((f : Int) < (k : Int)) = true := decide_eq_true (by omega)
                    have g8' : decide (f < k) = true := decide_eq_true hfk
                    have HON2 : Hid (scrOne f ins k = [⟨f, (k : Int) - f, ins⟩]) := by unfold Hid; rw [HONE.out, if_pos (.inl hfk)]
                    clear HONE
                    have hbs9 := hb9.size
                    go_wp2_with (at_builtin; go_must (refine wpList_appG rfl _ _ _ rfl w.heap.size 73 q0 _ 3 32 Try.underlying66 hq0 hx0 hx1 hx2 rfl (by omega) _ out.length (edCells out) rfl (HO9.out.alloc _) ⟨wr.heap.size, 0, none⟩ 1 1 [.int .i64 (f : Int), .int .i64 ((k : Int) - (f : Int)), .string ((S (tText cs)).extract b j')] rfl rfl (cells_new3 _ _ _ _ _) (by simp [Value.oneCell']) (by omega) (by omega) (by simp; omega) ?_); intro v6 w6 hown6 hg6 hb6)
                    rw [HINS.out] at hown6
                    have HO10 : Hid (w6.ownsRow w.heap.size 73 3 v6 (out ++ [(⟨f, (k : Int) - f, ins⟩ : Ed)]).length (edCells (out ++ [(⟨f, (k : Int) - f, ins⟩ : Ed)]))) := by
                      unfold Hid; rw [List.length_append, List.length_singleton, edCells_append]; exact hown6
                    have HREL2 : Hid (ScrRel n cs (k + 1) (k + 1) (j' + 1) (out ++ [(⟨f, (k : Int) - f, ins⟩ : Ed)])) := by have := HREL.out; rw [HON2.out] at this; exact this
                    have hb10 := (hb9.alloc hbs9 _).trans hb6
                    have HRW10 := Lib.hid (HRW9.out.kept2 HO9.out hg6)
                    clear hown6 hg6 hb6 HREL HON2 HO9
                    go_roundw
                    case rel => exact ⟨k + 1, k + 1, j' + 1, _, by omega, by omega, by omega, by rw [List.length_append, List.length_singleton]; omega, by go_num, by go_num, by go_num, HREL2.out, HO10.out, hb10, HRW10.out⟩
                    case measure => simp [intOf] <;> omega
                  · have g8 : decide ((f : Int) < (k : Int)) = false := decide_eq_false (by omega)
                    have g8' : decide (f < k) = false := decide_eq_false (by omega)
                    rcases Nat.lt_or_ge b j' with hbj2 | hbj2
                    · have g9 : decide ((b : Int) < (j' : Int)) = true := decide_eq_true (by omega)
                      have g9' : decide (b < j') = true := decide_eq_true hbj2
                      have HON2 : Hid (scrOne f ins k = [⟨f, (k : Int) - f, ins⟩]) := by unfold Hid; rw [HONE.out, if_pos (.inr hbj2)]
                      clear HONE
                      have hbs9 := hb9.size
                      go_wp2_with (at_builtin; go_must (refine wpList_appG rfl _ _ _ rfl w.heap.size 73 q0 _ 3 32 Try.underlying66 hq0 hx0 hx1 hx2 rfl (by omega) _ out.length (edCells out) rfl (HO9.out.alloc _) ⟨wr.heap.size, 0, none⟩ 1 1 [.int .i64 (f : Int), .int .i64 ((k : Int) - (f : Int)), .string ((S (tText cs)).extract b j')] rfl rfl (cells_new3 _ _ _ _ _) (by simp [Value.oneCell']) (by omega) (by omega) (by simp; omega) ?_); intro v6 w6 hown6 hg6 hb6)
                      rw [HINS.out] at hown6
                      have HO10 : Hid (w6.ownsRow w.heap.size 73 3 v6 (out ++ [(⟨f, (k : Int) - f, ins⟩ : Ed)]).length (edCells (out ++ [(⟨f, (k : Int) - f, ins⟩ : Ed)]))) := by
                        unfold Hid; rw [List.length_append, List.length_singleton, edCells_append]; exact hown6
                      have HREL2 : Hid (ScrRel n cs (k + 1) (k + 1) (j' + 1) (out ++ [(⟨f, (k : Int) - f, ins⟩ : Ed)])) := by have := HREL.out; rw [HON2.out] at this; exact this
                      have hb10 := (hb9.alloc hbs9 _).trans hb6
                      have HRW10 := Lib.hid (HRW9.out.kept2 HO9.out hg6)
                      clear hown6 hg6 hb6 HREL HON2 HO9
                      go_roundw
                      case rel => exact ⟨k + 1, k + 1, j' + 1, _, by omega, by omega, by omega, by rw [List.length_append, List.length_singleton]; omega, by go_num, by go_num, by go_num, HREL2.out, HO10.out, hb10, HRW10.out⟩
                      case measure => simp [intOf] <;> omega
                    · have g9 : decide ((b : Int) < (j' : Int)) = false := decide_eq_false (by omega)
                      have g9' : decide (b < j') = false := decide_eq_false (by omega)
                      have HON2 : Hid (scrOne f ins k = []) := by unfold Hid; rw [HONE.out, if_neg (by omega)]
                      have HREL2 : Hid (ScrRel n cs (k + 1) (k + 1) (j' + 1) out) := by have := HREL.out; rw [HON2.out, List.append_nil] at this; exact this
                      have ho9 := HO9.out
                      clear HONE HREL
                      go_wp2_with fail
                      go_roundw
                      case rel => exact ⟨k + 1, k + 1, j' + 1, out, by omega, by omega, by omega, by omega, by go_num, by go_num, by go_num, HREL2.out, ho9, hb9, HRW9.out⟩
                      case measure => simp [intOf] <;> omega
              · obtain rfl : k = n := by omega
                have g6 : decide ((k : Int) < (k : Int)) = false := by simp
                have hbj := hA.bl
                rw [← HTS.out] at hbj
                have hjc : (S (tText cs)).size ≤ cs.length := by rw [HTS.out]; exact Nat.le_refl _
                have HREL : Hid (ScrRel k cs (k + 1) (k + 1) ((S (tText cs)).size + 1) (out ++ scrOne f (((tText cs).take (S (tText cs)).size).drop b) k)) := by
                  refine .inr ⟨rfl, ?_⟩
                  rw [hA.fin HWH.out.lt, HTS.out, List.take_of_length_le (by rw [tText_len]; exact Nat.le_refl _)]
                have g7 : decide (((S (tText cs)).size : Int) < 0) = false := decide_eq_false (by omega)
                clear hA hrow
                have hinl : (((tText cs).take (S (tText cs)).size).drop b).length = (S (tText cs)).size - b := by rw [List.length_drop, List.length_take, tText_len]; omega
                have HINS : Hid ((S (tText cs)).extract b (S (tText cs)).size = S (((tText cs).take (S (tText cs)).size).drop b)) := by unfold Hid; rw [extract_S, L_S, List.drop_take]
                have hz9 : ((S (tText cs)).extract b (S (tText cs)).size).size ≤ 200 := by rw [HINS.out, S_size, hinl]; omega
                have hJs : (S (tText cs)).size ≤ (S (tText cs)).size := by have := HTS.out; omega
                have HONE : Hid (scrOne f (((tText cs).take (S (tText cs)).size).drop b) k = if f < k ∨ b < (S (tText cs)).size then [⟨f, (k : Int) - f, ((tText cs).take (S (tText cs)).size).drop b⟩] else []) := by
                  unfold Hid scrOne
                  by_cases h1 : f < k ∨ b < (S (tText cs)).size
                  · rw [if_pos h1, if_pos]
                    rcases h1 with h1 | h1
                    · exact .inl (by omega)
                    · right; intro e; rw [e] at hinl; simp at hinl; omega
                  · rw [if_neg h1, if_neg]
                    rintro (h2 | h2)
                    · omega
                    · exact h2 (List.eq_nil_of_length_eq_zero (by omega))
                clear hinl
                generalize ((tText cs).take (S (tText cs)).size).drop b = ins at *
                rcases Nat.lt_or_ge f k with hfk | hfk
                · have g8 : decide ((f : Int) < (k : Int)) = true := decide_eq_true (by omega)
                  have g8' : decide (f < k) = true := decide_eq_true hfk
                  have HON2 : Hid (scrOne f ins k = [⟨f, (k : Int) - f, ins⟩]) := by unfold Hid; rw [HONE.out, if_pos (.inl hfk)]
                  clear HONE
                  have hbs9 := hb9.size
                  go_wp2_with (at_builtin; go_must (refine wpList_appG rfl _ _ _ rfl w.heap.size 73 q0 _ 3 32 Try.underlying66 hq0 hx0 hx1 hx2 rfl (by omega) _ out.length (edCells out) rfl (HO9.out.alloc _) ⟨wr.heap.size, 0, none⟩ 1 1 [.int .i64 (f : Int), .int .i64 ((k : Int) - (f : Int)), .string ((S (tText cs)).extract b (S (tText cs)).size)] rfl rfl (cells_new3 _ _ _ _ _) (by simp [Value.oneCell']) (by omega) (by omega) (by simp; omega) ?_); intro v6 w6 hown6 hg6 hb6)
                  rw [HINS.out] at hown6
                  have HO10 : Hid (w6.ownsRow w.heap.size 73 3 v6 (out ++ [(⟨f, (k : Int) - f, ins⟩ : Ed)]).length (edCells (out ++ [(⟨f, (k : Int) - f, ins⟩ : Ed)]))) := by
                    unfold Hid; rw [List.length_append, List.length_singleton, edCells_append]; exact hown6
                  have HREL2 : Hid (ScrRel k cs (k + 1) (k + 1) ((S (tText cs)).size + 1) (out ++ [(⟨f, (k : Int) - f, ins⟩ : Ed)])) := by have := HREL.out; rw [HON2.out] at this; exact this
                  have hb10 := (hb9.alloc hbs9 _).trans hb6
                  have HRW10 := Lib.hid (HRW9.out.kept2 HO9.out hg6)
                  clear hown6 hg6 hb6 HREL HON2 HO9
                  go_roundw
                  case rel => exact ⟨k + 1, k + 1, (S (tText cs)).size + 1, _, by omega, by omega, by omega, by rw [List.length_append, List.length_singleton]; omega, by go_num, by go_num, by go_num, HREL2.out, HO10.out, hb10, HRW10.out⟩
                  case measure => simp [intOf] <;> omega
                · have g8 : decide ((f : Int) < (k : Int)) = false := decide_eq_false (by omega)
                  have g8' : decide (f < k) = false := decide_eq_false (by omega)
                  rcases Nat.lt_or_ge b (S (tText cs)).size with hbj2 | hbj2
                  · have g9 : decide ((b : Int) < ((S (tText cs)).size : Int)) = true := decide_eq_true (by omega)
                    have g9' : decide (b < (S (tText cs)).size) = true := decide_eq_true hbj2
                    have HON2 : Hid (scrOne f ins k = [⟨f, (k : Int) - f, ins⟩]) := by unfold Hid; rw [HONE.out, if_pos (.inr hbj2)]
                    clear HONE
                    have hbs9 := hb9.size
                    go_wp2_with (at_builtin; go_must (refine wpList_appG rfl _ _ _ rfl w.heap.size 73 q0 _ 3 32 Try.underlying66 hq0 hx0 hx1 hx2 rfl (by omega) _ out.length (edCells out) rfl (HO9.out.alloc _) ⟨wr.heap.size, 0, none⟩ 1 1 [.int .i64 (f : Int), .int .i64 ((k : Int) - (f : Int)), .string ((S (tText cs)).extract b (S (tText cs)).size)] rfl rfl (cells_new3 _ _ _ _ _) (by simp [Value.oneCell']) (by omega) (by omega) (by simp; omega) ?_); intro v6 w6 hown6 hg6 hb6)
                    rw [HINS.out] at hown6
                    have HO10 : Hid (w6.ownsRow w.heap.size 73 3 v6 (out ++ [(⟨f, (k : Int) - f, ins⟩ : Ed)]).length (edCells (out ++ [(⟨f, (k : Int) - f, ins⟩ : Ed)]))) := by
                      unfold Hid; rw [List.length_append, List.length_singleton, edCells_append]; exact hown6
                    have HREL2 : Hid (ScrRel k cs (k + 1) (k + 1) ((S (tText cs)).size + 1) (out ++ [(⟨f, (k : Int) - f, ins⟩ : Ed)])) := by have := HREL.out; rw [HON2.out] at this; exact this
                    have hb10 := (hb9.alloc hbs9 _).trans hb6
                    have HRW10 := Lib.hid (HRW9.out.kept2 HO9.out hg6)
                    clear hown6 hg6 hb6 HREL HON2 HO9
                    go_roundw
                    case rel => exact ⟨k + 1, k + 1, (S (tText cs)).size + 1, _, by omega, by omega, by omega, by rw [List.length_append, List.length_singleton]; omega, by go_num, by go_num, by go_num, HREL2.out, HO10.out, hb10, HRW10.out⟩
                    case measure => simp [intOf] <;> omega
                  · have g9 : decide ((b : Int) < ((S (tText cs)).size : Int)) = false := decide_eq_false (by omega)
                    have g9' : decide (b < (S (tText cs)).size) = false := decide_eq_false (by omega)
                    have HON2 : Hid (scrOne f ins k = []) := by unfold Hid; rw [HONE.out, if_neg (by omega)]
                    have HREL2 : Hid (ScrRel k cs (k + 1) (k + 1) ((S (tText cs)).size + 1) out) := by have := HREL.out; rw [HON2.out, List.append_nil] at this; exact this
                    have ho9 := HO9.out
                    clear HONE HREL
                    go_wp2_with fail
                    go_roundw
                    case rel => exact ⟨k + 1, k + 1, (S (tText cs)).size + 1, out, by omega, by omega, by omega, by omega, by go_num, by go_num, by go_num, HREL2.out, ho9, hb9, HRW9.out⟩
                    case measure => simp [intOf] <;> omega
            · obtain rfl : k = n + 1 := by omega
              have g5 : decide ((n : Int) + 1 ≤ (n : Int)) = false := decide_eq_false (by omega)
              have hout : scr 0 [] (cs ++ [((n : Int), 0)]) = out := by
                rcases hS with h | h
                · omega
                · exact h.2
              have HOUT := Lib.hid hout
              obtain ⟨A9, c9, rfl, hc9, hcm9, hrd9⟩ := own_form HO9.out
              have HR9 := Lib.hid hrd9
              have hol9 : out.length ≤ 9223372036854775807 := by omega
              clear hout hrd9 hrow hS hc9 hcm9
              go_wp2_with fail
              refine (editsErr_any n out A9 out.length c9 wr.heap.size wr HR9.out (Nat.le_refl _) hol9).mono ?_
              rintro e w6 ⟨rfl, hb6⟩
              have HO10 := Lib.hid (own_below HO9.out hb6)
              have hb10 := bthen hb9 hb6
              go_wp2_with fail
              go_ret2
              refine ⟨_, by rw [HF1.out, HZE.out, HOUT.out]; rfl, fun _ => ?_, hb10⟩
              rw [HF2.out, HOUT.out]
              exact HO10.out
end Go.Proofs.Ytolnhplgaolieaa
