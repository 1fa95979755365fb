/- The reference's PlaceOf; the question for an edit that takes much. The reference's BothOf, walked. alike at two rows of the same edits. -/
import Derived.Test.YtmikckhihfcooaaPk13
import Derived.Test.YtmikckhihfcooaaPk05
import Derived.Test.YtmikckhihfcooaaPk08
import Derived.Test.YtmikckhihfcooaaPk12
import Derived.Test.YtmikckhihfcooaaPk04
import Derived.Test.YtmikckhihfcooaaPk03
import Derived.Lib.QuietBelow
namespace Go.Proofs.Ytmikckhihfcooaa
open Go.RowKit
theorem Rd.take_ed {w : World} {B n : Nat} {A : Option Addr} {l : List Ed} (h : Rd w B 3 A n (edCells l)) {k : Nat} (hk : k ≤ n) : Rd w B 3 A k (edCells (l.take k)) := by
  have hl := Rd.rec_len ed_len (by omega) h
  have hsp : edCells l = edCells (l.take k) ++ edCells (l.drop k) := by rw [← edCells_append, List.take_append_drop]
  refine ⟨by unfold edCells; rw [flat_len ed_len, List.length_take]; congr 1; omega, fun hn => ?_⟩
  obtain ⟨ad, e, hb, hc⟩ := h.2 (by omega)
  refine ⟨ad, e, hb, fun j u hu => hc j u ?_⟩
  rw [hsp, List.getElem?_append_left (List.getElem?_eq_some_iff.1 hu).1]
  exact hu
def hitB (at_ : Int) (x : Ed) : Prop := x.at_ ≤ at_ ∧ at_ < x.at_ + x.del
theorem place_hit {n at_ : Int} {l : List Ed} (h : edErr n l = 0) {k : Nat} (hk : k < l.length) (hh : hitB at_ l[k]) : plc at_ 0 l = (l[k].at_ + grows (l.take k), false) := by
  have hc := (edErr_zero.1 h).2.2.2.1
  rw [plc_steps at_ l 0 k (by omega) (fun j hj hjk => by
    have h1 := hc.lt j k hj hk hjk
    have h2 := hc.mem l[j] (List.getElem_mem hj)
    have h3 := hh.1
    omega), drop_cons_get hk, plc, if_neg (by have := hh.1; omega), if_pos hh.2, Int.zero_add]
theorem place_none {n at_ : Int} {l : List Ed} (h : edErr n l = 0) {k : Nat} (hk : k ≤ l.length) (hno : ∀ j (h : j < l.length), ¬ hitB at_ l[j]) (hj : ∀ j (h : j < l.length), j < k → l[j].at_ + l[j].del ≤ at_)
    (he : ∀ h : k < l.length, at_ < l[k].at_ + l[k].del) : plc at_ 0 l = (at_ + grows (l.take k), true) := by
  have hc := (edErr_zero.1 h).2.2.2.1
  rw [plc_steps at_ l 0 k hk (fun j hj' hjk => by
    have h1 := hj j hj' hjk
    have h2 := hc.mem l[j] (List.getElem_mem hj')
    omega), Int.zero_add]
  by_cases hk2 : k < l.length
  · have h1 := he hk2
    have h2 := hno k hk2
    unfold hitB at h2
    rw [drop_cons_get hk2, plc, if_pos (by omega)]
  · rw [List.drop_of_length_le (by omega), plc]
theorem ret_ib {a b : Int} {x y : Bool} (h : a = b) (k : x = y) : Ending.returned (.tuple #[.int .i64 a, .bool x]) = .returned (.tuple #[.int .i64 b, .bool y]) := by rw [h, k]
end Go.Proofs.Ytmikckhihfcooaa
namespace Go.Proofs.Ytmikckhihfcooaa
open Go.RowKit
theorem anyC_clash {a b : List Ed} {i : Nat} (hi : i < a.length) (h : anyC a[i] b = true) : ¬ noClash a b := by
  intro hn
  unfold anyC at h
  obtain ⟨y, hy, h2⟩ := List.any_eq_true.1 h
  exact hn _ (List.getElem_mem hi) y hy (of_decide_eq_true h2)
def clearTo (a b : List Ed) (i : Nat) : Prop := ∀ x ∈ a.take i, ∀ y ∈ b, ¬ clashE x y
theorem clearTo_zero (a b : List Ed) : clearTo a b 0 := fun x hx => by rw [List.take_zero] at hx; cases hx
theorem clearTo_succ {a b : List Ed} {i : Nat} (hi : i < a.length) (h : clearTo a b i) (h2 : anyC a[i] b = false) : clearTo a b (i + 1) := by
  intro x hx y hy
  rw [List.take_succ_eq_append_getElem hi] at hx
  rcases List.mem_append.1 hx with hx | hx
  · exact h x hx y hy
  · rw [List.mem_singleton.1 hx]
    unfold anyC at h2
    have := List.any_eq_false.1 h2 y hy
    simpa using this
theorem clearTo_end {a b : List Ed} (h : clearTo a b a.length) : noClash a b := by
  unfold clearTo at h
  rw [List.take_length] at h
  exact h
theorem own_lowE {w : World} {base base' : Nat} {e : TypeId} {size n : Nat} {v : Value} {xs : List Value} (h : OwnO w base e size v n xs) (hle : base' ≤ base) : OwnO w base' e size v n xs := by
  refine ⟨h.1, ?_⟩
  rcases h.2 with h | ⟨g, o, cap, cur, h1, h2, h3⟩
  · exact .inl h
  · exact .inr ⟨g, o, cap, cur, h1, Nat.le_trans hle h2, h3⟩
/-- The sort and the compact at an own row of edits. -/
theorem sortE_own (l : List Ed) (v : Value) (w0 w : World) (h : OwnO w w0.heap.size 30 3 v l.length (edCells l)) (hb : Below w0.heap.size w0 w) (hl : l.length ≤ 1000000) (hq : ∀ z ∈ l, QE z) :
    Calls Try.prog 18 #[v, .func (.func 19) #[] #[]] w fun e w' => e = .returned (.tuple #[]) ∧ OwnO w' w0.heap.size 30 3 v l.length (edCells (ssort leE l)) ∧ Below w0.heap.size w0 w' := by
  rcases h.2 with ⟨rfl, h0⟩ | ⟨g, o, cap, cur, rfl, _⟩
  · obtain rfl : l = [] := List.eq_nil_of_length_eq_zero h0
    refine (sortStableE_none none 0 w).mono ?_
    rintro e w' ⟨rfl, rfl⟩
    exact ⟨rfl, h, hb⟩
  · refine (sortStableE_any l ⟨g, o, none⟩ cap l.length w0.heap.size w ⟨h, rfl⟩ hl hq).mono ?_
    rintro e w' ⟨rfl, hr, hg⟩
    exact ⟨rfl, hr.own, hb.grown hg hb.size (fun q hq => by cases hq; exact (h.lt _ rfl).1)⟩
theorem compE_none (w : World) : Calls Try.prog 20 #[.slice none 0 0] w fun e w' => e = .returned (.slice none 0 0) ∧ w' = w := by
  go_enter Try.func20, Try.ntmps20
  go_wp2_with fail
  go_ret
  exact ⟨rfl, rfl⟩
theorem compE_own (l : List Ed) (v : Value) (w0 w : World) (h : OwnO w w0.heap.size 30 3 v l.length (edCells l)) (hb : Below w0.heap.size w0 w) (hl : l.length ≤ 1000000) :
    Calls Try.prog 20 #[v] w fun e w' => ∃ v', e = .returned v' ∧ OwnO w' w0.heap.size 30 3 v' (cmpE l).length (edCells (cmpE l)) ∧ Below w0.heap.size w0 w' := by
  rcases h.2 with ⟨rfl, h0⟩ | ⟨g, o, cap, cur, rfl, _⟩
  · obtain rfl : l = [] := List.eq_nil_of_length_eq_zero h0
    refine (compE_none w).mono ?_
    rintro e w' ⟨rfl, rfl⟩
    exact ⟨_, rfl, h, hb⟩
  · refine (compEd_any l ⟨g, o, none⟩ cap l.length w0.heap.size w ⟨h, rfl⟩ hl).mono ?_
    rintro e w' ⟨rfl, ho, hg⟩
    exact ⟨_, rfl, ho, hb.grown hg hb.size (fun q hq => by cases hq; exact (h.lt _ rfl).1)⟩
set_option maxRecDepth 100000 in
set_option maxHeartbeats 16000000 in
theorem refBoth_any (n : Int) (a b : List Ed) (A A2 : Option Addr) (m c m2 c2 B : Nat) (w : World) (hr : Rd w B 3 A m (edCells a)) (hr2 : Rd w B 3 A2 m2 (edCells b)) (hB : B ≤ w.heap.size) (ha : edErr n a = 0) (hb : edErr n b = 0) :
    Calls Try.prog 8 #[.int .i64 n, .slice A m c, .slice A2 m2 c2] w fun e w' => ∃ v, e = .returned (.tuple #[v, .int .i64 (bothE n a b)]) ∧ (bothE n a b ≠ 0 → v = .slice none 0 0) ∧ (bothE n a b = 0 → OwnO w' w.heap.size 30 3 v (mergeB a b).length (edCells (mergeB a b))) ∧ Below w.heap.size w w' := by
  have hal := Rd.rec_len ed_len9 (by omega) hr
  have hbl := Rd.rec_len ed_len9 (by omega) hr2
  have HA := Lib.hid (ed_bd ha)
  have HB := Lib.hid (ed_bd hb)
  have HEA := Lib.hid ha; have HEB := Lib.hid hb
  have hm : m ≤ 20 := by have := (edErr_zero.1 ha).2.2.1; omega
  have hm2 : m2 ≤ 20 := by have := (edErr_zero.1 hb).2.2.1; omega
  have HAA : Hid (Asc a) := (edErr_zero.1 ha).2.2.2.1.asc
  have HBA : Hid (Asc b) := (edErr_zero.1 hb).2.2.2.1.asc
  have HR := Lib.hid hr; have HR2 := Lib.hid hr2
  have HAL := Lib.hid hal; have HBL := Lib.hid hbl
  clear ha hb hr hr2 hal hbl
  go_enter Try.func8, Try.ntmps8
  go_wp2_with fail
  go_loopw [14] (fun iv wr => ∃ i : Nat, i ≤ m ∧ iv = .int .i64 (i : Int) ∧ Hid (clearTo a b i) ∧ Below w.heap.size w wr) (fun iv _ => m - (intOf iv).toNat)
  case atStart => exact ⟨0, Nat.zero_le _, rfl, clearTo_zero a b, Below.refl _ _⟩
  case round =>
    obtain ⟨i, hi, rfl, HC, hbw⟩ := hrel
    have hbs := hbw.size
    by_cases hlt : i < m
    · have g1 : decide ((i : Int) < (m : Int)) = true := decide_eq_true (by omega)
      have g1' : decide (i < m) = true := decide_eq_true hlt
      obtain ⟨ad, hl, rfl, hab, c0, c1, c2'⟩ := (HR.out.below (hbw.mono hB)).at_ed hlt
      have hbA : Below wr.heap.size wr (wr.alloc (.cells #[.int .i64 a[i].at_, .int .i64 a[i].del, .string (S a[i].ins)] 30)) := (Below.refl _ _).alloc (Nat.le_refl _) _
      have hBA := bthen hbw hbA
      have HF := Lib.hid (bothF_any b a[i] A2 m2 c2 B wr.heap.size _ (HR2.out.below (hBA.mono hB)) (Nat.le_trans hB hBA.size) (by omega) (HA.out _ (List.getElem_mem hl)) HB.out (Blk.new_ wr 30 #[.int .i64 a[i].at_, .int .i64 a[i].del, .string (S a[i].ins)]))
      have HYES : Hid (anyC a[i] b = true → bothE n a b = 9) := fun h => bothE_c HEA.out HEB.out (anyC_clash hl h)
      have HNO : Hid (anyC a[i] b = false → clearTo a b (i + 1)) := fun h => clearTo_succ hl HC.out h
      clear hbA
      generalize anyC a[i] b = r at *
      generalize a[i] = x at *
      obtain ⟨xa, xd, xi⟩ := x
      simp only at c0 c1 c2' HF
      go_wp2_with fail
      refine HF.out.mono ?_
      rintro e w5 ⟨rfl, hb5⟩
      have hB5 := bthen hBA hb5
      cases r with
      | true =>
        have H9 := Lib.hid (HYES.out rfl)
        go_wp2_with fail
        (apply bodyPost_ret; (simp [results, Try.results8, go_sem]; rfl); rfl)
        rw [H9.out]
        exact ⟨_, rfl, fun _ => rfl, fun h => absurd h (by decide), hB5⟩
      | false =>
        have HC2 := Lib.hid (HNO.out rfl)
        go_wp2_with fail
        go_roundw
        case rel => exact ⟨i + 1, by omega, by go_num, HC2.out, hB5⟩
        case measure => simp [intOf]; omega
    · obtain rfl : i = m := by omega
      have g1 : decide ((i : Int) < (i : Int)) = false := decide_eq_false (by omega)
      have g1' : decide (i < i) = false := decide_eq_false hlt
      have hnc : noClash a b := clearTo_end (by rw [HAL.out]; exact HC.out)
      have HBO : Hid (bothE n a b = edErr n (mergeB a b)) := bothE_ok HEA.out HEB.out hnc
      have HBI := Lib.hid (both_is HAA.out HBA.out hnc)
      have hbA : Below wr.heap.size wr (wr.alloc (.cells #[.slice A i c, .slice A2 m2 c2] 22)) := (Below.refl _ _).alloc (Nat.le_refl _) _
      have hBA := bthen hbw hbA
      have hCC := concatEd_any a b A i c A2 m2 c2 B wr.heap.size (wr.alloc (.cells #[.slice A i c, .slice A2 m2 c2] 22)) (HR.out.below (hBA.mono hB)) (HR2.out.below (hBA.mono hB)) (Nat.le_trans hB hBA.size) (by simp) (Blk.new_ wr _ _).cell0 (Blk.new_ wr _ _).cell1 (by omega) (by omega)
      have HCC := Lib.hid hCC
      have HQ : Hid (∀ z ∈ a ++ b, QE z) := fun z hz => by
        rcases List.mem_append.1 hz with h | h
        · have := HA.out z h; exact ⟨this.1, by omega⟩
        · have := HB.out z h; exact ⟨this.1, by omega⟩
      have HLN : Hid ((a ++ b).length ≤ 40) := by rw [Hid, List.length_append, HAL.out, HBL.out]; omega
      clear hCC hbA hnc HC
      obtain ⟨T, hT⟩ : ∃ T, T = a ++ b := ⟨_, rfl⟩
      rw [← hT] at HCC HQ HLN HBI
      clear hT
      have hmz := mergeB_len a b
      obtain ⟨M, hM⟩ : ∃ M, M = mergeB a b := ⟨_, rfl⟩
      rw [← hM] at HBI HBO hmz
      have HMM := Lib.hid hM
      clear hM
      go_wp2_with fail
      refine HCC.out.mono ?_
      generalize (wr.alloc (.cells #[.slice A i c, .slice A2 m2 c2] 22)) = wA at *
      rintro e w5 ⟨v5, rfl, hown5, hb5⟩
      have HSO := Lib.hid (sortE_own T v5 wA w5 (OwnO.of_own hown5) hb5 (by have := HLN.out; omega) HQ.out)
      obtain ⟨A5, c5, rfl, _, _, _⟩ := (OwnO.of_own hown5).form
      clear hown5 hb5 HCC
      go_wp2_with fail
      refine HSO.out.mono ?_
      rintro e w6 ⟨rfl, hown6, hb6⟩
      have hsl := ssort_len (le := leE) T
      have hCO := compE_own (ssort leE T) _ wA w6 (by rw [hsl]; exact hown6) hb6 (by rw [hsl]; have := HLN.out; omega)
      rw [HBI.out] at hCO
      have HCO := Lib.hid hCO
      clear hown6 hb6 hsl hCO HSO
      go_wp2_with fail
      refine HCO.out.mono ?_
      rintro e w7 ⟨v7, rfl, hown7, hb7⟩
      obtain ⟨A7, c7, rfl, _, _, hr7⟩ := hown7.form
      have HED := Lib.hid (editsErr_any n M A7 _ c7 _ w7 hr7 (Nat.le_refl _) (by have := HAL.out; have := HBL.out; omega))
      have HO7 := Lib.hid (own_lowE hown7 hBA.size)
      have HB7 := Lib.hid (bthen hBA hb7)
      clear hown7 hb7 hr7 hmz HCO
      go_wp2_with fail
      refine HED.out.mono ?_
      rintro e w8 ⟨rfl, hb8⟩
      have HB8 := Lib.hid (bthen HB7.out hb8)
      have HO8 := Lib.hid (HO7.out.below hb8)
      clear hb8 HED HO7 HB7
      by_cases hz : edErr n M = 0
      · have g5 : (edErr n M != 0) = false := by rw [hz]; rfl
        go_wp2_with fail
        (apply bodyPost_ret; (simp [results, Try.results8, go_sem]; rfl); rfl)
        rw [HBO.out, ← HMM.out]
        exact ⟨_, by rw [hz], fun h => absurd hz h, fun _ => HO8.out, HB8.out⟩
      · have g5 : (edErr n M != 0) = true := by rw [bne_iff_ne]; exact hz
        go_wp2_with fail
        (apply bodyPost_ret; (simp [results, Try.results8, go_sem]; rfl); rfl)
        rw [HBO.out, ← HMM.out]
        exact ⟨_, rfl, fun _ => rfl, fun h => absurd h hz, HB8.out⟩
end Go.Proofs.Ytmikckhihfcooaa
namespace Go.Proofs.Ytmikckhihfcooaa
open Go.RowKit
set_option maxHeartbeats 400000 in
theorem equalEdM_true (A B : Option Addr) (n c d BA BB : Nat) (l : List Ed) (w : World) (hn : n ≤ 9223372036854775807)
    (ha : Rd w BA 3 A n (edCells l)) (hb : Rd w BB 3 B n (edCells l)) :
    Calls Try.prog 21 #[.slice A n c, .slice B n d] w fun e w' => e = .returned (.bool true) ∧ Below w.heap.size w w' := by
  have Ha := Lib.hid ha; clear ha
  have Hb := Lib.hid hb; clear hb
  go_enter Try.func21, Try.ntmps21
  go_wp2
  go_loopw [13] (fun i wr => ∃ k m : Nat, k ≤ n ∧ i = .int .i64 k ∧ wr = w.drewN m) (fun i _ => n - (intOf i).toNat)
  case atStart => exact ⟨0, 0, Nat.zero_le _, rfl, rfl⟩
  case round =>
    obtain ⟨k, m, hk, rfl, rfl⟩ := hrel
    by_cases hlt : k < n
    · obtain ⟨ad, hl, rfl, _, c0, c1, c2⟩ := Ha.out.at_ed hlt
      obtain ⟨bd, hl', rfl, _, d0, d1, d2⟩ := Hb.out.at_ed hlt
      generalize l[k] = x at *
      obtain ⟨xa, xd, xi⟩ := x
      simp only at c0 c1 c2 d0 d1 d2
      generalize S xi = si at *
      go_wp2
      go_quiet (fail)
      go_wp2
      go_roundw
      case rel => exact ⟨k + 1, _, by omega, by go_num, rfl⟩
      case measure => simp [intOf]; omega
    · go_wp2
      go_ret
      exact ⟨rfl, below_drewN (Below.refl _ _) _⟩
theorem alikeEdM_true (A B : Option Addr) (n c d BA BB : Nat) (l : List Ed) (w : World) (hn : n ≤ 9223372036854775807)
    (ha : Rd w BA 3 A n (edCells l)) (hb : Rd w BB 3 B n (edCells l)) :
    Calls Try.prog 9 #[.slice A n c, .slice B n d] w fun e w' => e = .returned (.bool true) ∧ Below w.heap.size w w' := by
  have Ha := Lib.hid ha; clear ha
  have Hb := Lib.hid hb; clear hb
  go_enter Try.func9, Try.ntmps9
  go_wp2_with fail
  refine (equalEdM_true A B n c d BA BB l w hn Ha.out Hb.out).mono ?_
  rintro e w1 ⟨rfl, hb1⟩
  go_wp2_with fail
  go_ret
  exact ⟨rfl, hb1⟩
end Go.Proofs.Ytmikckhihfcooaa
