/- The question that CodesOf asks of the words so far; code.Make's errors. -/
import Derived.Test.YtmmamdjbbpeifaaCodeM
import Derived.Test.YtmmamdjbbpeifaaHasP
import Derived.Test.YtmmamdjbbpeifaaBlk
namespace Go.Proofs.Ytmmamdjbbpeifaa
open Go.RowKit
set_option maxRecDepth 100000 in
theorem coMake_err (l : List Int) (A : Option Addr) (m c B : Nat) (w : World) (hr : Rd w B 1 A m (ints l)) (hm : m ≤ 9223372036854775807) (hE : (lensErr l).2 ≠ 0) :
    Calls Try.prog 63 #[.slice A m c] w fun e w' => e = .returned (.tuple #[.slice none 0 0, .int .i64 (lensErr l).2]) ∧ Below w.heap.size w w' := by
  have g : ((lensErr l).2 != 0) = true := by simpa using hE
  clear hE
  go_enter Try.func63, Try.ntmps63
  go_wp2_with fail
  refine (coSum_any l A m c B w hr hm).mono ?_
  rintro e w1 ⟨rfl, hb1⟩
  go_wp2_with fail
  go_ret2
  exact ⟨rfl, hb1⟩
set_option maxRecDepth 100000 in
theorem coMake_full (l : List Int) (x : Int) (A : Option Addr) (m c B : Nat) (w : World) (hr : Rd w B 1 A m (ints l)) (hm : m ≤ 9223372036854775807) (hE : lensErr l = (x, 0)) (hx : 4096 < x) :
    Calls Try.prog 63 #[.slice A m c] w fun e w' => e = .returned (.tuple #[.slice none 0 0, .int .i64 4]) ∧ Below w.heap.size w w' := by
  have HE := Lib.hid hE
  clear hE
  go_enter Try.func63, Try.ntmps63
  go_wp2_with fail
  refine (coSum_any l A m c B w hr hm).mono ?_
  rintro e w1 ⟨rfl, hb1⟩
  rw [HE.out]
  go_wp2_with fail
  go_ret2
  exact ⟨rfl, hb1⟩
/-- Is v a bar to x? -/
def barB (x v : List UInt8) : Bool := !Op.bytesLess v x || v.isPrefixOf x
theorem toListS (l : List UInt8) : (S l).toList = l := ByteArray.toList_eq _
set_option maxRecDepth 100000 in
theorem coBar_any (v x : List UInt8) (b : Nat) (w : World) (hc : w.cell? ⟨b, 0, none⟩ = some (.string (S x))) :
    Calls Try.prog 70 #[.string (S v), .pointer (some ⟨b, 0, none⟩)] w fun e w' => e = .returned (.bool (barB x v)) ∧ Below w.heap.size w w' := by
  by_cases hl : Op.bytesLess v x = true
  · have g : Op.bytesLess (S v).toList (S x).toList = true := by rw [toListS, toListS]; exact hl
    have HB : Hid (barB x v = v.isPrefixOf x) := by unfold Hid barB; rw [hl]; rfl
    clear hl
    go_enter Try.func70, Try.ntmps70
    go_wp2_with fail
    refine (hasPre_any (S x) (S v) _).mono ?_
    rintro e w1 ⟨rfl, hb1⟩
    go_wp2_with fail
    go_ret
    exact ⟨ret_bool (by rw [HB.out]; rfl), hb1⟩
  · have hl' : Op.bytesLess v x = false := by simpa using hl
    have g : Op.bytesLess (S v).toList (S x).toList = false := by rw [toListS, toListS]; exact hl'
    have HB : Hid (barB x v = true) := by unfold Hid barB; rw [hl']; rfl
    clear hl hl'
    go_enter Try.func70, Try.ntmps70
    go_wp2_with fail
    go_ret
    exact ⟨ret_bool HB.out.symm, (by repeat (first | exact Below.refl _ _ | assumption | refine Below.alloc ?_ (by first | exact Nat.le_refl _ | assumption | omega | (simp <;> omega)) _ | refine Below.setCell ?_ (by first | exact Nat.le_refl _ | assumption | omega | (simp <;> omega)) _ | refine Below.drew ?_ | refine below_drewN ?_ _))⟩
set_option maxRecDepth 100000 in
set_option maxHeartbeats 1000000 in
theorem coBarI_any (l : List (List UInt8)) (x : List UInt8) (A : Option Addr) (m c B b : Nat) (w : World) (hr : Rd w B 1 A m (strCells l)) (hB : B ≤ w.heap.size) (hb : b < w.heap.size) (hm : m ≤ 9223372036854775807) (hc : w.cell? ⟨b, 0, none⟩ = some (.string (S x))) :
    Calls Try.prog 94 #[.slice A m c, .func (.func 70) #[] #[.pointer (some ⟨b, 0, none⟩)]] w fun e w' => (∃ i : Int, e = .returned (.int .i64 i) ∧ (decide (0 ≤ i) = l.any (barB x))) ∧ Below w.heap.size w w' := by
  have hlen : l.length = m := by have := hr.1; simpa [strCells] using this
  have HR := Lib.hid hr; clear hr
  have HL := Lib.hid hlen; clear hlen
  have HC := Lib.hid hc; clear hc
  go_enter Try.func94, Try.ntmps94
  go_wp2_with fail
  go_loopw [8] (fun i wr => ∃ k : Nat, k ≤ m ∧ (∀ j (h : j < l.length), j < k → barB x l[j] = false) ∧ i = .int .i64 k ∧ Below w.heap.size w wr) (fun i _ => m - (intOf i).toNat)
  case atStart => exact ⟨0, Nat.zero_le _, fun _ _ h => absurd h (by omega), rfl, Below.refl _ _⟩
  case round =>
    obtain ⟨k, hk, hno, rfl, hbw⟩ := hrel
    have HNO := Lib.hid hno; clear hno
    have hbs := hbw.size
    by_cases hlt : k < m
    · obtain ⟨ad, u, rfl, hab, hu, c0⟩ := (HR.out.below (hbw.mono hB)).at_ hlt
      obtain ⟨v, hv, rfl⟩ := str_at hu
      obtain ⟨hl, hv2⟩ := List.getElem?_eq_some_iff.1 hv
      have HV := Lib.hid hv2
      clear hu hv hv2
      have cx := (hbw.cell (p := ⟨b, 0, none⟩) hb).trans HC.out
      cases hbar : barB x v with
      | true =>
        have HBG : Hid (l.any (barB x) = true) := List.any_eq_true.2 ⟨l[k], List.getElem_mem hl, by rw [HV.out]; exact hbar⟩
        have HBR := Lib.hid hbar; clear hbar
        go_wp2_with fail
        refine (coBar_any v x b wr cx).mono ?_
        rintro e w2 ⟨rfl, hb2⟩
        rw [HBR.out]
        have hb3 := bthen hbw hb2
        go_wp2_with fail
        go_ret
        exact ⟨⟨_, rfl, by rw [HBG.out]; exact decide_eq_true (by omega)⟩, hb3⟩
      | false =>
        have HNX : Hid (∀ j (h : j < l.length), j < k + 1 → barB x l[j] = false) := fun j hj hjk => by
          by_cases hjk2 : j = k
          · subst hjk2; rw [HV.out]; exact hbar
          · exact HNO.out j hj (by omega)
        have HBR := Lib.hid hbar; clear hbar
        go_wp2_with fail
        refine (coBar_any v x b wr cx).mono ?_
        rintro e w2 ⟨rfl, hb2⟩
        rw [HBR.out]
        have hb3 := bthen hbw hb2
        go_wp2_with fail
        go_roundw
        case rel => exact ⟨k + 1, by omega, HNX.out, by go_num, hb3⟩
        case measure => simp [intOf]; omega
    · obtain rfl : k = m := by omega
      have HBG : Hid (l.any (barB x) = false) := by
        unfold Hid
        rw [List.any_eq_false]
        intro y hy
        obtain ⟨j, hj, rfl⟩ := List.getElem_of_mem hy
        rw [HNO.out j hj (by rw [← HL.out]; exact hj)]
        simp
      go_wp2_with fail
      go_ret
      exact ⟨⟨-1, rfl, by rw [HBG.out]; rfl⟩, hbw⟩
set_option maxRecDepth 100000 in
theorem coBars_any (l : List (List UInt8)) (x : List UInt8) (A : Option Addr) (m c B b : Nat) (w : World) (hr : Rd w B 1 A m (strCells l)) (hB : B ≤ w.heap.size) (hb : b < w.heap.size) (hm : m ≤ 9223372036854775807) (hc : w.cell? ⟨b, 0, none⟩ = some (.string (S x))) :
    Calls Try.prog 69 #[.slice A m c, .func (.func 70) #[] #[.pointer (some ⟨b, 0, none⟩)]] w fun e w' => e = .returned (.bool (l.any (barB x))) ∧ Below w.heap.size w w' := by
  have HR := Lib.hid hr; clear hr
  have HC := Lib.hid hc; clear hc
  go_enter Try.func69, Try.ntmps69
  go_wp2_with fail
  refine (coBarI_any l x A m c B b w HR.out hB hb hm HC.out).mono ?_
  rintro e w2 ⟨⟨i, rfl, hi⟩, hb2⟩
  have HI := Lib.hid hi; clear hi
  go_wp2_with fail
  go_ret
  exact ⟨ret_bool HI.out, hb2⟩
end Go.Proofs.Ytmmamdjbbpeifaa
