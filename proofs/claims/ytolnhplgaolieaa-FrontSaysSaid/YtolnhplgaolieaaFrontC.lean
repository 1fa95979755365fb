/- Is a number out of its bounds? And runs that come in, opened. -/
import Derived.Test.YtolnhplgaolieaaFrontG
import Derived.Test.YtolnhplgaolieaaFrontR
import Derived.Test.YtolnhplgaolieaaOpenRows
namespace Go.Proofs.Ytolnhplgaolieaa
open Go.ChangeShapes Go.WideShapes Go.ChangeAt Go.RowKit Go.Deep
theorem open_runs {H : Type} {enc : TypeId × Value → H} {W : World} {fuel : Nat} {cs : List Value} {y : DataW H × List MemPlace} (h : DataW.trod enc Try.prog W 0 (fun _ => true) true fuel 76 cs = some y) :
    ∃ (A : Option Addr) (n c : Nat) (l : List Rn), cs = [.slice A n c] ∧ n ≤ c ∧ c ≤ maxLen ∧ l.length = n ∧ Rd W W.heap.size 2 A n (runCells l) ∧ (∀ x ∈ l, I64 x.2) ∧
      ((y.1 = .nil ∧ c = 0) ∨ ∃ el sp, y.1 = .slice el sp ∧ el.length + sp.length = c) := by
  refine open_rd (e := 85) (size := 2) Try.underlying76 (by kernel_rfl) (by omega) (fun _ => rfl) ?_ h
  intro fuel cs y hl hy
  obtain ⟨n, hf⟩ := open_fields Try.underlying85 (by kernel_rfl) hy (by rw [hl]; rfl)
  obtain ⟨v0, x0, e0, t0⟩ := hf 0 _ rfl
  obtain ⟨v1, x1, e1, t1⟩ := hf 1 _ rfl
  obtain ⟨a, ha, wa⟩ := dec_int (k := .u8) Try.underlying5 _ _ _ t0
  obtain ⟨b, hb, wb⟩ := dec_int (k := .i64) Try.underlying3 _ _ _ t1
  simp only [List.cons.injEq, and_true] at ha hb
  subst ha hb
  refine ⟨(UInt8.ofNat a.toNat, b), ?_, wfi64 wb⟩
  match cs, hl with
  | [c0, c1], _ =>
    simp only [List.getElem?_cons_zero, List.getElem?_cons_succ, Option.some.injEq] at e0 e1
    rw [e0, e1, runCell, ← u8_of (wfu8 wa)]
def outB (x : Int) : Bool := !decide (0 ≤ x ∧ x ≤ 255)
theorem outC_any (x : Int) (w : World) : Calls Try.prog 56 #[.int .i64 x] w fun e w' => e = .returned (.bool (outB x)) ∧ Below w.heap.size w w' := by
  by_cases h0 : x < 0
  · have g1 : decide (x < 0) = true := decide_eq_true h0
    have HE : Hid (outB x = true) := by unfold Hid outB; rw [decide_eq_false (by omega)]; rfl
    go_enter Try.func56, Try.ntmps56
    go_wp2_with fail
    go_ret
    exact ⟨ret_bool HE.out.symm, (by repeat (first | exact Below.refl _ _ | assumption | refine Below.alloc ?_ (by first | exact Nat.le_refl _ | assumption | omega | (simp <;> omega)) _ | refine Below.setCell ?_ (by first | exact Nat.le_refl _ | assumption | omega | (simp <;> omega)) _ | refine Below.drew ?_ | refine below_drewN ?_ _))⟩
  · have g1 : decide (x < 0) = false := decide_eq_false h0
    by_cases h1 : 255 < x
    · have g2 : decide (255 < x) = true := decide_eq_true h1
      have HE : Hid (outB x = true) := by unfold Hid outB; rw [decide_eq_false (by omega)]; rfl
      go_enter Try.func56, Try.ntmps56
      go_wp2_with fail
      go_ret
      exact ⟨ret_bool HE.out.symm, (by repeat (first | exact Below.refl _ _ | assumption | refine Below.alloc ?_ (by first | exact Nat.le_refl _ | assumption | omega | (simp <;> omega)) _ | refine Below.setCell ?_ (by first | exact Nat.le_refl _ | assumption | omega | (simp <;> omega)) _ | refine Below.drew ?_ | refine below_drewN ?_ _))⟩
    · have g2 : decide (255 < x) = false := decide_eq_false h1
      have HE : Hid (outB x = false) := by unfold Hid outB; rw [decide_eq_true (by omega)]; rfl
      go_enter Try.func56, Try.ntmps56
      go_wp2_with fail
      go_ret
      exact ⟨ret_bool HE.out.symm, (by repeat (first | exact Below.refl _ _ | assumption | refine Below.alloc ?_ (by first | exact Nat.le_refl _ | assumption | omega | (simp <;> omega)) _ | refine Below.setCell ?_ (by first | exact Nat.le_refl _ | assumption | omega | (simp <;> omega)) _ | refine Below.drew ?_ | refine below_drewN ?_ _))⟩
set_option maxRecDepth 100000 in
set_option maxHeartbeats 1000000 in
theorem outI_any (l : List Int) (A : Option Addr) (m c B : Nat) (w : World) (hr : Rd w B 1 A m (ints l)) (hB : B ≤ w.heap.size) (hm : m ≤ 9223372036854775807) :
    Calls Try.prog 115 #[.slice A m c, .func (.func 56) #[] #[]] w fun e w' => (∃ i : Int, e = .returned (.int .i64 i) ∧ (decide (0 ≤ i) = !inB l)) ∧ Below w.heap.size w w' := by
  have hlen := ints_len hr
  have HR := Lib.hid hr; clear hr
  have HL := Lib.hid hlen; clear hlen
  go_enter Try.func115, Try.ntmps115
  go_wp2_with fail
  go_loopw [8] (fun i wr => ∃ k : Nat, k ≤ m ∧ (∀ j, j < k → 0 ≤ l.getD j 0 ∧ l.getD j 0 ≤ 255) ∧ i = .int .i64 k ∧ Below w.heap.size w wr) (fun i _ => m - (intOf i).toNat)
  case atStart => exact ⟨0, Nat.zero_le _, fun _ h => absurd h (by omega), rfl, Below.refl _ _⟩
  case round =>
    obtain ⟨k, hk, hno, rfl, hb⟩ := hrel
    have HNO := Lib.hid hno; clear hno
    by_cases hlt : k < m
    · obtain ⟨ad, u, rfl, hab, hu, hc⟩ := (HR.out.below (hb.mono hB)).at_ hlt
      rw [ints_getD l k (by rw [HL.out]; exact hlt)] at hu
      obtain rfl := Option.some.inj hu
      clear hu
      by_cases hx : 0 ≤ l.getD k 0 ∧ l.getD k 0 ≤ 255
      · have HN : Hid (∀ j, j < k + 1 → 0 ≤ l.getD j 0 ∧ l.getD j 0 ≤ 255) := fun j hj => by
          by_cases e : j = k
          · subst e; exact hx
          · exact HNO.out j (by omega)
        have HB : Hid (outB (l.getD k 0) = false) := by unfold Hid outB; rw [decide_eq_true hx]; rfl
        clear hx
        generalize l.getD k 0 = x at *
        go_wp2_with fail
        refine (outC_any x _).mono ?_
        rintro e w2 ⟨rfl, hb2⟩
        have hb3 := bthen hb hb2
        rw [HB.out]
        go_wp2_with fail
        go_roundw
        case rel => exact ⟨k + 1, by omega, HN.out, by go_num, hb3⟩
        case measure => simp [intOf]; omega
      · have HB : Hid (outB (l.getD k 0) = true) := by unfold Hid outB; rw [decide_eq_false hx]; rfl
        have HI : Hid ((!inB l) = true) := by
          have h1 : inB l = false := by
            unfold inB; rw [List.all_eq_false]
            refine ⟨l.getD k 0, ?_, by simpa using hx⟩
            rw [List.getD_eq_getElem?_getD, List.getElem?_eq_getElem (by rw [HL.out]; exact hlt)]
            exact List.getElem_mem _
          unfold Hid; rw [h1]; rfl
        clear hx
        generalize l.getD k 0 = x at *
        go_wp2_with fail
        refine (outC_any x _).mono ?_
        rintro e w2 ⟨rfl, hb2⟩
        have hb3 := bthen hb hb2
        rw [HB.out]
        go_wp2_with fail
        go_ret
        exact ⟨⟨_, rfl, by rw [HI.out]; exact decide_eq_true (by omega)⟩, hb3⟩
    · obtain rfl : k = m := by omega
      have HI : Hid ((!inB l) = false) := by
        have h1 : inB l = true := by
          unfold inB; rw [List.all_eq_true]
          intro x hx
          obtain ⟨j, hj, rfl⟩ := List.getElem_of_mem hx
          have := HNO.out j (by rw [← HL.out]; exact hj)
          rw [List.getD_eq_getElem?_getD, List.getElem?_eq_getElem hj] at this
          simpa using this
        unfold Hid; rw [h1]; rfl
      go_wp2_with fail
      go_ret
      exact ⟨⟨-1, rfl, by rw [HI.out]; rfl⟩, hb⟩
set_option maxRecDepth 100000 in
theorem out_any (l : List Int) (A : Option Addr) (m c B : Nat) (w : World) (hr : Rd w B 1 A m (ints l)) (hB : B ≤ w.heap.size) (hm : m ≤ 9223372036854775807) :
    Calls Try.prog 55 #[.slice A m c, .func (.func 56) #[] #[]] w fun e w' => e = .returned (.bool (!inB l)) ∧ Below w.heap.size w w' := by
  have HR := Lib.hid hr; clear hr
  go_enter Try.func55, Try.ntmps55
  go_wp2_with fail
  refine (outI_any l A m c B w HR.out hB hm).mono ?_
  rintro e w2 ⟨⟨i, rfl, hi⟩, hb2⟩
  have HI := Lib.hid hi; clear hi
  go_wp2_with fail
  go_ret
  exact ⟨ret_bool HI.out, hb2⟩
end Go.Proofs.Ytolnhplgaolieaa
