/- tree.Check and the document's WeightErr. -/
import Derived.Test.YtmmamdjbbpeifaaTab
import Derived.Test.YtmmamdjbbpeifaaSched
namespace Go.Proofs.Ytmmamdjbbpeifaa
open Go.RowKit
def badW (x : Int) : Bool := decide (x < 1 ∨ 10000 < x)
def wErr (l : List Int) : Int := if 12 < l.length then 2 else if l.any badW = true then 1 else 0
theorem wErr_large {l : List Int} (h : 12 < l.length) : wErr l = 2 := if_pos h
theorem wErr_bad {l : List Int} (h : l.length ≤ 12) {k : Nat} (hk : k < l.length) (hb : badW (l.getD k 0) = true) : wErr l = 1 := by
  unfold wErr
  rw [if_neg (by omega), if_pos]
  refine List.any_eq_true.2 ⟨l[k], List.getElem_mem hk, ?_⟩
  rw [List.getD_eq_getElem?_getD, List.getElem?_eq_getElem hk] at hb
  exact hb
theorem wErr_ok {l : List Int} (h : l.length ≤ 12) (hb : ∀ k, k < l.length → badW (l.getD k 0) = false) : wErr l = 0 := by
  unfold wErr
  rw [if_neg (by omega), if_neg]
  intro h2
  obtain ⟨x, hx, h3⟩ := List.any_eq_true.1 h2
  obtain ⟨k, hk, rfl⟩ := List.getElem_of_mem hx
  have := hb k hk
  rw [List.getD_eq_getElem?_getD, List.getElem?_eq_getElem hk] at this
  have h4 : badW l[k] = false := this
  rw [h4] at h3; cases h3
theorem intAt {w : World} {B n k : Nat} {A : Option Addr} {t : List Int} (hr : Rd w B 1 A n (ints t)) (hk : k < n) : ∃ ad, A = some ad ∧ w.cell? (ad.add k) = some (.int .i64 (t.getD k 0)) := by
  have hl : t.length = n := by have := hr.1; simpa [ints] using this
  obtain ⟨ad, hA, _, hc⟩ := hr.2 (by omega)
  exact ⟨ad, hA, hc k _ (ints_getD _ _ (by omega))⟩
set_option maxRecDepth 100000 in
set_option maxHeartbeats 4000000 in
theorem treeCheck_any (l : List Int) (A : Option Addr) (m c B : Nat) (w : World) (hr : Rd w B 1 A m (ints l)) (hm : m ≤ 9223372036854775807) :
    Calls Try.prog 34 #[.slice A m c] w fun e w' => e = .returned (.int .i64 (wErr l)) ∧ w' = w := by
  have hl : l.length = m := by have := hr.1; simpa [ints] using this
  have HR := Lib.hid hr
  clear hr
  by_cases hbig : 12 < m
  · have HE := Lib.hid (wErr_large (l := l) (by omega))
    have g1 : decide ((12 : Int) < (m : Int)) = true := decide_eq_true (by omega)
    have g1' : decide (12 < m) = true := decide_eq_true hbig
    go_enter Try.func34, Try.ntmps34
    go_wp2_with fail
    go_ret
    rw [HE.out]
    exact ⟨rfl, rfl⟩
  have g0 : decide ((12 : Int) < (m : Int)) = false := decide_eq_false (by omega)
  have g0' : decide (12 < m) = false := decide_eq_false hbig
  have HL := Lib.hid hl
  clear hl
  go_enter Try.func34, Try.ntmps34
  go_wp2_with fail
  go_loopw [10] (fun iv wr => ∃ i : Nat, i ≤ m ∧ iv = .int .i64 (i : Int) ∧ Hid (∀ k, k < i → badW (l.getD k 0) = false) ∧ wr = w) (fun iv _ => m - (intOf iv).toNat)
  case atStart => exact ⟨0, Nat.zero_le _, rfl, fun k hk => absurd hk (Nat.not_lt_zero _), rfl⟩
  case round =>
    obtain ⟨i, hi, rfl, HN, rfl⟩ := hrel
    by_cases hlt : i < m
    · have g1 : decide ((i : Int) < (m : Int)) = true := decide_eq_true (by omega)
      have g1' : decide (i < m) = true := decide_eq_true hlt
      obtain ⟨ad, rfl, c0⟩ := intAt HR.out hlt
      have HBAD : Hid (badW (l.getD i 0) = true → wErr l = 1) := fun h => wErr_bad (by rw [HL.out]; omega) (by rw [HL.out]; exact hlt) h
      have HGO : Hid (badW (l.getD i 0) = false → ∀ k, k < i + 1 → badW (l.getD k 0) = false) := fun h k hk => by
        rcases Nat.lt_or_ge k i with h1 | h1
        · exact HN.out k h1
        · obtain rfl : k = i := by omega
          exact h
      clear HN
      generalize l.getD i 0 = x at *
      by_cases h1 : x < 1
      · have g2 : decide (x < 1) = true := decide_eq_true h1
        have HV := Lib.hid (HBAD.out (decide_eq_true (.inl h1)))
        clear HBAD HGO h1
        go_wp2_with fail
        go_ret
        rw [HV.out]
        exact ⟨rfl, rfl⟩
      · have g2 : decide (x < 1) = false := decide_eq_false h1
        by_cases h2 : 10000 < x
        · have g3 : decide (10000 < x) = true := decide_eq_true h2
          have HV := Lib.hid (HBAD.out (decide_eq_true (.inr h2)))
          clear HBAD HGO h1 h2
          go_wp2_with fail
          go_ret
          rw [HV.out]
          exact ⟨rfl, rfl⟩
        · have g3 : decide (10000 < x) = false := decide_eq_false h2
          have HV := Lib.hid (HGO.out (decide_eq_false (by omega)))
          clear HBAD HGO h1 h2
          go_wp2_with fail
          go_roundw
          case rel => exact ⟨i + 1, by omega, by go_num, HV.out, by first | rfl | trivial⟩
          case measure => simp [intOf]; omega
    · have hie : Hid (i = m) := by unfold Hid; omega
      have g1 : decide ((i : Int) < (m : Int)) = false := decide_eq_false (by omega)
      have g1' : decide (i < m) = false := decide_eq_false hlt
      have HV := Lib.hid (wErr_ok (l := l) (by rw [HL.out]; omega) (fun k hk => HN.out k (by rw [HL.out] at hk; rw [hie.out]; exact hk)))
      clear HN
      go_wp2_with fail
      go_ret
      rw [HV.out]
      exact ⟨rfl, rfl⟩
theorem badW_any (x : Int) (w : World) : Calls Try.prog 65 #[.int .i64 x] w fun e w' => e = .returned (.bool (badW x)) ∧ w' = w := by
  have HV : Hid (badW x = (decide (x < 1) || decide (10000 < x))) := by
    unfold Hid badW
    rw [Bool.eq_iff_iff]; simp
  cases g1 : decide (x < 1) with
  | true =>
    have HV2 : Hid (badW x = true) := by rw [Hid, HV.out, g1]; rfl
    clear HV
    go_enter Try.func65, Try.ntmps65
    go_wp2_with fail
    go_ret
    rw [HV2.out]
    exact ⟨rfl, rfl⟩
  | false =>
    have HV2 : Hid (badW x = decide (10000 < x)) := by rw [Hid, HV.out, g1]; rfl
    clear HV
    go_enter Try.func65, Try.ntmps65
    go_wp2_with fail
    go_ret
    rw [HV2.out]
    exact ⟨rfl, rfl⟩
set_option maxRecDepth 100000 in
set_option maxHeartbeats 4000000 in
theorem badWI_any (l : List Int) (A : Option Addr) (m c B : Nat) (w : World) (hr : Rd w B 1 A m (ints l)) (hm : m ≤ 12) :
    Calls Try.prog 92 #[.slice A m c, .func (.func 65) #[] #[]] w fun e w' => (∃ i : Int, e = .returned (.int .i64 i) ∧ decide (0 ≤ i) = l.any badW) ∧ w' = w := by
  have hl : l.length = m := by have := hr.1; simpa [ints] using this
  have HR := Lib.hid hr
  have HL := Lib.hid hl
  clear hr hl
  go_enter Try.func92, Try.ntmps92
  go_wp2_with fail
  go_loopw [8] (fun iv wr => ∃ i : Nat, i ≤ m ∧ iv = .int .i64 (i : Int) ∧ Hid (∀ k, k < i → badW (l.getD k 0) = false) ∧ wr = w) (fun iv _ => m - (intOf iv).toNat)
  case atStart => exact ⟨0, Nat.zero_le _, rfl, fun k hk => absurd hk (Nat.not_lt_zero _), rfl⟩
  case round =>
    obtain ⟨i, hi, rfl, HN, rfl⟩ := hrel
    by_cases hlt : i < m
    · have g1 : decide ((i : Int) < (m : Int)) = true := decide_eq_true (by omega)
      have g1' : decide (i < m) = true := decide_eq_true hlt
      obtain ⟨ad, rfl, c0⟩ := intAt HR.out hlt
      have HBAD : Hid (badW (l.getD i 0) = true → l.any badW = true) := fun h => by
        have hk : i < l.length := by rw [HL.out]; exact hlt
        rw [List.getD_eq_getElem?_getD, List.getElem?_eq_getElem hk] at h
        exact List.any_eq_true.2 ⟨l[i], List.getElem_mem hk, h⟩
      have HGO : Hid (badW (l.getD i 0) = false → ∀ k, k < i + 1 → badW (l.getD k 0) = false) := fun h k hk => by
        rcases Nat.lt_or_ge k i with h1 | h1
        · exact HN.out k h1
        · obtain rfl : k = i := by omega
          exact h
      have HX := Lib.hid (badW_any (l.getD i 0))
      clear HN
      generalize l.getD i 0 = x at *
      cases hb : badW x with
      | true =>
        have HV := Lib.hid (HBAD.out hb)
        rw [hb] at HX
        clear HBAD HGO hb
        go_wp2_with fail
        refine (HX.out _).mono ?_
        rintro e w2 ⟨rfl, rfl⟩
        go_wp2_with fail
        go_ret
        exact ⟨⟨_, rfl, by rw [HV.out]; exact decide_eq_true (by omega)⟩, rfl⟩
      | false =>
        have HV := Lib.hid (HGO.out hb)
        rw [hb] at HX
        clear HBAD HGO hb
        go_wp2_with fail
        refine (HX.out _).mono ?_
        rintro e w2 ⟨rfl, rfl⟩
        go_wp2_with fail
        go_roundw
        case rel => exact ⟨i + 1, by omega, by go_num, HV.out, by first | rfl | trivial⟩
        case measure => simp [intOf]; omega
    · have hie : Hid (i = m) := by unfold Hid; omega
      have g1 : decide ((i : Int) < (m : Int)) = false := decide_eq_false (by omega)
      have g1' : decide (i < m) = false := decide_eq_false hlt
      have HV : Hid (l.any badW = false) := by
        unfold Hid
        rw [List.any_eq_false]
        intro x hx
        obtain ⟨k, hk, rfl⟩ := List.getElem_of_mem hx
        have := HN.out k (by rw [hie.out, ← HL.out]; exact hk)
        rw [List.getD_eq_getElem?_getD, List.getElem?_eq_getElem hk] at this
        have h4 : badW l[k] = false := this
        rw [h4]; simp
      clear HN
      go_wp2_with fail
      go_ret
      exact ⟨⟨-1, rfl, by rw [HV.out]; rfl⟩, rfl⟩
set_option maxRecDepth 100000 in
theorem weightErr_any (l : List Int) (A : Option Addr) (m c B : Nat) (w : World) (hr : Rd w B 1 A m (ints l)) (hm : m ≤ 9223372036854775807) :
    Calls Try.prog 33 #[.slice A m c] w fun e w' => e = .returned (.int .i64 (wErr l)) ∧ w' = w := by
  have hl : l.length = m := by have := hr.1; simpa [ints] using this
  by_cases hbig : 12 < m
  · have HE := Lib.hid (wErr_large (l := l) (by omega))
    have g1 : decide ((12 : Int) < (m : Int)) = true := decide_eq_true (by omega)
    have g1' : decide (12 < m) = true := decide_eq_true hbig
    clear hr
    go_enter Try.func33, Try.ntmps33
    go_wp2_with fail
    go_ret
    rw [HE.out]
    exact ⟨rfl, rfl⟩
  have g0 : decide ((12 : Int) < (m : Int)) = false := decide_eq_false (by omega)
  have g0' : decide (12 < m) = false := decide_eq_false hbig
  have HE : Hid (wErr l = if l.any badW = true then 1 else 0) := by
    unfold Hid wErr; rw [if_neg (by omega)]
  have HI := Lib.hid (badWI_any l A m c B w hr (by omega))
  clear hr
  have HC : Hid (Calls Try.prog 64 #[.slice A m c, .func (.func 65) #[] #[]] w fun e w' => e = .returned (.bool (l.any badW)) ∧ w' = w) := by
    unfold Hid
    go_enter Try.func64, Try.ntmps64
    go_wp2_with fail
    refine HI.out.mono ?_
    rintro e w2 ⟨⟨i, rfl, hi⟩, rfl⟩
    have HI2 := Lib.hid hi; clear hi
    go_wp2_with fail
    go_ret
    rw [← HI2.out]
    exact ⟨rfl, rfl⟩
  cases hb : l.any badW with
  | true =>
    have HV : Hid (wErr l = 1) := by rw [Hid, HE.out, hb]; rfl
    rw [hb] at HC
    clear HE hb HI
    go_enter Try.func33, Try.ntmps33
    go_wp2_with fail
    refine HC.out.mono ?_
    rintro e w2 ⟨rfl, rfl⟩
    go_wp2_with fail
    go_ret
    rw [HV.out]
    exact ⟨rfl, rfl⟩
  | false =>
    have HV : Hid (wErr l = 0) := by rw [Hid, HE.out, hb]; rfl
    rw [hb] at HC
    clear HE hb HI
    go_enter Try.func33, Try.ntmps33
    go_wp2_with fail
    refine HC.out.mono ?_
    rintro e w2 ⟨rfl, rfl⟩
    go_wp2_with fail
    go_ret
    rw [HV.out]
    exact ⟨rfl, rfl⟩
end Go.Proofs.Ytmmamdjbbpeifaa
