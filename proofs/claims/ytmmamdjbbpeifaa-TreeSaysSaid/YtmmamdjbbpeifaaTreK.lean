/- tree.Make. -/
import Derived.Test.YtmmamdjbbpeifaaTreI
import Derived.Test.YtmmamdjbbpeifaaTreJ0
namespace Go.Proofs.Ytmmamdjbbpeifaa
open Go.RowKit
set_option maxRecDepth 100000 in
theorem makeErr_any (ws : List Int) (A : Option Addr) (m c B : Nat) (w : World) (hr : Rd w B 1 A m (ints ws)) (hm : m ≤ 9223372036854775807) (h : wErr ws ≠ 0) :
    Calls Try.prog 32 #[.slice A m c] w fun e w' => e = .returned (.tuple #[.slice none 0 0, .int .i64 (wErr ws)]) ∧ w' = w := by
  have HCK := Lib.hid (lensErr_walk ws A m c B w hr hm h)
  have g1 : (wErr ws != (0 : Int)) = true := by rw [bne_iff_ne]; exact h
  clear hr h
  generalize wErr ws = er at *
  go_enter Try.func32, Try.ntmps32
  go_wp2_with fail
  refine HCK.out.mono ?_
  rintro e w1 ⟨rfl, hw1⟩
  rw [hw1]
  clear hw1 w1
  go_wp2_with fail
  go_ret2
  exact ⟨rfl, rfl⟩
set_option maxRecDepth 100000 in
theorem make_any (ws : List Nat) (A : Option Addr) (m c B : Nat) (w : World) (hr : Rd w B 1 A m (ints (intN ws))) (hB : B ≤ w.heap.size) (h0 : wErr (intN ws) = 0) (h12 : m ≤ 12) :
    Calls Try.prog 32 #[.slice A m c] w fun e w' => ∃ v, e = .returned (.tuple #[v, .int .i64 0]) ∧ w'.ownsRow w.heap.size 9 1 v m (strCells (codesL (lensOf ws))) ∧ Below w.heap.size w w' := by
  have hwl : ws.length = m := by have := hr.1; simpa [ints, intN] using this
  have HLE := Lib.hid (lens_any ws A m c B w hr hB h0 h12)
  obtain ⟨q1, q2, q3, q4⟩ := lensOf_err (ws := ws) (by omega)
  have HQ := Lib.hid (And.intro q1 (And.intro q2 (And.intro q3 q4)))
  have HWL := Lib.hid hwl
  clear hr h0 q1 q2 q3 q4 hwl
  go_enter Try.func32, Try.ntmps32
  go_wp2_with fail
  refine HLE.out.mono ?_
  rintro e w1 ⟨v, rfl, hown1, hb1⟩
  obtain ⟨A1, c1, rfl, hn1, hm1, hr1⟩ := own_form hown1
  have HMK := Lib.hid (coMake_any (lensOf ws) _ A1 m c1 w1.heap.size w1 hr1 (Nat.le_refl _) HQ.out.1 HQ.out.2.1 (by rw [HQ.out.2.2.1, HWL.out]; exact h12) rfl HQ.out.2.2.2)
  clear hown1 hr1
  go_wp2_with fail
  refine HMK.out.mono ?_
  rintro e w2 ⟨v2, rfl, hown2, hb2⟩
  obtain ⟨A2, c2, rfl, hn2, hm2, hr2⟩ := own_form hown2
  have HO2 := Lib.hid hown2
  clear hown2 hr2
  go_wp2_with fail
  go_ret2
  exact ⟨_, rfl, own_lower HO2.out hb1.size, bthen hb1 hb2⟩
end Go.Proofs.Ytmmamdjbbpeifaa
