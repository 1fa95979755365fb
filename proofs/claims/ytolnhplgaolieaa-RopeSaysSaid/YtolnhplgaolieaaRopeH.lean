/- The law RopeEdits, walked. -/
import Derived.Test.YtolnhplgaolieaaRopeG
namespace Go.Proofs.Ytolnhplgaolieaa
open Go.RowKit
set_option maxRecDepth 100000 in
set_option maxHeartbeats 2000000 in
theorem ropeEdits_any (p : Parts) (A : Option Addr) (n c : Nat) (x : Ed) (w : World) (hr : Rd w w.heap.size 1 A n (strCells p)) (hn : n ≤ 9223372036854775807) (hnc : n ≤ c) (hsz : ∀ y ∈ p, y.length ≤ 140737488351232)
    (ha : -9223372036854775808 ≤ x.at_ ∧ x.at_ ≤ 9223372036854775807) (hd : -9223372036854775808 ≤ x.del ∧ x.del ≤ 9223372036854775807) (hi : x.ins.length ≤ 9223372036854775807) :
    Calls Try.prog 10 #[.agg #[.slice A n c], .agg #[.int .i64 x.at_, .int .i64 x.del, .string (S x.ins)]] w fun e w' => e = .returned (.bool true) ∧ Below w.heap.size w w' := by
  obtain ⟨w0, hw0⟩ : ∃ w0, w0 = ((w.alloc (.cells #[.slice A n c] 89)).alloc (.cells #[.int .i64 x.at_, .int .i64 x.del, .string (S x.ins)] 73)) := ⟨_, rfl⟩
  have hb0 : Below w.heap.size w w0 := by rw [hw0]; exact (by repeat (first | exact Below.refl _ _ | assumption | refine Below.alloc ?_ (by first | exact Nat.le_refl _ | assumption | omega | (simp <;> omega)) _ | refine Below.setCell ?_ (by first | exact Nat.le_refl _ | assumption | omega | (simp <;> omega)) _ | refine Below.drew ?_ | refine below_drewN ?_ _))
  have HR : Hid (Rd w0 w.heap.size 1 A n (strCells p)) := hr.below hb0
  have HB2 : Hid (Blk w0 w.heap.size 89 #[.slice A n c]) := by
    unfold Hid; rw [hw0]; exact Blk.alloc (Blk.new_ _ _ _) _
  have HB3 : Hid (Blk w0 (w.heap.size + 1) 73 #[.int .i64 x.at_, .int .i64 x.del, .string (S x.ins)]) := by
    have h1 := Blk.new_ (w.alloc (.cells #[.slice A n c] 89)) 73 #[.int .i64 x.at_, .int .i64 x.del, .string (S x.ins)]
    rw [World.size_alloc] at h1
    unfold Hid; rw [hw0]; exact h1
  have hsz0 : w0.heap.size = w.heap.size + 1 + 1 := by rw [hw0]; simp
  have HSZ0 : Hid (w.heap.size + 1 + 1 ≤ w0.heap.size) := by unfold Hid; omega
  have HC1 := Lib.hid (ropeEdit_any p A n c w.heap.size x w0 HR.out (by omega) hn hnc (fun y hy => by have := hsz y hy; omega) ha hd hi)
  have HC2 : Hid (∀ w', Below w0.heap.size w0 w' → Calls Try.prog 59 #[.agg #[.slice A n c], .agg #[.int .i64 x.at_, .int .i64 x.del, .string (S x.ins)]] w' fun e w'' => ∃ v, e = .returned (.tuple #[.agg #[v], .int .i64 (ropeEdE p x)]) ∧
      w''.ownsRow w'.heap.size 9 1 v (ropeEdP p x).length (strCells (ropeEdP p x)) ∧ Below w'.heap.size w' w'') := fun w' hb' =>
    ropeEditOf_any p A n c w.heap.size x w' (HR.out.below (hb'.mono (by omega))) (by have := hb'.size; omega) hn hnc hsz ha hd hi
  have hlen : (ropeEdP p x).length ≤ 300 := by
    unfold ropeEdP
    split
    · rename_i h0
      have h2 : ropeErr p = 0 := by
        unfold ropeEdE at h0
        by_cases h3 : ropeErr p = 0
        · exact h3
        · rw [if_pos h3] at h0; exact absurd h0 h3
      have hok := ropeErr_zero.1 h2
      have h4 := (hok.cutA x.at_.toNat).n
      have h5 := ((hok.cutB x.at_.toNat).cutB x.del.toNat).n
      have h6 : (insP x.ins).length ≤ 1 := by unfold insP; split <;> simp
      rw [List.length_append, List.length_append]
      unfold edA edC
      omega
    · simp
  generalize ropeEdE p x = E at *
  generalize ropeEdP p x = l at *
  clear hr hsz0 hsz
  go_enter Try.func10, Try.ntmps10
  go_wp2_with fail
  rw [← hw0]
  clear hw0
  refine (HC1.out).mono ?_
  rintro e w1 ⟨v1, rfl, ho1, hb1⟩
  obtain ⟨A1, c1, hv1, hn1, _, _⟩ := own_form ho1
  subst hv1
  have hbA : Below w1.heap.size w1 (w1.alloc (.cells #[.slice A1 l.length c1] 89)) := (by repeat (first | exact Below.refl _ _ | assumption | refine Below.alloc ?_ (by first | exact Nat.le_refl _ | assumption | omega | (simp <;> omega)) _ | refine Below.setCell ?_ (by first | exact Nat.le_refl _ | assumption | omega | (simp <;> omega)) _ | refine Below.drew ?_ | refine below_drewN ?_ _))
  have hb2 := bthen hb1 hbA
  have q2 := Blk.cell0 (HB2.out.below' hb2)
  have h3 := HB3.out.below' hb2
  have q3 := Blk.cell0 h3
  have q31 := Blk.cell1 h3
  have q32 := Blk.cell2 h3
  have HO1 := Lib.hid (own_below ho1 hbA)
  have HB5 : Hid (Blk (w1.alloc (.cells #[.slice A1 l.length c1] 89)) w1.heap.size 89 #[.slice A1 l.length c1]) := Blk.new_ _ _ _
  clear ho1 hbA hb1 h3
  go_wp2_with fail
  generalize (w1.alloc (.cells #[.slice A1 l.length c1] 89)) = wa at *
  generalize w1.heap.size = g5 at *
  refine (HC2.out _ hb2).mono ?_
  rintro e w2 ⟨v2, rfl, ho2, hb3⟩
  obtain ⟨A2, c2, hv2, hn2, _, _⟩ := own_form ho2
  subst hv2
  have hbB : Below w2.heap.size w2 (w2.alloc (.cells #[.slice A2 l.length c2] 89)) := (by repeat (first | exact Below.refl _ _ | assumption | refine Below.alloc ?_ (by first | exact Nat.le_refl _ | assumption | omega | (simp <;> omega)) _ | refine Below.setCell ?_ (by first | exact Nat.le_refl _ | assumption | omega | (simp <;> omega)) _ | refine Below.drew ?_ | refine below_drewN ?_ _))
  have hb4 := bthen hb3 hbB
  have q5 := Blk.cell0 (HB5.out.below' hb4)
  have HQ := Lib.hid (sameRope_true l A1 l.length c1 _ A2 c2 _ (w2.alloc (.cells #[.slice A2 l.length c2] 89)) (Rd.of_own (own_below HO1.out hb4)) (Rd.of_own (own_below ho2 hbB)) (Nat.le_refl _) (Nat.le_refl _) (by omega))
  have hbF := bthen hb2 hb4
  have hgl : g5 < w2.heap.size := by have := HB5.out.lt; have := hb3.size; omega
  have hgn : g5 ≠ w2.heap.size := by omega
  clear ho2 hbB hb3 hb4 q2 q3 q31 q32
  go_wp2_with fail
  refine (HQ.out).mono ?_
  rintro e w5 ⟨rfl, hb5⟩
  go_wp2_with fail
  go_ret
  exact ⟨rfl, hb0.trans ((bthen hbF hb5).mono (by have := HSZ0.out; omega))⟩
end Go.Proofs.Ytolnhplgaolieaa
