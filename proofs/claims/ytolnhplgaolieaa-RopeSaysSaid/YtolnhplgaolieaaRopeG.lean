/- The document's edit of a rope. -/
import Derived.Test.YtolnhplgaolieaaRopeF
namespace Go.Proofs.Ytolnhplgaolieaa
open Go.RowKit
section
variable {p : Parts} {x : Ed}
theorem edo_1 (h : ropeErr p ≠ 0) : ropeEdE p x = ropeErr p ∧ ropeEdP p x = [] := by
  have h1 : ropeEdE p x = ropeErr p := by unfold ropeEdE; rw [if_pos h]
  exact ⟨h1, by unfold ropeEdP; rw [h1, if_neg h]⟩
theorem edo_2 (h : ropeErr p = 0) (h2 : badAt p x) : ropeEdE p x = 1 ∧ ropeEdP p x = [] := by
  have h1 : ropeEdE p x = 1 := by unfold ropeEdE; rw [if_neg (by rw [h]; decide), if_pos h2]
  exact ⟨h1, by unfold ropeEdP; rw [h1, if_neg (by decide)]⟩
theorem edo_3 (h : ropeErr p = 0) (h2 : ¬ badAt p x) (h3 : 200 < x.ins.length) : ropeEdE p x = 2 ∧ ropeEdP p x = [] := by
  have h1 : ropeEdE p x = 2 := by unfold ropeEdE; rw [if_neg (by rw [h]; decide), if_neg h2, if_pos h3]
  exact ⟨h1, by unfold ropeEdP; rw [h1, if_neg (by decide)]⟩
theorem edo_4 (h : ropeErr p = 0) (h2 : ¬ badAt p x) (h3 : ¬ 200 < x.ins.length) (h4 : joinErr (edA p x) (insP x.ins) ≠ 0) : ropeEdE p x = joinErr (edA p x) (insP x.ins) ∧ ropeEdP p x = [] := by
  have h1 : ropeEdE p x = 11 := by unfold ropeEdE; rw [if_neg (by rw [h]; decide), if_neg h2, if_neg h3, if_pos h4]
  have h5 : joinErr (edA p x) (insP x.ins) = 11 := by
    unfold joinErr at h4 ⊢
    split
    · rfl
    · rename_i h6; rw [if_neg h6] at h4; exact absurd rfl h4
  exact ⟨by rw [h1, h5], by unfold ropeEdP; rw [h1, if_neg (by decide)]⟩
theorem edo_5 (h : ropeErr p = 0) (h2 : ¬ badAt p x) (h3 : ¬ 200 < x.ins.length) (h4 : joinErr (edA p x) (insP x.ins) = 0) :
    ropeEdE p x = joinErr (edA p x ++ insP x.ins) (edC p x) ∧ ropeEdP p x = if joinErr (edA p x ++ insP x.ins) (edC p x) = 0 then edA p x ++ insP x.ins ++ edC p x else [] := by
  have h1 : ropeEdE p x = joinErr (edA p x ++ insP x.ins) (edC p x) := by
    unfold ropeEdE
    rw [if_neg (by rw [h]; decide), if_neg h2, if_neg h3, if_neg (by rw [h4]; decide)]
    unfold joinErr
    split
    · rfl
    · rfl
  exact ⟨h1, by unfold ropeEdP; rw [h1]⟩
end
set_option maxRecDepth 100000 in
set_option maxHeartbeats 4000000 in
theorem ropeEditOf_any (p : Parts) (A : Option Addr) (n c B : Nat) (x : Ed) (w : World) (hr : Rd w B 1 A n (strCells p)) (hB : B ≤ w.heap.size) (hn : n ≤ 9223372036854775807) (hnc : n ≤ c) (hsz : ∀ y ∈ p, y.length ≤ 140737488351232)
    (ha : -9223372036854775808 ≤ x.at_ ∧ x.at_ ≤ 9223372036854775807) (hd : -9223372036854775808 ≤ x.del ∧ x.del ≤ 9223372036854775807) (hi : x.ins.length ≤ 9223372036854775807) :
    Calls Try.prog 59 #[.agg #[.slice A n c], .agg #[.int .i64 x.at_, .int .i64 x.del, .string (S x.ins)]] w fun e w' => ∃ v, e = .returned (.tuple #[.agg #[v], .int .i64 (ropeEdE p x)]) ∧
      w'.ownsRow w.heap.size 9 1 v (ropeEdP p x).length (strCells (ropeEdP p x)) ∧ Below w.heap.size w w' := by
  obtain ⟨i0, hi0, hz0, hz1, hz2⟩ := info_parts info_str
  have hpn := strCells_len' hr
  obtain ⟨w0, hw0⟩ : ∃ w0, w0 = (((w.alloc (.cells #[.slice A n c] 89)).alloc (.cells #[.int .i64 x.at_, .int .i64 x.del, .string (S x.ins)] 73)).alloc (.cells #[.slice none 0 0] 89)) := ⟨_, rfl⟩
  have hb0 : Below w.heap.size w w0 := by rw [hw0]; exact (by repeat (first | exact Below.refl _ _ | assumption | refine Below.alloc ?_ (by first | exact Nat.le_refl _ | assumption | omega | (simp <;> omega)) _ | refine Below.setCell ?_ (by first | exact Nat.le_refl _ | assumption | omega | (simp <;> omega)) _ | refine Below.drew ?_ | refine below_drewN ?_ _))
  have HR : Hid (Rd w0 B 1 A n (strCells p)) := hr.below (hb0.mono hB)
  have HB2 : Hid (Blk w0 w.heap.size 89 #[.slice A n c]) := by
    unfold Hid; rw [hw0]; exact Blk.alloc (Blk.alloc (Blk.new_ _ _ _) _) _
  have HB3 : Hid (Blk w0 (w.heap.size + 1) 73 #[.int .i64 x.at_, .int .i64 x.del, .string (S x.ins)]) := by
    have h1 := Blk.new_ (w.alloc (.cells #[.slice A n c] 89)) 73 #[.int .i64 x.at_, .int .i64 x.del, .string (S x.ins)]
    rw [World.size_alloc] at h1
    unfold Hid; rw [hw0]; exact Blk.alloc h1 _
  have HB4 : Hid (Blk w0 (w.heap.size + 1 + 1) 89 #[.slice none 0 0]) := by
    have h1 := Blk.new_ ((w.alloc (.cells #[.slice A n c] 89)).alloc (.cells #[.int .i64 x.at_, .int .i64 x.del, .string (S x.ins)] 73)) 89 #[.slice none 0 0]
    rw [World.size_alloc, World.size_alloc] at h1
    unfold Hid; rw [hw0]; exact h1
  have hsz0 : w0.heap.size = w.heap.size + 1 + 1 + 1 := by rw [hw0]; simp
  have HSZ0 : Hid (w.heap.size + 1 + 1 + 1 ≤ w0.heap.size) := by unfold Hid; omega
  have HC1 := Lib.hid (ropeErrR_any p A n c B w0 HR.out (by omega) hn hnc hsz)
  have HPN := Lib.hid hpn
  clear hr hpn hsz
  by_cases h1 : ropeErr p = 0
  · have hok := ropeErr_zero.1 h1
    rw [h1] at HC1
    have HE1 := Lib.hid h1
    have hn60 : n ≤ 60 := by have := hok.n; have := HPN.out; omega
    have ht200 := hok.t
    have hts : (S p.flatten).size = tot p := S_size _
    have HJ : Hid (∀ w', Below w0.heap.size w0 w' → Calls Try.prog 34 #[.slice A n c, .string ⟨#[]⟩] w' fun e w'' => e = .returned (.string (S p.flatten)) ∧ Below w'.heap.size w' w'') := fun w' hb' =>
      joinS p A n c B w' (HR.out.below (hb'.mono (by omega))) (by have := hb'.size; omega) hnc (by omega) (by unfold tot at ht200; omega)
    generalize S p.flatten = TX at *
    have HOK := Lib.hid hok
    clear h1 hok
    have hixs := S_size x.ins
    have hie := isEmpty_size x.ins
    have hbad : badAt p x ↔ (x.at_ < 0 ∨ (tot p : Int) < x.at_ ∨ x.del < 0 ∨ (tot p : Int) - x.at_ < x.del) := Iff.rfl
    have HBAD := Lib.hid hbad
    clear hbad
    by_cases b1 : x.at_ < 0
    · have g1 : decide (x.at_ < 0) = true := decide_eq_true b1
      obtain ⟨hE, hP⟩ := edo_2 (x := x) HE1.out (HBAD.out.2 (by omega))
      have HEF := Lib.hid hE
      have HPF := Lib.hid hP
      clear hE hP
      go_enter Try.func59, Try.ntmps59
      go_wp2_with fail
      rw [← hw0]
      clear hw0
      refine (HC1.out).mono ?_
      rintro e w1 ⟨rfl, hb1⟩
      have q2 := Blk.cell0 (HB2.out.below' hb1)
      go_wp2_with fail
      refine (HJ.out _ hb1).mono ?_
      rintro e w2 ⟨rfl, hb2⟩
      have hb2' := bthen hb1 hb2
      have q3 := Blk.cell0 (HB3.out.below' hb2')
      have q31 := Blk.cell1 (HB3.out.below' hb2')
      have q32 := Blk.cell2 (HB3.out.below' hb2')
      have q2 := Blk.cell0 (HB2.out.below' hb2')
      clear hb1 hb2 HC1 HJ
      have h4 := HB4.out.below (hb2') (by have := HSZ0.out; omega)
      have q4 := Blk.cell0 h4
      have f4 := Blk.frozen h4 0
      have hbb : Below w.heap.size w (w2) := hb0.trans (Below.mono (hb2') (by have := HSZ0.out; omega))
      have R4 : ((w2).setCell ⟨w.heap.size + 1 + 1, 0, none⟩ (.slice none 0 0)).cell? ⟨w.heap.size + 1 + 1, 0, none⟩ = some (.slice none 0 0) := Blk.cell0 (h4.set_ 0 _)
      have hbF : Below w.heap.size w ((w2).setCell ⟨w.heap.size + 1 + 1, 0, none⟩ (.slice none 0 0)) := (by repeat (first | exact Below.refl _ _ | assumption | refine Below.alloc ?_ (by first | exact Nat.le_refl _ | assumption | omega | (simp <;> omega)) _ | refine Below.setCell ?_ (by first | exact Nat.le_refl _ | assumption | omega | (simp <;> omega)) _ | refine Below.drew ?_ | refine below_drewN ?_ _))
      go_wp2_with fail
      (apply bodyPost_ret; (simp [results, Try.results59, go_sem, R4]; rfl); rfl)
      rw [HEF.out, HPF.out]
      exact ⟨_, rfl, World.ownsRow_nil _ _ _ _, hbF⟩
    have g1 : decide (x.at_ < 0) = false := decide_eq_false b1
    by_cases b2 : (tot p : Int) < x.at_
    · have g2 : decide ((tot p : Int) < x.at_) = true := decide_eq_true b2
      have g2' : decide ((TX.size : Int) < x.at_) = true := decide_eq_true (by omega)
      obtain ⟨hE, hP⟩ := edo_2 (x := x) HE1.out (HBAD.out.2 (by omega))
      have HEF := Lib.hid hE
      have HPF := Lib.hid hP
      clear hE hP
      go_enter Try.func59, Try.ntmps59
      go_wp2_with fail
      rw [← hw0]
      clear hw0
      refine (HC1.out).mono ?_
      rintro e w1 ⟨rfl, hb1⟩
      have q2 := Blk.cell0 (HB2.out.below' hb1)
      go_wp2_with fail
      refine (HJ.out _ hb1).mono ?_
      rintro e w2 ⟨rfl, hb2⟩
      have hb2' := bthen hb1 hb2
      have q3 := Blk.cell0 (HB3.out.below' hb2')
      have q31 := Blk.cell1 (HB3.out.below' hb2')
      have q32 := Blk.cell2 (HB3.out.below' hb2')
      have q2 := Blk.cell0 (HB2.out.below' hb2')
      clear hb1 hb2 HC1 HJ
      have h4 := HB4.out.below (hb2') (by have := HSZ0.out; omega)
      have q4 := Blk.cell0 h4
      have f4 := Blk.frozen h4 0
      have hbb : Below w.heap.size w (w2) := hb0.trans (Below.mono (hb2') (by have := HSZ0.out; omega))
      have R4 : ((w2).setCell ⟨w.heap.size + 1 + 1, 0, none⟩ (.slice none 0 0)).cell? ⟨w.heap.size + 1 + 1, 0, none⟩ = some (.slice none 0 0) := Blk.cell0 (h4.set_ 0 _)
      have hbF : Below w.heap.size w ((w2).setCell ⟨w.heap.size + 1 + 1, 0, none⟩ (.slice none 0 0)) := (by repeat (first | exact Below.refl _ _ | assumption | refine Below.alloc ?_ (by first | exact Nat.le_refl _ | assumption | omega | (simp <;> omega)) _ | refine Below.setCell ?_ (by first | exact Nat.le_refl _ | assumption | omega | (simp <;> omega)) _ | refine Below.drew ?_ | refine below_drewN ?_ _))
      go_wp2_with fail
      (apply bodyPost_ret; (simp [results, Try.results59, go_sem, R4]; rfl); rfl)
      rw [HEF.out, HPF.out]
      exact ⟨_, rfl, World.ownsRow_nil _ _ _ _, hbF⟩
    have g2 : decide ((tot p : Int) < x.at_) = false := decide_eq_false b2
    have g2' : decide ((TX.size : Int) < x.at_) = false := decide_eq_false (by omega)
    by_cases b3 : x.del < 0
    · have g3 : decide (x.del < 0) = true := decide_eq_true b3
      obtain ⟨hE, hP⟩ := edo_2 (x := x) HE1.out (HBAD.out.2 (by omega))
      have HEF := Lib.hid hE
      have HPF := Lib.hid hP
      clear hE hP
      go_enter Try.func59, Try.ntmps59
      go_wp2_with fail
      rw [← hw0]
      clear hw0
      refine (HC1.out).mono ?_
      rintro e w1 ⟨rfl, hb1⟩
      have q2 := Blk.cell0 (HB2.out.below' hb1)
      go_wp2_with fail
      refine (HJ.out _ hb1).mono ?_
      rintro e w2 ⟨rfl, hb2⟩
      have hb2' := bthen hb1 hb2
      have q3 := Blk.cell0 (HB3.out.below' hb2')
      have q31 := Blk.cell1 (HB3.out.below' hb2')
      have q32 := Blk.cell2 (HB3.out.below' hb2')
      have q2 := Blk.cell0 (HB2.out.below' hb2')
      clear hb1 hb2 HC1 HJ
      have h4 := HB4.out.below (hb2') (by have := HSZ0.out; omega)
      have q4 := Blk.cell0 h4
      have f4 := Blk.frozen h4 0
      have hbb : Below w.heap.size w (w2) := hb0.trans (Below.mono (hb2') (by have := HSZ0.out; omega))
      have R4 : ((w2).setCell ⟨w.heap.size + 1 + 1, 0, none⟩ (.slice none 0 0)).cell? ⟨w.heap.size + 1 + 1, 0, none⟩ = some (.slice none 0 0) := Blk.cell0 (h4.set_ 0 _)
      have hbF : Below w.heap.size w ((w2).setCell ⟨w.heap.size + 1 + 1, 0, none⟩ (.slice none 0 0)) := (by repeat (first | exact Below.refl _ _ | assumption | refine Below.alloc ?_ (by first | exact Nat.le_refl _ | assumption | omega | (simp <;> omega)) _ | refine Below.setCell ?_ (by first | exact Nat.le_refl _ | assumption | omega | (simp <;> omega)) _ | refine Below.drew ?_ | refine below_drewN ?_ _))
      go_wp2_with fail
      (apply bodyPost_ret; (simp [results, Try.results59, go_sem, R4]; rfl); rfl)
      rw [HEF.out, HPF.out]
      exact ⟨_, rfl, World.ownsRow_nil _ _ _ _, hbF⟩
    have g3 : decide (x.del < 0) = false := decide_eq_false b3
    by_cases b4 : (tot p : Int) - x.at_ < x.del
    · have g4 : decide ((tot p : Int) - x.at_ < x.del) = true := decide_eq_true b4
      have g4' : decide ((TX.size : Int) - x.at_ < x.del) = true := decide_eq_true (by omega)
      obtain ⟨hE, hP⟩ := edo_2 (x := x) HE1.out (HBAD.out.2 (by omega))
      have HEF := Lib.hid hE
      have HPF := Lib.hid hP
      clear hE hP
      go_enter Try.func59, Try.ntmps59
      go_wp2_with fail
      rw [← hw0]
      clear hw0
      refine (HC1.out).mono ?_
      rintro e w1 ⟨rfl, hb1⟩
      have q2 := Blk.cell0 (HB2.out.below' hb1)
      go_wp2_with fail
      refine (HJ.out _ hb1).mono ?_
      rintro e w2 ⟨rfl, hb2⟩
      have hb2' := bthen hb1 hb2
      have q3 := Blk.cell0 (HB3.out.below' hb2')
      have q31 := Blk.cell1 (HB3.out.below' hb2')
      have q32 := Blk.cell2 (HB3.out.below' hb2')
      have q2 := Blk.cell0 (HB2.out.below' hb2')
      clear hb1 hb2 HC1 HJ
      have h4 := HB4.out.below (hb2') (by have := HSZ0.out; omega)
      have q4 := Blk.cell0 h4
      have f4 := Blk.frozen h4 0
      have hbb : Below w.heap.size w (w2) := hb0.trans (Below.mono (hb2') (by have := HSZ0.out; omega))
      have R4 : ((w2).setCell ⟨w.heap.size + 1 + 1, 0, none⟩ (.slice none 0 0)).cell? ⟨w.heap.size + 1 + 1, 0, none⟩ = some (.slice none 0 0) := Blk.cell0 (h4.set_ 0 _)
      have hbF : Below w.heap.size w ((w2).setCell ⟨w.heap.size + 1 + 1, 0, none⟩ (.slice none 0 0)) := (by repeat (first | exact Below.refl _ _ | assumption | refine Below.alloc ?_ (by first | exact Nat.le_refl _ | assumption | omega | (simp <;> omega)) _ | refine Below.setCell ?_ (by first | exact Nat.le_refl _ | assumption | omega | (simp <;> omega)) _ | refine Below.drew ?_ | refine below_drewN ?_ _))
      go_wp2_with fail
      (apply bodyPost_ret; (simp [results, Try.results59, go_sem, R4]; rfl); rfl)
      rw [HEF.out, HPF.out]
      exact ⟨_, rfl, World.ownsRow_nil _ _ _ _, hbF⟩
    have g4 : decide ((tot p : Int) - x.at_ < x.del) = false := decide_eq_false b4
    have g4' : decide ((TX.size : Int) - x.at_ < x.del) = false := decide_eq_false (by omega)
    have hnb : ¬ badAt p x := fun h => by have := HBAD.out.1 h; omega
    by_cases b5 : 200 < x.ins.length
    · have g5 : decide ((200 : Int) < ((S x.ins).size : Int)) = true := decide_eq_true (by omega)
      have g5' : decide ((200 : Int) < (x.ins.length : Int)) = true := decide_eq_true (by omega)
      obtain ⟨hE, hP⟩ := edo_3 HE1.out hnb b5
      have HEF := Lib.hid hE
      have HPF := Lib.hid hP
      clear hE hP hnb
      go_enter Try.func59, Try.ntmps59
      go_wp2_with fail
      rw [← hw0]
      clear hw0
      refine (HC1.out).mono ?_
      rintro e w1 ⟨rfl, hb1⟩
      have q2 := Blk.cell0 (HB2.out.below' hb1)
      go_wp2_with fail
      refine (HJ.out _ hb1).mono ?_
      rintro e w2 ⟨rfl, hb2⟩
      have hb2' := bthen hb1 hb2
      have q3 := Blk.cell0 (HB3.out.below' hb2')
      have q31 := Blk.cell1 (HB3.out.below' hb2')
      have q32 := Blk.cell2 (HB3.out.below' hb2')
      have q2 := Blk.cell0 (HB2.out.below' hb2')
      clear hb1 hb2 HC1 HJ
      have h4 := HB4.out.below (hb2') (by have := HSZ0.out; omega)
      have q4 := Blk.cell0 h4
      have f4 := Blk.frozen h4 0
      have hbb : Below w.heap.size w (w2) := hb0.trans (Below.mono (hb2') (by have := HSZ0.out; omega))
      have R4 : ((w2).setCell ⟨w.heap.size + 1 + 1, 0, none⟩ (.slice none 0 0)).cell? ⟨w.heap.size + 1 + 1, 0, none⟩ = some (.slice none 0 0) := Blk.cell0 (h4.set_ 0 _)
      have hbF : Below w.heap.size w ((w2).setCell ⟨w.heap.size + 1 + 1, 0, none⟩ (.slice none 0 0)) := (by repeat (first | exact Below.refl _ _ | assumption | refine Below.alloc ?_ (by first | exact Nat.le_refl _ | assumption | omega | (simp <;> omega)) _ | refine Below.setCell ?_ (by first | exact Nat.le_refl _ | assumption | omega | (simp <;> omega)) _ | refine Below.drew ?_ | refine below_drewN ?_ _))
      go_wp2_with fail
      (apply bodyPost_ret; (simp [results, Try.results59, go_sem, R4]; rfl); rfl)
      rw [HEF.out, HPF.out]
      exact ⟨_, rfl, World.ownsRow_nil _ _ _ _, hbF⟩
    have hat : ((x.at_.toNat : Nat) : Int) = x.at_ := Int.toNat_of_nonneg (by omega)
    have hdl : ((x.del.toNat : Nat) : Int) = x.del := Int.toNat_of_nonneg (by omega)
    have hokb : RopeOk (cutB x.at_.toNat p) := HOK.out.cutB _
    have hoka : RopeOk (edA p x) := HOK.out.cutA _
    have hokc : RopeOk (edC p x) := hokb.cutB _
    have hokm : RopeOk (insP x.ins) := insP_ok (by omega)
    have htb := (cut_tot p x.at_.toNat).2
    have HCa : Hid (∀ w', Below w0.heap.size w0 w' → Calls Try.prog 70 #[.agg #[.slice A n c], .int .i64 x.at_] w' fun e w'' => ∃ va vb, e = .returned (.tuple #[.agg #[va], .agg #[vb]]) ∧
        w''.ownsRow w'.heap.size 9 1 va (edA p x).length (strCells (edA p x)) ∧ w''.ownsRow w'.heap.size 9 1 vb (cutB x.at_.toNat p).length (strCells (cutB x.at_.toNat p)) ∧ Apart va vb ∧ Below w'.heap.size w' w'') := fun w' hb' => by
      have h9 := cutOf_any p A n c B x.at_.toNat w' (HR.out.below (hb'.mono (by omega))) (by have := hb'.size; omega) HOK.out (by omega)
      rw [hat] at h9
      exact h9
    have HCb : Hid (∀ (w' : World) (Ab : Option Addr) (cb Bb : Nat), Rd w' Bb 1 Ab (cutB x.at_.toNat p).length (strCells (cutB x.at_.toNat p)) → Bb ≤ w'.heap.size → Calls Try.prog 70 #[.agg #[.slice Ab (cutB x.at_.toNat p).length cb], .int .i64 x.del] w' fun e w'' => ∃ va vb, e = .returned (.tuple #[.agg #[va], .agg #[vb]]) ∧
        w''.ownsRow w'.heap.size 9 1 va (cutA x.del.toNat (cutB x.at_.toNat p)).length (strCells (cutA x.del.toNat (cutB x.at_.toNat p))) ∧ w''.ownsRow w'.heap.size 9 1 vb (edC p x).length (strCells (edC p x)) ∧ Apart va vb ∧ Below w'.heap.size w' w'') := fun w' Ab cb Bb hrd hBb => by
      have h9 := cutOf_any (cutB x.at_.toNat p) Ab _ cb Bb x.del.toNat w' hrd hBb hokb (by omega)
      rw [hdl] at h9
      exact h9
    have HE45 : Hid (joinErr (edA p x) (insP x.ins) ≠ 0 → ropeEdE p x = joinErr (edA p x) (insP x.ins) ∧ ropeEdP p x = []) := fun h => edo_4 HE1.out hnb b5 h
    have HE5 : Hid (joinErr (edA p x) (insP x.ins) = 0 → ropeEdE p x = joinErr (edA p x ++ insP x.ins) (edC p x) ∧ ropeEdP p x = if joinErr (edA p x ++ insP x.ins) (edC p x) = 0 then edA p x ++ insP x.ins ++ edC p x else []) := fun h => edo_5 HE1.out hnb b5 h
    have HJZ : Hid (joinErr (edA p x) (insP x.ins) = 0 → RopeOk (edA p x ++ insP x.ins)) := fun h => joinErr_zero hoka hokm h
    have HNIL : Hid (joinErr (edA p x) [] = 0) := joinErr_nil hoka
    have g5 : decide ((200 : Int) < ((S x.ins).size : Int)) = false := decide_eq_false (by omega)
    have g5' : decide ((200 : Int) < (x.ins.length : Int)) = false := decide_eq_false (by omega)
    have hla := hoka.n
    have hlb := hokb.n
    have hlc := hokc.n
    clear hat hdl hnb htb
    generalize edA p x = la at *
    generalize cutA x.del.toNat (cutB x.at_.toNat p) = l1 at *
    generalize cutB x.at_.toNat p = lb at *
    generalize edC p x = lc at *
    go_enter Try.func59, Try.ntmps59
    go_wp2_with fail
    rw [← hw0]
    clear hw0
    refine (HC1.out).mono ?_
    rintro e w1 ⟨rfl, hb1⟩
    have q2 := Blk.cell0 (HB2.out.below' hb1)
    go_wp2_with fail
    refine (HJ.out _ hb1).mono ?_
    rintro e w2 ⟨rfl, hb2⟩
    have hb2' := bthen hb1 hb2
    have q3 := Blk.cell0 (HB3.out.below' hb2')
    have q31 := Blk.cell1 (HB3.out.below' hb2')
    have q32 := Blk.cell2 (HB3.out.below' hb2')
    have q2 := Blk.cell0 (HB2.out.below' hb2')
    clear hb1 hb2 HC1 HJ
    go_wp2_with fail
    refine (HCa.out _ hb2').mono ?_
    rintro e w3 ⟨va, vb, rfl, hoa, hob, hap, hb3⟩
    obtain ⟨Aa, ca, hva, hna, _, _⟩ := own_form hoa
    subst hva
    obtain ⟨Ab, cb, hvb, hnb, _, _⟩ := own_form hob
    subst hvb
    have hbA : Below w3.heap.size w3 ((w3.alloc (.cells #[.slice Aa la.length ca] 89)).alloc (.cells #[.slice Ab lb.length cb] 89)) := (by repeat (first | exact Below.refl _ _ | assumption | refine Below.alloc ?_ (by first | exact Nat.le_refl _ | assumption | omega | (simp <;> omega)) _ | refine Below.setCell ?_ (by first | exact Nat.le_refl _ | assumption | omega | (simp <;> omega)) _ | refine Below.drew ?_ | refine below_drewN ?_ _))
    have hb4 := bthen hb2' (bthen hb3 hbA)
    have HB8 : Hid (Blk ((w3.alloc (.cells #[.slice Aa la.length ca] 89)).alloc (.cells #[.slice Ab lb.length cb] 89)) w3.heap.size 89 #[.slice Aa la.length ca]) := Blk.alloc (Blk.new_ _ _ _) _
    have HOA := Lib.hid (own_below hoa hbA)
    have HCC := Lib.hid (HCb.out _ Ab cb _ (Rd.of_own (own_below hob hbA)) (Nat.le_refl _))
    have hz3 := hb3.size
    have hz02 := hb2'.size
    have HB3a := Lib.hid (HB3.out.below' hb4)
    have q31a := Blk.cell1 HB3a.out
    clear hoa hob hap hb3 hbA hb2' q2 q3 q31 q32 HCb HB3 HB2 HR
    go_wp2_with fail
    generalize ((w3.alloc (.cells #[.slice Aa la.length ca] 89)).alloc (.cells #[.slice Ab lb.length cb] 89)) = wa at *
    generalize w3.heap.size = g8 at *
    refine (HCC.out).mono ?_
    rintro e w4 ⟨v1, vc, rfl, ho1, hoc, hap, hb5⟩
    obtain ⟨A1, c1, hv1, _, _, _⟩ := own_form ho1
    subst hv1
    obtain ⟨Ac, cc, hvc, hnc', _, _⟩ := own_form hoc
    subst hvc
    have hg84 : g8 < w4.heap.size := by have := HB8.out.lt; have := hb5.size; omega
    have hwa4 := hb5.size
    by_cases hi0 : x.ins.length = 0
    · have g6 : (S x.ins).toList.isEmpty = true := by rw [hie, decide_eq_true hi0]
      have HMI : insP x.ins = [] := by unfold insP; rw [if_pos hi0]
      obtain ⟨hE, hP⟩ := HE5.out (by rw [HMI]; exact HNIL.out)
      rw [HMI, List.append_nil] at hE hP
      have HEF := Lib.hid hE
      have HPF := Lib.hid hP
      clear hie hi0 hE hP HMI HE5 HE45 HJZ
      have hbT : Below w4.heap.size w4 ((w4.alloc (.cells #[.slice A1 l1.length c1] 89)).alloc (.cells #[.slice Ac lc.length cc] 89)) := (by repeat (first | exact Below.refl _ _ | assumption | refine Below.alloc ?_ (by first | exact Nat.le_refl _ | assumption | omega | (simp <;> omega)) _ | refine Below.setCell ?_ (by first | exact Nat.le_refl _ | assumption | omega | (simp <;> omega)) _ | refine Below.drew ?_ | refine below_drewN ?_ _))
      have HBT := Lib.hid (bthen hb4 (bthen hb5 hbT))
      have HT8 := Lib.hid ((HB8.out.below' hb5).below' hbT)
      have HT11 : Hid (Blk ((w4.alloc (.cells #[.slice A1 l1.length c1] 89)).alloc (.cells #[.slice Ac lc.length cc] 89)) (w4.heap.size + 1) 89 #[.slice Ac lc.length cc]) := by
        have h1 := Blk.new_ (w4.alloc (.cells #[.slice A1 l1.length c1] 89)) 89 #[.slice Ac lc.length cc]
        rw [World.size_alloc] at h1
        exact h1
      have HO8 := Lib.hid (own_below (own_below HOA.out hb5) hbT)
      have HOC := Lib.hid (own_below hoc hbT)
      have HOK8 := Lib.hid hoka
      have HN8 := Lib.hid hna
      have q32 := Blk.cell2 ((HB3a.out.below' hb5).below' hbT)
      clear ho1 hoc hap hbT
      clear q31a
      have q8 := Blk.cell0 HT8.out
      have q11 := Blk.cell0 HT11.out
      have HJ2 := Lib.hid (joinErr_any la lc Aa la.length ca Ac lc.length cc _ _ (Rd.of_own HO8.out) (Rd.of_own HOC.out) (Nat.le_refl _) HOK8.out hokc HN8.out hnc')
      go_wp2_with fail
      refine (HJ2.out).mono ?_
      rintro e w7 ⟨rfl, hb7⟩
      have hbT7 := bthen HBT.out hb7
      by_cases hj : joinErr la lc = 0
      · rw [hj]
        have HEF0 : Hid (ropeEdE p x = 0) := by unfold Hid; rw [HEF.out, hj]
        have HPF0 : Hid (ropeEdP p x = la ++ lc) := by unfold Hid; rw [HPF.out, if_pos hj]
        have hl8 := HOK8.out.n
        clear hj
        have q8 := Blk.cell0 (HT8.out.below' hb7)
        have q11 := Blk.cell0 (HT11.out.below' hb7)
        have hbk := Blk.new_ w7 44 #[.slice Aa la.length ca, .slice Ac lc.length cc]
        have hb77 : Below w7.heap.size w7 (w7.alloc (.cells #[.slice Aa la.length ca, .slice Ac lc.length cc] 44)) := (by repeat (first | exact Below.refl _ _ | assumption | refine Below.alloc ?_ (by first | exact Nat.le_refl _ | assumption | omega | (simp <;> omega)) _ | refine Below.setCell ?_ (by first | exact Nat.le_refl _ | assumption | omega | (simp <;> omega)) _ | refine Below.drew ?_ | refine below_drewN ?_ _))
        have hr8 := (Rd.of_own (own_below HO8.out hb7)).below hb77
        have hr11 := (Rd.of_own (own_below HOC.out hb7)).below hb77
        have hcc := concat2_any la lc Aa la.length ca Ac lc.length cc w7.heap.size w7.heap.size (w7.alloc (.cells #[.slice Aa la.length ca, .slice Ac lc.length cc] 44)) hr8 hr11 (by rw [World.size_alloc]; omega) (by rw [World.size_alloc]; omega) (Blk.cell0 hbk) (Blk.cell1 hbk) (by omega) (by omega)
        have HCC := Lib.hid hcc
        have hbT8 := bthen hbT7 hb77
        clear hcc hbk hr8 hr11 hb77
        go_wp2_with fail
        refine (HCC.out).mono ?_
        rintro e w8 ⟨v8, rfl, ho8, hb8⟩
        have hbT9 := bthen hbT8 hb8
        have hlen8 := HPF0.out
        generalize hm8 : (la ++ lc).length = m8 at *
        have HM8 := Lib.hid hm8
        clear hm8
        obtain ⟨A9, c9, hv9, _, _, _⟩ := own_form ho8
        subst hv9
        have h4 := HB4.out.below' hbT9
        have q4 := Blk.cell0 h4
        have f4 := Blk.frozen h4 0
        have hbb : Below w.heap.size w w8 := hb0.trans (Below.mono hbT9 (by have := HSZ0.out; omega))
        have R4 : (w8.setCell ⟨w.heap.size + 1 + 1, 0, none⟩ (.slice A9 m8 c9)).cell? ⟨w.heap.size + 1 + 1, 0, none⟩ = some (.slice A9 m8 c9) := Blk.cell0 (h4.set_ 0 _)
        have hbF : Below w.heap.size w (w8.setCell ⟨w.heap.size + 1 + 1, 0, none⟩ (.slice A9 m8 c9)) := (by repeat (first | exact Below.refl _ _ | assumption | refine Below.alloc ?_ (by first | exact Nat.le_refl _ | assumption | omega | (simp <;> omega)) _ | refine Below.setCell ?_ (by first | exact Nat.le_refl _ | assumption | omega | (simp <;> omega)) _ | refine Below.drew ?_ | refine below_drewN ?_ _))
        have hz7 := hbT7.size
        have ho9 := own_lower ho8 (show w.heap.size ≤ (w7.alloc (.cells #[.slice Aa la.length ca, .slice Ac lc.length cc] 44)).heap.size by rw [World.size_alloc]; have := HSZ0.out; omega)
        have HO9 := Lib.hid (World.ownsRow.kept ho9 (gb_set (gb_refl _ _) 0 (.slice A9 m8 c9)) (OwnO.ne_blk (OwnO.of_own ho9) h4 (by decide)))
        clear ho8 ho9 h4 hlen8 q8 q11
        go_wp2_with fail
        (apply bodyPost_ret; (simp [results, Try.results59, go_sem, R4]; rfl); rfl)
        rw [HEF0.out, HPF0.out, HM8.out]
        exact ⟨_, rfl, HO9.out, hbF⟩
      · have HPF1 : Hid (ropeEdP p x = []) := by unfold Hid; rw [HPF.out, if_neg hj]
        have g7 : (joinErr la lc != 0) = true := by rw [bne_iff_ne]; exact hj
        clear HPF
        have HPF := HPF1
        clear hj HPF1
        generalize joinErr la lc = e7 at *
        have h4 := HB4.out.below (hbT7) (by have := HSZ0.out; omega)
        have q4 := Blk.cell0 h4
        have f4 := Blk.frozen h4 0
        have hbb : Below w.heap.size w (w7) := hb0.trans (Below.mono (hbT7) (by have := HSZ0.out; omega))
        have R4 : ((w7).setCell ⟨w.heap.size + 1 + 1, 0, none⟩ (.slice none 0 0)).cell? ⟨w.heap.size + 1 + 1, 0, none⟩ = some (.slice none 0 0) := Blk.cell0 (h4.set_ 0 _)
        have hbF : Below w.heap.size w ((w7).setCell ⟨w.heap.size + 1 + 1, 0, none⟩ (.slice none 0 0)) := (by repeat (first | exact Below.refl _ _ | assumption | refine Below.alloc ?_ (by first | exact Nat.le_refl _ | assumption | omega | (simp <;> omega)) _ | refine Below.setCell ?_ (by first | exact Nat.le_refl _ | assumption | omega | (simp <;> omega)) _ | refine Below.drew ?_ | refine below_drewN ?_ _))
        go_wp2_with fail
        (apply bodyPost_ret; (simp [results, Try.results59, go_sem, R4]; rfl); rfl)
        rw [HEF.out, HPF.out]
        exact ⟨_, rfl, World.ownsRow_nil _ _ _ _, hbF⟩
    · have g6 : (S x.ins).toList.isEmpty = false := by rw [hie, decide_eq_false hi0]
      have g6' : ((S x.ins).toList == []) = false := by
        rw [beq_eq_false_iff_ne]; intro h; rw [h] at g6; cases g6
      have HMI : Hid (insP x.ins = [x.ins]) := by unfold Hid insP; rw [if_neg hi0]
      clear hie hi0
      have hbT : Below w4.heap.size w4 ((((w4.alloc (.cells #[.slice A1 l1.length c1] 89)).alloc (.cells #[.slice Ac lc.length cc] 89)).alloc (.cells #[.string (S x.ins)] 9)).alloc (.cells #[.slice (some ⟨w4.heap.size + 1 + 1, 0, none⟩) 1 1] 89)) := (by repeat (first | exact Below.refl _ _ | assumption | refine Below.alloc ?_ (by first | exact Nat.le_refl _ | assumption | omega | (simp <;> omega)) _ | refine Below.setCell ?_ (by first | exact Nat.le_refl _ | assumption | omega | (simp <;> omega)) _ | refine Below.drew ?_ | refine below_drewN ?_ _))
      have hbT2 : Below w4.heap.size w4 ((w4.alloc (.cells #[.slice A1 l1.length c1] 89)).alloc (.cells #[.slice Ac lc.length cc] 89)) := (by repeat (first | exact Below.refl _ _ | assumption | refine Below.alloc ?_ (by first | exact Nat.le_refl _ | assumption | omega | (simp <;> omega)) _ | refine Below.setCell ?_ (by first | exact Nat.le_refl _ | assumption | omega | (simp <;> omega)) _ | refine Below.drew ?_ | refine below_drewN ?_ _))
      have q32 := Blk.cell2 ((HB3a.out.below' hb5).below' hbT2)
      have q8a := Blk.cell0 ((HB8.out.below' hb5).below' hbT)
      have hb4B := bthen hb4 (bthen hb5 hbT)
      have HB3B := Lib.hid ((HB3a.out.below' hb5).below' hbT)
      have HB8B := Lib.hid ((HB8.out.below' hb5).below' hbT)
      have HOAB := Lib.hid (own_below (own_below HOA.out hb5) hbT)
      have HOCB := Lib.hid (own_below hoc hbT)
      have HAP : Hid (Apart (.slice Aa la.length ca) (.slice Ac lc.length cc)) := by
        refine Apart.comm ?_
        cases hx : (Value.slice Ac lc.length cc).ownBlock with
        | none => exact .inl hx
        | some j =>
          refine .inr fun e => ?_
          rw [hx] at e
          have h1 := (hoc.lt j hx).1
          have h2 := (HOA.out.lt j e.symm).2
          omega
      have HB11B : Hid (Blk ((((w4.alloc (.cells #[.slice A1 l1.length c1] 89)).alloc (.cells #[.slice Ac lc.length cc] 89)).alloc (.cells #[.string (S x.ins)] 9)).alloc (.cells #[.slice (some ⟨w4.heap.size + 1 + 1, 0, none⟩) 1 1] 89)) (w4.heap.size + 1) 89 #[.slice Ac lc.length cc]) := by
        have h1 := Blk.new_ (w4.alloc (.cells #[.slice A1 l1.length c1] 89)) 89 #[.slice Ac lc.length cc]
        rw [World.size_alloc] at h1
        exact Blk.alloc (Blk.alloc h1 _) _
      have hszB : ((((w4.alloc (.cells #[.slice A1 l1.length c1] 89)).alloc (.cells #[.slice Ac lc.length cc] 89)).alloc (.cells #[.string (S x.ins)] 9)).alloc (.cells #[.slice (some ⟨w4.heap.size + 1 + 1, 0, none⟩) 1 1] 89)).heap.size = w4.heap.size + 4 := by simp
      have HMR : Hid (Rd ((((w4.alloc (.cells #[.slice A1 l1.length c1] 89)).alloc (.cells #[.slice Ac lc.length cc] 89)).alloc (.cells #[.string (S x.ins)] 9)).alloc (.cells #[.slice (some ⟨w4.heap.size + 1 + 1, 0, none⟩) 1 1] 89)) (w4.heap.size + 3) 1 (some ⟨w4.heap.size + 1 + 1, 0, none⟩) 1 (strCells (insP x.ins))) := by
        unfold Hid
        rw [HMI.out]
        have h1 := Rd.new_ (size := 1) (n := 1) (B := w4.heap.size + 3) ((w4.alloc (.cells #[.slice A1 l1.length c1] 89)).alloc (.cells #[.slice Ac lc.length cc] 89)) #[.string (S x.ins)] 9 (by simp) rfl
        rw [World.size_alloc, World.size_alloc] at h1
        exact h1.alloc (by simp) _
      have HJm := Lib.hid (joinErr_any la (insP x.ins) Aa la.length ca (some ⟨w4.heap.size + 1 + 1, 0, none⟩) 1 1 ((((w4.alloc (.cells #[.slice A1 l1.length c1] 89)).alloc (.cells #[.slice Ac lc.length cc] 89)).alloc (.cells #[.string (S x.ins)] 9)).alloc (.cells #[.slice (some ⟨w4.heap.size + 1 + 1, 0, none⟩) 1 1] 89)).heap.size ((((w4.alloc (.cells #[.slice A1 l1.length c1] 89)).alloc (.cells #[.slice Ac lc.length cc] 89)).alloc (.cells #[.string (S x.ins)] 9)).alloc (.cells #[.slice (some ⟨w4.heap.size + 1 + 1, 0, none⟩) 1 1] 89)) (Rd.of_own HOAB.out) (HMR.out.more (by omega)) (Nat.le_refl _) hoka hokm hna (Nat.le_refl _))
      clear q31a ho1 hoc hap hbT2 hbT hb4
      go_wp2_with fail
      have hg8B : g8 ≤ ((((w4.alloc (.cells #[.slice A1 l1.length c1] 89)).alloc (.cells #[.slice Ac lc.length cc] 89)).alloc (.cells #[.string (S x.ins)] 9)).alloc (.cells #[.slice (some ⟨w4.heap.size + 1 + 1, 0, none⟩) 1 1] 89)).heap.size := by rw [hszB]; omega
      generalize ((((w4.alloc (.cells #[.slice A1 l1.length c1] 89)).alloc (.cells #[.slice Ac lc.length cc] 89)).alloc (.cells #[.string (S x.ins)] 9)).alloc (.cells #[.slice (some ⟨w4.heap.size + 1 + 1, 0, none⟩) 1 1] 89)) = wB at *
      refine (HJm.out).mono ?_
      rintro e w5 ⟨rfl, hb6⟩
      clear q32 q8a
      have hb45 := bthen hb4B hb6
      have hs56 := hb6.size
      by_cases hj1 : joinErr la (insP x.ins) = 0
      · obtain ⟨hE, hP⟩ := HE5.out hj1
        have hok8 := HJZ.out hj1
        rw [hj1]
        rw [HMI.out] at hE hP hok8
        have HEF := Lib.hid hE
        have HPF := Lib.hid hP
        clear hE hP hj1 HE5 HE45 HJZ
        have hT5 : TwoR w5 w2.heap.size g8 (w4.heap.size + 1) (.slice Aa la.length ca) (.slice Ac lc.length cc) la lc :=
          ⟨HB8B.out.below' hb6, HB11B.out.below' hb6, own_below HOAB.out hb6, own_lower (own_below HOCB.out hb6) (by have := HB8.out.lt; omega), HAP.out, by omega, by omega, by omega⟩
        have HT5 := Lib.hid hT5
        have c0 := Blk.cell0 hT5.a
        have f0 := Blk.frozen hT5.a 0
        have q32 := Blk.cell2 (HB3B.out.below' hb6)
        have hglt := Blk.lt hT5.a
        have hgl1 := Blk.lt hT5.b
        have hgne := rope_ne_some (own_ne_rope hT5.ra hT5.a)
        have hgne1 := rope_ne_some (own_ne_rope hT5.ra hT5.b)
        have hd81 : g8 ≠ w4.heap.size + 1 := by omega
        have hd81' : w4.heap.size + 1 ≠ g8 := by omega
        have k00 : (w5.alloc (.cells #[.string (S x.ins)] 9)).cell? ⟨g8, 0, none⟩ = some (.slice Aa la.length ca) := (World.cell?_alloc_lt w5 _ _ hglt).trans c0
        have k01 : (w5.alloc (.cells #[.string (S x.ins)] 9)).cell? ⟨w4.heap.size + 1, 0, none⟩ = some (.slice Ac lc.length cc) := (World.cell?_alloc_lt w5 _ _ hgl1).trans (Blk.cell0 hT5.b)
        have hbW : Below w0.heap.size w0 (w5.alloc (.cells #[.string (S x.ins)] 9)) := bthen hb45 (by repeat (first | exact Below.refl _ _ | assumption | refine Below.alloc ?_ (by first | exact Nat.le_refl _ | assumption | omega | (simp <;> omega)) _ | refine Below.setCell ?_ (by first | exact Nat.le_refl _ | assumption | omega | (simp <;> omega)) _ | refine Below.drew ?_ | refine below_drewN ?_ _))
        have HBW0 : Hid (Below w5.heap.size w5 (w5.alloc (.cells #[.string (S x.ins)] 9))) := (by repeat (first | exact Below.refl _ _ | assumption | refine Below.alloc ?_ (by first | exact Nat.le_refl _ | assumption | omega | (simp <;> omega)) _ | refine Below.setCell ?_ (by first | exact Nat.le_refl _ | assumption | omega | (simp <;> omega)) _ | refine Below.drew ?_ | refine below_drewN ?_ _))
        have hO1 : ∀ o, (w5.alloc o).ownsRow w2.heap.size 9 1 (.slice Aa la.length ca) la.length (strCells la) := fun o => own_below HT5.out.ra (by repeat (first | exact Below.refl _ _ | assumption | refine Below.alloc ?_ (by first | exact Nat.le_refl _ | assumption | omega | (simp <;> omega)) _ | refine Below.setCell ?_ (by first | exact Nat.le_refl _ | assumption | omega | (simp <;> omega)) _ | refine Below.drew ?_ | refine below_drewN ?_ _))
        clear hT5
        go_wp2_with (at_builtin; go_must (refine wpList_appN rfl _ _ _ rfl w2.heap.size 9 i0 _ 1 16 Try.underlying44 hi0 hz0 hz1 hz2 rfl (by omega) _ la.length (strCells la) rfl (hO1 _) ⟨w5.heap.size, 0, none⟩ 1 1 [.string (S x.ins)] rfl rfl (cell_one_new _ _ _) (by simp [Value.oneCell']) (by omega) (by omega) (by simp; omega) ?_); intro v6 w6 hown6 hg6 hb7 ha6; obtain ⟨A6, c6, hv6, hn6, _, _⟩ := own_form hown6; subst hv6; have k0 : w6.cell? ⟨g8, 0, none⟩ = some (.slice Aa la.length ca) := World.grownBy.cell (w := (w5.alloc (.cells #[.string (S x.ins)] 9))) (a := ⟨g8, 0, none⟩) (v := .slice Aa la.length ca) hg6 k00 hgne; have k1 : w6.cell? ⟨w4.heap.size + 1, 0, none⟩ = some (.slice Ac lc.length cc) := World.grownBy.cell (w := (w5.alloc (.cells #[.string (S x.ins)] 9))) (a := ⟨w4.heap.size + 1, 0, none⟩) (v := .slice Ac lc.length cc) hg6 k01 hgne1; have q1f : w6.frozen? ⟨g8, 0, none⟩ = false := ((HT5.out.a.below' HBW0.out).grown hg6 hgne).frozen 0)
        have HTN := Lib.hid ((HT5.out.below HBW0.out).appA (x := x.ins) hg6 hown6 ha6)
        have hbn : Below w0.heap.size w0 (w6.setCell ⟨g8, 0, none⟩ (.slice A6 (la.length + 1) c6)) := Below.setCell (hbW.trans (hb7.mono (by omega))) (p := ⟨g8, 0, none⟩) (by show w0.heap.size ≤ g8; omega) _
        have hlm : (la ++ [x.ins]).length = la.length + 1 := by simp
        rw [← hlm] at HTN hbn hn6 ⊢
        clear hlm k0 k1 q1f hown6 hg6 hb7 ha6 hO1 c0 f0 q32 hgne hgne1 k00 k01 HT5
        generalize la ++ [x.ins] = lm at *
        generalize (w6.setCell ⟨g8, 0, none⟩ (.slice A6 lm.length c6)) = wT at *
        have HT8 := Lib.hid HTN.out.a
        have HT11 := Lib.hid HTN.out.b
        have HBT := Lib.hid hbn
        have HO8 := Lib.hid HTN.out.ra
        have HOC := Lib.hid HTN.out.rb
        have HOK8 := Lib.hid hok8
        have HN8 := Lib.hid hn6
        have q8 := Blk.cell0 HT8.out
        have q11 := Blk.cell0 HT11.out
        have HJ2 := Lib.hid (joinErr_any lm lc A6 lm.length c6 Ac lc.length cc _ _ (Rd.of_own HO8.out) (Rd.of_own HOC.out) (Nat.le_refl _) HOK8.out hokc HN8.out hnc')
        skip
        refine (HJ2.out).mono ?_
        rintro e w7 ⟨rfl, hb7⟩
        have hbT7 := bthen HBT.out hb7
        by_cases hj : joinErr lm lc = 0
        · rw [hj]
          have HEF0 : Hid (ropeEdE p x = 0) := by unfold Hid; rw [HEF.out, hj]
          have HPF0 : Hid (ropeEdP p x = lm ++ lc) := by unfold Hid; rw [HPF.out, if_pos hj]
          have hl8 := HOK8.out.n
          clear hj
          have q8 := Blk.cell0 (HT8.out.below' hb7)
          have q11 := Blk.cell0 (HT11.out.below' hb7)
          have hbk := Blk.new_ w7 44 #[.slice A6 lm.length c6, .slice Ac lc.length cc]
          have hb77 : Below w7.heap.size w7 (w7.alloc (.cells #[.slice A6 lm.length c6, .slice Ac lc.length cc] 44)) := (by repeat (first | exact Below.refl _ _ | assumption | refine Below.alloc ?_ (by first | exact Nat.le_refl _ | assumption | omega | (simp <;> omega)) _ | refine Below.setCell ?_ (by first | exact Nat.le_refl _ | assumption | omega | (simp <;> omega)) _ | refine Below.drew ?_ | refine below_drewN ?_ _))
          have hr8 := (Rd.of_own (own_below HO8.out hb7)).below hb77
          have hr11 := (Rd.of_own (own_below HOC.out hb7)).below hb77
          have hcc := concat2_any lm lc A6 lm.length c6 Ac lc.length cc w7.heap.size w7.heap.size (w7.alloc (.cells #[.slice A6 lm.length c6, .slice Ac lc.length cc] 44)) hr8 hr11 (by rw [World.size_alloc]; omega) (by rw [World.size_alloc]; omega) (Blk.cell0 hbk) (Blk.cell1 hbk) (by omega) (by omega)
          have HCC := Lib.hid hcc
          have hbT8 := bthen hbT7 hb77
          clear hcc hbk hr8 hr11 hb77
          go_wp2_with fail
          refine (HCC.out).mono ?_
          rintro e w8 ⟨v8, rfl, ho8, hb8⟩
          have hbT9 := bthen hbT8 hb8
          have hlen8 := HPF0.out
          generalize hm8 : (lm ++ lc).length = m8 at *
          have HM8 := Lib.hid hm8
          clear hm8
          obtain ⟨A9, c9, hv9, _, _, _⟩ := own_form ho8
          subst hv9
          have h4 := HB4.out.below' hbT9
          have q4 := Blk.cell0 h4
          have f4 := Blk.frozen h4 0
          have hbb : Below w.heap.size w w8 := hb0.trans (Below.mono hbT9 (by have := HSZ0.out; omega))
          have R4 : (w8.setCell ⟨w.heap.size + 1 + 1, 0, none⟩ (.slice A9 m8 c9)).cell? ⟨w.heap.size + 1 + 1, 0, none⟩ = some (.slice A9 m8 c9) := Blk.cell0 (h4.set_ 0 _)
          have hbF : Below w.heap.size w (w8.setCell ⟨w.heap.size + 1 + 1, 0, none⟩ (.slice A9 m8 c9)) := (by repeat (first | exact Below.refl _ _ | assumption | refine Below.alloc ?_ (by first | exact Nat.le_refl _ | assumption | omega | (simp <;> omega)) _ | refine Below.setCell ?_ (by first | exact Nat.le_refl _ | assumption | omega | (simp <;> omega)) _ | refine Below.drew ?_ | refine below_drewN ?_ _))
          have hz7 := hbT7.size
          have ho9 := own_lower ho8 (show w.heap.size ≤ (w7.alloc (.cells #[.slice A6 lm.length c6, .slice Ac lc.length cc] 44)).heap.size by rw [World.size_alloc]; have := HSZ0.out; omega)
          have HO9 := Lib.hid (World.ownsRow.kept ho9 (gb_set (gb_refl _ _) 0 (.slice A9 m8 c9)) (OwnO.ne_blk (OwnO.of_own ho9) h4 (by decide)))
          clear ho8 ho9 h4 hlen8 q8 q11
          go_wp2_with fail
          (apply bodyPost_ret; (simp [results, Try.results59, go_sem, R4]; rfl); rfl)
          rw [HEF0.out, HPF0.out, HM8.out]
          exact ⟨_, rfl, HO9.out, hbF⟩
        · have HPF1 : Hid (ropeEdP p x = []) := by unfold Hid; rw [HPF.out, if_neg hj]
          have g7 : (joinErr lm lc != 0) = true := by rw [bne_iff_ne]; exact hj
          clear HPF
          have HPF := HPF1
          clear hj HPF1
          generalize joinErr lm lc = e7 at *
          have h4 := HB4.out.below (hbT7) (by have := HSZ0.out; omega)
          have q4 := Blk.cell0 h4
          have f4 := Blk.frozen h4 0
          have hbb : Below w.heap.size w (w7) := hb0.trans (Below.mono (hbT7) (by have := HSZ0.out; omega))
          have R4 : ((w7).setCell ⟨w.heap.size + 1 + 1, 0, none⟩ (.slice none 0 0)).cell? ⟨w.heap.size + 1 + 1, 0, none⟩ = some (.slice none 0 0) := Blk.cell0 (h4.set_ 0 _)
          have hbF : Below w.heap.size w ((w7).setCell ⟨w.heap.size + 1 + 1, 0, none⟩ (.slice none 0 0)) := (by repeat (first | exact Below.refl _ _ | assumption | refine Below.alloc ?_ (by first | exact Nat.le_refl _ | assumption | omega | (simp <;> omega)) _ | refine Below.setCell ?_ (by first | exact Nat.le_refl _ | assumption | omega | (simp <;> omega)) _ | refine Below.drew ?_ | refine below_drewN ?_ _))
          go_wp2_with fail
          (apply bodyPost_ret; (simp [results, Try.results59, go_sem, R4]; rfl); rfl)
          rw [HEF.out, HPF.out]
          exact ⟨_, rfl, World.ownsRow_nil _ _ _ _, hbF⟩
      · obtain ⟨hE, hP⟩ := HE45.out hj1
        have HEF := Lib.hid hE
        have HPF := Lib.hid hP
        have g7 : (joinErr la (insP x.ins) != 0) = true := by rw [bne_iff_ne]; exact hj1
        clear hE hP hj1 HE5 HE45 HJZ HNIL
        generalize joinErr la (insP x.ins) = e7 at *
        have h4 := HB4.out.below (hb45) (by have := HSZ0.out; omega)
        have q4 := Blk.cell0 h4
        have f4 := Blk.frozen h4 0
        have hbb : Below w.heap.size w (w5) := hb0.trans (Below.mono (hb45) (by have := HSZ0.out; omega))
        have R4 : ((w5).setCell ⟨w.heap.size + 1 + 1, 0, none⟩ (.slice none 0 0)).cell? ⟨w.heap.size + 1 + 1, 0, none⟩ = some (.slice none 0 0) := Blk.cell0 (h4.set_ 0 _)
        have hbF : Below w.heap.size w ((w5).setCell ⟨w.heap.size + 1 + 1, 0, none⟩ (.slice none 0 0)) := (by repeat (first | exact Below.refl _ _ | assumption | refine Below.alloc ?_ (by first | exact Nat.le_refl _ | assumption | omega | (simp <;> omega)) _ | refine Below.setCell ?_ (by first | exact Nat.le_refl _ | assumption | omega | (simp <;> omega)) _ | refine Below.drew ?_ | refine below_drewN ?_ _))
        go_wp2_with fail
        (apply bodyPost_ret; (simp [results, Try.results59, go_sem, R4]; rfl); rfl)
        rw [HEF.out, HPF.out]
        exact ⟨_, rfl, World.ownsRow_nil _ _ _ _, hbF⟩
  · obtain ⟨hE, hP⟩ := edo_1 (x := x) h1
    have HEF := Lib.hid hE
    have HPF := Lib.hid hP
    have g7 : (ropeErr p != 0) = true := by rw [bne_iff_ne]; exact h1
    clear hE hP h1
    generalize ropeErr p = e0 at *
    go_enter Try.func59, Try.ntmps59
    go_wp2_with fail
    rw [← hw0]
    clear hw0
    refine (HC1.out).mono ?_
    rintro e w1 ⟨rfl, hb1⟩
    have h4 := HB4.out.below (hb1) (by have := HSZ0.out; omega)
    have q4 := Blk.cell0 h4
    have f4 := Blk.frozen h4 0
    have hbb : Below w.heap.size w (w1) := hb0.trans (Below.mono (hb1) (by have := HSZ0.out; omega))
    have R4 : ((w1).setCell ⟨w.heap.size + 1 + 1, 0, none⟩ (.slice none 0 0)).cell? ⟨w.heap.size + 1 + 1, 0, none⟩ = some (.slice none 0 0) := Blk.cell0 (h4.set_ 0 _)
    have hbF : Below w.heap.size w ((w1).setCell ⟨w.heap.size + 1 + 1, 0, none⟩ (.slice none 0 0)) := (by repeat (first | exact Below.refl _ _ | assumption | refine Below.alloc ?_ (by first | exact Nat.le_refl _ | assumption | omega | (simp <;> omega)) _ | refine Below.setCell ?_ (by first | exact Nat.le_refl _ | assumption | omega | (simp <;> omega)) _ | refine Below.drew ?_ | refine below_drewN ?_ _))
    go_wp2_with fail
    (apply bodyPost_ret; (simp [results, Try.results59, go_sem, R4]; rfl); rfl)
    rw [HEF.out, HPF.out]
    exact ⟨_, rfl, World.ownsRow_nil _ _ _ _, hbF⟩
end Go.Proofs.Ytolnhplgaolieaa
