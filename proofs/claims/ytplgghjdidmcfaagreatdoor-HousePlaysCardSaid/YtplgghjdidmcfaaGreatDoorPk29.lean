/- The reference's deeds at a page. The reference's deeds at a page, on. The reference's deeds at a page, on. -/
import Derived.Test.YtplgghjdidmcfaaGreatDoorPk27
import Derived.Test.YtplgghjdidmcfaaGreatDoorPk28
namespace Go.Proofs.YtplgghjdidmcfaaGreatDoor
open Go.RowKit
def Rc.arr (r : Rc) : Array Value := #[.string r.s.nm, .string r.s.tx, .string r.s.d, .int .i64 (r.s.sf : Int), .slice r.Ab r.s.back.length r.cb, .slice r.Ao r.s.onward.length r.co]
abbrev zPage : Array Value := #[.string ⟨#[]⟩, .string ⟨#[]⟩, .string ⟨#[]⟩, .int .i64 0, .slice none 0 0, .slice none 0 0]
/-- The three boxes of the call: the page, the deed, the result. -/
structure P3 (w : World) (g : Nat) (cs : Array Value) (x : Dd) : Prop where
  p : Blk w g 82 cs
  d : Blk w (g + 1) 32 x.cells
  z : Blk w (g + 1 + 1) 82 zPage
section
variable {w w' : World} {g : Nat} {cs : Array Value} {x : Dd}
theorem P3.below (h : P3 w g cs x) (hb : Below w.heap.size w w') : P3 w' g cs x := ⟨h.p.below' hb, h.d.below' hb, h.z.below' hb⟩
theorem P3.set_ (h : P3 w g cs x) (i : Nat) (u : Value) : P3 (w.setCell ⟨g, i, none⟩ u) g (cs.setIfInBounds i u) x :=
  ⟨h.p.set_ i u, h.d.far (p := ⟨g, i, none⟩) (by show g + 1 ≠ g; omega) u, h.z.far (p := ⟨g, i, none⟩) (by show g + 1 + 1 ≠ g; omega) u⟩
end
theorem p3_new (w : World) (cs : Array Value) (x : Dd) : P3 (((w.alloc (.cells cs 82)).alloc (.cells x.cells 32)).alloc (.cells zPage 82)) w.heap.size cs x := by
  refine ⟨((Blk.new_ _ _ _).alloc _).alloc _, ?_, ?_⟩
  · have := Blk.new_ (w.alloc (.cells cs 82)) 32 x.cells
    rw [World.size_alloc] at this
    exact this.alloc _
  · have := Blk.new_ ((w.alloc (.cells cs 82)).alloc (.cells x.cells 32)) 82 zPage
    rw [World.size_alloc, World.size_alloc] at this
    exact this
/-- What a deed at a page of the reference's comes to. -/
def PgAns (w : World) (K : Nat → Prop) (r : Rc) (x : Dd) (e : Ending) (w' : World) : Prop :=
  ∃ r' : Rc, e = .returned (.tuple #[r'.val, .int .i64 (pgE r.s x)]) ∧ r'.s = pgP r.s x ∧ RcAt w' K r' ∧ Below w.heap.size w w'
structure RfOk (w : World) (K : Nat → Prop) (r : Rc) (x : Dd) : Prop where
  at_ : RcAt w K r
  k : ∀ k, K k → k < w.heap.size
  o : PsOk r.s
  e : Rd w w.heap.size 3 x.A x.m (edCells x.l)
  m : x.m ≤ 9223372036854775807
  t : TabI w
  x : ∃ mx, w.cell? ⟨0, 0, none⟩ = some (.int .i64 mx)
  g : 0 < w.heap.size
theorem fin_rc {w WF : World} {K : Nat → Prop} {r' : Rc} (hb : Below w.heap.size w WF) (h : ∀ W, Below w.heap.size w W → RcAt W K r') : RcAt WF K r' ∧ Below w.heap.size w WF := ⟨h WF hb, hb⟩
theorem bel1 {w W : World} {g i : Nat} {a : Value} (hb : Below w.heap.size w W) (hg : w.heap.size ≤ g) : Below w.heap.size w (W.setCell ⟨g, i, none⟩ a) := hb.setCell (p := ⟨g, i, none⟩) hg a
theorem bel6 {w W : World} {g : Nat} {a0 a1 a2 a3 a4 a5 : Value} (hb : Below w.heap.size w W) (hg : w.heap.size ≤ g) :
    Below w.heap.size w ((((((W.setCell ⟨g, 0, none⟩ a0).setCell ⟨g, 1, none⟩ a1).setCell ⟨g, 2, none⟩ a2).setCell ⟨g, 3, none⟩ a3).setCell ⟨g, 4, none⟩ a4).setCell ⟨g, 5, none⟩ a5) := bel1 (bel1 (bel1 (bel1 (bel1 (bel1 hb hg) hg) hg) hg) hg) hg
theorem bel3 {w W : World} {a1 a2 a3 : Value} (hb : Below w.heap.size w W) : Below w.heap.size w (((W.setCell ⟨w.heap.size, 1, none⟩ a1).setCell ⟨w.heap.size, 2, none⟩ a2).setCell ⟨w.heap.size, 3, none⟩ a3) := bel1 (bel1 (bel1 hb (Nat.le_refl _)) (Nat.le_refl _)) (Nat.le_refl _)
theorem bel45 {w W : World} {a4 a5 : Value} (hb : Below w.heap.size w W) : Below w.heap.size w ((W.setCell ⟨w.heap.size, 4, none⟩ a4).setCell ⟨w.heap.size, 5, none⟩ a5) := bel1 (bel1 hb (Nat.le_refl _)) (Nat.le_refl _)
theorem le2 (n : Nat) : n ≤ n + 1 + 1 := Nat.le_add_right n 2
theorem own_offH {w : World} {B n g : Nat} {v : Value} {e : TypeId} {size : Nat} {xs : List Value} (h : OwnO w B e size v n xs) (hg : g < B) : v.ownBlock = none ∨ v.ownBlock ≠ some g := by
  cases hv : v.ownBlock with
  | none => exact .inl rfl
  | some k =>
    refine .inr fun e => ?_
    have := (h.lt k hv).1
    cases e
    omega
theorem own6 {w : World} {B n g : Nat} {v : Value} {e : TypeId} {size : Nat} {xs : List Value} {a0 a1 a2 a3 a4 a5 : Value} (h : OwnO w B e size v n xs) (hg : g < B) :
    OwnO ((((((w.setCell ⟨g, 0, none⟩ a0).setCell ⟨g, 1, none⟩ a1).setCell ⟨g, 2, none⟩ a2).setCell ⟨g, 3, none⟩ a3).setCell ⟨g, 4, none⟩ a4).setCell ⟨g, 5, none⟩ a5) B e size v n xs := by
  have hq := own_offH h hg
  exact (((((h.far hq 0 a0).far hq 1 a1).far hq 2 a2).far hq 3 a3).far hq 4 a4).far hq 5 a5
theorem own1H {w : World} {B n g i : Nat} {v : Value} {e : TypeId} {size : Nat} {xs : List Value} {a : Value} (h : OwnO w B e size v n xs) (hg : g < B) : OwnO (w.setCell ⟨g, i, none⟩ a) B e size v n xs := h.far (own_offH h hg) i a
theorem RdK.preS {w : World} {K : Nat → Prop} {A : Option Addr} {n k : Nat} {l : List (List UInt8)} (h : RdK w K 1 A n (strCells l)) (hk : k ≤ n) : RdK w K 1 A k (strCells (l.take k)) := ⟨h.rd.pre hk, h.off, h.lt⟩
theorem rc_nil (W : World) (K : Nat → Prop) (s : Ps) (h1 : s.back = []) (h2 : s.onward = []) : RcAt W K ⟨s, none, 0, none, 0⟩ := by
  refine ⟨?_, ?_, ?_, ?_⟩
  · show RdK W K 1 none s.back.length (strCells s.back)
    rw [h1]; exact RdK.nil_ W K 1
  · show RdK W K 1 none s.onward.length (strCells s.onward)
    rw [h2]; exact RdK.nil_ W K 1
  · show s.back.length ≤ 0 ∧ _
    rw [h1]; exact ⟨Nat.le_refl _, Nat.zero_le _⟩
  · show s.onward.length ≤ 0 ∧ _
    rw [h2]; exact ⟨Nat.le_refl _, Nat.zero_le _⟩
set_option maxRecDepth 100000 in
set_option maxHeartbeats 4000000 in
theorem refPg5 (r : Rc) (x : Dd) (K : Nat → Prop) (w : World) (hf : RfOk w K r x) (hkk : x.kind = 5) : Calls Tryz.prog 37 #[r.val, x.val, .func (.func 10) #[] #[]] w (PgAns w K r x) := by
  have hq := pg5 (s := r.s) hkk
  obtain ⟨hr, hK, hok, hre, hxm, htb, ⟨mx, hmx⟩, hmg⟩ := hf
  have HR := Lib.hid hr
  have HOK := Lib.hid hok
  have HRE : Hid (∀ W, Below w.heap.size w W → Rd W w.heap.size 3 x.A x.m (edCells x.l)) := fun W hW => hre.below hW
  have HTB : Hid (∀ W, Below w.heap.size w W → TabI W) := fun W hW => tabI_stays htb hW
  have HMX : Hid (∀ W, Below w.heap.size w W → W.cell? ⟨0, 0, none⟩ = some (.int .i64 mx)) := fun W hb => (hb.cell (p := ⟨0, 0, none⟩) hmg).trans hmx
  have HKK := Lib.hid hK
  have HP3 := Lib.hid (p3_new w r.arr x)
  have hbA : Below w.heap.size w (((w.alloc (.cells r.arr 82)).alloc (.cells x.cells 32)).alloc (.cells zPage 82)) := (by repeat (first | exact Below.refl _ _ | assumption | refine Below.alloc ?_ (by first | exact Nat.le_refl _ | assumption | omega | (simp <;> omega)) _ | refine Below.setCell ?_ (by first | exact Nat.le_refl _ | assumption | omega | (simp <;> omega)) _ | refine Below.drew ?_ | refine below_drewN ?_ _))
  have HBA := Lib.hid hbA
  unfold PgAns
  obtain ⟨wA, hwA⟩ : ∃ wA, wA = (((w.alloc (.cells r.arr 82)).alloc (.cells x.cells 32)).alloc (.cells zPage 82)) := ⟨_, rfl⟩
  rw [← hwA] at HP3 HBA
  have HWA := Lib.hid hwA
  clear hwA
  clear hr hK hok hre htb hmx hbA
  rw [hq.1, hq.2]
  clear hq
  have HSV := Lib.hid (fun W => rlSave_any r.s.tx r.s.d r.s.sf W)
  obtain ⟨xk, xn, xnm, xt, xA, xm, xc, xl⟩ := x
  obtain ⟨⟨rn, rtx, rd, rsf, rb, ro⟩, rAb, rcb, rAo, rco⟩ := r
  unfold Dd.val Rc.val
  unfold Rc.arr Dd.cells at HWA
  unfold Rc.arr at HP3
  simp only at *
  subst hkk
  obtain ⟨nb, hnb⟩ : ∃ nb, rb.length = nb := ⟨_, rfl⟩
  obtain ⟨no, hno⟩ : ∃ no, ro.length = no := ⟨_, rfl⟩
  rw [hnb, hno] at HP3 HWA ⊢
  have HNB := Lib.hid hnb
  have HNO := Lib.hid hno
  clear hnb hno
  go_enter Tryz.func37, Tryz.ntmps37
  go_wp2_with fail
  rw [← HWA.out]
  refine (HSV.out wA).mono ?_
  rintro e w1 ⟨rfl, hb1⟩
  have HB1 := Lib.hid (HBA.out.trans (hb1.mono HBA.out.size))
  have HP := Lib.hid (HP3.out.below hb1)
  clear hb1
  have e0 := HP.out.p.cell 0; have e1 := HP.out.p.cell 1; have e2 := HP.out.p.cell 2; have e3 := HP.out.p.cell 3; have e4 := HP.out.p.cell 4; have e5 := HP.out.p.cell 5
  have ef0 := HP.out.p.frozen 0; have ef1 := HP.out.p.frozen 1; have ef2 := HP.out.p.frozen 2; have ef3 := HP.out.p.frozen 3; have ef4 := HP.out.p.frozen 4; have ef5 := HP.out.p.frozen 5
  have d1 : w1.cell? ⟨w.heap.size + 1, 1, none⟩ = some (.int .i64 xn) := HP.out.d.cell 1
  have d3 : w1.cell? ⟨w.heap.size + 1, 3, none⟩ = some (.string xt) := HP.out.d.cell 3
  have d4 : w1.cell? ⟨w.heap.size + 1, 4, none⟩ = some (.slice xA xm xc) := HP.out.d.cell 4
  have z0 : w1.cell? ⟨w.heap.size + 1 + 1, 0, none⟩ = some (.string ⟨#[]⟩) := HP.out.z.cell 0
  have z1 : w1.cell? ⟨w.heap.size + 1 + 1, 1, none⟩ = some (.string ⟨#[]⟩) := HP.out.z.cell 1
  have z2 : w1.cell? ⟨w.heap.size + 1 + 1, 2, none⟩ = some (.string ⟨#[]⟩) := HP.out.z.cell 2
  have z3 : w1.cell? ⟨w.heap.size + 1 + 1, 3, none⟩ = some (.int .i64 0) := HP.out.z.cell 3
  have z4 : w1.cell? ⟨w.heap.size + 1 + 1, 4, none⟩ = some (.slice none 0 0) := HP.out.z.cell 4
  have z5 : w1.cell? ⟨w.heap.size + 1 + 1, 5, none⟩ = some (.slice none 0 0) := HP.out.z.cell 5
  have zf0 := HP.out.z.frozen 0; have zf1 := HP.out.z.frozen 1; have zf2 := HP.out.z.frozen 2; have zf3 := HP.out.z.frozen 3; have zf4 := HP.out.z.frozen 4; have zf5 := HP.out.z.frozen 5
  go_wp2_with fail
  (apply bodyPost_ret; (simp [results, Tryz.results37, go_sem, z0, z1, z2, z3, z4, z5]; rfl); rfl)
  have HAT : ∀ W, Below w.heap.size w W → RcAt W K ⟨svP ⟨rn, rtx, rd, rsf, rb, ro⟩, rAb, rcb, rAo, rco⟩ := fun W hW => ⟨(HR.out.below hW).b, (HR.out.below hW).o, (HR.out.below hW).cb, (HR.out.below hW).co⟩
  have hB1 := HB1.out
  refine ⟨⟨svP ⟨rn, rtx, rd, rsf, rb, ro⟩, rAb, rcb, rAo, rco⟩, ?_, rfl, ?_⟩
  · rw [← HNB.out, ← HNO.out]
    rfl
  · exact fin_rc (bel6 (bel3 hB1) (le2 _)) HAT
end Go.Proofs.YtplgghjdidmcfaaGreatDoor
namespace Go.Proofs.YtplgghjdidmcfaaGreatDoor
open Go.RowKit
set_option maxRecDepth 100000 in
set_option maxHeartbeats 4000000 in
theorem refPg6 (r : Rc) (x : Dd) (K : Nat → Prop) (w : World) (hf : RfOk w K r x) (hkk : x.kind = 6) : Calls Tryz.prog 37 #[r.val, x.val, .func (.func 10) #[] #[]] w (PgAns w K r x) := by
  have hq := pg6 (s := r.s) hkk
  obtain ⟨hr, hK, hok, hre, hxm, htb, ⟨mx, hmx⟩, hmg⟩ := hf
  have HR := Lib.hid hr
  have HOK := Lib.hid hok
  have HRE : Hid (∀ W, Below w.heap.size w W → Rd W w.heap.size 3 x.A x.m (edCells x.l)) := fun W hW => hre.below hW
  have HTB : Hid (∀ W, Below w.heap.size w W → TabI W) := fun W hW => tabI_stays htb hW
  have HMX : Hid (∀ W, Below w.heap.size w W → W.cell? ⟨0, 0, none⟩ = some (.int .i64 mx)) := fun W hb => (hb.cell (p := ⟨0, 0, none⟩) hmg).trans hmx
  have HKK := Lib.hid hK
  have HP3 := Lib.hid (p3_new w r.arr x)
  have hbA : Below w.heap.size w (((w.alloc (.cells r.arr 82)).alloc (.cells x.cells 32)).alloc (.cells zPage 82)) := (by repeat (first | exact Below.refl _ _ | assumption | refine Below.alloc ?_ (by first | exact Nat.le_refl _ | assumption | omega | (simp <;> omega)) _ | refine Below.setCell ?_ (by first | exact Nat.le_refl _ | assumption | omega | (simp <;> omega)) _ | refine Below.drew ?_ | refine below_drewN ?_ _))
  have HBA := Lib.hid hbA
  unfold PgAns
  obtain ⟨wA, hwA⟩ : ∃ wA, wA = (((w.alloc (.cells r.arr 82)).alloc (.cells x.cells 32)).alloc (.cells zPage 82)) := ⟨_, rfl⟩
  rw [← hwA] at HP3 HBA
  have HWA := Lib.hid hwA
  clear hwA
  clear hr hK hok hre htb hmx hbA
  rw [hq.1, hq.2]
  clear hq
  have HLP := Lib.hid (fun W (hW : Below w.heap.size w W) => rlPack_any r.s.tx r.s.d r.s.sf x.num mx W HOK.out.lf (HMX.out W hW) (Nat.lt_of_lt_of_le hmg hW.size))
  have HTS : Hid (¬ (pkE x.num = 0 ∧ x.num ≠ 0) → pkT r.s.tx r.s.d r.s.sf x.num = r.s.tx ∧ paP r.s x.num = { r.s with d := pkD r.s.tx r.s.d r.s.sf x.num, sf := pkF r.s.tx r.s.d r.s.sf x.num }) := fun h => ⟨pkT_same h, by unfold paP; rw [if_neg h]⟩
  have HTN : Hid (pkE x.num = 0 ∧ x.num ≠ 0 → paP r.s x.num = ⟨r.s.nm, pkT r.s.tx r.s.d r.s.sf x.num, pkD r.s.tx r.s.d r.s.sf x.num, pkF r.s.tx r.s.d r.s.sf x.num, [], []⟩) := fun h => by unfold paP; rw [if_pos h]
  obtain ⟨xk, xn, xnm, xt, xA, xm, xc, xl⟩ := x
  obtain ⟨⟨rn, rtx, rd, rsf, rb, ro⟩, rAb, rcb, rAo, rco⟩ := r
  unfold Dd.val Rc.val
  unfold Rc.arr Dd.cells at HWA
  unfold Rc.arr at HP3
  simp only at *
  subst hkk
  obtain ⟨nb, hnb⟩ : ∃ nb, rb.length = nb := ⟨_, rfl⟩
  obtain ⟨no, hno⟩ : ∃ no, ro.length = no := ⟨_, rfl⟩
  rw [hnb, hno] at HP3 HWA ⊢
  have HNB := Lib.hid hnb
  have HNO := Lib.hid hno
  clear hnb hno
  generalize pkT rtx rd rsf xn = tx' at *
  generalize pkD rtx rd rsf xn = d' at *
  generalize pkF rtx rd rsf xn = sf' at *
  by_cases hz : pkE xn = 0 ∧ xn ≠ 0
  · have g1 : (xn != 0) = true := by rw [bne_iff_ne]; exact hz.2
    rw [hz.1] at HLP ⊢
    rw [HTN.out hz]
    clear hz HTS HTN
    go_enter Tryz.func37, Tryz.ntmps37
    go_wp2_with fail
    rw [← HWA.out]
    refine (HLP.out wA HBA.out).mono ?_
    rintro e w1 ⟨rfl, hb1⟩
    have HB1 := Lib.hid (HBA.out.trans (hb1.mono HBA.out.size))
    have HP := Lib.hid (HP3.out.below hb1)
    clear hb1
    have e0 := HP.out.p.cell 0; have e1 := HP.out.p.cell 1; have e2 := HP.out.p.cell 2; have e3 := HP.out.p.cell 3; have e4 := HP.out.p.cell 4; have e5 := HP.out.p.cell 5
    have ef0 := HP.out.p.frozen 0; have ef1 := HP.out.p.frozen 1; have ef2 := HP.out.p.frozen 2; have ef3 := HP.out.p.frozen 3; have ef4 := HP.out.p.frozen 4; have ef5 := HP.out.p.frozen 5
    have d1 : w1.cell? ⟨w.heap.size + 1, 1, none⟩ = some (.int .i64 xn) := HP.out.d.cell 1
    have d3 : w1.cell? ⟨w.heap.size + 1, 3, none⟩ = some (.string xt) := HP.out.d.cell 3
    have d4 : w1.cell? ⟨w.heap.size + 1, 4, none⟩ = some (.slice xA xm xc) := HP.out.d.cell 4
    have z0 : w1.cell? ⟨w.heap.size + 1 + 1, 0, none⟩ = some (.string ⟨#[]⟩) := HP.out.z.cell 0
    have z1 : w1.cell? ⟨w.heap.size + 1 + 1, 1, none⟩ = some (.string ⟨#[]⟩) := HP.out.z.cell 1
    have z2 : w1.cell? ⟨w.heap.size + 1 + 1, 2, none⟩ = some (.string ⟨#[]⟩) := HP.out.z.cell 2
    have z3 : w1.cell? ⟨w.heap.size + 1 + 1, 3, none⟩ = some (.int .i64 0) := HP.out.z.cell 3
    have z4 : w1.cell? ⟨w.heap.size + 1 + 1, 4, none⟩ = some (.slice none 0 0) := HP.out.z.cell 4
    have z5 : w1.cell? ⟨w.heap.size + 1 + 1, 5, none⟩ = some (.slice none 0 0) := HP.out.z.cell 5
    have zf0 := HP.out.z.frozen 0; have zf1 := HP.out.z.frozen 1; have zf2 := HP.out.z.frozen 2; have zf3 := HP.out.z.frozen 3; have zf4 := HP.out.z.frozen 4; have zf5 := HP.out.z.frozen 5
    go_wp2_with fail
    (apply bodyPost_ret; (simp [results, Tryz.results37, go_sem, z0, z1, z2, z3, z4, z5]; rfl); rfl)
    have HAT : ∀ W, Below w.heap.size w W → RcAt W K ⟨⟨rn, tx', d', sf', [], []⟩, none, 0, none, 0⟩ := fun W hW => rc_nil W K _ rfl rfl
    have hB1 := HB1.out
    refine ⟨⟨⟨rn, tx', d', sf', [], []⟩, none, 0, none, 0⟩, rfl, rfl, fin_rc (bel6 (bel45 (bel3 hB1)) (le2 _)) HAT⟩
  · obtain ⟨h1, h2⟩ := HTS.out hz
    subst h1
    rw [h2]
    have hgd : (pkE xn == 0) = true ∧ (xn != 0) = false ∨ (pkE xn == 0) = false := by
      by_cases h3 : pkE xn = 0
      · exact .inl ⟨by rw [beq_iff_eq]; exact h3, by rw [bne_eq_false_iff_eq]; exact Decidable.not_not.1 fun h4 => hz ⟨h3, h4⟩⟩
      · exact .inr (by rw [beq_eq_false_iff_ne]; exact h3)
    clear hz HTS HTN h2
    generalize pkE xn = z at *
    have HAT : Hid (∀ W, Below w.heap.size w W → RcAt W K ⟨⟨rn, tx', d', sf', rb, ro⟩, rAb, rcb, rAo, rco⟩) := fun W hW => ⟨(HR.out.below hW).b, (HR.out.below hW).o, (HR.out.below hW).cb, (HR.out.below hW).co⟩
    rcases hgd with ⟨g1, g2⟩ | g1
    · go_enter Tryz.func37, Tryz.ntmps37
      go_wp2_with fail
      rw [← HWA.out]
      refine (HLP.out wA HBA.out).mono ?_
      rintro e w1 ⟨rfl, hb1⟩
      have HB1 := Lib.hid (HBA.out.trans (hb1.mono HBA.out.size))
      have HP := Lib.hid (HP3.out.below hb1)
      clear hb1
      have e0 := HP.out.p.cell 0; have e1 := HP.out.p.cell 1; have e2 := HP.out.p.cell 2; have e3 := HP.out.p.cell 3; have e4 := HP.out.p.cell 4; have e5 := HP.out.p.cell 5
      have ef0 := HP.out.p.frozen 0; have ef1 := HP.out.p.frozen 1; have ef2 := HP.out.p.frozen 2; have ef3 := HP.out.p.frozen 3; have ef4 := HP.out.p.frozen 4; have ef5 := HP.out.p.frozen 5
      have d1 : w1.cell? ⟨w.heap.size + 1, 1, none⟩ = some (.int .i64 xn) := HP.out.d.cell 1
      have d3 : w1.cell? ⟨w.heap.size + 1, 3, none⟩ = some (.string xt) := HP.out.d.cell 3
      have d4 : w1.cell? ⟨w.heap.size + 1, 4, none⟩ = some (.slice xA xm xc) := HP.out.d.cell 4
      have z0 : w1.cell? ⟨w.heap.size + 1 + 1, 0, none⟩ = some (.string ⟨#[]⟩) := HP.out.z.cell 0
      have z1 : w1.cell? ⟨w.heap.size + 1 + 1, 1, none⟩ = some (.string ⟨#[]⟩) := HP.out.z.cell 1
      have z2 : w1.cell? ⟨w.heap.size + 1 + 1, 2, none⟩ = some (.string ⟨#[]⟩) := HP.out.z.cell 2
      have z3 : w1.cell? ⟨w.heap.size + 1 + 1, 3, none⟩ = some (.int .i64 0) := HP.out.z.cell 3
      have z4 : w1.cell? ⟨w.heap.size + 1 + 1, 4, none⟩ = some (.slice none 0 0) := HP.out.z.cell 4
      have z5 : w1.cell? ⟨w.heap.size + 1 + 1, 5, none⟩ = some (.slice none 0 0) := HP.out.z.cell 5
      have zf0 := HP.out.z.frozen 0; have zf1 := HP.out.z.frozen 1; have zf2 := HP.out.z.frozen 2; have zf3 := HP.out.z.frozen 3; have zf4 := HP.out.z.frozen 4; have zf5 := HP.out.z.frozen 5
      go_wp2_with fail
      (apply bodyPost_ret; (simp [results, Tryz.results37, go_sem, z0, z1, z2, z3, z4, z5]; rfl); rfl)
      have hB1 := HB1.out
      refine ⟨⟨⟨rn, tx', d', sf', rb, ro⟩, rAb, rcb, rAo, rco⟩, ?_, rfl, fin_rc (bel6 (bel3 hB1) (le2 _)) HAT.out⟩
      rw [← HNB.out, ← HNO.out]
    · go_enter Tryz.func37, Tryz.ntmps37
      go_wp2_with fail
      rw [← HWA.out]
      refine (HLP.out wA HBA.out).mono ?_
      rintro e w1 ⟨rfl, hb1⟩
      have HB1 := Lib.hid (HBA.out.trans (hb1.mono HBA.out.size))
      have HP := Lib.hid (HP3.out.below hb1)
      clear hb1
      have e0 := HP.out.p.cell 0; have e1 := HP.out.p.cell 1; have e2 := HP.out.p.cell 2; have e3 := HP.out.p.cell 3; have e4 := HP.out.p.cell 4; have e5 := HP.out.p.cell 5
      have ef0 := HP.out.p.frozen 0; have ef1 := HP.out.p.frozen 1; have ef2 := HP.out.p.frozen 2; have ef3 := HP.out.p.frozen 3; have ef4 := HP.out.p.frozen 4; have ef5 := HP.out.p.frozen 5
      have d1 : w1.cell? ⟨w.heap.size + 1, 1, none⟩ = some (.int .i64 xn) := HP.out.d.cell 1
      have d3 : w1.cell? ⟨w.heap.size + 1, 3, none⟩ = some (.string xt) := HP.out.d.cell 3
      have d4 : w1.cell? ⟨w.heap.size + 1, 4, none⟩ = some (.slice xA xm xc) := HP.out.d.cell 4
      have z0 : w1.cell? ⟨w.heap.size + 1 + 1, 0, none⟩ = some (.string ⟨#[]⟩) := HP.out.z.cell 0
      have z1 : w1.cell? ⟨w.heap.size + 1 + 1, 1, none⟩ = some (.string ⟨#[]⟩) := HP.out.z.cell 1
      have z2 : w1.cell? ⟨w.heap.size + 1 + 1, 2, none⟩ = some (.string ⟨#[]⟩) := HP.out.z.cell 2
      have z3 : w1.cell? ⟨w.heap.size + 1 + 1, 3, none⟩ = some (.int .i64 0) := HP.out.z.cell 3
      have z4 : w1.cell? ⟨w.heap.size + 1 + 1, 4, none⟩ = some (.slice none 0 0) := HP.out.z.cell 4
      have z5 : w1.cell? ⟨w.heap.size + 1 + 1, 5, none⟩ = some (.slice none 0 0) := HP.out.z.cell 5
      have zf0 := HP.out.z.frozen 0; have zf1 := HP.out.z.frozen 1; have zf2 := HP.out.z.frozen 2; have zf3 := HP.out.z.frozen 3; have zf4 := HP.out.z.frozen 4; have zf5 := HP.out.z.frozen 5
      go_wp2_with fail
      (apply bodyPost_ret; (simp [results, Tryz.results37, go_sem, z0, z1, z2, z3, z4, z5]; rfl); rfl)
      have hB1 := HB1.out
      refine ⟨⟨⟨rn, tx', d', sf', rb, ro⟩, rAb, rcb, rAo, rco⟩, ?_, rfl, fin_rc (bel6 (bel3 hB1) (le2 _)) HAT.out⟩
      rw [← HNB.out, ← HNO.out]
set_option maxRecDepth 100000 in
set_option maxHeartbeats 4000000 in
theorem refPg7 (r : Rc) (x : Dd) (K : Nat → Prop) (w : World) (hf : RfOk w K r x) (hkk : x.kind = 7) : Calls Tryz.prog 37 #[r.val, x.val, .func (.func 10) #[] #[]] w (PgAns w K r x) := by
  have hq := pg7 (s := r.s) hkk
  obtain ⟨hr, hK, hok, hre, hxm, htb, ⟨mx, hmx⟩, hmg⟩ := hf
  have HR := Lib.hid hr
  have HOK := Lib.hid hok
  have HRE : Hid (∀ W, Below w.heap.size w W → Rd W w.heap.size 3 x.A x.m (edCells x.l)) := fun W hW => hre.below hW
  have HTB : Hid (∀ W, Below w.heap.size w W → TabI W) := fun W hW => tabI_stays htb hW
  have HMX : Hid (∀ W, Below w.heap.size w W → W.cell? ⟨0, 0, none⟩ = some (.int .i64 mx)) := fun W hb => (hb.cell (p := ⟨0, 0, none⟩) hmg).trans hmx
  have HKK := Lib.hid hK
  have HP3 := Lib.hid (p3_new w r.arr x)
  have hbA : Below w.heap.size w (((w.alloc (.cells r.arr 82)).alloc (.cells x.cells 32)).alloc (.cells zPage 82)) := (by repeat (first | exact Below.refl _ _ | assumption | refine Below.alloc ?_ (by first | exact Nat.le_refl _ | assumption | omega | (simp <;> omega)) _ | refine Below.setCell ?_ (by first | exact Nat.le_refl _ | assumption | omega | (simp <;> omega)) _ | refine Below.drew ?_ | refine below_drewN ?_ _))
  have HBA := Lib.hid hbA
  unfold PgAns
  obtain ⟨wA, hwA⟩ : ∃ wA, wA = (((w.alloc (.cells r.arr 82)).alloc (.cells x.cells 32)).alloc (.cells zPage 82)) := ⟨_, rfl⟩
  rw [← hwA] at HP3 HBA
  have HWA := Lib.hid hwA
  clear hwA
  clear hr hK hok hre htb hmx hbA
  rw [hq.1, hq.2]
  clear hq
  have HLP := Lib.hid (fun W (hW : Below w.heap.size w W) => rlCrash_any r.s.tx r.s.d r.s.sf x.num mx W HOK.out.lf (HMX.out W hW) (Nat.lt_of_lt_of_le hmg hW.size))
  have HTS : Hid (craErr r.s.d r.s.sf x.num ≠ 0 → cfLT r.s.tx r.s.d r.s.sf x.num = r.s.tx ∧ craD r.s.d r.s.sf x.num = r.s.d ∧ craF r.s.d r.s.sf x.num = r.s.sf ∧ crP r.s x.num = r.s) := fun h => ⟨by unfold cfLT; rw [if_neg h], (cra_same h).1, (cra_same h).2, by unfold crP crPE; rw [if_neg h]⟩
  have HTN : Hid (craErr r.s.d r.s.sf x.num = 0 → crP r.s x.num = ⟨r.s.nm, cfLT r.s.tx r.s.d r.s.sf x.num, craD r.s.d r.s.sf x.num, craF r.s.d r.s.sf x.num, [], []⟩) := fun h => by unfold crP crPE; rw [if_pos h]
  unfold crPE
  obtain ⟨xk, xn, xnm, xt, xA, xm, xc, xl⟩ := x
  obtain ⟨⟨rn, rtx, rd, rsf, rb, ro⟩, rAb, rcb, rAo, rco⟩ := r
  unfold Dd.val Rc.val
  unfold Rc.arr Dd.cells at HWA
  unfold Rc.arr at HP3
  simp only at *
  subst hkk
  obtain ⟨nb, hnb⟩ : ∃ nb, rb.length = nb := ⟨_, rfl⟩
  obtain ⟨no, hno⟩ : ∃ no, ro.length = no := ⟨_, rfl⟩
  rw [hnb, hno] at HP3 HWA ⊢
  have HNB := Lib.hid hnb
  have HNO := Lib.hid hno
  clear hnb hno
  by_cases hz : craErr rd rsf xn = 0
  · rw [hz] at HLP ⊢
    rw [HTN.out hz]
    clear hz HTS HTN
    generalize cfLT rtx rd rsf xn = tx' at *
    generalize craD rd rsf xn = d' at *
    generalize craF rd rsf xn = sf' at *
    go_enter Tryz.func37, Tryz.ntmps37
    go_wp2_with fail
    rw [← HWA.out]
    refine (HLP.out wA HBA.out).mono ?_
    rintro e w1 ⟨rfl, hb1⟩
    have HB1 := Lib.hid (HBA.out.trans (hb1.mono HBA.out.size))
    have HP := Lib.hid (HP3.out.below hb1)
    clear hb1
    have e0 := HP.out.p.cell 0; have e1 := HP.out.p.cell 1; have e2 := HP.out.p.cell 2; have e3 := HP.out.p.cell 3; have e4 := HP.out.p.cell 4; have e5 := HP.out.p.cell 5
    have ef0 := HP.out.p.frozen 0; have ef1 := HP.out.p.frozen 1; have ef2 := HP.out.p.frozen 2; have ef3 := HP.out.p.frozen 3; have ef4 := HP.out.p.frozen 4; have ef5 := HP.out.p.frozen 5
    have d1 : w1.cell? ⟨w.heap.size + 1, 1, none⟩ = some (.int .i64 xn) := HP.out.d.cell 1
    have d3 : w1.cell? ⟨w.heap.size + 1, 3, none⟩ = some (.string xt) := HP.out.d.cell 3
    have d4 : w1.cell? ⟨w.heap.size + 1, 4, none⟩ = some (.slice xA xm xc) := HP.out.d.cell 4
    have z0 : w1.cell? ⟨w.heap.size + 1 + 1, 0, none⟩ = some (.string ⟨#[]⟩) := HP.out.z.cell 0
    have z1 : w1.cell? ⟨w.heap.size + 1 + 1, 1, none⟩ = some (.string ⟨#[]⟩) := HP.out.z.cell 1
    have z2 : w1.cell? ⟨w.heap.size + 1 + 1, 2, none⟩ = some (.string ⟨#[]⟩) := HP.out.z.cell 2
    have z3 : w1.cell? ⟨w.heap.size + 1 + 1, 3, none⟩ = some (.int .i64 0) := HP.out.z.cell 3
    have z4 : w1.cell? ⟨w.heap.size + 1 + 1, 4, none⟩ = some (.slice none 0 0) := HP.out.z.cell 4
    have z5 : w1.cell? ⟨w.heap.size + 1 + 1, 5, none⟩ = some (.slice none 0 0) := HP.out.z.cell 5
    have zf0 := HP.out.z.frozen 0; have zf1 := HP.out.z.frozen 1; have zf2 := HP.out.z.frozen 2; have zf3 := HP.out.z.frozen 3; have zf4 := HP.out.z.frozen 4; have zf5 := HP.out.z.frozen 5
    go_wp2_with fail
    (apply bodyPost_ret; (simp [results, Tryz.results37, go_sem, z0, z1, z2, z3, z4, z5]; rfl); rfl)
    have HAT : ∀ W, Below w.heap.size w W → RcAt W K ⟨⟨rn, tx', d', sf', [], []⟩, none, 0, none, 0⟩ := fun W hW => rc_nil W K _ rfl rfl
    have hB1 := HB1.out
    refine ⟨⟨⟨rn, tx', d', sf', [], []⟩, none, 0, none, 0⟩, rfl, rfl, fin_rc (bel6 (bel45 (bel3 hB1)) (le2 _)) HAT⟩
  · obtain ⟨h1, h2, h3, h4⟩ := HTS.out hz
    rw [h1, h2, h3] at HLP
    rw [h4]
    have g1 : (craErr rd rsf xn == 0) = false := by rw [beq_eq_false_iff_ne]; exact hz
    clear hz HTS HTN h1 h2 h3 h4
    generalize craErr rd rsf xn = z at *
    go_enter Tryz.func37, Tryz.ntmps37
    go_wp2_with fail
    rw [← HWA.out]
    refine (HLP.out wA HBA.out).mono ?_
    rintro e w1 ⟨rfl, hb1⟩
    have HB1 := Lib.hid (HBA.out.trans (hb1.mono HBA.out.size))
    have HP := Lib.hid (HP3.out.below hb1)
    clear hb1
    have e0 := HP.out.p.cell 0; have e1 := HP.out.p.cell 1; have e2 := HP.out.p.cell 2; have e3 := HP.out.p.cell 3; have e4 := HP.out.p.cell 4; have e5 := HP.out.p.cell 5
    have ef0 := HP.out.p.frozen 0; have ef1 := HP.out.p.frozen 1; have ef2 := HP.out.p.frozen 2; have ef3 := HP.out.p.frozen 3; have ef4 := HP.out.p.frozen 4; have ef5 := HP.out.p.frozen 5
    have d1 : w1.cell? ⟨w.heap.size + 1, 1, none⟩ = some (.int .i64 xn) := HP.out.d.cell 1
    have d3 : w1.cell? ⟨w.heap.size + 1, 3, none⟩ = some (.string xt) := HP.out.d.cell 3
    have d4 : w1.cell? ⟨w.heap.size + 1, 4, none⟩ = some (.slice xA xm xc) := HP.out.d.cell 4
    have z0 : w1.cell? ⟨w.heap.size + 1 + 1, 0, none⟩ = some (.string ⟨#[]⟩) := HP.out.z.cell 0
    have z1 : w1.cell? ⟨w.heap.size + 1 + 1, 1, none⟩ = some (.string ⟨#[]⟩) := HP.out.z.cell 1
    have z2 : w1.cell? ⟨w.heap.size + 1 + 1, 2, none⟩ = some (.string ⟨#[]⟩) := HP.out.z.cell 2
    have z3 : w1.cell? ⟨w.heap.size + 1 + 1, 3, none⟩ = some (.int .i64 0) := HP.out.z.cell 3
    have z4 : w1.cell? ⟨w.heap.size + 1 + 1, 4, none⟩ = some (.slice none 0 0) := HP.out.z.cell 4
    have z5 : w1.cell? ⟨w.heap.size + 1 + 1, 5, none⟩ = some (.slice none 0 0) := HP.out.z.cell 5
    have zf0 := HP.out.z.frozen 0; have zf1 := HP.out.z.frozen 1; have zf2 := HP.out.z.frozen 2; have zf3 := HP.out.z.frozen 3; have zf4 := HP.out.z.frozen 4; have zf5 := HP.out.z.frozen 5
    go_wp2_with fail
    (apply bodyPost_ret; (simp [results, Tryz.results37, go_sem, z0, z1, z2, z3, z4, z5]; rfl); rfl)
    have hB1 := HB1.out
    refine ⟨⟨⟨rn, rtx, rd, rsf, rb, ro⟩, rAb, rcb, rAo, rco⟩, ?_, rfl, fin_rc (bel6 (bel3 hB1) (le2 _)) (fun W hW => HR.out.below hW)⟩
    rw [← HNB.out, ← HNO.out]
end Go.Proofs.YtplgghjdidmcfaaGreatDoor
namespace Go.Proofs.YtplgghjdidmcfaaGreatDoor
open Go.RowKit
set_option maxRecDepth 100000 in
set_option maxHeartbeats 8000000 in
theorem refPg3 (r : Rc) (x : Dd) (K : Nat → Prop) (w : World) (hf : RfOk w K r x) (hkk : x.kind = 3) : Calls Tryz.prog 37 #[r.val, x.val, .func (.func 10) #[] #[]] w (PgAns w K r x) := by
  obtain ⟨i0, hi0, hz0, hz1, hz2⟩ := info_parts info_st
  have hq := pg3 (s := r.s) hkk
  obtain ⟨hr, hK, hok, hre, hxm, htb, ⟨mx, hmx⟩, hmg⟩ := hf
  have HR := Lib.hid hr
  have HOK := Lib.hid hok
  have HRE : Hid (∀ W, Below w.heap.size w W → Rd W w.heap.size 3 x.A x.m (edCells x.l)) := fun W hW => hre.below hW
  have HTB : Hid (∀ W, Below w.heap.size w W → TabI W) := fun W hW => tabI_stays htb hW
  have HMX : Hid (∀ W, Below w.heap.size w W → W.cell? ⟨0, 0, none⟩ = some (.int .i64 mx)) := fun W hb => (hb.cell (p := ⟨0, 0, none⟩) hmg).trans hmx
  have HKK := Lib.hid hK
  have HP3 := Lib.hid (p3_new w r.arr x)
  have hbA : Below w.heap.size w (((w.alloc (.cells r.arr 82)).alloc (.cells x.cells 32)).alloc (.cells zPage 82)) := (by repeat (first | exact Below.refl _ _ | assumption | refine Below.alloc ?_ (by first | exact Nat.le_refl _ | assumption | omega | (simp <;> omega)) _ | refine Below.setCell ?_ (by first | exact Nat.le_refl _ | assumption | omega | (simp <;> omega)) _ | refine Below.drew ?_ | refine below_drewN ?_ _))
  have HBA := Lib.hid hbA
  unfold PgAns
  obtain ⟨wA, hwA⟩ : ∃ wA, wA = (((w.alloc (.cells r.arr 82)).alloc (.cells x.cells 32)).alloc (.cells zPage 82)) := ⟨_, rfl⟩
  rw [← hwA] at HP3 HBA
  have HWA := Lib.hid hwA
  clear hwA
  clear hr hK hok hre htb hmx hbA
  rw [hq.1, hq.2]
  clear hq
  have hn30 : r.s.back.length + r.s.onward.length ≤ 30 := HOK.out.es.n
  by_cases h0 : r.s.back.length = 0
  · have HE : Hid (unPE r.s = 4) := by unfold Hid unPE; rw [if_pos h0]
    have HPP : Hid (unP r.s = r.s) := by unfold Hid unP; rw [if_neg (by rw [HE.out]; decide)]
    rw [HE.out, HPP.out]
    obtain ⟨xk, xn, xnm, xt, xA, xm, xc, xl⟩ := x
    obtain ⟨⟨rn, rtx, rd, rsf, rb, ro⟩, rAb, rcb, rAo, rco⟩ := r
    unfold Dd.val Rc.val
    unfold Rc.arr Dd.cells at HWA
    unfold Rc.arr at HP3
    simp only at *
    subst hkk
    obtain ⟨nb, hnb⟩ : ∃ nb, rb.length = nb := ⟨_, rfl⟩
    obtain ⟨no, hno⟩ : ∃ no, ro.length = no := ⟨_, rfl⟩
    rw [hnb, hno] at HP3 HWA ⊢
    have HNB := Lib.hid hnb
    have HNO := Lib.hid hno
    clear hnb hno
    have h0' : nb = 0 := by rw [← HNB.out]; exact h0
    subst h0'
    go_enter Tryz.func37, Tryz.ntmps37
    go_wp2_with fail
    (apply bodyPost_ret; (simp [results, Tryz.results37, go_sem]; rfl); rfl)
    refine ⟨⟨⟨rn, rtx, rd, rsf, rb, ro⟩, rAb, rcb, rAo, rco⟩, ?_, rfl, fin_rc (by repeat (first | exact Below.refl _ _ | assumption | refine Below.alloc ?_ (by first | exact Nat.le_refl _ | assumption | omega | (simp <;> omega)) _ | refine Below.setCell ?_ (by first | exact Nat.le_refl _ | assumption | omega | (simp <;> omega)) _ | refine Below.drew ?_ | refine below_drewN ?_ _)) (fun W hW => HR.out.below hW)⟩
    rw [HNB.out, HNO.out]
  · have HE : Hid (unPE r.s = lsE r.s.d (unT r.s)) := by unfold Hid unPE; rw [if_neg h0]
    have HLS := Lib.hid (fun W => rlSet_any r.s.tx r.s.d (unT r.s) r.s.sf W HOK.out.lf.size)
    have HPN : Hid (lsE r.s.d (unT r.s) ≠ 0 → unP r.s = r.s ∧ lsT r.s.tx r.s.d (unT r.s) = r.s.tx ∧ lsD r.s.d (unT r.s) = r.s.d) := fun hz => ⟨by unfold unP; rw [if_neg (by rw [HE.out]; exact hz)], by unfold lsT; rw [if_neg hz], by unfold lsD; rw [if_neg hz]⟩
    have HPZ : Hid (lsE r.s.d (unT r.s) = 0 → unP r.s = { r.s with tx := unT r.s, d := lsD r.s.d (unT r.s), back := r.s.back.take (r.s.back.length - 1), onward := r.s.onward ++ [L r.s.tx] } ∧ lsT r.s.tx r.s.d (unT r.s) = unT r.s) := fun hz => ⟨by unfold unP; rw [if_pos (by rw [HE.out]; exact hz)], by unfold lsT; rw [if_pos hz]⟩
    have HTT : Hid (S (r.s.back.getD (r.s.back.length - 1) []) = unT r.s) := rfl
    rw [HE.out]
    clear HE
    obtain ⟨xk, xn, xnm, xt, xA, xm, xc, xl⟩ := x
    obtain ⟨⟨rn, rtx, rd, rsf, rb, ro⟩, rAb, rcb, rAo, rco⟩ := r
    unfold Dd.val Rc.val
    unfold Rc.arr Dd.cells at HWA
    unfold Rc.arr at HP3
    simp only at *
    subst hkk
    obtain ⟨nb, hnb⟩ : ∃ nb, rb.length = nb := ⟨_, rfl⟩
    obtain ⟨no, hno⟩ : ∃ no, ro.length = no := ⟨_, rfl⟩
    rw [hnb, hno] at HP3 HWA ⊢
    have HNB := Lib.hid hnb
    have HNO := Lib.hid hno
    clear hnb hno
    have hnz : ¬ nb = 0 := by rw [← HNB.out]; exact h0
    obtain ⟨m, hm⟩ : ∃ m, nb = m + 1 := ⟨nb - 1, by omega⟩
    rw [HNB.out, HNO.out] at hn30
    subst hm
    clear hnz h0
    have hTT := HTT.out
    rw [HNB.out, Nat.add_sub_cancel] at hTT
    obtain ⟨T, hT⟩ : ∃ T, unT ⟨rn, rtx, rd, rsf, rb, ro⟩ = T := ⟨_, rfl⟩
    rw [hT] at HLS HPN HPZ hTT ⊢
    rw [HNB.out, Nat.add_sub_cancel] at HPZ
    clear hT HTT
    have hrf := HR.out.b
    have hro := HR.out.o
    have hcc := HR.out.cb
    have hcd := HR.out.co
    simp only at hrf hro hcc hcd
    rw [HNB.out] at hrf
    rw [HNO.out] at hro
    rw [HNB.out] at hcc
    rw [HNO.out] at hcd
    have HRO : Hid (∀ W, Below w.heap.size w W → Rd W w.heap.size 1 rAo no (strCells ro)) := fun W hW => hro.rd.below hW
    have HCUT : Hid (∀ W, Below w.heap.size w W → RdK W K 1 rAb (rb.take m).length (strCells (rb.take m))) := fun W hW => by
      rw [List.length_take, HNB.out, Nat.min_eq_left (Nat.le_succ m)]
      exact (hrf.below hW).preS (Nat.le_succ m)
    have hmc : m + 1 ≤ rcb := hcc.1
    have hmx : rcb ≤ maxLen := hcc.2
    have HMX2 := Lib.hid hmx
    unfold maxLen at hmx
    obtain ⟨ad, eA, hab, hcl⟩ := str_cell (k := m) (hrf.rd.below HBA.out) (by omega)
    cases eA
    rw [hTT] at hcl
    clear hrf hro hcc hcd hTT
    have q1 : wA.cell? ⟨w.heap.size, 4, none⟩ = some (.slice (some ad) (m + 1) rcb) := HP3.out.p.cell 4
    have hgA : w.heap.size < wA.heap.size := HP3.out.p.lt
    go_enter Tryz.func37, Tryz.ntmps37
    go_wp2_with fail
    rw [← HWA.out]
    clear HWA
    obtain ⟨F1, hFd⟩ : ∃ F : World → Prop, F = fun w' => w'.cell? ⟨w.heap.size, 4, none⟩ = some (.slice (some ad) (m + 1) rcb) ∧ w'.cell? (ad.add m) = some (.string T) := ⟨_, rfl⟩
    have HF1 := Lib.hid hFd
    clear hFd
    have hcell10 : ∀ p' : Wof F1, p'.w.cell? ⟨w.heap.size, 4, none⟩ = some (.slice (some ad) (m + 1) rcb) := fun ⟨x, hx⟩ => by rw [HF1.out] at hx; exact hx.1
    have hcell11 : ∀ p' : Wof F1, p'.w.cell? (ad.add m) = some (.string T) := fun ⟨x, hx⟩ => by rw [HF1.out] at hx; exact hx.2
    refine wp_region_schedF [(0, true), (2, true), (3, true), (4, true), (5, true), (6, true), (7, true), (8, true), (1, false), (9, false), (10, true), (11, true), (12, true), (13, true), (14, false), (15, true)] F1 (by kernel_rfl) (by kernel_rfl) rfl (fun _ _ _ _ _ h => h) (by kernel_rfl) (by rw [HF1.out]; first | ((repeat' apply And.intro) <;> assumption) | trivial | (simp; done) | (simp [*]; done)) (by rw [HF1.out]; exact fun h => h) ?_
    intro hne1
    simp only [opersOf, List.getElem?_toArray, List.getElem?_cons_succ, List.getElem?_cons_zero]
    repeat (first | (refine wpSched_free rfl ?_; intro K hK; go_big_quiet_op; go_big_quiet_on) | (refine wpSched_wantS _ rfl rfl rfl ?_; intro K hK; go_big_quiet_op; go_big_quiet_on) | (refine wpSched_skipS _ rfl rfl rfl rfl ?_; simp only [Act.put, List.setIfInBounds_toArray, List.set_cons_zero, List.set_cons_succ]) | (refine wpSched_skipU _ rfl rfl rfl ?_; simp only [Act.put, List.setIfInBounds_toArray, List.set_cons_zero, List.set_cons_succ]))
    have HP := Lib.hid (HP3.out.below (Below.drew (Below.refl _ _)))
    have hbd : Below wA.heap.size wA wA.drew := Below.drew (Below.refl _ _)
    have e0 := HP.out.p.cell 0; have e1 := HP.out.p.cell 1; have e2 := HP.out.p.cell 2; have e3 := HP.out.p.cell 3; have e4 := HP.out.p.cell 4; have e5 := HP.out.p.cell 5
    have ef0 := HP.out.p.frozen 0; have ef1 := HP.out.p.frozen 1; have ef2 := HP.out.p.frozen 2; have ef3 := HP.out.p.frozen 3; have ef4 := HP.out.p.frozen 4; have ef5 := HP.out.p.frozen 5
    have d1 : wA.drew.cell? ⟨w.heap.size + 1, 1, none⟩ = some (.int .i64 xn) := HP.out.d.cell 1
    have d3 : wA.drew.cell? ⟨w.heap.size + 1, 3, none⟩ = some (.string xt) := HP.out.d.cell 3
    have d4 : wA.drew.cell? ⟨w.heap.size + 1, 4, none⟩ = some (.slice xA xm xc) := HP.out.d.cell 4
    have z0 : wA.drew.cell? ⟨w.heap.size + 1 + 1, 0, none⟩ = some (.string ⟨#[]⟩) := HP.out.z.cell 0
    have z1 : wA.drew.cell? ⟨w.heap.size + 1 + 1, 1, none⟩ = some (.string ⟨#[]⟩) := HP.out.z.cell 1
    have z2 : wA.drew.cell? ⟨w.heap.size + 1 + 1, 2, none⟩ = some (.string ⟨#[]⟩) := HP.out.z.cell 2
    have z3 : wA.drew.cell? ⟨w.heap.size + 1 + 1, 3, none⟩ = some (.int .i64 0) := HP.out.z.cell 3
    have z4 : wA.drew.cell? ⟨w.heap.size + 1 + 1, 4, none⟩ = some (.slice none 0 0) := HP.out.z.cell 4
    have z5 : wA.drew.cell? ⟨w.heap.size + 1 + 1, 5, none⟩ = some (.slice none 0 0) := HP.out.z.cell 5
    have zf0 := HP.out.z.frozen 0; have zf1 := HP.out.z.frozen 1; have zf2 := HP.out.z.frozen 2; have zf3 := HP.out.z.frozen 3; have zf4 := HP.out.z.frozen 4; have zf5 := HP.out.z.frozen 5
    refine wpSched_other ?_
    go_wp2_with fail
    refine sched_back (by rw [HF1.out]; exact ⟨q1, hcl⟩) ?_
    repeat (first | (refine wpSched_free rfl ?_; intro K hK; go_big_quiet_op; go_big_quiet_on) | (refine wpSched_wantS _ rfl rfl rfl ?_; intro K hK; go_big_quiet_op; go_big_quiet_on) | (refine wpSched_skipS _ rfl rfl rfl rfl ?_; simp only [Act.put, List.setIfInBounds_toArray, List.set_cons_zero, List.set_cons_succ]) | (refine wpSched_skipU _ rfl rfl rfl ?_; simp only [Act.put, List.setIfInBounds_toArray, List.set_cons_zero, List.set_cons_succ]))
    refine wpSched_other ?_
    go_wp2_with fail
    clear e0 e1 e2 e3 e4 e5 ef0 ef1 ef2 ef3 ef4 ef5 d1 d3 d4 z0 z1 z2 z3 z4 z5 zf0 zf1 zf2 zf3 zf4 zf5
    refine (HLS.out wA.drew).mono ?_
    rintro e w5 ⟨rfl, hb5⟩
    have hb5A : Below wA.heap.size wA w5 := hbd.trans (hb5.mono hbd.size)
    have HB5 := Lib.hid (HBA.out.trans (hb5A.mono HBA.out.size))
    have HP5 := Lib.hid (HP3.out.below hb5A)
    have q1' := (hb5A.cell (p := ⟨w.heap.size, 4, none⟩) hgA).trans q1
    have hcl' := (hb5A.cell (p := ad.add m) (by rw [blk_add]; omega)).trans hcl
    clear HP hb5 hb5A hbd HP3 HBA
    go_wp2_with fail
    refine sched_back (by rw [HF1.out]; exact ⟨q1', hcl'⟩) ?_
    repeat (first | (refine wpSched_free rfl ?_; intro K hK; go_big_quiet_op; go_big_quiet_on) | (refine wpSched_wantS _ rfl rfl rfl ?_; intro K hK; go_big_quiet_op; go_big_quiet_on) | (refine wpSched_skipS _ rfl rfl rfl rfl ?_; simp only [Act.put, List.setIfInBounds_toArray, List.set_cons_zero, List.set_cons_succ]) | (refine wpSched_skipU _ rfl rfl rfl ?_; simp only [Act.put, List.setIfInBounds_toArray, List.set_cons_zero, List.set_cons_succ]))
    refine wpSched_other ?_
    have HP := HP5
    have e0 := HP.out.p.cell 0; have e1 := HP.out.p.cell 1; have e2 := HP.out.p.cell 2; have e3 := HP.out.p.cell 3; have e4 := HP.out.p.cell 4; have e5 := HP.out.p.cell 5
    have ef0 := HP.out.p.frozen 0; have ef1 := HP.out.p.frozen 1; have ef2 := HP.out.p.frozen 2; have ef3 := HP.out.p.frozen 3; have ef4 := HP.out.p.frozen 4; have ef5 := HP.out.p.frozen 5
    have d1 : w5.cell? ⟨w.heap.size + 1, 1, none⟩ = some (.int .i64 xn) := HP.out.d.cell 1
    have d3 : w5.cell? ⟨w.heap.size + 1, 3, none⟩ = some (.string xt) := HP.out.d.cell 3
    have d4 : w5.cell? ⟨w.heap.size + 1, 4, none⟩ = some (.slice xA xm xc) := HP.out.d.cell 4
    have z0 : w5.cell? ⟨w.heap.size + 1 + 1, 0, none⟩ = some (.string ⟨#[]⟩) := HP.out.z.cell 0
    have z1 : w5.cell? ⟨w.heap.size + 1 + 1, 1, none⟩ = some (.string ⟨#[]⟩) := HP.out.z.cell 1
    have z2 : w5.cell? ⟨w.heap.size + 1 + 1, 2, none⟩ = some (.string ⟨#[]⟩) := HP.out.z.cell 2
    have z3 : w5.cell? ⟨w.heap.size + 1 + 1, 3, none⟩ = some (.int .i64 0) := HP.out.z.cell 3
    have z4 : w5.cell? ⟨w.heap.size + 1 + 1, 4, none⟩ = some (.slice none 0 0) := HP.out.z.cell 4
    have z5 : w5.cell? ⟨w.heap.size + 1 + 1, 5, none⟩ = some (.slice none 0 0) := HP.out.z.cell 5
    have zf0 := HP.out.z.frozen 0; have zf1 := HP.out.z.frozen 1; have zf2 := HP.out.z.frozen 2; have zf3 := HP.out.z.frozen 3; have zf4 := HP.out.z.frozen 4; have zf5 := HP.out.z.frozen 5
    go_wp2_with fail
    clear e0 e1 e2 e3 e4 e5 ef0 ef1 ef2 ef3 ef4 ef5 d1 d3 d4 z0 z1 z2 z3 z4 z5 zf0 zf1 zf2 zf3 zf4 zf5
    have HP6 : Hid (P3 (((w5.setCell ⟨w.heap.size, 1, none⟩ (.string (lsT rtx rd T))).setCell ⟨w.heap.size, 2, none⟩ (.string (lsD rd T))).setCell ⟨w.heap.size, 3, none⟩ (.int .i64 (rsf : Int))) w.heap.size #[.string rn, .string (lsT rtx rd T), .string (lsD rd T), .int .i64 (rsf : Int), .slice (some ad) (m + 1) rcb, .slice rAo no rco] ⟨3, xn, xnm, xt, xA, xm, xc, xl⟩) := ((HP5.out.set_ 1 _).set_ 2 _).set_ 3 _
    have HB6 : Hid (Below w.heap.size w (((w5.setCell ⟨w.heap.size, 1, none⟩ (.string (lsT rtx rd T))).setCell ⟨w.heap.size, 2, none⟩ (.string (lsD rd T))).setCell ⟨w.heap.size, 3, none⟩ (.int .i64 (rsf : Int)))) := bel3 HB5.out
    have q1'' := HP6.out.p.cell 4
    have hadg : ad.block ≠ w.heap.size := by omega
    have hcl'' : (((w5.setCell ⟨w.heap.size, 1, none⟩ (.string (lsT rtx rd T))).setCell ⟨w.heap.size, 2, none⟩ (.string (lsD rd T))).setCell ⟨w.heap.size, 3, none⟩ (.int .i64 (rsf : Int))).cell? (ad.add m) = some (.string T) := by
      have hq : ∀ i, (⟨w.heap.size, i, none⟩ : Addr) ≠ ad.add m := fun i e => hadg (by rw [← blk_add ad m, ← e])
      rw [World.cell?_setCell_other _ _ _ _ (hq 3), World.cell?_setCell_other _ _ _ _ (hq 2), World.cell?_setCell_other _ _ _ _ (hq 1)]
      exact hcl'
    clear HP HP5 HB5 q1 q1' hcl hcl' hadg
    generalize (((w5.setCell ⟨w.heap.size, 1, none⟩ (.string (lsT rtx rd T))).setCell ⟨w.heap.size, 2, none⟩ (.string (lsD rd T))).setCell ⟨w.heap.size, 3, none⟩ (.int .i64 (rsf : Int))) = w6 at *
    refine sched_back (by rw [HF1.out]; exact ⟨q1'', hcl''⟩) ?_
    repeat (first | (refine wpSched_free rfl ?_; intro K hK; go_big_quiet_op; go_big_quiet_on) | (refine wpSched_wantS _ rfl rfl rfl ?_; intro K hK; go_big_quiet_op; go_big_quiet_on) | (refine wpSched_skipS _ rfl rfl rfl rfl ?_; simp only [Act.put, List.setIfInBounds_toArray, List.set_cons_zero, List.set_cons_succ]) | (refine wpSched_skipU _ rfl rfl rfl ?_; simp only [Act.put, List.setIfInBounds_toArray, List.set_cons_zero, List.set_cons_succ]))
    refine wpSched_nil ?_
    clear HF1 hcell10 hcell11 hne1 q1'' hcl''
    by_cases hz : lsE rd T = 0
    · obtain ⟨hp1, hp2⟩ := HPZ.out hz
      rw [hp2] at HP6
      have HP1 := Lib.hid hp1
      have HZ := Lib.hid hz
      rw [HZ.out]
      generalize hDD : lsD rd T = D' at *
      have HCL := Lib.hid (cloneStr_all rAo no rco w.heap.size ro w6 (HRO.out w6 HB6.out) HB6.out.size (by omega))
      have HP := HP6
      clear hz hp1 hp2 HPZ HPN HLS hDD
      have e0 := HP.out.p.cell 0; have e1 := HP.out.p.cell 1; have e2 := HP.out.p.cell 2; have e3 := HP.out.p.cell 3; have e4 := HP.out.p.cell 4; have e5 := HP.out.p.cell 5
      have ef0 := HP.out.p.frozen 0; have ef1 := HP.out.p.frozen 1; have ef2 := HP.out.p.frozen 2; have ef3 := HP.out.p.frozen 3; have ef4 := HP.out.p.frozen 4; have ef5 := HP.out.p.frozen 5
      have d1 : w6.cell? ⟨w.heap.size + 1, 1, none⟩ = some (.int .i64 xn) := HP.out.d.cell 1
      have d3 : w6.cell? ⟨w.heap.size + 1, 3, none⟩ = some (.string xt) := HP.out.d.cell 3
      have d4 : w6.cell? ⟨w.heap.size + 1, 4, none⟩ = some (.slice xA xm xc) := HP.out.d.cell 4
      have z0 : w6.cell? ⟨w.heap.size + 1 + 1, 0, none⟩ = some (.string ⟨#[]⟩) := HP.out.z.cell 0
      have z1 : w6.cell? ⟨w.heap.size + 1 + 1, 1, none⟩ = some (.string ⟨#[]⟩) := HP.out.z.cell 1
      have z2 : w6.cell? ⟨w.heap.size + 1 + 1, 2, none⟩ = some (.string ⟨#[]⟩) := HP.out.z.cell 2
      have z3 : w6.cell? ⟨w.heap.size + 1 + 1, 3, none⟩ = some (.int .i64 0) := HP.out.z.cell 3
      have z4 : w6.cell? ⟨w.heap.size + 1 + 1, 4, none⟩ = some (.slice none 0 0) := HP.out.z.cell 4
      have z5 : w6.cell? ⟨w.heap.size + 1 + 1, 5, none⟩ = some (.slice none 0 0) := HP.out.z.cell 5
      have zf0 := HP.out.z.frozen 0; have zf1 := HP.out.z.frozen 1; have zf2 := HP.out.z.frozen 2; have zf3 := HP.out.z.frozen 3; have zf4 := HP.out.z.frozen 4; have zf5 := HP.out.z.frozen 5
      go_wp2_with fail
      clear e0 e1 e2 e3 e4 e5 ef0 ef1 ef2 ef3 ef4 ef5 d1 d3 d4 z0 z1 z2 z3 z4 z5 zf0 zf1 zf2 zf3 zf4 zf5
      refine HCL.out.mono ?_
      rintro e w7 ⟨v7, rfl, hown7, hb7⟩
      have HB7 := Lib.hid (HB6.out.trans (hb7.mono HB6.out.size))
      have HP7 := Lib.hid (HP6.out.below hb7)
      have hs67 := hb7.size
      have hs6 := HB6.out.size
      have hg26 : w.heap.size + 1 + 1 < w6.heap.size := HP6.out.z.lt
      have hnew := cell_one_new w7 (.string rtx) 9
      have hownA := hown7.alloc (.cells #[.string rtx] 9)
      have HG6 : Hid (∀ k, K k → k < w6.heap.size) := fun k hk => Nat.lt_of_lt_of_le (HKK.out k hk) hs6
      have HP7A := Lib.hid (HP7.out.below ((Below.refl w7.heap.size w7).alloc (Nat.le_refl _) (.cells #[.string rtx] 9)))
      have HB67 : Hid (Below w6.heap.size w6 (w7.alloc (.cells #[.string rtx] 9))) := hb7.alloc hs67 _
      have HP6K := HP6
      have hOTL : ro.length = no := HNO.out
      have HOTL := Lib.hid hOTL
      clear HP6 HCL hb7 HP hOTL
      have hsz8 : w6.heap.size ≤ (w7.alloc (.cells #[.string rtx] 9)).heap.size := HB67.out.size
      go_wp2_with (at_builtin; go_must (refine wpList_appG rfl _ _ _ rfl w6.heap.size 9 i0 _ 1 16 Tryz.underlying25 hi0 hz0 hz1 hz2 rfl (by omega) _ no (strCells ro) rfl hownA ⟨w7.heap.size, 0, none⟩ 1 1 [.string rtx] rfl rfl hnew (by simp [Value.oneCell']) (by omega) (by omega) (by simp at hsz8 ⊢; omega) ?_); intro v8 w8 hown8 hg8 hb8; have hO8 := OwnO.of_own hown8; obtain ⟨A8, c8, rfl, hn8, hm8, _⟩ := OwnO.form hO8; have HO8 := Lib.hid hO8; have HB8 := Lib.hid (HB6.out.trans ((HB67.out.trans hb8).mono HB6.out.size)); have HP := Lib.hid (HP6K.out.below (HB67.out.trans hb8)); clear hown8 hg8 hb8 hO8 hownA hnew; have e0 := HP.out.p.cell 0; have e1 := HP.out.p.cell 1; have e2 := HP.out.p.cell 2; have e3 := HP.out.p.cell 3; have e4 := HP.out.p.cell 4; have e5 := HP.out.p.cell 5; have ef4 := HP.out.p.frozen 4; have ef5 := HP.out.p.frozen 5; have z0 : w8.cell? ⟨w.heap.size + 1 + 1, 0, none⟩ = some (.string ⟨#[]⟩) := HP.out.z.cell 0; have z1 : w8.cell? ⟨w.heap.size + 1 + 1, 1, none⟩ = some (.string ⟨#[]⟩) := HP.out.z.cell 1; have z2 : w8.cell? ⟨w.heap.size + 1 + 1, 2, none⟩ = some (.string ⟨#[]⟩) := HP.out.z.cell 2; have z3 : w8.cell? ⟨w.heap.size + 1 + 1, 3, none⟩ = some (.int .i64 0) := HP.out.z.cell 3; have z4 : w8.cell? ⟨w.heap.size + 1 + 1, 4, none⟩ = some (.slice none 0 0) := HP.out.z.cell 4; have z5 : w8.cell? ⟨w.heap.size + 1 + 1, 5, none⟩ = some (.slice none 0 0) := HP.out.z.cell 5; have zf0 := HP.out.z.frozen 0; have zf1 := HP.out.z.frozen 1; have zf2 := HP.out.z.frozen 2; have zf3 := HP.out.z.frozen 3; have zf4 := HP.out.z.frozen 4; have zf5 := HP.out.z.frozen 5)
      (apply bodyPost_ret; (simp [results, Tryz.results37, go_sem, z0, z1, z2, z3, z4, z5]; rfl); rfl)
      have l1 : (rb.take m).length = m := by rw [List.length_take, HNB.out, Nat.min_eq_left (Nat.le_succ m)]
      have l2 : (ro ++ [L rtx]).length = no + 1 := by rw [List.length_append, HOTL.out]; rfl
      have e : strCells (ro ++ [L rtx]) = strCells ro ++ [.string rtx] := by unfold strCells; rw [List.map_append]; rfl
      have hO9 : OwnO w8 w6.heap.size 9 1 (.slice A8 (no + 1) c8) (ro ++ [L rtx]).length (strCells (ro ++ [L rtx])) := by rw [l2, e]; exact HO8.out
      obtain ⟨A9, c9, hv9, _, _, ho⟩ := RdK.own (own6 (a0 := .string rn) (a1 := .string T) (a2 := .string D') (a3 := .int .i64 (rsf : Int)) (a4 := .slice (some ad) m rcb) (a5 := .slice A8 (no + 1) c8) (own1H (i := 4) (a := .slice (some ad) m rcb) (own1H (i := 5) (a := .slice A8 (no + 1) c8) hO9 (show w.heap.size < w6.heap.size by omega)) (show w.heap.size < w6.heap.size by omega)) hg26) HG6.out
      rw [l2] at hv9
      cases hv9
      refine ⟨⟨⟨rn, T, D', rsf, rb.take m, ro ++ [L rtx]⟩, some ad, rcb, A8, c8⟩, ?_, HP1.out.symm, ?_⟩
      · simp only [l1, l2]
        rw [HZ.out]
      · refine ⟨⟨HCUT.out _ (bel6 (bel1 (bel1 HB8.out (Nat.le_refl _)) (Nat.le_refl _)) (le2 _)), ho, ⟨by rw [l1]; exact Nat.le_of_succ_le hmc, HMX2.out⟩, ⟨by rw [l2]; exact hn8, hm8⟩⟩, bel6 (bel1 (bel1 HB8.out (Nat.le_refl _)) (Nat.le_refl _)) (le2 _)⟩
    · obtain ⟨hp1, hp2, hp3⟩ := HPN.out hz
      rw [hp2, hp3] at HP6
      have HP1 := Lib.hid hp1
      have g1 : (lsE rd T == 0) = false := by rw [beq_eq_false_iff_ne]; exact hz
      have HP := HP6
      clear hz hp1 hp2 hp3 HPZ HPN HLS
      have e0 := HP.out.p.cell 0; have e1 := HP.out.p.cell 1; have e2 := HP.out.p.cell 2; have e3 := HP.out.p.cell 3; have e4 := HP.out.p.cell 4; have e5 := HP.out.p.cell 5
      have ef0 := HP.out.p.frozen 0; have ef1 := HP.out.p.frozen 1; have ef2 := HP.out.p.frozen 2; have ef3 := HP.out.p.frozen 3; have ef4 := HP.out.p.frozen 4; have ef5 := HP.out.p.frozen 5
      have d1 : w6.cell? ⟨w.heap.size + 1, 1, none⟩ = some (.int .i64 xn) := HP.out.d.cell 1
      have d3 : w6.cell? ⟨w.heap.size + 1, 3, none⟩ = some (.string xt) := HP.out.d.cell 3
      have d4 : w6.cell? ⟨w.heap.size + 1, 4, none⟩ = some (.slice xA xm xc) := HP.out.d.cell 4
      have z0 : w6.cell? ⟨w.heap.size + 1 + 1, 0, none⟩ = some (.string ⟨#[]⟩) := HP.out.z.cell 0
      have z1 : w6.cell? ⟨w.heap.size + 1 + 1, 1, none⟩ = some (.string ⟨#[]⟩) := HP.out.z.cell 1
      have z2 : w6.cell? ⟨w.heap.size + 1 + 1, 2, none⟩ = some (.string ⟨#[]⟩) := HP.out.z.cell 2
      have z3 : w6.cell? ⟨w.heap.size + 1 + 1, 3, none⟩ = some (.int .i64 0) := HP.out.z.cell 3
      have z4 : w6.cell? ⟨w.heap.size + 1 + 1, 4, none⟩ = some (.slice none 0 0) := HP.out.z.cell 4
      have z5 : w6.cell? ⟨w.heap.size + 1 + 1, 5, none⟩ = some (.slice none 0 0) := HP.out.z.cell 5
      have zf0 := HP.out.z.frozen 0; have zf1 := HP.out.z.frozen 1; have zf2 := HP.out.z.frozen 2; have zf3 := HP.out.z.frozen 3; have zf4 := HP.out.z.frozen 4; have zf5 := HP.out.z.frozen 5
      go_wp2_with fail
      (apply bodyPost_ret; (simp [results, Tryz.results37, go_sem, z0, z1, z2, z3, z4, z5]; rfl); rfl)
      refine ⟨⟨⟨rn, rtx, rd, rsf, rb, ro⟩, some ad, rcb, rAo, rco⟩, ?_, HP1.out.symm, fin_rc (bel6 HB6.out (le2 _)) (fun W hW => HR.out.below hW)⟩
      rw [HNB.out, HNO.out]
set_option maxRecDepth 100000 in
set_option maxHeartbeats 8000000 in
theorem refPg4 (r : Rc) (x : Dd) (K : Nat → Prop) (w : World) (hf : RfOk w K r x) (hkk : x.kind = 4) : Calls Tryz.prog 37 #[r.val, x.val, .func (.func 10) #[] #[]] w (PgAns w K r x) := by
  obtain ⟨i0, hi0, hz0, hz1, hz2⟩ := info_parts info_st
  have hq := pg4 (s := r.s) hkk
  obtain ⟨hr, hK, hok, hre, hxm, htb, ⟨mx, hmx⟩, hmg⟩ := hf
  have HR := Lib.hid hr
  have HOK := Lib.hid hok
  have HRE : Hid (∀ W, Below w.heap.size w W → Rd W w.heap.size 3 x.A x.m (edCells x.l)) := fun W hW => hre.below hW
  have HTB : Hid (∀ W, Below w.heap.size w W → TabI W) := fun W hW => tabI_stays htb hW
  have HMX : Hid (∀ W, Below w.heap.size w W → W.cell? ⟨0, 0, none⟩ = some (.int .i64 mx)) := fun W hb => (hb.cell (p := ⟨0, 0, none⟩) hmg).trans hmx
  have HKK := Lib.hid hK
  have HP3 := Lib.hid (p3_new w r.arr x)
  have hbA : Below w.heap.size w (((w.alloc (.cells r.arr 82)).alloc (.cells x.cells 32)).alloc (.cells zPage 82)) := (by repeat (first | exact Below.refl _ _ | assumption | refine Below.alloc ?_ (by first | exact Nat.le_refl _ | assumption | omega | (simp <;> omega)) _ | refine Below.setCell ?_ (by first | exact Nat.le_refl _ | assumption | omega | (simp <;> omega)) _ | refine Below.drew ?_ | refine below_drewN ?_ _))
  have HBA := Lib.hid hbA
  unfold PgAns
  obtain ⟨wA, hwA⟩ : ∃ wA, wA = (((w.alloc (.cells r.arr 82)).alloc (.cells x.cells 32)).alloc (.cells zPage 82)) := ⟨_, rfl⟩
  rw [← hwA] at HP3 HBA
  have HWA := Lib.hid hwA
  clear hwA
  clear hr hK hok hre htb hmx hbA
  rw [hq.1, hq.2]
  clear hq
  have hn30 : r.s.back.length + r.s.onward.length ≤ 30 := HOK.out.es.n
  by_cases h0 : r.s.onward.length = 0
  · have HE : Hid (rePE r.s = 4) := by unfold Hid rePE; rw [if_pos h0]
    have HPP : Hid (reP r.s = r.s) := by unfold Hid reP; rw [if_neg (by rw [HE.out]; decide)]
    rw [HE.out, HPP.out]
    obtain ⟨xk, xn, xnm, xt, xA, xm, xc, xl⟩ := x
    obtain ⟨⟨rn, rtx, rd, rsf, rb, ro⟩, rAb, rcb, rAo, rco⟩ := r
    unfold Dd.val Rc.val
    unfold Rc.arr Dd.cells at HWA
    unfold Rc.arr at HP3
    simp only at *
    subst hkk
    obtain ⟨nb, hnb⟩ : ∃ nb, rb.length = nb := ⟨_, rfl⟩
    obtain ⟨no, hno⟩ : ∃ no, ro.length = no := ⟨_, rfl⟩
    rw [hnb, hno] at HP3 HWA ⊢
    have HNB := Lib.hid hnb
    have HNO := Lib.hid hno
    clear hnb hno
    have h0' : no = 0 := by rw [← HNO.out]; exact h0
    subst h0'
    go_enter Tryz.func37, Tryz.ntmps37
    go_wp2_with fail
    (apply bodyPost_ret; (simp [results, Tryz.results37, go_sem]; rfl); rfl)
    refine ⟨⟨⟨rn, rtx, rd, rsf, rb, ro⟩, rAb, rcb, rAo, rco⟩, ?_, rfl, fin_rc (by repeat (first | exact Below.refl _ _ | assumption | refine Below.alloc ?_ (by first | exact Nat.le_refl _ | assumption | omega | (simp <;> omega)) _ | refine Below.setCell ?_ (by first | exact Nat.le_refl _ | assumption | omega | (simp <;> omega)) _ | refine Below.drew ?_ | refine below_drewN ?_ _)) (fun W hW => HR.out.below hW)⟩
    rw [HNO.out, HNB.out]
  · have HE : Hid (rePE r.s = lsE r.s.d (reT r.s)) := by unfold Hid rePE; rw [if_neg h0]
    have HLS := Lib.hid (fun W => rlSet_any r.s.tx r.s.d (reT r.s) r.s.sf W HOK.out.lf.size)
    have HPN : Hid (lsE r.s.d (reT r.s) ≠ 0 → reP r.s = r.s ∧ lsT r.s.tx r.s.d (reT r.s) = r.s.tx ∧ lsD r.s.d (reT r.s) = r.s.d) := fun hz => ⟨by unfold reP; rw [if_neg (by rw [HE.out]; exact hz)], by unfold lsT; rw [if_neg hz], by unfold lsD; rw [if_neg hz]⟩
    have HPZ : Hid (lsE r.s.d (reT r.s) = 0 → reP r.s = { r.s with tx := reT r.s, d := lsD r.s.d (reT r.s), back := r.s.back ++ [L r.s.tx], onward := r.s.onward.take (r.s.onward.length - 1) } ∧ lsT r.s.tx r.s.d (reT r.s) = reT r.s) := fun hz => ⟨by unfold reP; rw [if_pos (by rw [HE.out]; exact hz)], by unfold lsT; rw [if_pos hz]⟩
    have HTT : Hid (S (r.s.onward.getD (r.s.onward.length - 1) []) = reT r.s) := rfl
    rw [HE.out]
    clear HE
    obtain ⟨xk, xn, xnm, xt, xA, xm, xc, xl⟩ := x
    obtain ⟨⟨rn, rtx, rd, rsf, rb, ro⟩, rAb, rcb, rAo, rco⟩ := r
    unfold Dd.val Rc.val
    unfold Rc.arr Dd.cells at HWA
    unfold Rc.arr at HP3
    simp only at *
    subst hkk
    obtain ⟨nb, hnb⟩ : ∃ nb, rb.length = nb := ⟨_, rfl⟩
    obtain ⟨no, hno⟩ : ∃ no, ro.length = no := ⟨_, rfl⟩
    rw [hnb, hno] at HP3 HWA ⊢
    have HNB := Lib.hid hnb
    have HNO := Lib.hid hno
    clear hnb hno
    have hnz : ¬ no = 0 := by rw [← HNO.out]; exact h0
    obtain ⟨m, hm⟩ : ∃ m, no = m + 1 := ⟨no - 1, by omega⟩
    rw [HNB.out, HNO.out] at hn30
    subst hm
    clear hnz h0
    have hTT := HTT.out
    rw [HNO.out, Nat.add_sub_cancel] at hTT
    obtain ⟨T, hT⟩ : ∃ T, reT ⟨rn, rtx, rd, rsf, rb, ro⟩ = T := ⟨_, rfl⟩
    rw [hT] at HLS HPN HPZ hTT ⊢
    rw [HNO.out, Nat.add_sub_cancel] at HPZ
    clear hT HTT
    have hrf := HR.out.o
    have hro := HR.out.b
    have hcc := HR.out.cb
    have hcd := HR.out.co
    simp only at hrf hro hcc hcd
    rw [HNO.out] at hrf
    rw [HNB.out] at hro
    rw [HNB.out] at hcc
    rw [HNO.out] at hcd
    have HRO : Hid (∀ W, Below w.heap.size w W → Rd W w.heap.size 1 rAb nb (strCells rb)) := fun W hW => hro.rd.below hW
    have HCUT : Hid (∀ W, Below w.heap.size w W → RdK W K 1 rAo (ro.take m).length (strCells (ro.take m))) := fun W hW => by
      rw [List.length_take, HNO.out, Nat.min_eq_left (Nat.le_succ m)]
      exact (hrf.below hW).preS (Nat.le_succ m)
    have hmc : m + 1 ≤ rco := hcd.1
    have hmx : rco ≤ maxLen := hcd.2
    have HMX2 := Lib.hid hmx
    unfold maxLen at hmx
    obtain ⟨ad, eA, hab, hcl⟩ := str_cell (k := m) (hrf.rd.below HBA.out) (by omega)
    cases eA
    rw [hTT] at hcl
    clear hrf hro hcc hcd hTT
    have q1 : wA.cell? ⟨w.heap.size, 5, none⟩ = some (.slice (some ad) (m + 1) rco) := HP3.out.p.cell 5
    have hgA : w.heap.size < wA.heap.size := HP3.out.p.lt
    go_enter Tryz.func37, Tryz.ntmps37
    go_wp2_with fail
    rw [← HWA.out]
    clear HWA
    obtain ⟨F1, hFd⟩ : ∃ F : World → Prop, F = fun w' => w'.cell? ⟨w.heap.size, 5, none⟩ = some (.slice (some ad) (m + 1) rco) ∧ w'.cell? (ad.add m) = some (.string T) := ⟨_, rfl⟩
    have HF1 := Lib.hid hFd
    clear hFd
    have hcell10 : ∀ p' : Wof F1, p'.w.cell? ⟨w.heap.size, 5, none⟩ = some (.slice (some ad) (m + 1) rco) := fun ⟨x, hx⟩ => by rw [HF1.out] at hx; exact hx.1
    have hcell11 : ∀ p' : Wof F1, p'.w.cell? (ad.add m) = some (.string T) := fun ⟨x, hx⟩ => by rw [HF1.out] at hx; exact hx.2
    refine wp_region_schedF [(0, true), (2, true), (3, true), (4, true), (5, true), (6, true), (7, true), (8, true), (1, false), (9, false), (10, true), (11, true), (12, true), (13, true), (14, false), (15, true)] F1 (by kernel_rfl) (by kernel_rfl) rfl (fun _ _ _ _ _ h => h) (by kernel_rfl) (by rw [HF1.out]; first | ((repeat' apply And.intro) <;> assumption) | trivial | (simp; done) | (simp [*]; done)) (by rw [HF1.out]; exact fun h => h) ?_
    intro hne1
    simp only [opersOf, List.getElem?_toArray, List.getElem?_cons_succ, List.getElem?_cons_zero]
    repeat (first | (refine wpSched_free rfl ?_; intro K hK; go_big_quiet_op; go_big_quiet_on) | (refine wpSched_wantS _ rfl rfl rfl ?_; intro K hK; go_big_quiet_op; go_big_quiet_on) | (refine wpSched_skipS _ rfl rfl rfl rfl ?_; simp only [Act.put, List.setIfInBounds_toArray, List.set_cons_zero, List.set_cons_succ]) | (refine wpSched_skipU _ rfl rfl rfl ?_; simp only [Act.put, List.setIfInBounds_toArray, List.set_cons_zero, List.set_cons_succ]))
    have HP := Lib.hid (HP3.out.below (Below.drew (Below.refl _ _)))
    have hbd : Below wA.heap.size wA wA.drew := Below.drew (Below.refl _ _)
    have e0 := HP.out.p.cell 0; have e1 := HP.out.p.cell 1; have e2 := HP.out.p.cell 2; have e3 := HP.out.p.cell 3; have e4 := HP.out.p.cell 4; have e5 := HP.out.p.cell 5
    have ef0 := HP.out.p.frozen 0; have ef1 := HP.out.p.frozen 1; have ef2 := HP.out.p.frozen 2; have ef3 := HP.out.p.frozen 3; have ef4 := HP.out.p.frozen 4; have ef5 := HP.out.p.frozen 5
    have d1 : wA.drew.cell? ⟨w.heap.size + 1, 1, none⟩ = some (.int .i64 xn) := HP.out.d.cell 1
    have d3 : wA.drew.cell? ⟨w.heap.size + 1, 3, none⟩ = some (.string xt) := HP.out.d.cell 3
    have d4 : wA.drew.cell? ⟨w.heap.size + 1, 4, none⟩ = some (.slice xA xm xc) := HP.out.d.cell 4
    have z0 : wA.drew.cell? ⟨w.heap.size + 1 + 1, 0, none⟩ = some (.string ⟨#[]⟩) := HP.out.z.cell 0
    have z1 : wA.drew.cell? ⟨w.heap.size + 1 + 1, 1, none⟩ = some (.string ⟨#[]⟩) := HP.out.z.cell 1
    have z2 : wA.drew.cell? ⟨w.heap.size + 1 + 1, 2, none⟩ = some (.string ⟨#[]⟩) := HP.out.z.cell 2
    have z3 : wA.drew.cell? ⟨w.heap.size + 1 + 1, 3, none⟩ = some (.int .i64 0) := HP.out.z.cell 3
    have z4 : wA.drew.cell? ⟨w.heap.size + 1 + 1, 4, none⟩ = some (.slice none 0 0) := HP.out.z.cell 4
    have z5 : wA.drew.cell? ⟨w.heap.size + 1 + 1, 5, none⟩ = some (.slice none 0 0) := HP.out.z.cell 5
    have zf0 := HP.out.z.frozen 0; have zf1 := HP.out.z.frozen 1; have zf2 := HP.out.z.frozen 2; have zf3 := HP.out.z.frozen 3; have zf4 := HP.out.z.frozen 4; have zf5 := HP.out.z.frozen 5
    refine wpSched_other ?_
    go_wp2_with fail
    refine sched_back (by rw [HF1.out]; exact ⟨q1, hcl⟩) ?_
    repeat (first | (refine wpSched_free rfl ?_; intro K hK; go_big_quiet_op; go_big_quiet_on) | (refine wpSched_wantS _ rfl rfl rfl ?_; intro K hK; go_big_quiet_op; go_big_quiet_on) | (refine wpSched_skipS _ rfl rfl rfl rfl ?_; simp only [Act.put, List.setIfInBounds_toArray, List.set_cons_zero, List.set_cons_succ]) | (refine wpSched_skipU _ rfl rfl rfl ?_; simp only [Act.put, List.setIfInBounds_toArray, List.set_cons_zero, List.set_cons_succ]))
    refine wpSched_other ?_
    go_wp2_with fail
    clear e0 e1 e2 e3 e4 e5 ef0 ef1 ef2 ef3 ef4 ef5 d1 d3 d4 z0 z1 z2 z3 z4 z5 zf0 zf1 zf2 zf3 zf4 zf5
    refine (HLS.out wA.drew).mono ?_
    rintro e w5 ⟨rfl, hb5⟩
    have hb5A : Below wA.heap.size wA w5 := hbd.trans (hb5.mono hbd.size)
    have HB5 := Lib.hid (HBA.out.trans (hb5A.mono HBA.out.size))
    have HP5 := Lib.hid (HP3.out.below hb5A)
    have q1' := (hb5A.cell (p := ⟨w.heap.size, 5, none⟩) hgA).trans q1
    have hcl' := (hb5A.cell (p := ad.add m) (by rw [blk_add]; omega)).trans hcl
    clear HP hb5 hb5A hbd HP3 HBA
    go_wp2_with fail
    refine sched_back (by rw [HF1.out]; exact ⟨q1', hcl'⟩) ?_
    repeat (first | (refine wpSched_free rfl ?_; intro K hK; go_big_quiet_op; go_big_quiet_on) | (refine wpSched_wantS _ rfl rfl rfl ?_; intro K hK; go_big_quiet_op; go_big_quiet_on) | (refine wpSched_skipS _ rfl rfl rfl rfl ?_; simp only [Act.put, List.setIfInBounds_toArray, List.set_cons_zero, List.set_cons_succ]) | (refine wpSched_skipU _ rfl rfl rfl ?_; simp only [Act.put, List.setIfInBounds_toArray, List.set_cons_zero, List.set_cons_succ]))
    refine wpSched_other ?_
    have HP := HP5
    have e0 := HP.out.p.cell 0; have e1 := HP.out.p.cell 1; have e2 := HP.out.p.cell 2; have e3 := HP.out.p.cell 3; have e4 := HP.out.p.cell 4; have e5 := HP.out.p.cell 5
    have ef0 := HP.out.p.frozen 0; have ef1 := HP.out.p.frozen 1; have ef2 := HP.out.p.frozen 2; have ef3 := HP.out.p.frozen 3; have ef4 := HP.out.p.frozen 4; have ef5 := HP.out.p.frozen 5
    have d1 : w5.cell? ⟨w.heap.size + 1, 1, none⟩ = some (.int .i64 xn) := HP.out.d.cell 1
    have d3 : w5.cell? ⟨w.heap.size + 1, 3, none⟩ = some (.string xt) := HP.out.d.cell 3
    have d4 : w5.cell? ⟨w.heap.size + 1, 4, none⟩ = some (.slice xA xm xc) := HP.out.d.cell 4
    have z0 : w5.cell? ⟨w.heap.size + 1 + 1, 0, none⟩ = some (.string ⟨#[]⟩) := HP.out.z.cell 0
    have z1 : w5.cell? ⟨w.heap.size + 1 + 1, 1, none⟩ = some (.string ⟨#[]⟩) := HP.out.z.cell 1
    have z2 : w5.cell? ⟨w.heap.size + 1 + 1, 2, none⟩ = some (.string ⟨#[]⟩) := HP.out.z.cell 2
    have z3 : w5.cell? ⟨w.heap.size + 1 + 1, 3, none⟩ = some (.int .i64 0) := HP.out.z.cell 3
    have z4 : w5.cell? ⟨w.heap.size + 1 + 1, 4, none⟩ = some (.slice none 0 0) := HP.out.z.cell 4
    have z5 : w5.cell? ⟨w.heap.size + 1 + 1, 5, none⟩ = some (.slice none 0 0) := HP.out.z.cell 5
    have zf0 := HP.out.z.frozen 0; have zf1 := HP.out.z.frozen 1; have zf2 := HP.out.z.frozen 2; have zf3 := HP.out.z.frozen 3; have zf4 := HP.out.z.frozen 4; have zf5 := HP.out.z.frozen 5
    go_wp2_with fail
    clear e0 e1 e2 e3 e4 e5 ef0 ef1 ef2 ef3 ef4 ef5 d1 d3 d4 z0 z1 z2 z3 z4 z5 zf0 zf1 zf2 zf3 zf4 zf5
    have HP6 : Hid (P3 (((w5.setCell ⟨w.heap.size, 1, none⟩ (.string (lsT rtx rd T))).setCell ⟨w.heap.size, 2, none⟩ (.string (lsD rd T))).setCell ⟨w.heap.size, 3, none⟩ (.int .i64 (rsf : Int))) w.heap.size #[.string rn, .string (lsT rtx rd T), .string (lsD rd T), .int .i64 (rsf : Int), .slice rAb nb rcb, .slice (some ad) (m + 1) rco] ⟨4, xn, xnm, xt, xA, xm, xc, xl⟩) := ((HP5.out.set_ 1 _).set_ 2 _).set_ 3 _
    have HB6 : Hid (Below w.heap.size w (((w5.setCell ⟨w.heap.size, 1, none⟩ (.string (lsT rtx rd T))).setCell ⟨w.heap.size, 2, none⟩ (.string (lsD rd T))).setCell ⟨w.heap.size, 3, none⟩ (.int .i64 (rsf : Int)))) := bel3 HB5.out
    have q1'' := HP6.out.p.cell 5
    have hadg : ad.block ≠ w.heap.size := by omega
    have hcl'' : (((w5.setCell ⟨w.heap.size, 1, none⟩ (.string (lsT rtx rd T))).setCell ⟨w.heap.size, 2, none⟩ (.string (lsD rd T))).setCell ⟨w.heap.size, 3, none⟩ (.int .i64 (rsf : Int))).cell? (ad.add m) = some (.string T) := by
      have hq : ∀ i, (⟨w.heap.size, i, none⟩ : Addr) ≠ ad.add m := fun i e => hadg (by rw [← blk_add ad m, ← e])
      rw [World.cell?_setCell_other _ _ _ _ (hq 3), World.cell?_setCell_other _ _ _ _ (hq 2), World.cell?_setCell_other _ _ _ _ (hq 1)]
      exact hcl'
    clear HP HP5 HB5 q1 q1' hcl hcl' hadg
    generalize (((w5.setCell ⟨w.heap.size, 1, none⟩ (.string (lsT rtx rd T))).setCell ⟨w.heap.size, 2, none⟩ (.string (lsD rd T))).setCell ⟨w.heap.size, 3, none⟩ (.int .i64 (rsf : Int))) = w6 at *
    refine sched_back (by rw [HF1.out]; exact ⟨q1'', hcl''⟩) ?_
    repeat (first | (refine wpSched_free rfl ?_; intro K hK; go_big_quiet_op; go_big_quiet_on) | (refine wpSched_wantS _ rfl rfl rfl ?_; intro K hK; go_big_quiet_op; go_big_quiet_on) | (refine wpSched_skipS _ rfl rfl rfl rfl ?_; simp only [Act.put, List.setIfInBounds_toArray, List.set_cons_zero, List.set_cons_succ]) | (refine wpSched_skipU _ rfl rfl rfl ?_; simp only [Act.put, List.setIfInBounds_toArray, List.set_cons_zero, List.set_cons_succ]))
    refine wpSched_nil ?_
    clear HF1 hcell10 hcell11 hne1 q1'' hcl''
    by_cases hz : lsE rd T = 0
    · obtain ⟨hp1, hp2⟩ := HPZ.out hz
      rw [hp2] at HP6
      have HP1 := Lib.hid hp1
      have HZ := Lib.hid hz
      rw [HZ.out]
      generalize hDD : lsD rd T = D' at *
      have HCL := Lib.hid (cloneStr_all rAb nb rcb w.heap.size rb w6 (HRO.out w6 HB6.out) HB6.out.size (by omega))
      have HP := HP6
      clear hz hp1 hp2 HPZ HPN HLS hDD
      have e0 := HP.out.p.cell 0; have e1 := HP.out.p.cell 1; have e2 := HP.out.p.cell 2; have e3 := HP.out.p.cell 3; have e4 := HP.out.p.cell 4; have e5 := HP.out.p.cell 5
      have ef0 := HP.out.p.frozen 0; have ef1 := HP.out.p.frozen 1; have ef2 := HP.out.p.frozen 2; have ef3 := HP.out.p.frozen 3; have ef4 := HP.out.p.frozen 4; have ef5 := HP.out.p.frozen 5
      have d1 : w6.cell? ⟨w.heap.size + 1, 1, none⟩ = some (.int .i64 xn) := HP.out.d.cell 1
      have d3 : w6.cell? ⟨w.heap.size + 1, 3, none⟩ = some (.string xt) := HP.out.d.cell 3
      have d4 : w6.cell? ⟨w.heap.size + 1, 4, none⟩ = some (.slice xA xm xc) := HP.out.d.cell 4
      have z0 : w6.cell? ⟨w.heap.size + 1 + 1, 0, none⟩ = some (.string ⟨#[]⟩) := HP.out.z.cell 0
      have z1 : w6.cell? ⟨w.heap.size + 1 + 1, 1, none⟩ = some (.string ⟨#[]⟩) := HP.out.z.cell 1
      have z2 : w6.cell? ⟨w.heap.size + 1 + 1, 2, none⟩ = some (.string ⟨#[]⟩) := HP.out.z.cell 2
      have z3 : w6.cell? ⟨w.heap.size + 1 + 1, 3, none⟩ = some (.int .i64 0) := HP.out.z.cell 3
      have z4 : w6.cell? ⟨w.heap.size + 1 + 1, 4, none⟩ = some (.slice none 0 0) := HP.out.z.cell 4
      have z5 : w6.cell? ⟨w.heap.size + 1 + 1, 5, none⟩ = some (.slice none 0 0) := HP.out.z.cell 5
      have zf0 := HP.out.z.frozen 0; have zf1 := HP.out.z.frozen 1; have zf2 := HP.out.z.frozen 2; have zf3 := HP.out.z.frozen 3; have zf4 := HP.out.z.frozen 4; have zf5 := HP.out.z.frozen 5
      go_wp2_with fail
      clear e0 e1 e2 e3 e4 e5 ef0 ef1 ef2 ef3 ef4 ef5 d1 d3 d4 z0 z1 z2 z3 z4 z5 zf0 zf1 zf2 zf3 zf4 zf5
      refine HCL.out.mono ?_
      rintro e w7 ⟨v7, rfl, hown7, hb7⟩
      have HB7 := Lib.hid (HB6.out.trans (hb7.mono HB6.out.size))
      have HP7 := Lib.hid (HP6.out.below hb7)
      have hs67 := hb7.size
      have hs6 := HB6.out.size
      have hg26 : w.heap.size + 1 + 1 < w6.heap.size := HP6.out.z.lt
      have hnew := cell_one_new w7 (.string rtx) 9
      have hownA := hown7.alloc (.cells #[.string rtx] 9)
      have HG6 : Hid (∀ k, K k → k < w6.heap.size) := fun k hk => Nat.lt_of_lt_of_le (HKK.out k hk) hs6
      have HP7A := Lib.hid (HP7.out.below ((Below.refl w7.heap.size w7).alloc (Nat.le_refl _) (.cells #[.string rtx] 9)))
      have HB67 : Hid (Below w6.heap.size w6 (w7.alloc (.cells #[.string rtx] 9))) := hb7.alloc hs67 _
      have HP6K := HP6
      have hOTL : rb.length = nb := HNB.out
      have HOTL := Lib.hid hOTL
      clear HP6 HCL hb7 HP hOTL
      have hsz8 : w6.heap.size ≤ (w7.alloc (.cells #[.string rtx] 9)).heap.size := HB67.out.size
      go_wp2_with (at_builtin; go_must (refine wpList_appG rfl _ _ _ rfl w6.heap.size 9 i0 _ 1 16 Tryz.underlying25 hi0 hz0 hz1 hz2 rfl (by omega) _ nb (strCells rb) rfl hownA ⟨w7.heap.size, 0, none⟩ 1 1 [.string rtx] rfl rfl hnew (by simp [Value.oneCell']) (by omega) (by omega) (by simp at hsz8 ⊢; omega) ?_); intro v8 w8 hown8 hg8 hb8; have hO8 := OwnO.of_own hown8; obtain ⟨A8, c8, rfl, hn8, hm8, _⟩ := OwnO.form hO8; have HO8 := Lib.hid hO8; have HB8 := Lib.hid (HB6.out.trans ((HB67.out.trans hb8).mono HB6.out.size)); have HP := Lib.hid (HP6K.out.below (HB67.out.trans hb8)); clear hown8 hg8 hb8 hO8 hownA hnew; have e0 := HP.out.p.cell 0; have e1 := HP.out.p.cell 1; have e2 := HP.out.p.cell 2; have e3 := HP.out.p.cell 3; have e4 := HP.out.p.cell 4; have e5 := HP.out.p.cell 5; have ef4 := HP.out.p.frozen 4; have ef5 := HP.out.p.frozen 5; have z0 : w8.cell? ⟨w.heap.size + 1 + 1, 0, none⟩ = some (.string ⟨#[]⟩) := HP.out.z.cell 0; have z1 : w8.cell? ⟨w.heap.size + 1 + 1, 1, none⟩ = some (.string ⟨#[]⟩) := HP.out.z.cell 1; have z2 : w8.cell? ⟨w.heap.size + 1 + 1, 2, none⟩ = some (.string ⟨#[]⟩) := HP.out.z.cell 2; have z3 : w8.cell? ⟨w.heap.size + 1 + 1, 3, none⟩ = some (.int .i64 0) := HP.out.z.cell 3; have z4 : w8.cell? ⟨w.heap.size + 1 + 1, 4, none⟩ = some (.slice none 0 0) := HP.out.z.cell 4; have z5 : w8.cell? ⟨w.heap.size + 1 + 1, 5, none⟩ = some (.slice none 0 0) := HP.out.z.cell 5; have zf0 := HP.out.z.frozen 0; have zf1 := HP.out.z.frozen 1; have zf2 := HP.out.z.frozen 2; have zf3 := HP.out.z.frozen 3; have zf4 := HP.out.z.frozen 4; have zf5 := HP.out.z.frozen 5)
      (apply bodyPost_ret; (simp [results, Tryz.results37, go_sem, z0, z1, z2, z3, z4, z5]; rfl); rfl)
      have l1 : (ro.take m).length = m := by rw [List.length_take, HNO.out, Nat.min_eq_left (Nat.le_succ m)]
      have l2 : (rb ++ [L rtx]).length = nb + 1 := by rw [List.length_append, HOTL.out]; rfl
      have e : strCells (rb ++ [L rtx]) = strCells rb ++ [.string rtx] := by unfold strCells; rw [List.map_append]; rfl
      have hO9 : OwnO w8 w6.heap.size 9 1 (.slice A8 (nb + 1) c8) (rb ++ [L rtx]).length (strCells (rb ++ [L rtx])) := by rw [l2, e]; exact HO8.out
      obtain ⟨A9, c9, hv9, _, _, ho⟩ := RdK.own (own6 (a0 := .string rn) (a1 := .string T) (a2 := .string D') (a3 := .int .i64 (rsf : Int)) (a4 := .slice A8 (nb + 1) c8) (a5 := .slice (some ad) m rco) (own1H (i := 5) (a := .slice (some ad) m rco) (own1H (i := 4) (a := .slice A8 (nb + 1) c8) hO9 (show w.heap.size < w6.heap.size by omega)) (show w.heap.size < w6.heap.size by omega)) hg26) HG6.out
      rw [l2] at hv9
      cases hv9
      refine ⟨⟨⟨rn, T, D', rsf, rb ++ [L rtx], ro.take m⟩, A8, c8, some ad, rco⟩, ?_, HP1.out.symm, ?_⟩
      · simp only [l1, l2]
        rw [HZ.out]
      · refine ⟨⟨ho, HCUT.out _ (bel6 (bel1 (bel1 HB8.out (Nat.le_refl _)) (Nat.le_refl _)) (le2 _)), ⟨by rw [l2]; exact hn8, hm8⟩, ⟨by rw [l1]; exact Nat.le_of_succ_le hmc, HMX2.out⟩⟩, bel6 (bel1 (bel1 HB8.out (Nat.le_refl _)) (Nat.le_refl _)) (le2 _)⟩
    · obtain ⟨hp1, hp2, hp3⟩ := HPN.out hz
      rw [hp2, hp3] at HP6
      have HP1 := Lib.hid hp1
      have g1 : (lsE rd T == 0) = false := by rw [beq_eq_false_iff_ne]; exact hz
      have HP := HP6
      clear hz hp1 hp2 hp3 HPZ HPN HLS
      have e0 := HP.out.p.cell 0; have e1 := HP.out.p.cell 1; have e2 := HP.out.p.cell 2; have e3 := HP.out.p.cell 3; have e4 := HP.out.p.cell 4; have e5 := HP.out.p.cell 5
      have ef0 := HP.out.p.frozen 0; have ef1 := HP.out.p.frozen 1; have ef2 := HP.out.p.frozen 2; have ef3 := HP.out.p.frozen 3; have ef4 := HP.out.p.frozen 4; have ef5 := HP.out.p.frozen 5
      have d1 : w6.cell? ⟨w.heap.size + 1, 1, none⟩ = some (.int .i64 xn) := HP.out.d.cell 1
      have d3 : w6.cell? ⟨w.heap.size + 1, 3, none⟩ = some (.string xt) := HP.out.d.cell 3
      have d4 : w6.cell? ⟨w.heap.size + 1, 4, none⟩ = some (.slice xA xm xc) := HP.out.d.cell 4
      have z0 : w6.cell? ⟨w.heap.size + 1 + 1, 0, none⟩ = some (.string ⟨#[]⟩) := HP.out.z.cell 0
      have z1 : w6.cell? ⟨w.heap.size + 1 + 1, 1, none⟩ = some (.string ⟨#[]⟩) := HP.out.z.cell 1
      have z2 : w6.cell? ⟨w.heap.size + 1 + 1, 2, none⟩ = some (.string ⟨#[]⟩) := HP.out.z.cell 2
      have z3 : w6.cell? ⟨w.heap.size + 1 + 1, 3, none⟩ = some (.int .i64 0) := HP.out.z.cell 3
      have z4 : w6.cell? ⟨w.heap.size + 1 + 1, 4, none⟩ = some (.slice none 0 0) := HP.out.z.cell 4
      have z5 : w6.cell? ⟨w.heap.size + 1 + 1, 5, none⟩ = some (.slice none 0 0) := HP.out.z.cell 5
      have zf0 := HP.out.z.frozen 0; have zf1 := HP.out.z.frozen 1; have zf2 := HP.out.z.frozen 2; have zf3 := HP.out.z.frozen 3; have zf4 := HP.out.z.frozen 4; have zf5 := HP.out.z.frozen 5
      go_wp2_with fail
      (apply bodyPost_ret; (simp [results, Tryz.results37, go_sem, z0, z1, z2, z3, z4, z5]; rfl); rfl)
      refine ⟨⟨⟨rn, rtx, rd, rsf, rb, ro⟩, rAb, rcb, some ad, rco⟩, ?_, HP1.out.symm, fin_rc (bel6 HB6.out (le2 _)) (fun W hW => HR.out.below hW)⟩
      rw [HNB.out, HNO.out]
end Go.Proofs.YtplgghjdidmcfaaGreatDoor
