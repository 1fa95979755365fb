/- rope.Cut. The document's cut of a rope. rope.Join, and the document's errors of a join. -/
import Derived.Test.YtmikckhihfcooaaDoorPk13
import Derived.Test.YtmikckhihfcooaaDoorPk04
namespace Go.Proofs.YtmikckhihfcooaaDoor
open Go.RowKit
/-- Two ropes in blocks of their own, each with a row of its own. -/
structure TwoR (w : World) (base gA gB : Nat) (va vb : Value) (la lb : Parts) : Prop where
  a : Blk w gA 32 #[va]
  b : Blk w gB 32 #[vb]
  ra : w.ownsRow base 9 1 va la.length (strCells la)
  rb : w.ownsRow base 9 1 vb lb.length (strCells lb)
  ap : Apart va vb
  ga : base ≤ gA
  gb : base ≤ gB
  ne : gA ≠ gB
section
variable {w w' : World} {base gA gB g : Nat} {va vb v6 v : Value} {la lb l : Parts} {x : List UInt8}
theorem own_ne_rope {cs : Array Value} (h : w.ownsRow base 9 1 v l.length (strCells l)) (hg : Blk w g 32 cs) : v.ownBlock = none ∨ v.ownBlock ≠ some g := OwnO.ne_blk (OwnO.of_own h) hg (by decide)
theorem own_far (h : w.ownsRow base 9 1 v l.length (strCells l)) (hg : v.ownBlock = none ∨ v.ownBlock ≠ some g) (i : Nat) (u : Value) : (w.setCell ⟨g, i, none⟩ u).ownsRow base 9 1 v l.length (strCells l) := h.kept (gb_set (gb_refl _ _) i u) hg
theorem TwoR.sw (h : TwoR w base gA gB va vb la lb) : TwoR w base gB gA vb va lb la := ⟨h.b, h.a, h.rb, h.ra, h.ap.comm, h.gb, h.ga, h.ne.symm⟩
theorem TwoR.below (h : TwoR w base gA gB va vb la lb) (hb : Below w.heap.size w w') : TwoR w' base gA gB va vb la lb := ⟨h.a.below' hb, h.b.below' hb, own_below h.ra hb, own_below h.rb hb, h.ap, h.ga, h.gb, h.ne⟩
theorem rope_ne_some (h : v.ownBlock = none ∨ v.ownBlock ≠ some g) : some g ≠ v.ownBlock := fun e => by
  rcases h with h | h
  · rw [← e] at h; cases h
  · exact h e.symm
theorem TwoR.appA (h : TwoR w base gA gB va vb la lb) (hg : w.grownBy w' va.ownBlock) (hown : w'.ownsRow base 9 1 v6 (la.length + 1) (strCells la ++ [.string (S x)])) (ha : v6.ownBlock = va.ownBlock ∨ v6.ownBlock = some w.heap.size) :
    TwoR (w'.setCell ⟨gA, 0, none⟩ v6) base gA gB v6 vb (la ++ [x]) lb := by
  have hA : Blk w' gA 32 #[va] := h.a.grown hg (rope_ne_some (own_ne_rope h.ra h.a))
  have hB : Blk w' gB 32 #[vb] := h.b.grown hg (rope_ne_some (own_ne_rope h.ra h.b))
  have ho : w'.ownsRow base 9 1 v6 (la ++ [x]).length (strCells (la ++ [x])) := by
    rw [List.length_append, strCells, List.map_append]; exact hown
  have hb' := own_apart h.rb h.ap.comm hg
  exact ⟨hA.set_ 0 v6, hB.far (p := ⟨gA, 0, none⟩) h.ne.symm v6, own_far ho (own_ne_rope ho hA) 0 v6, own_far hb' (own_ne_rope hb' hA) 0 v6, (apart_new h.rb h.ap.comm ha).comm, h.ga, h.gb, h.ne⟩
theorem TwoR.lower {base' : Nat} (h : TwoR w base gA gB va vb la lb) (hb : base' ≤ base) : TwoR w base' gA gB va vb la lb := ⟨h.a, h.b, own_lower h.ra hb, own_lower h.rb hb, h.ap, Nat.le_trans hb h.ga, Nat.le_trans hb h.gb, h.ne⟩
/-- What the row's growth leaves below the base. -/
theorem own_bel {w0 : World} (h : w.ownsRow base 9 1 v l.length (strCells l)) (hb : Below base w0 w) (hg : w.grownBy w' v.ownBlock) (hs : base ≤ w.heap.size) : Below base w0 w' := hb.grown hg hs (fun k hk => (h.lt k hk).1)
end
def cutE (p : Parts) (at_ : Int) : Int := if ropeErr p ≠ 0 then ropeErr p else if at_ < 0 ∨ (tot p : Int) < at_ then 1 else 0
def cutPA (p : Parts) (at_ : Int) : Parts := if cutE p at_ = 0 then cutA at_.toNat p else []
def cutPB (p : Parts) (at_ : Int) : Parts := if cutE p at_ = 0 then cutB at_.toNat p else []
set_option maxRecDepth 100000 in
set_option maxHeartbeats 8000000 in
theorem ropeCut_any (p : Parts) (A : Option Addr) (n c B : Nat) (at_ : Int) (w : World) (hr : Rd w B 1 A n (strCells p)) (hB : B ≤ w.heap.size) (hn : n ≤ 9223372036854775807) (hnc : n ≤ c) (hsz : ∀ x ∈ p, x.length ≤ 9223372036854775807) (ha0 : -9223372036854775808 ≤ at_) (ha1 : at_ ≤ 9223372036854775807) :
    Calls Tryd.prog 26 #[.agg #[.slice A n c], .int .i64 at_] w fun e w' => ∃ va vb, e = .returned (.tuple #[.agg #[va], .agg #[vb], .int .i64 (cutE p at_)]) ∧
      w'.ownsRow w.heap.size 9 1 va (cutPA p at_).length (strCells (cutPA p at_)) ∧ w'.ownsRow w.heap.size 9 1 vb (cutPB p at_).length (strCells (cutPB p at_)) ∧ Apart va vb ∧ Below w.heap.size w w' := by
  obtain ⟨i0, hi0, hz0, hz1, hz2⟩ := info_parts info_str
  have hpn := strCells_len' hr
  have HPN := Lib.hid hpn
  have hb0 : Below w.heap.size w (((w.alloc (.cells #[.slice A n c] 32)).alloc (.cells #[.slice none 0 0] 32)).alloc (.cells #[.slice none 0 0] 32)) := (by repeat (first | exact Below.refl _ _ | assumption | refine Below.alloc ?_ (by first | exact Nat.le_refl _ | assumption | omega | (simp <;> omega)) _ | refine Below.setCell ?_ (by first | exact Nat.le_refl _ | assumption | omega | (simp <;> omega)) _ | refine Below.drew ?_ | refine below_drewN ?_ _))
  have HR : Hid (Rd (((w.alloc (.cells #[.slice A n c] 32)).alloc (.cells #[.slice none 0 0] 32)).alloc (.cells #[.slice none 0 0] 32)) B 1 A n (strCells p)) := hr.below (hb0.mono hB)
  have HB2 : Hid (Blk (((w.alloc (.cells #[.slice A n c] 32)).alloc (.cells #[.slice none 0 0] 32)).alloc (.cells #[.slice none 0 0] 32)) w.heap.size 32 #[.slice A n c]) := Blk.alloc (Blk.alloc (Blk.new_ _ _ _) _) _
  have HB4 : Hid (Blk (((w.alloc (.cells #[.slice A n c] 32)).alloc (.cells #[.slice none 0 0] 32)).alloc (.cells #[.slice none 0 0] 32)) (w.heap.size + 1) 32 #[.slice none 0 0]) := by
    have h1 := Blk.new_ (w.alloc (.cells #[.slice A n c] 32)) 32 #[.slice none 0 0]
    rw [World.size_alloc] at h1
    exact Blk.alloc h1 _
  have HB5 : Hid (Blk (((w.alloc (.cells #[.slice A n c] 32)).alloc (.cells #[.slice none 0 0] 32)).alloc (.cells #[.slice none 0 0] 32)) (w.heap.size + 1 + 1) 32 #[.slice none 0 0]) := by
    have h1 := Blk.new_ ((w.alloc (.cells #[.slice A n c] 32)).alloc (.cells #[.slice none 0 0] 32)) 32 #[.slice none 0 0]
    rw [World.size_alloc, World.size_alloc] at h1
    exact h1
  have hsz0 : (((w.alloc (.cells #[.slice A n c] 32)).alloc (.cells #[.slice none 0 0] 32)).alloc (.cells #[.slice none 0 0] 32)).heap.size = w.heap.size + 3 := by simp
  have HTX := Lib.hid (ropeText_any p A n c B _ HR.out (by rw [hsz0]; omega) hn hnc hsz)
  have HSZ0 := Lib.hid hsz0
  clear hr hsz hpn hsz0
  by_cases he : ¬ ropeErr p = 0
  · have HE : Hid (cutE p at_ = ropeErr p) := by unfold Hid cutE; rw [if_pos he]
    have HPA : Hid (cutPA p at_ = []) := by unfold Hid cutPA; rw [HE.out, if_neg he]
    have HPB : Hid (cutPB p at_ = []) := by unfold Hid cutPB; rw [HE.out, if_neg he]
    have g1 : (ropeErr p != 0) = true := by rw [bne_iff_ne]; exact he
    rw [HE.out, HPA.out, HPB.out]
    generalize S (textV p) = TX at *
    clear he
    generalize ropeErr p = e0 at *
    go_enter Tryd.func26, Tryd.ntmps26
    go_wp2_with fail
    generalize (((w.alloc (.cells #[.slice A n c] 32)).alloc (.cells #[.slice none 0 0] 32)).alloc (.cells #[.slice none 0 0] 32)) = w0 at *
    refine (HTX.out).mono ?_
    rintro e w2 ⟨rfl, hb2⟩
    have H4 := HB4.out.below' hb2
    have H5 := HB5.out.below' hb2
    have q4 := Blk.cell0 H4; have q5 := Blk.cell0 H5
    have f4 := Blk.frozen H4 0; have f5 := Blk.frozen H5 0
    have hbb := hb0.trans (hb2.mono (by rw [HSZ0.out]; omega))
    have R4 : (w2.setCell ⟨w.heap.size + 1, 0, none⟩ (.slice none 0 0)).cell? ⟨w.heap.size + 1, 0, none⟩ = some (.slice none 0 0) := Blk.cell0 (H4.set_ 0 _)
    have R5 : ((w2.setCell ⟨w.heap.size + 1, 0, none⟩ (.slice none 0 0)).setCell ⟨w.heap.size + 1 + 1, 0, none⟩ (.slice none 0 0)).cell? ⟨w.heap.size + 1 + 1, 0, none⟩ = some (.slice none 0 0) := Blk.cell0 ((H5.far (p := ⟨w.heap.size + 1, 0, none⟩) (by show w.heap.size + 1 + 1 ≠ w.heap.size + 1; omega) _).set_ 0 _)
    have hbF : Below w.heap.size w ((w2.setCell ⟨w.heap.size + 1, 0, none⟩ (.slice none 0 0)).setCell ⟨w.heap.size + 1 + 1, 0, none⟩ (.slice none 0 0)) := (by repeat (first | exact Below.refl _ _ | assumption | refine Below.alloc ?_ (by first | exact Nat.le_refl _ | assumption | omega | (simp <;> omega)) _ | refine Below.setCell ?_ (by first | exact Nat.le_refl _ | assumption | omega | (simp <;> omega)) _ | refine Below.drew ?_ | refine below_drewN ?_ _))
    go_wp2_with fail
    (apply bodyPost_ret; (simp [results, Tryd.results26, go_sem, R4, R5]; rfl); rfl)
    exact ⟨_, _, rfl, World.ownsRow_nil _ _ _ _, World.ownsRow_nil _ _ _ _, Apart.none_left _, hbF⟩
  · have he := Decidable.not_not.1 he
    have HOK := Lib.hid (ropeErr_zero.1 he)
    have HE := Lib.hid he
    have HV : Hid (textV p = p.flatten) := by unfold Hid textV; rw [if_pos he]
    clear he
    rw [HE.out, HV.out] at HTX
    have hts : (S p.flatten).size = tot p := S_size _
    have ht200 := HOK.out.t
    generalize S p.flatten = TX at *
    by_cases hat : at_ < 0 ∨ (tot p : Int) < at_
    · have HE1 : Hid (cutE p at_ = 1) := by unfold Hid cutE; rw [if_neg (by rw [HE.out]; decide), if_pos hat]
      have HPA : Hid (cutPA p at_ = []) := by unfold Hid cutPA; rw [HE1.out, if_neg (by decide)]
      have HPB : Hid (cutPB p at_ = []) := by unfold Hid cutPB; rw [HE1.out, if_neg (by decide)]
      rw [HE1.out, HPA.out, HPB.out]
      by_cases h1 : at_ < 0
      · have g1 : decide (at_ < 0) = true := decide_eq_true h1
        go_enter Tryd.func26, Tryd.ntmps26
        go_wp2_with fail
        generalize (((w.alloc (.cells #[.slice A n c] 32)).alloc (.cells #[.slice none 0 0] 32)).alloc (.cells #[.slice none 0 0] 32)) = w0 at *
        refine (HTX.out).mono ?_
        rintro e w2 ⟨rfl, hb2⟩
        have H4 := HB4.out.below' hb2
        have H5 := HB5.out.below' hb2
        have q4 := Blk.cell0 H4; have q5 := Blk.cell0 H5
        have f4 := Blk.frozen H4 0; have f5 := Blk.frozen H5 0
        have hbb := hb0.trans (hb2.mono (by rw [HSZ0.out]; omega))
        have R4 : (w2.setCell ⟨w.heap.size + 1, 0, none⟩ (.slice none 0 0)).cell? ⟨w.heap.size + 1, 0, none⟩ = some (.slice none 0 0) := Blk.cell0 (H4.set_ 0 _)
        have R5 : ((w2.setCell ⟨w.heap.size + 1, 0, none⟩ (.slice none 0 0)).setCell ⟨w.heap.size + 1 + 1, 0, none⟩ (.slice none 0 0)).cell? ⟨w.heap.size + 1 + 1, 0, none⟩ = some (.slice none 0 0) := Blk.cell0 ((H5.far (p := ⟨w.heap.size + 1, 0, none⟩) (by show w.heap.size + 1 + 1 ≠ w.heap.size + 1; omega) _).set_ 0 _)
        have hbF : Below w.heap.size w ((w2.setCell ⟨w.heap.size + 1, 0, none⟩ (.slice none 0 0)).setCell ⟨w.heap.size + 1 + 1, 0, none⟩ (.slice none 0 0)) := (by repeat (first | exact Below.refl _ _ | assumption | refine Below.alloc ?_ (by first | exact Nat.le_refl _ | assumption | omega | (simp <;> omega)) _ | refine Below.setCell ?_ (by first | exact Nat.le_refl _ | assumption | omega | (simp <;> omega)) _ | refine Below.drew ?_ | refine below_drewN ?_ _))
        go_wp2_with fail
        (apply bodyPost_ret; (simp [results, Tryd.results26, go_sem, R4, R5]; rfl); rfl)
        exact ⟨_, _, rfl, World.ownsRow_nil _ _ _ _, World.ownsRow_nil _ _ _ _, Apart.none_left _, hbF⟩
      · have g1 : decide (at_ < 0) = false := decide_eq_false h1
        have g2 : decide ((TX.size : Int) < at_) = true := decide_eq_true (by omega)
        go_enter Tryd.func26, Tryd.ntmps26
        go_wp2_with fail
        generalize (((w.alloc (.cells #[.slice A n c] 32)).alloc (.cells #[.slice none 0 0] 32)).alloc (.cells #[.slice none 0 0] 32)) = w0 at *
        refine (HTX.out).mono ?_
        rintro e w2 ⟨rfl, hb2⟩
        have H4 := HB4.out.below' hb2
        have H5 := HB5.out.below' hb2
        have q4 := Blk.cell0 H4; have q5 := Blk.cell0 H5
        have f4 := Blk.frozen H4 0; have f5 := Blk.frozen H5 0
        have hbb := hb0.trans (hb2.mono (by rw [HSZ0.out]; omega))
        have R4 : (w2.setCell ⟨w.heap.size + 1, 0, none⟩ (.slice none 0 0)).cell? ⟨w.heap.size + 1, 0, none⟩ = some (.slice none 0 0) := Blk.cell0 (H4.set_ 0 _)
        have R5 : ((w2.setCell ⟨w.heap.size + 1, 0, none⟩ (.slice none 0 0)).setCell ⟨w.heap.size + 1 + 1, 0, none⟩ (.slice none 0 0)).cell? ⟨w.heap.size + 1 + 1, 0, none⟩ = some (.slice none 0 0) := Blk.cell0 ((H5.far (p := ⟨w.heap.size + 1, 0, none⟩) (by show w.heap.size + 1 + 1 ≠ w.heap.size + 1; omega) _).set_ 0 _)
        have hbF : Below w.heap.size w ((w2.setCell ⟨w.heap.size + 1, 0, none⟩ (.slice none 0 0)).setCell ⟨w.heap.size + 1 + 1, 0, none⟩ (.slice none 0 0)) := (by repeat (first | exact Below.refl _ _ | assumption | refine Below.alloc ?_ (by first | exact Nat.le_refl _ | assumption | omega | (simp <;> omega)) _ | refine Below.setCell ?_ (by first | exact Nat.le_refl _ | assumption | omega | (simp <;> omega)) _ | refine Below.drew ?_ | refine below_drewN ?_ _))
        go_wp2_with fail
        (apply bodyPost_ret; (simp [results, Tryd.results26, go_sem, R4, R5]; rfl); rfl)
        exact ⟨_, _, rfl, World.ownsRow_nil _ _ _ _, World.ownsRow_nil _ _ _ _, Apart.none_left _, hbF⟩
    · obtain ⟨r, rfl⟩ : ∃ r : Nat, at_ = (r : Int) := ⟨at_.toNat, by omega⟩
      have HE1 : Hid (cutE p (r : Int) = 0) := by unfold Hid cutE; rw [if_neg (by rw [HE.out]; decide), if_neg hat]
      have HPA : Hid (cutPA p (r : Int) = cutA r p) := by unfold Hid cutPA; rw [HE1.out, if_pos rfl]; rfl
      have HPB : Hid (cutPB p (r : Int) = cutB r p) := by unfold Hid cutPB; rw [HE1.out, if_pos rfl]; rfl
      rw [HE1.out, HPA.out, HPB.out]
      have hrt : r ≤ tot p := by omega
      have g1 : decide ((r : Int) < 0) = false := decide_eq_false (by omega)
      have g2 : decide ((TX.size : Int) < (r : Int)) = false := decide_eq_false (by omega)
      have g2' : decide (TX.size < r) = false := decide_eq_false (by omega)
      have g2'' : decide (tot p < r) = false := decide_eq_false (by omega)
      have g2''' : decide ((tot p : Int) < (r : Int)) = false := decide_eq_false (by omega)
      clear hat
      have hn60 : n ≤ 60 := by have := HOK.out.n; have := HPN.out; omega
      go_enter Tryd.func26, Tryd.ntmps26
      go_wp2_with fail
      generalize (((w.alloc (.cells #[.slice A n c] 32)).alloc (.cells #[.slice none 0 0] 32)).alloc (.cells #[.slice none 0 0] 32)) = w0 at *
      refine (HTX.out).mono ?_
      rintro e w1 ⟨rfl, hb2⟩
      have H2 := Lib.hid (HB2.out.below' hb2)
      have H4 := Lib.hid (HB4.out.below' hb2)
      have H5 := Lib.hid (HB5.out.below' hb2)
      have HR1 := Lib.hid (HR.out.below (hb2.mono (by rw [HSZ0.out]; omega)))
      have hbb := hb0.trans (hb2.mono (by rw [HSZ0.out]; omega))
      have hs1 : w.heap.size + 3 ≤ w1.heap.size := by have := hb2.size; have := HSZ0.out; omega
      clear HB2 HB4 HB5 HR hb2 hb0
      have q2 := Blk.cell0 H2.out
      have hbA : Below w1.heap.size w1 ((w1.alloc (.cells #[.slice none 0 0] 32)).alloc (.cells #[.slice none 0 0] 32)) := (by repeat (first | exact Below.refl _ _ | assumption | refine Below.alloc ?_ (by first | exact Nat.le_refl _ | assumption | omega | (simp <;> omega)) _ | refine Below.setCell ?_ (by first | exact Nat.le_refl _ | assumption | omega | (simp <;> omega)) _ | refine Below.drew ?_ | refine below_drewN ?_ _))
      have HT0 : Hid (TwoR ((w1.alloc (.cells #[.slice none 0 0] 32)).alloc (.cells #[.slice none 0 0] 32)) w1.heap.size w1.heap.size (w1.heap.size + 1) (.slice none 0 0) (.slice none 0 0) [] []) := by
        have h1 := Blk.new_ (w1.alloc (.cells #[.slice none 0 0] 32)) 32 #[.slice none 0 0]
        rw [World.size_alloc] at h1
        exact ⟨Blk.alloc (Blk.new_ _ _ _) _, h1, World.ownsRow_nil _ _ _ _, World.ownsRow_nil _ _ _ _, Apart.none_left _, Nat.le_refl _, by omega, by omega⟩
      have q2a := Blk.cell0 (H2.out.below' hbA)
      have hA1 : w.heap.size < w1.heap.size := by omega
      have hA2 : w.heap.size ≠ w1.heap.size := by omega
      have hA3 : w.heap.size ≠ w1.heap.size + 1 := by omega
      go_wp2_with fail
      clear q2a hA1 hA2 hA3
      generalize ((w1.alloc (.cells #[.slice none 0 0] 32)).alloc (.cells #[.slice none 0 0] 32)) = wA at *
      go_loopw [1, 37] (fun a i wr => ∃ (k : Nat) (va vb : Value), k ≤ n ∧ i = .int .i64 (k : Int) ∧ a = .int .i64 ((r - tot (p.take k) : Nat) : Int) ∧ TwoR wr w1.heap.size w1.heap.size (w1.heap.size + 1) va vb (cutA r (p.take k)) (cutB r (p.take k)) ∧ Below w1.heap.size w1 wr) (fun _ i _ => n - (intOf i).toNat)
      case atStart => exact ⟨0, _, _, Nat.zero_le _, rfl, rfl, HT0.out, hbA⟩
      case round =>
        clear HT0 hbA q2
        obtain ⟨k, va, vb, hk, rfl, rfl, htw, hb⟩ := hrel
        have HTW := Lib.hid htw
        clear htw
        have hbs := hb.size
        by_cases hlt : k < n
        · have g3 : decide ((k : Int) < (n : Int)) = true := decide_eq_true (by omega)
          have HRk := Lib.hid (HR1.out.below (hb.mono (by omega)))
          obtain ⟨ad, rfl, hab, hc⟩ := str_cell HRk.out hlt
          have hkp : k < p.length := by rw [HPN.out]; exact hlt
          have HTS := Lib.hid (tot_succ p (k := k) hkp)
          have HSA := Lib.hid (cutA_step p r (k := k) hkp)
          have HSB := Lib.hid (cutB_step p r (k := k) hkp)
          have hx0 : (p.getD k []).length ≠ 0 := by
            rw [List.getD_eq_getElem?_getD, List.getElem?_eq_getElem hkp]
            exact HOK.out.e _ (List.getElem_mem hkp)
          have hx200 : (p.getD k []).length ≤ 200 := by
            have h1 := HTS.out
            have h2 := tot_take_le p (k + 1)
            omega
          have hla := cutA_len (p.take k) r
          have hlb := cutB_len (p.take k) r
          rw [List.length_take] at hla hlb
          have hxs := S_size (p.getD k [])
          generalize p.getD k [] = x at *
          generalize cutA r (p.take k) = la at *
          generalize cutB r (p.take k) = lb at *
          generalize htk : tot (p.take k) = t at *
          clear htk
          obtain ⟨q, hq⟩ : ∃ q, q = r - t := ⟨_, rfl⟩
          have HQ := Lib.hid hq
          rw [← hq] at HSA HSB ⊢
          clear hq
          by_cases hq0 : q = 0
          · subst hq0
            obtain ⟨hpa, hpb⟩ := pc_none hx0
            rw [hpa, List.append_nil] at HSA
            rw [hpb] at HSB
            have HEX : Hid ((S x).extract 0 (S x).size = S x) := by
              unfold Hid; rw [extract_S, L_S, List.drop_zero, Nat.sub_zero, hxs, List.take_length]
            have HTSW := Lib.hid HTW.out.sw
            clear hpa hpb HTW
            have g5 : decide ((0 : Int) < ((S x).size : Int)) = true := decide_eq_true (by omega)
            have g6 : decide (0 < (S x).size) = true := decide_eq_true (by omega)
            have hmn : min (0 : Int) ((S x).size : Int) = 0 := by omega
            have hmx : max (0 : Int) 0 = 0 := by omega
            have HXS := Lib.hid hxs
            clear hxs
            have hHT := Lib.hid (HTSW.out)
            have c0 := Blk.cell0 hHT.out.a
            have f0 := Blk.frozen hHT.out.a 0
            have hglt := Blk.lt hHT.out.a
            go_wp2_with fail
            obtain ⟨F1, hFd⟩ : ∃ F : World → Prop, F = fun w' => w'.cell? ⟨w1.heap.size+1, 0, none⟩ = some (vb) := ⟨_, rfl⟩
            have HF1 := Lib.hid hFd
            clear hFd
            have hcell10 : ∀ p' : Wof F1, p'.w.cell? ⟨w1.heap.size+1, 0, none⟩ = some (vb) := fun ⟨x, hx⟩ => by rw [HF1.out] at hx; exact hx
            refine wp_region_schedZ [(0, true), (1, true), (2, true), (3, true), (4, true), (5, false), (6, false), (7, true)] 8 _ F1 (by kernel_rfl) (by kernel_rfl) rfl (by kernel_rfl) rfl (fun _ _ _ _ _ h => h) (by kernel_rfl) (by rw [HF1.out]; first | trivial | (repeat' apply And.intro) <;> assumption | (simp; done) | (simp [*]; done)) (by rw [HF1.out]; exact fun h => h) ?_
            intro hne1
            simp only [opersOf, List.getElem?_toArray, List.getElem?_cons_succ, List.getElem?_cons_zero]
            repeat (first | (refine wpSched_free rfl ?_; intro K hK; go_big_quiet_op; go_big_quiet_on) | (refine wpSched_wantS _ rfl rfl rfl ?_; intro K hK; go_big_quiet_op; go_big_quiet_on) | (refine wpSched_skipS _ rfl rfl rfl rfl ?_; simp only [Act.put, List.setIfInBounds_toArray, List.set_cons_zero, List.set_cons_succ]) | (refine wpSched_skipU _ rfl rfl rfl ?_; simp only [Act.put, List.setIfInBounds_toArray, List.set_cons_zero, List.set_cons_succ]))
            refine wpSched_other ?_
            go_wp2_with fail
            have k00 : (wr.alloc (.cells #[.string (S x)] 9)).cell? ⟨w1.heap.size+1, 0, none⟩ = some vb := (World.cell?_alloc_lt wr _ _ hglt).trans c0
            refine sched_back (by rw [HF1.out]; first | trivial | (repeat' apply And.intro) <;> assumption | (simp; done) | (go_simp; done) | (simp [*]; done)) ?_
            repeat (first | (refine wpSched_free rfl ?_; intro K hK; go_big_quiet_op; go_big_quiet_on) | (refine wpSched_wantS _ rfl rfl rfl ?_; intro K hK; go_big_quiet_op; go_big_quiet_on) | (refine wpSched_skipS _ rfl rfl rfl rfl ?_; simp only [Act.put, List.setIfInBounds_toArray, List.set_cons_zero, List.set_cons_succ]) | (refine wpSched_skipU _ rfl rfl rfl ?_; simp only [Act.put, List.setIfInBounds_toArray, List.set_cons_zero, List.set_cons_succ]))
            refine wpSched_other ?_
            have hO1 : ∀ o, ((wr.alloc o).drew).ownsRow w1.heap.size 9 1 vb lb.length (strCells lb) := fun o => own_below hHT.out.ra (by repeat (first | exact Below.refl _ _ | assumption | refine Below.alloc ?_ (by first | exact Nat.le_refl _ | assumption | omega | (simp <;> omega)) _ | refine Below.setCell ?_ (by first | exact Nat.le_refl _ | assumption | omega | (simp <;> omega)) _ | refine Below.drew ?_ | refine below_drewN ?_ _))
            have hnw : ∀ j u, [Value.string (S x)][j]? = some u → ((wr.alloc (.cells #[.string (S x)] 9)).drew).cell? (Addr.add ⟨wr.heap.size, 0, none⟩ j) = some u := fun j u hj => cells_new wr #[.string (S x)] 9 j u hj
            have hbW : Below w1.heap.size w1 ((wr.alloc (.cells #[.string (S x)] 9)).drew) := (by repeat (first | exact Below.refl _ _ | assumption | refine Below.alloc ?_ (by first | exact Nat.le_refl _ | assumption | omega | (simp <;> omega)) _ | refine Below.setCell ?_ (by first | exact Nat.le_refl _ | assumption | omega | (simp <;> omega)) _ | refine Below.drew ?_ | refine below_drewN ?_ _))
            have hbW0 : Below wr.heap.size wr ((wr.alloc (.cells #[.string (S x)] 9)).drew) := (by repeat (first | exact Below.refl _ _ | assumption | refine Below.alloc ?_ (by first | exact Nat.le_refl _ | assumption | omega | (simp <;> omega)) _ | refine Below.setCell ?_ (by first | exact Nat.le_refl _ | assumption | omega | (simp <;> omega)) _ | refine Below.drew ?_ | refine below_drewN ?_ _))
            have HBW0 := Lib.hid hbW0
            clear hbW0
            go_wp2_with (at_builtin; go_must (refine wpList_appN rfl _ _ _ rfl w1.heap.size 9 i0 _ 1 16 Tryd.underlying30 hi0 hz0 hz1 hz2 rfl (by omega) _ lb.length (strCells lb) rfl (hO1 _) ⟨wr.heap.size, 0, none⟩ 1 1 [.string (S x)] rfl rfl hnw (by simp [Value.oneCell']) (by omega) (by omega) (by simp; omega) ?_); intro v6 w6 hown6 hg6 hb6 ha6; obtain ⟨A6, c6, rfl, _, _, _⟩ := own_form hown6)
            have hgne := rope_ne_some (own_ne_rope hHT.out.ra hHT.out.a)
            have k0 : w6.cell? ⟨w1.heap.size+1, 0, none⟩ = some vb := World.grownBy.cell (w := (wr.alloc (.cells #[.string (S x)] 9)).drew) (a := ⟨w1.heap.size+1, 0, none⟩) (v := vb) hg6 k00 hgne
            have HTN := Lib.hid ((hHT.out.below HBW0.out).appA (x := x) hg6 (by first | exact hown6 | (rw [← HEX.out]; exact hown6)) ha6)
            have hbn : Below w1.heap.size w1 (w6.setCell ⟨w1.heap.size+1, 0, none⟩ (.slice A6 (lb.length + 1) c6)) := Below.setCell (hbW.trans hb6) (p := ⟨w1.heap.size+1, 0, none⟩) hHT.out.ga _
            refine sched_back (by rw [HF1.out]; exact k0) ?_
            repeat (first | (refine wpSched_free rfl ?_; intro K hK; go_big_quiet_op; go_big_quiet_on) | (refine wpSched_wantS _ rfl rfl rfl ?_; intro K hK; go_big_quiet_op; go_big_quiet_on) | (refine wpSched_skipS _ rfl rfl rfl rfl ?_; simp only [Act.put, List.setIfInBounds_toArray, List.set_cons_zero, List.set_cons_succ]) | (refine wpSched_skipU _ rfl rfl rfl ?_; simp only [Act.put, List.setIfInBounds_toArray, List.set_cons_zero, List.set_cons_succ]))
            refine wpSched_nil ?_
            refine qz_nil ?_
            have q1f : w6.frozen? ⟨w1.heap.size+1, 0, none⟩ = false := ((hHT.out.a.below' HBW0.out).grown hg6 hgne).frozen 0
            clear HF1 hcell10 hne1 c0 f0 k00 hO1 hnw hbW HBW0 hown6 hg6 hb6 ha6 hHT
            go_wp2_with fail
            clear k0 q1f hgne hglt
            generalize (w6.setCell ⟨w1.heap.size+1, 0, none⟩ (.slice A6 (lb.length + 1) c6)) = w7 at *
            go_roundw
            case rel =>
              refine ⟨k + 1, va, .slice A6 (lb.length + 1) c6, by omega, by go_num, ?_, ?_, hbn⟩
              · rw [HTS.out]; have h9 := HQ.out; have h8 := HXS.out; first | go_num | (congr 1; omega)
              · rw [HSA.out, HSB.out]; exact HTN.out.sw
            case measure => simp [intOf]; omega
          · by_cases hqx : q < x.length
            · obtain ⟨hpa, hpb⟩ := pc_in (x := x) (r := q) (by omega) hqx
              rw [hpa] at HSA
              rw [hpb] at HSB
              have HEX : Hid ((S x).extract 0 q = S (x.take q)) := by
                unfold Hid; rw [extract_S, L_S, List.drop_zero, Nat.sub_zero]
              have HEX2 : Hid ((S x).extract q (S x).size = S (x.drop q)) := by
                unfold Hid; rw [extract_S, L_S, List.take_of_length_le (by rw [List.length_drop, hxs]; exact Nat.le_refl _)]
              clear hpa hpb
              have g5 : decide ((0 : Int) < (q : Int)) = true := decide_eq_true (by omega)
              have g5' : decide (0 < q) = true := decide_eq_true (by omega)
              have g6 : decide ((q : Int) < ((S x).size : Int)) = true := decide_eq_true (by omega)
              have g6' : decide (q < (S x).size) = true := decide_eq_true (by omega)
              have hmn : min (q : Int) ((S x).size : Int) = (q : Int) := by omega
              have hmx : max (0 : Int) (q : Int) = (q : Int) := by omega
              have hX200 : (S x).size ≤ 200 := by omega
              have hX1 : 0 < (S x).size := by omega
              have hq200 : q ≤ 200 := by have := HQ.out; omega
              have HXS := Lib.hid hxs
              clear hxs
              have hHT := Lib.hid (HTW.out)
              have c0 := Blk.cell0 hHT.out.a
              have f0 := Blk.frozen hHT.out.a 0
              have hglt := Blk.lt hHT.out.a
              go_wp2_with fail
              obtain ⟨F1, hFd⟩ : ∃ F : World → Prop, F = fun w' => w'.cell? ⟨w1.heap.size, 0, none⟩ = some (va) := ⟨_, rfl⟩
              have HF1 := Lib.hid hFd
              clear hFd
              have hcell10 : ∀ p' : Wof F1, p'.w.cell? ⟨w1.heap.size, 0, none⟩ = some (va) := fun ⟨x, hx⟩ => by rw [HF1.out] at hx; exact hx
              refine wp_region_schedZ [(0, true), (1, true), (2, true), (3, true), (4, true), (5, false), (6, false), (7, true)] 8 _ F1 (by kernel_rfl) (by kernel_rfl) rfl (by kernel_rfl) rfl (fun _ _ _ _ _ h => h) (by kernel_rfl) (by rw [HF1.out]; first | trivial | (repeat' apply And.intro) <;> assumption | (simp; done) | (simp [*]; done)) (by rw [HF1.out]; exact fun h => h) ?_
              intro hne1
              simp only [opersOf, List.getElem?_toArray, List.getElem?_cons_succ, List.getElem?_cons_zero]
              repeat (first | (refine wpSched_free rfl ?_; intro K hK; go_big_quiet_op; go_big_quiet_on) | (refine wpSched_wantS _ rfl rfl rfl ?_; intro K hK; go_big_quiet_op; go_big_quiet_on) | (refine wpSched_skipS _ rfl rfl rfl rfl ?_; simp only [Act.put, List.setIfInBounds_toArray, List.set_cons_zero, List.set_cons_succ]) | (refine wpSched_skipU _ rfl rfl rfl ?_; simp only [Act.put, List.setIfInBounds_toArray, List.set_cons_zero, List.set_cons_succ]))
              refine wpSched_other ?_
              go_wp2_with fail
              have k00 : (wr.alloc (.cells #[.string ((S x).extract 0 q)] 9)).cell? ⟨w1.heap.size, 0, none⟩ = some va := (World.cell?_alloc_lt wr _ _ hglt).trans c0
              refine sched_back (by rw [HF1.out]; first | trivial | (repeat' apply And.intro) <;> assumption | (simp; done) | (go_simp; done) | (simp [*]; done)) ?_
              repeat (first | (refine wpSched_free rfl ?_; intro K hK; go_big_quiet_op; go_big_quiet_on) | (refine wpSched_wantS _ rfl rfl rfl ?_; intro K hK; go_big_quiet_op; go_big_quiet_on) | (refine wpSched_skipS _ rfl rfl rfl rfl ?_; simp only [Act.put, List.setIfInBounds_toArray, List.set_cons_zero, List.set_cons_succ]) | (refine wpSched_skipU _ rfl rfl rfl ?_; simp only [Act.put, List.setIfInBounds_toArray, List.set_cons_zero, List.set_cons_succ]))
              refine wpSched_other ?_
              have hO1 : ∀ o, ((wr.alloc o).drew).ownsRow w1.heap.size 9 1 va la.length (strCells la) := fun o => own_below hHT.out.ra (by repeat (first | exact Below.refl _ _ | assumption | refine Below.alloc ?_ (by first | exact Nat.le_refl _ | assumption | omega | (simp <;> omega)) _ | refine Below.setCell ?_ (by first | exact Nat.le_refl _ | assumption | omega | (simp <;> omega)) _ | refine Below.drew ?_ | refine below_drewN ?_ _))
              have hnw : ∀ j u, [Value.string ((S x).extract 0 q)][j]? = some u → ((wr.alloc (.cells #[.string ((S x).extract 0 q)] 9)).drew).cell? (Addr.add ⟨wr.heap.size, 0, none⟩ j) = some u := fun j u hj => cells_new wr #[.string ((S x).extract 0 q)] 9 j u hj
              have hbW : Below w1.heap.size w1 ((wr.alloc (.cells #[.string ((S x).extract 0 q)] 9)).drew) := (by repeat (first | exact Below.refl _ _ | assumption | refine Below.alloc ?_ (by first | exact Nat.le_refl _ | assumption | omega | (simp <;> omega)) _ | refine Below.setCell ?_ (by first | exact Nat.le_refl _ | assumption | omega | (simp <;> omega)) _ | refine Below.drew ?_ | refine below_drewN ?_ _))
              have hbW0 : Below wr.heap.size wr ((wr.alloc (.cells #[.string ((S x).extract 0 q)] 9)).drew) := (by repeat (first | exact Below.refl _ _ | assumption | refine Below.alloc ?_ (by first | exact Nat.le_refl _ | assumption | omega | (simp <;> omega)) _ | refine Below.setCell ?_ (by first | exact Nat.le_refl _ | assumption | omega | (simp <;> omega)) _ | refine Below.drew ?_ | refine below_drewN ?_ _))
              have HBW0 := Lib.hid hbW0
              clear hbW0
              go_wp2_with (at_builtin; go_must (refine wpList_appN rfl _ _ _ rfl w1.heap.size 9 i0 _ 1 16 Tryd.underlying30 hi0 hz0 hz1 hz2 rfl (by omega) _ la.length (strCells la) rfl (hO1 _) ⟨wr.heap.size, 0, none⟩ 1 1 [.string ((S x).extract 0 q)] rfl rfl hnw (by simp [Value.oneCell']) (by omega) (by omega) (by simp; omega) ?_); intro v6 w6 hown6 hg6 hb6 ha6; obtain ⟨A6, c6, rfl, _, _, _⟩ := own_form hown6)
              have hgne := rope_ne_some (own_ne_rope hHT.out.ra hHT.out.a)
              have k0 : w6.cell? ⟨w1.heap.size, 0, none⟩ = some va := World.grownBy.cell (w := (wr.alloc (.cells #[.string ((S x).extract 0 q)] 9)).drew) (a := ⟨w1.heap.size, 0, none⟩) (v := va) hg6 k00 hgne
              have HTN := Lib.hid ((hHT.out.below HBW0.out).appA (x := (x.take q)) hg6 (by first | exact hown6 | (rw [← HEX.out]; exact hown6)) ha6)
              have hbn : Below w1.heap.size w1 (w6.setCell ⟨w1.heap.size, 0, none⟩ (.slice A6 (la.length + 1) c6)) := Below.setCell (hbW.trans hb6) (p := ⟨w1.heap.size, 0, none⟩) hHT.out.ga _
              refine sched_back (by rw [HF1.out]; exact k0) ?_
              repeat (first | (refine wpSched_free rfl ?_; intro K hK; go_big_quiet_op; go_big_quiet_on) | (refine wpSched_wantS _ rfl rfl rfl ?_; intro K hK; go_big_quiet_op; go_big_quiet_on) | (refine wpSched_skipS _ rfl rfl rfl rfl ?_; simp only [Act.put, List.setIfInBounds_toArray, List.set_cons_zero, List.set_cons_succ]) | (refine wpSched_skipU _ rfl rfl rfl ?_; simp only [Act.put, List.setIfInBounds_toArray, List.set_cons_zero, List.set_cons_succ]))
              refine wpSched_nil ?_
              refine qz_nil ?_
              have q1f : w6.frozen? ⟨w1.heap.size, 0, none⟩ = false := ((hHT.out.a.below' HBW0.out).grown hg6 hgne).frozen 0
              clear HF1 hcell10 hne1 c0 f0 k00 hO1 hnw hbW HBW0 hown6 hg6 hb6 ha6 hHT
              go_wp2_with fail
              clear k0 q1f hgne hglt
              generalize (w6.setCell ⟨w1.heap.size, 0, none⟩ (.slice A6 (la.length + 1) c6)) = w7 at *
              have hbn1 := hbn
              have hbs7 := hbn.size
              have HTN1 := HTN
              have hvA := A6
              have HEX := HEX2
              generalize (Value.slice A6 (la.length + 1) c6) = va6 at *
              have hHT := Lib.hid (HTN1.out.sw)
              have c0 := Blk.cell0 hHT.out.a
              have f0 := Blk.frozen hHT.out.a 0
              have hglt := Blk.lt hHT.out.a
              go_wp2_with fail
              obtain ⟨F1, hFd⟩ : ∃ F : World → Prop, F = fun w' => w'.cell? ⟨w1.heap.size+1, 0, none⟩ = some (vb) := ⟨_, rfl⟩
              have HF1 := Lib.hid hFd
              clear hFd
              have hcell10 : ∀ p' : Wof F1, p'.w.cell? ⟨w1.heap.size+1, 0, none⟩ = some (vb) := fun ⟨x, hx⟩ => by rw [HF1.out] at hx; exact hx
              refine wp_region_schedZ [(0, true), (1, true), (2, true), (3, true), (4, true), (5, false), (6, false), (7, true)] 8 _ F1 (by kernel_rfl) (by kernel_rfl) rfl (by kernel_rfl) rfl (fun _ _ _ _ _ h => h) (by kernel_rfl) (by rw [HF1.out]; first | trivial | (repeat' apply And.intro) <;> assumption | (simp; done) | (simp [*]; done)) (by rw [HF1.out]; exact fun h => h) ?_
              intro hne1
              simp only [opersOf, List.getElem?_toArray, List.getElem?_cons_succ, List.getElem?_cons_zero]
              repeat (first | (refine wpSched_free rfl ?_; intro K hK; go_big_quiet_op; go_big_quiet_on) | (refine wpSched_wantS _ rfl rfl rfl ?_; intro K hK; go_big_quiet_op; go_big_quiet_on) | (refine wpSched_skipS _ rfl rfl rfl rfl ?_; simp only [Act.put, List.setIfInBounds_toArray, List.set_cons_zero, List.set_cons_succ]) | (refine wpSched_skipU _ rfl rfl rfl ?_; simp only [Act.put, List.setIfInBounds_toArray, List.set_cons_zero, List.set_cons_succ]))
              refine wpSched_other ?_
              go_wp2_with fail
              have k00 : (w7.alloc (.cells #[.string ((S x).extract q (S x).size)] 9)).cell? ⟨w1.heap.size+1, 0, none⟩ = some vb := (World.cell?_alloc_lt w7 _ _ hglt).trans c0
              refine sched_back (by rw [HF1.out]; first | trivial | (repeat' apply And.intro) <;> assumption | (simp; done) | (go_simp; done) | (simp [*]; done)) ?_
              repeat (first | (refine wpSched_free rfl ?_; intro K hK; go_big_quiet_op; go_big_quiet_on) | (refine wpSched_wantS _ rfl rfl rfl ?_; intro K hK; go_big_quiet_op; go_big_quiet_on) | (refine wpSched_skipS _ rfl rfl rfl rfl ?_; simp only [Act.put, List.setIfInBounds_toArray, List.set_cons_zero, List.set_cons_succ]) | (refine wpSched_skipU _ rfl rfl rfl ?_; simp only [Act.put, List.setIfInBounds_toArray, List.set_cons_zero, List.set_cons_succ]))
              refine wpSched_other ?_
              have hO1 : ∀ o, ((w7.alloc o).drew).ownsRow w1.heap.size 9 1 vb lb.length (strCells lb) := fun o => own_below hHT.out.ra (by repeat (first | exact Below.refl _ _ | assumption | refine Below.alloc ?_ (by first | exact Nat.le_refl _ | assumption | omega | (simp <;> omega)) _ | refine Below.setCell ?_ (by first | exact Nat.le_refl _ | assumption | omega | (simp <;> omega)) _ | refine Below.drew ?_ | refine below_drewN ?_ _))
              have hnw : ∀ j u, [Value.string ((S x).extract q (S x).size)][j]? = some u → ((w7.alloc (.cells #[.string ((S x).extract q (S x).size)] 9)).drew).cell? (Addr.add ⟨w7.heap.size, 0, none⟩ j) = some u := fun j u hj => cells_new w7 #[.string ((S x).extract q (S x).size)] 9 j u hj
              have hbW : Below w1.heap.size w1 ((w7.alloc (.cells #[.string ((S x).extract q (S x).size)] 9)).drew) := (by repeat (first | exact Below.refl _ _ | assumption | refine Below.alloc ?_ (by first | exact Nat.le_refl _ | assumption | omega | (simp <;> omega)) _ | refine Below.setCell ?_ (by first | exact Nat.le_refl _ | assumption | omega | (simp <;> omega)) _ | refine Below.drew ?_ | refine below_drewN ?_ _))
              have hbW0 : Below w7.heap.size w7 ((w7.alloc (.cells #[.string ((S x).extract q (S x).size)] 9)).drew) := (by repeat (first | exact Below.refl _ _ | assumption | refine Below.alloc ?_ (by first | exact Nat.le_refl _ | assumption | omega | (simp <;> omega)) _ | refine Below.setCell ?_ (by first | exact Nat.le_refl _ | assumption | omega | (simp <;> omega)) _ | refine Below.drew ?_ | refine below_drewN ?_ _))
              have HBW0 := Lib.hid hbW0
              clear hbW0
              go_wp2_with (at_builtin; go_must (refine wpList_appN rfl _ _ _ rfl w1.heap.size 9 i0 _ 1 16 Tryd.underlying30 hi0 hz0 hz1 hz2 rfl (by omega) _ lb.length (strCells lb) rfl (hO1 _) ⟨w7.heap.size, 0, none⟩ 1 1 [.string ((S x).extract q (S x).size)] rfl rfl hnw (by simp [Value.oneCell']) (by omega) (by omega) (by simp; omega) ?_); intro v6 w6 hown6 hg6 hb6 ha6; obtain ⟨A6, c6, rfl, _, _, _⟩ := own_form hown6)
              have hgne := rope_ne_some (own_ne_rope hHT.out.ra hHT.out.a)
              have k0 : w6.cell? ⟨w1.heap.size+1, 0, none⟩ = some vb := World.grownBy.cell (w := (w7.alloc (.cells #[.string ((S x).extract q (S x).size)] 9)).drew) (a := ⟨w1.heap.size+1, 0, none⟩) (v := vb) hg6 k00 hgne
              have HTN := Lib.hid ((hHT.out.below HBW0.out).appA (x := (x.drop q)) hg6 (by first | exact hown6 | (rw [← HEX.out]; exact hown6)) ha6)
              have hbn : Below w1.heap.size w1 (w6.setCell ⟨w1.heap.size+1, 0, none⟩ (.slice A6 (lb.length + 1) c6)) := Below.setCell (hbW.trans hb6) (p := ⟨w1.heap.size+1, 0, none⟩) hHT.out.ga _
              refine sched_back (by rw [HF1.out]; exact k0) ?_
              repeat (first | (refine wpSched_free rfl ?_; intro K hK; go_big_quiet_op; go_big_quiet_on) | (refine wpSched_wantS _ rfl rfl rfl ?_; intro K hK; go_big_quiet_op; go_big_quiet_on) | (refine wpSched_skipS _ rfl rfl rfl rfl ?_; simp only [Act.put, List.setIfInBounds_toArray, List.set_cons_zero, List.set_cons_succ]) | (refine wpSched_skipU _ rfl rfl rfl ?_; simp only [Act.put, List.setIfInBounds_toArray, List.set_cons_zero, List.set_cons_succ]))
              refine wpSched_nil ?_
              refine qz_nil ?_
              have q1f : w6.frozen? ⟨w1.heap.size+1, 0, none⟩ = false := ((hHT.out.a.below' HBW0.out).grown hg6 hgne).frozen 0
              clear HF1 hcell10 hne1 c0 f0 k00 hO1 hnw hbW HBW0 hown6 hg6 hb6 ha6 hHT
              go_wp2_with fail
              clear k0 q1f hgne hglt
              generalize (w6.setCell ⟨w1.heap.size+1, 0, none⟩ (.slice A6 (lb.length + 1) c6)) = w7 at *
              go_roundw
              case rel =>
                refine ⟨k + 1, va6, .slice A6 (lb.length + 1) c6, by omega, by go_num, ?_, ?_, hbn⟩
                · rw [HTS.out]; have h9 := HQ.out; have h8 := HXS.out; first | go_num | (congr 1; omega)
                · rw [HSA.out, HSB.out]; exact HTN.out.sw
              case measure => simp [intOf]; omega
            · obtain ⟨hpa, hpb⟩ := pc_whole (x := x) (r := q) hx0 (by omega)
              rw [hpa] at HSA
              rw [hpb, List.append_nil] at HSB
              have HEX : Hid ((S x).extract 0 (S x).size = S x) := by
                unfold Hid; rw [extract_S, L_S, List.drop_zero, Nat.sub_zero, hxs, List.take_length]
              clear hpa hpb
              have g5 : decide ((0 : Int) < ((S x).size : Int)) = true := decide_eq_true (by omega)
              have g5' : decide (0 < (S x).size) = true := decide_eq_true (by omega)
              have g6 : decide (((S x).size : Int) < ((S x).size : Int)) = false := by simp
              have g6' : decide ((S x).size < (S x).size) = false := by simp
              have hqX : (S x).size ≤ q := by omega
              have hmn : min (q : Int) ((S x).size : Int) = ((S x).size : Int) := by omega
              have hmx : max (0 : Int) ((S x).size : Int) = ((S x).size : Int) := by omega
              have hX200 : (S x).size ≤ 200 := by omega
              have hX1 : 0 < (S x).size := by omega
              have hq200 : q ≤ 200 := by have := HQ.out; omega
              have HXS := Lib.hid hxs
              clear hxs
              have hHT := Lib.hid (HTW.out)
              have c0 := Blk.cell0 hHT.out.a
              have f0 := Blk.frozen hHT.out.a 0
              have hglt := Blk.lt hHT.out.a
              go_wp2_with fail
              obtain ⟨F1, hFd⟩ : ∃ F : World → Prop, F = fun w' => w'.cell? ⟨w1.heap.size, 0, none⟩ = some (va) := ⟨_, rfl⟩
              have HF1 := Lib.hid hFd
              clear hFd
              have hcell10 : ∀ p' : Wof F1, p'.w.cell? ⟨w1.heap.size, 0, none⟩ = some (va) := fun ⟨x, hx⟩ => by rw [HF1.out] at hx; exact hx
              refine wp_region_schedZ [(0, true), (1, true), (2, true), (3, true), (4, true), (5, false), (6, false), (7, true)] 8 _ F1 (by kernel_rfl) (by kernel_rfl) rfl (by kernel_rfl) rfl (fun _ _ _ _ _ h => h) (by kernel_rfl) (by rw [HF1.out]; first | trivial | (repeat' apply And.intro) <;> assumption | (simp; done) | (simp [*]; done)) (by rw [HF1.out]; exact fun h => h) ?_
              intro hne1
              simp only [opersOf, List.getElem?_toArray, List.getElem?_cons_succ, List.getElem?_cons_zero]
              repeat (first | (refine wpSched_free rfl ?_; intro K hK; go_big_quiet_op; go_big_quiet_on) | (refine wpSched_wantS _ rfl rfl rfl ?_; intro K hK; go_big_quiet_op; go_big_quiet_on) | (refine wpSched_skipS _ rfl rfl rfl rfl ?_; simp only [Act.put, List.setIfInBounds_toArray, List.set_cons_zero, List.set_cons_succ]) | (refine wpSched_skipU _ rfl rfl rfl ?_; simp only [Act.put, List.setIfInBounds_toArray, List.set_cons_zero, List.set_cons_succ]))
              refine wpSched_other ?_
              go_wp2_with fail
              have k00 : (wr.alloc (.cells #[.string (S x)] 9)).cell? ⟨w1.heap.size, 0, none⟩ = some va := (World.cell?_alloc_lt wr _ _ hglt).trans c0
              refine sched_back (by rw [HF1.out]; first | trivial | (repeat' apply And.intro) <;> assumption | (simp; done) | (go_simp; done) | (simp [*]; done)) ?_
              repeat (first | (refine wpSched_free rfl ?_; intro K hK; go_big_quiet_op; go_big_quiet_on) | (refine wpSched_wantS _ rfl rfl rfl ?_; intro K hK; go_big_quiet_op; go_big_quiet_on) | (refine wpSched_skipS _ rfl rfl rfl rfl ?_; simp only [Act.put, List.setIfInBounds_toArray, List.set_cons_zero, List.set_cons_succ]) | (refine wpSched_skipU _ rfl rfl rfl ?_; simp only [Act.put, List.setIfInBounds_toArray, List.set_cons_zero, List.set_cons_succ]))
              refine wpSched_other ?_
              have hO1 : ∀ o, ((wr.alloc o).drew).ownsRow w1.heap.size 9 1 va la.length (strCells la) := fun o => own_below hHT.out.ra (by repeat (first | exact Below.refl _ _ | assumption | refine Below.alloc ?_ (by first | exact Nat.le_refl _ | assumption | omega | (simp <;> omega)) _ | refine Below.setCell ?_ (by first | exact Nat.le_refl _ | assumption | omega | (simp <;> omega)) _ | refine Below.drew ?_ | refine below_drewN ?_ _))
              have hnw : ∀ j u, [Value.string (S x)][j]? = some u → ((wr.alloc (.cells #[.string (S x)] 9)).drew).cell? (Addr.add ⟨wr.heap.size, 0, none⟩ j) = some u := fun j u hj => cells_new wr #[.string (S x)] 9 j u hj
              have hbW : Below w1.heap.size w1 ((wr.alloc (.cells #[.string (S x)] 9)).drew) := (by repeat (first | exact Below.refl _ _ | assumption | refine Below.alloc ?_ (by first | exact Nat.le_refl _ | assumption | omega | (simp <;> omega)) _ | refine Below.setCell ?_ (by first | exact Nat.le_refl _ | assumption | omega | (simp <;> omega)) _ | refine Below.drew ?_ | refine below_drewN ?_ _))
              have hbW0 : Below wr.heap.size wr ((wr.alloc (.cells #[.string (S x)] 9)).drew) := (by repeat (first | exact Below.refl _ _ | assumption | refine Below.alloc ?_ (by first | exact Nat.le_refl _ | assumption | omega | (simp <;> omega)) _ | refine Below.setCell ?_ (by first | exact Nat.le_refl _ | assumption | omega | (simp <;> omega)) _ | refine Below.drew ?_ | refine below_drewN ?_ _))
              have HBW0 := Lib.hid hbW0
              clear hbW0
              go_wp2_with (at_builtin; go_must (refine wpList_appN rfl _ _ _ rfl w1.heap.size 9 i0 _ 1 16 Tryd.underlying30 hi0 hz0 hz1 hz2 rfl (by omega) _ la.length (strCells la) rfl (hO1 _) ⟨wr.heap.size, 0, none⟩ 1 1 [.string (S x)] rfl rfl hnw (by simp [Value.oneCell']) (by omega) (by omega) (by simp; omega) ?_); intro v6 w6 hown6 hg6 hb6 ha6; obtain ⟨A6, c6, rfl, _, _, _⟩ := own_form hown6)
              have hgne := rope_ne_some (own_ne_rope hHT.out.ra hHT.out.a)
              have k0 : w6.cell? ⟨w1.heap.size, 0, none⟩ = some va := World.grownBy.cell (w := (wr.alloc (.cells #[.string (S x)] 9)).drew) (a := ⟨w1.heap.size, 0, none⟩) (v := va) hg6 k00 hgne
              have HTN := Lib.hid ((hHT.out.below HBW0.out).appA (x := x) hg6 (by first | exact hown6 | (rw [← HEX.out]; exact hown6)) ha6)
              have hbn : Below w1.heap.size w1 (w6.setCell ⟨w1.heap.size, 0, none⟩ (.slice A6 (la.length + 1) c6)) := Below.setCell (hbW.trans hb6) (p := ⟨w1.heap.size, 0, none⟩) hHT.out.ga _
              refine sched_back (by rw [HF1.out]; exact k0) ?_
              repeat (first | (refine wpSched_free rfl ?_; intro K hK; go_big_quiet_op; go_big_quiet_on) | (refine wpSched_wantS _ rfl rfl rfl ?_; intro K hK; go_big_quiet_op; go_big_quiet_on) | (refine wpSched_skipS _ rfl rfl rfl rfl ?_; simp only [Act.put, List.setIfInBounds_toArray, List.set_cons_zero, List.set_cons_succ]) | (refine wpSched_skipU _ rfl rfl rfl ?_; simp only [Act.put, List.setIfInBounds_toArray, List.set_cons_zero, List.set_cons_succ]))
              refine wpSched_nil ?_
              refine qz_nil ?_
              have q1f : w6.frozen? ⟨w1.heap.size, 0, none⟩ = false := ((hHT.out.a.below' HBW0.out).grown hg6 hgne).frozen 0
              clear HF1 hcell10 hne1 c0 f0 k00 hO1 hnw hbW HBW0 hown6 hg6 hb6 ha6 hHT
              go_wp2_with fail
              clear k0 q1f hgne hglt
              generalize (w6.setCell ⟨w1.heap.size, 0, none⟩ (.slice A6 (la.length + 1) c6)) = w7 at *
              go_roundw
              case rel =>
                refine ⟨k + 1, .slice A6 (la.length + 1) c6, vb, by omega, by go_num, ?_, ?_, hbn⟩
                · rw [HTS.out]; have h9 := HQ.out; have h8 := HXS.out; first | go_num | (congr 1; omega)
                · rw [HSA.out, HSB.out]; exact HTN.out
              case measure => simp [intOf]; omega
        · obtain rfl : k = n := by omega
          have g3 : decide ((k : Int) < (k : Int)) = false := by simp
          have htk : p.take k = p := List.take_of_length_le (by rw [HPN.out]; exact Nat.le_refl _)
          rw [htk] at HTW
          clear htk
          obtain ⟨la, hla0⟩ : ∃ la, la = cutA r p := ⟨_, rfl⟩
          obtain ⟨lb, hlb0⟩ : ∃ lb, lb = cutB r p := ⟨_, rfl⟩
          rw [← hla0, ← hlb0] at HTW
          have HLA := Lib.hid hla0
          have HLB := Lib.hid hlb0
          clear hla0 hlb0
          obtain ⟨Aa, ca, hva, _, _, _⟩ := own_form HTW.out.ra
          subst hva
          obtain ⟨Ab, cb, hvb, _, _, _⟩ := own_form HTW.out.rb
          subst hvb
          have h4 := H4.out.below' hb
          have h5 := H5.out.below' hb
          have q4 := Blk.cell0 h4; have q5 := Blk.cell0 h5
          have f4 := Blk.frozen h4 0; have f5 := Blk.frozen h5 0
          have c9 := Blk.cell0 HTW.out.a; have c10 := Blk.cell0 HTW.out.b
          have hbF0 : Below w.heap.size w wr := hbb.trans (hb.mono (by omega))
          have hd1 : w1.heap.size ≠ w.heap.size + 1 := by omega
          have hd2 : w1.heap.size + 1 ≠ w.heap.size + 1 := by omega
          have hd3 : w1.heap.size ≠ w.heap.size + 1 + 1 := by omega
          have hd4 : w1.heap.size + 1 ≠ w.heap.size + 1 + 1 := by omega
          have hT4 : TwoR (wr.setCell ⟨w.heap.size + 1, 0, none⟩ (.slice Aa la.length ca)) w1.heap.size w1.heap.size (w1.heap.size + 1) (.slice Aa la.length ca) (.slice Ab lb.length cb) la lb :=
            ⟨HTW.out.a.far (p := ⟨w.heap.size + 1, 0, none⟩) hd1 _, HTW.out.b.far (p := ⟨w.heap.size + 1, 0, none⟩) hd2 _, own_far HTW.out.ra (own_ne_rope HTW.out.ra h4) 0 _, own_far HTW.out.rb (own_ne_rope HTW.out.rb h4) 0 _, HTW.out.ap, HTW.out.ga, HTW.out.gb, HTW.out.ne⟩
          have h4' : Blk (wr.setCell ⟨w.heap.size + 1, 0, none⟩ (.slice Aa la.length ca)) (w.heap.size + 1) 32 #[(.slice Aa la.length ca)] := h4.set_ 0 (.slice Aa la.length ca)
          have h5' := h5.far (p := ⟨w.heap.size + 1, 0, none⟩) (by show w.heap.size + 1 + 1 ≠ w.heap.size + 1; omega) (.slice Aa la.length ca)
          have hT5 : TwoR ((wr.setCell ⟨w.heap.size + 1, 0, none⟩ (.slice Aa la.length ca)).setCell ⟨w.heap.size + 1 + 1, 0, none⟩ (.slice Ab lb.length cb)) w1.heap.size w1.heap.size (w1.heap.size + 1) (.slice Aa la.length ca) (.slice Ab lb.length cb) la lb :=
            ⟨hT4.a.far (p := ⟨w.heap.size + 1 + 1, 0, none⟩) hd3 _, hT4.b.far (p := ⟨w.heap.size + 1 + 1, 0, none⟩) hd4 _, own_far hT4.ra (own_ne_rope hT4.ra h5') 0 _, own_far hT4.rb (own_ne_rope hT4.rb h5') 0 _, hT4.ap, hT4.ga, hT4.gb, hT4.ne⟩
          have R4 : (wr.setCell ⟨w.heap.size + 1, 0, none⟩ (.slice Aa la.length ca)).cell? ⟨w.heap.size + 1, 0, none⟩ = some (.slice Aa la.length ca) := Blk.cell0 h4'
          have R5 : ((wr.setCell ⟨w.heap.size + 1, 0, none⟩ (.slice Aa la.length ca)).setCell ⟨w.heap.size + 1 + 1, 0, none⟩ (.slice Ab lb.length cb)).cell? ⟨w.heap.size + 1 + 1, 0, none⟩ = some (.slice Ab lb.length cb) := Blk.cell0 (h5'.set_ 0 (.slice Ab lb.length cb))
          have HFIN : Hid (Below w.heap.size w (((wr.setCell ⟨w.heap.size + 1, 0, none⟩ (.slice Aa la.length ca)).setCell ⟨w.heap.size + 1 + 1, 0, none⟩ (.slice Ab lb.length cb)).drew)) := (by repeat (first | exact Below.refl _ _ | assumption | refine Below.alloc ?_ (by first | exact Nat.le_refl _ | assumption | omega | (simp <;> omega)) _ | refine Below.setCell ?_ (by first | exact Nat.le_refl _ | assumption | omega | (simp <;> omega)) _ | refine Below.drew ?_ | refine below_drewN ?_ _))
          have HT5 := Lib.hid hT5
          have c9' := Blk.cell0 hT4.a; have c10' := Blk.cell0 hT4.b
          have q5' := Blk.cell0 h5'; have f5' := Blk.frozen h5' 0
          have c9'' := Blk.cell0 hT5.a; have c10'' := Blk.cell0 hT5.b
          have HC1 := Lib.hid (And.intro c9' c10')
          have HC2 := Lib.hid (And.intro c9'' c10'')
          clear hT4 hT5 h4 h5 h4' h5' HTW hb
          go_wp2_with fail
          obtain ⟨F1, hFd⟩ : ∃ F : World → Prop, F = fun w' => w'.cell? ⟨w1.heap.size, 0, none⟩ = some (.slice Aa la.length ca) ∧ w'.cell? ⟨w1.heap.size + 1, 0, none⟩ = some (.slice Ab lb.length cb) := ⟨_, rfl⟩
          have HF1 := Lib.hid hFd
          clear hFd
          have hcell10 : ∀ p' : Wof F1, p'.w.cell? ⟨w1.heap.size, 0, none⟩ = some (.slice Aa la.length ca) := fun ⟨x, hx⟩ => by rw [HF1.out] at hx; exact hx.1
          have hcell11 : ∀ p' : Wof F1, p'.w.cell? ⟨w1.heap.size + 1, 0, none⟩ = some (.slice Ab lb.length cb) := fun ⟨x, hx⟩ => by rw [HF1.out] at hx; exact hx.2
          refine wp_region_schedZ [(0, true), (1, true), (2, false), (3, false)] 4 _ F1 (by kernel_rfl) (by kernel_rfl) rfl (by kernel_rfl) rfl (fun _ _ _ _ _ h => h) (by kernel_rfl) (by rw [HF1.out]; first | trivial | (repeat' apply And.intro) <;> assumption | (simp; done) | (simp [*]; done)) (by rw [HF1.out]; exact fun h => h) ?_
          intro hne1
          simp only [opersOf, List.getElem?_toArray, List.getElem?_cons_succ, List.getElem?_cons_zero]
          repeat (first | (refine wpSched_free rfl ?_; intro K hK; go_big_quiet_op; go_big_quiet_on) | (refine wpSched_wantS _ rfl rfl rfl ?_; intro K hK; go_big_quiet_op; go_big_quiet_on) | (refine wpSched_skipS _ rfl rfl rfl rfl ?_; simp only [Act.put, List.setIfInBounds_toArray, List.set_cons_zero, List.set_cons_succ]) | (refine wpSched_skipU _ rfl rfl rfl ?_; simp only [Act.put, List.setIfInBounds_toArray, List.set_cons_zero, List.set_cons_succ]))
          refine wpSched_other ?_
          go_wp2_with fail
          refine sched_back (by rw [HF1.out]; exact HC1.out) ?_
          repeat (first | (refine wpSched_free rfl ?_; intro K hK; go_big_quiet_op; go_big_quiet_on) | (refine wpSched_wantS _ rfl rfl rfl ?_; intro K hK; go_big_quiet_op; go_big_quiet_on) | (refine wpSched_skipS _ rfl rfl rfl rfl ?_; simp only [Act.put, List.setIfInBounds_toArray, List.set_cons_zero, List.set_cons_succ]) | (refine wpSched_skipU _ rfl rfl rfl ?_; simp only [Act.put, List.setIfInBounds_toArray, List.set_cons_zero, List.set_cons_succ]))
          refine wpSched_other ?_
          go_wp2_with fail
          refine sched_back (by rw [HF1.out]; exact HC2.out) ?_
          repeat (first | (refine wpSched_free rfl ?_; intro K hK; go_big_quiet_op; go_big_quiet_on) | (refine wpSched_wantS _ rfl rfl rfl ?_; intro K hK; go_big_quiet_op; go_big_quiet_on) | (refine wpSched_skipS _ rfl rfl rfl rfl ?_; simp only [Act.put, List.setIfInBounds_toArray, List.set_cons_zero, List.set_cons_succ]) | (refine wpSched_skipU _ rfl rfl rfl ?_; simp only [Act.put, List.setIfInBounds_toArray, List.set_cons_zero, List.set_cons_succ]))
          refine wpSched_nil ?_
          refine qz_nil ?_
          go_wp2_with fail
          (apply bodyPost_ret; (simp [results, Tryd.results26, go_sem, R4, R5]; rfl); rfl)
          refine ⟨_, _, rfl, ?_, ?_, HT5.out.ap, HFIN.out⟩
          · have h9 := own_lower HT5.out.ra (show w.heap.size ≤ w1.heap.size by omega)
            rw [← HLA.out]
            exact h9
          · have h9 := own_lower HT5.out.rb (show w.heap.size ≤ w1.heap.size by omega)
            rw [← HLB.out]
            exact h9
end Go.Proofs.YtmikckhihfcooaaDoor
namespace Go.Proofs.YtmikckhihfcooaaDoor
open Go.RowKit
theorem one_news {w : World} {b : Nat} {v : Value} (h : w.cell? ⟨b, 0, none⟩ = some v) : ∀ (j : Nat) u, [v][j]? = some u → w.cell? (Addr.add ⟨b, 0, none⟩ j) = some u
  | 0, u, hj => by
    have : v = u := by simpa using hj
    subst this; exact h
  | j + 1, u, hj => by simp at hj
/-- Two rows, and two blocks that may hold older ones. -/
structure TwoG (w : World) (base gA gB : Nat) (ca cb va vb : Value) (la lb : Parts) : Prop where
  a : Blk w gA 32 #[ca]
  b : Blk w gB 32 #[cb]
  ra : w.ownsRow base 9 1 va la.length (strCells la)
  rb : w.ownsRow base 9 1 vb lb.length (strCells lb)
  ap : Apart va vb
  ga : base ≤ gA
  gb : base ≤ gB
  ne : gA ≠ gB
section
variable {w w' : World} {base gA gB g : Nat} {ca cb va vb v6 v u : Value} {la lb l : Parts} {x : List UInt8}
theorem TwoG.of (h : TwoR w base gA gB va vb la lb) : TwoG w base gA gB va vb va vb la lb := ⟨h.a, h.b, h.ra, h.rb, h.ap, h.ga, h.gb, h.ne⟩
theorem TwoG.to (h : TwoG w base gA gB va vb va vb la lb) : TwoR w base gA gB va vb la lb := ⟨h.a, h.b, h.ra, h.rb, h.ap, h.ga, h.gb, h.ne⟩
theorem TwoG.sw (h : TwoG w base gA gB ca cb va vb la lb) : TwoG w base gB gA cb ca vb va lb la := ⟨h.b, h.a, h.rb, h.ra, h.ap.comm, h.gb, h.ga, h.ne.symm⟩
theorem TwoG.below (h : TwoG w base gA gB ca cb va vb la lb) (hb : Below w.heap.size w w') : TwoG w' base gA gB ca cb va vb la lb := ⟨h.a.below' hb, h.b.below' hb, own_below h.ra hb, own_below h.rb hb, h.ap, h.ga, h.gb, h.ne⟩
theorem TwoG.growA (h : TwoG w base gA gB ca cb va vb la lb) (hg : w.grownBy w' va.ownBlock) (hown : w'.ownsRow base 9 1 v6 (la.length + 1) (strCells la ++ [.string (S x)])) (ha : v6.ownBlock = va.ownBlock ∨ v6.ownBlock = some w.heap.size) :
    TwoG w' base gA gB ca cb v6 vb (la ++ [x]) lb := by
  have hA : Blk w' gA 32 #[ca] := h.a.grown hg (rope_ne_some (own_ne_rope h.ra h.a))
  have hB : Blk w' gB 32 #[cb] := h.b.grown hg (rope_ne_some (own_ne_rope h.ra h.b))
  have ho : w'.ownsRow base 9 1 v6 (la ++ [x]).length (strCells (la ++ [x])) := by
    rw [List.length_append, strCells, List.map_append]; exact hown
  exact ⟨hA, hB, ho, own_apart h.rb h.ap.comm hg, (apart_new h.rb h.ap.comm ha).comm, h.ga, h.gb, h.ne⟩
theorem TwoG.setA (h : TwoG w base gA gB ca cb va vb la lb) (u : Value) : TwoG (w.setCell ⟨gA, 0, none⟩ u) base gA gB u cb va vb la lb :=
  ⟨h.a.set_ 0 u, h.b.far (p := ⟨gA, 0, none⟩) h.ne.symm u, own_far h.ra (own_ne_rope h.ra h.a) 0 u, own_far h.rb (own_ne_rope h.rb h.a) 0 u, h.ap, h.ga, h.gb, h.ne⟩
theorem TwoG.cells (h : TwoG w base gA gB ca cb va vb la lb) : w.cell? ⟨gA, 0, none⟩ = some ca ∧ w.cell? ⟨gB, 0, none⟩ = some cb := ⟨Blk.cell0 h.a, Blk.cell0 h.b⟩
theorem grown_cell {b : Nat} (hg : w.grownBy w' v.ownBlock) (h : w.cell? ⟨b, 0, none⟩ = some u) (hb : ∀ k, v.ownBlock = some k → k ≠ b) : w'.cell? ⟨b, 0, none⟩ = some u :=
  World.grownBy.cell (w := w) (a := ⟨b, 0, none⟩) (v := u) hg h (fun e => hb b e.symm rfl)
end
end Go.Proofs.YtmikckhihfcooaaDoor
namespace Go.Proofs.YtmikckhihfcooaaDoor
open Go.RowKit
def joinE (p q : Parts) : Int := if ropeErr p ≠ 0 then ropeErr p else if ropeErr q ≠ 0 then ropeErr q else joinErr p q
def joinP (p q : Parts) : Parts := if joinE p q = 0 then p ++ q else []
theorem joinE_ok {p q : Parts} (hp : RopeOk p) (hq : RopeOk q) : joinE p q = joinErr p q := by
  unfold joinE
  rw [ropeErr_zero.2 hp, ropeErr_zero.2 hq]
  rfl
set_option maxRecDepth 100000 in
set_option maxHeartbeats 8000000 in
theorem ropeJoin_any (p q : Parts) (A1 : Option Addr) (n1 c1 : Nat) (A2 : Option Addr) (n2 c2 B : Nat) (w : World) (h1 : Rd w B 1 A1 n1 (strCells p)) (h2 : Rd w B 1 A2 n2 (strCells q)) (hB : B ≤ w.heap.size)
    (hn1 : n1 ≤ 9223372036854775807) (hn2 : n2 ≤ 9223372036854775807) (hs1 : ∀ x ∈ p, x.length ≤ 9223372036854775807) (hs2 : ∀ x ∈ q, x.length ≤ 9223372036854775807) :
    Calls Tryd.prog 28 #[.agg #[.slice A1 n1 c1], .agg #[.slice A2 n2 c2]] w fun e w' => ∃ v, e = .returned (.tuple #[.agg #[v], .int .i64 (joinE p q)]) ∧
      w'.ownsRow w.heap.size 9 1 v (joinP p q).length (strCells (joinP p q)) ∧ Below w.heap.size w w' := by
  have hpn := strCells_len' h1
  have hqn := strCells_len' h2
  obtain ⟨w0, hw0⟩ : ∃ w0, w0 = (((w.alloc (.cells #[.slice A1 n1 c1] 32)).alloc (.cells #[.slice A2 n2 c2] 32)).alloc (.cells #[.slice none 0 0] 32)) := ⟨_, rfl⟩
  have hb0 : Below w.heap.size w w0 := by rw [hw0]; exact (by repeat (first | exact Below.refl _ _ | assumption | refine Below.alloc ?_ (by first | exact Nat.le_refl _ | assumption | omega | (simp <;> omega)) _ | refine Below.setCell ?_ (by first | exact Nat.le_refl _ | assumption | omega | (simp <;> omega)) _ | refine Below.drew ?_ | refine below_drewN ?_ _))
  have H1 : Hid (Rd w0 B 1 A1 n1 (strCells p)) := h1.below (hb0.mono hB)
  have H2 : Hid (Rd w0 B 1 A2 n2 (strCells q)) := h2.below (hb0.mono hB)
  have HB2 : Hid (Blk w0 w.heap.size 32 #[.slice A1 n1 c1]) := by
    unfold Hid; rw [hw0]; exact Blk.alloc (Blk.alloc (Blk.new_ _ _ _) _) _
  have HB3 : Hid (Blk w0 (w.heap.size + 1) 32 #[.slice A2 n2 c2]) := by
    have h1 := Blk.new_ (w.alloc (.cells #[.slice A1 n1 c1] 32)) 32 #[.slice A2 n2 c2]
    rw [World.size_alloc] at h1
    unfold Hid; rw [hw0]; exact Blk.alloc h1 _
  have HB4 : Hid (Blk w0 (w.heap.size + 1 + 1) 32 #[.slice none 0 0]) := by
    have h1 := Blk.new_ ((w.alloc (.cells #[.slice A1 n1 c1] 32)).alloc (.cells #[.slice A2 n2 c2] 32)) 32 #[.slice none 0 0]
    rw [World.size_alloc, World.size_alloc] at h1
    unfold Hid; rw [hw0]; exact h1
  have hsz0 : w0.heap.size = w.heap.size + 1 + 1 + 1 := by rw [hw0]; simp
  have HC1 := Lib.hid (ropeCheck_any p A1 n1 c1 B w0 H1.out (by omega) hn1 hs1)
  have HC2 : Hid (∀ w', Below w0.heap.size w0 w' → Calls Tryd.prog 27 #[.agg #[.slice A2 n2 c2]] w' fun e w'' => e = .returned (.int .i64 (ropeErr q)) ∧ Below w'.heap.size w' w'') := fun w' hb' =>
    ropeCheck_any q A2 n2 c2 B w' (H2.out.below (hb'.mono (by omega))) (by have := hb'.size; omega) hn2 hs2
  have HPN := Lib.hid hpn
  have HQN := Lib.hid hqn
  have HSZ0 : Hid (w.heap.size + 1 + 1 + 1 ≤ w0.heap.size) := by unfold Hid; omega
  clear h1 h2 hs1 hs2 hpn hqn hsz0
  by_cases hp0 : ropeErr p = 0
  · have hokp := ropeErr_zero.1 hp0
    by_cases hq0 : ropeErr q = 0
    · have hokq := ropeErr_zero.1 hq0
      have HE : Hid (joinE p q = joinErr p q) := joinE_ok hokp hokq
      have hj := joinErr_of hokp hokq
      rw [hp0] at HC1
      have HQ0 := Lib.hid hq0
      have hn1' : n1 ≤ 60 := by have := hokp.n; have := HPN.out; omega
      have hn2' : n2 ≤ 60 := by have := hokq.n; have := HQN.out; omega
      have hss : ∀ x ∈ p ++ q, x.length ≤ 9223372036854775807 := fun x hx => by
        have key : ∀ l : Parts, RopeOk l → ∀ y ∈ l, y.length ≤ 9223372036854775807 := fun l hl y hy => by
          have h1 : y.length ≤ l.flatten.length := List.Sublist.length_le (List.sublist_flatten_of_mem hy)
          have h2 := hl.t
          unfold tot at h2; omega
        rcases List.mem_append.1 hx with h | h
        · exact key p hokp x h
        · exact key q hokq x h
      have HSS := Lib.hid hss
      have HJ := Lib.hid hj
      clear hp0 hq0 hokp hokq hss hj
      go_enter Tryd.func28, Tryd.ntmps28
      go_wp2_with fail
      rw [← hw0]
      clear hw0
      refine (HC1.out).mono ?_
      rintro e w1 ⟨rfl, hb1⟩
      have q3 := Blk.cell0 (HB3.out.below' hb1)
      go_wp2_with fail
      refine (HC2.out _ hb1).mono ?_
      rintro e w2 ⟨rfl, hb2⟩
      rw [HQ0.out]
      have hb2' := bthen hb1 hb2
      have q2 := Blk.cell0 (HB2.out.below' hb2')
      have q3 := Blk.cell0 (HB3.out.below' hb2')
      have hz2 := hb2'.size
      have H1a : Hid (∀ o, Rd (w2.alloc o) B 1 A1 n1 (strCells p)) := fun o => (H1.out.below (hb2'.mono (by have := HSZ0.out; omega))).alloc (by have := HSZ0.out; omega) o
      have H2a : Hid (∀ o, Rd (w2.alloc o) B 1 A2 n2 (strCells q)) := fun o => (H2.out.below (hb2'.mono (by have := HSZ0.out; omega))).alloc (by have := HSZ0.out; omega) o
      have hbx : Below w0.heap.size w0 (w2.alloc (.cells #[.slice A1 n1 c1, .slice A2 n2 c2] 30)) := (by repeat (first | exact Below.refl _ _ | assumption | refine Below.alloc ?_ (by first | exact Nat.le_refl _ | assumption | omega | (simp <;> omega)) _ | refine Below.setCell ?_ (by first | exact Nat.le_refl _ | assumption | omega | (simp <;> omega)) _ | refine Below.drew ?_ | refine below_drewN ?_ _))
      clear hb1 hb2
      have hbk := Blk.new_ w2 30 #[.slice A1 n1 c1, .slice A2 n2 c2]
      have hcc := concat2_any p q A1 n1 c1 A2 n2 c2 B w2.heap.size (w2.alloc (.cells #[.slice A1 n1 c1, .slice A2 n2 c2] 30)) (H1a.out _) (H2a.out _) (by have := HSZ0.out; rw [World.size_alloc]; omega) (by rw [World.size_alloc]; omega) (Blk.cell0 hbk) (Blk.cell1 hbk) (by omega) (by omega)
      have HCC := Lib.hid hcc
      clear hcc hbk
      go_wp2_with fail
      refine (HCC.out).mono ?_
      rintro e w3 ⟨v3, rfl, hown3, hb3⟩
      have hb3' := bthen hbx hb3
      have hmn : (p ++ q).length ≤ 120 := by rw [List.length_append, HPN.out, HQN.out]; omega
      generalize hm : (p ++ q).length = m at *
      have HM := Lib.hid hm
      clear hm
      obtain ⟨A3, c3, rfl, hn3, hm3, hrd3⟩ := own_form hown3
      have hz3 := hb3'.size
      have hz23 := hb3.size
      simp only [World.size_alloc] at hz23
      have HOWN3 : Hid (w3.ownsRow w.heap.size 9 1 (.slice A3 m c3) m (strCells (p ++ q))) := own_lower hown3 (by have := HSZ0.out; simp; omega)
      have hbA : Below w3.heap.size w3 (w3.alloc (.cells #[.slice A3 m c3] 32)) := (by repeat (first | exact Below.refl _ _ | assumption | refine Below.alloc ?_ (by first | exact Nat.le_refl _ | assumption | omega | (simp <;> omega)) _ | refine Below.setCell ?_ (by first | exact Nat.le_refl _ | assumption | omega | (simp <;> omega)) _ | refine Below.drew ?_ | refine below_drewN ?_ _))
      have HCK := Lib.hid (ropeCheck_any (p ++ q) A3 m c3 w3.heap.size _ (hrd3.below hbA) (by simp) (by omega) HSS.out)
      have HB8 : Hid (Blk (w3.alloc (.cells #[.slice A3 m c3] 32)) w3.heap.size 32 #[.slice A3 m c3]) := Blk.new_ _ _ _
      have HOWN4 := Lib.hid (own_below HOWN3.out hbA)
      have hb4' := bthen hb3' hbA
      have hz34 := hbA.size
      clear hown3 hrd3 HOWN3 q2 q3 hbx hb3 hb2'
      go_wp2_with fail
      generalize (w3.alloc (.cells #[.slice A3 m c3] 32)) = w4 at *
      refine (HCK.out).mono ?_
      rintro e w5 ⟨rfl, hb5⟩
      have hb5' := bthen hb4' hb5
      have HOWN5 := Lib.hid (own_below HOWN4.out hb5)
      have q8 := Blk.cell0 (HB8.out.below' hb5)
      clear HOWN4 hb4' hb3' hbA
      by_cases he : ropeErr (p ++ q) = 0
      · have HE0 : Hid (joinE p q = 0) := by unfold Hid; rw [HE.out, HJ.out, if_pos he]
        have HP0 : Hid (joinP p q = p ++ q) := by unfold Hid joinP; rw [if_pos HE0.out]
        rw [he]
        clear he
        have h4 := HB4.out.below' hb5'
        have q4 := Blk.cell0 h4
        have f4 := Blk.frozen h4 0
        have hbb : Below w.heap.size w w5 := hb0.trans (Below.mono hb5' (by have := HSZ0.out; omega))
        have R4 : (w5.setCell ⟨w.heap.size + 1 + 1, 0, none⟩ (.slice A3 m c3)).cell? ⟨w.heap.size + 1 + 1, 0, none⟩ = some (.slice A3 m c3) := Blk.cell0 (h4.set_ 0 _)
        have hbF : Below w.heap.size w (w5.setCell ⟨w.heap.size + 1 + 1, 0, none⟩ (.slice A3 m c3)) := (by repeat (first | exact Below.refl _ _ | assumption | refine Below.alloc ?_ (by first | exact Nat.le_refl _ | assumption | omega | (simp <;> omega)) _ | refine Below.setCell ?_ (by first | exact Nat.le_refl _ | assumption | omega | (simp <;> omega)) _ | refine Below.drew ?_ | refine below_drewN ?_ _))
        have HOF := Lib.hid (World.ownsRow.kept HOWN5.out (gb_set (gb_refl _ _) 0 (.slice A3 m c3)) (OwnO.ne_blk (OwnO.of_own HOWN5.out) h4 (by decide)))
        clear HOWN5 h4
        go_wp2_with fail
        (apply bodyPost_ret; (simp [results, Tryd.results28, go_sem, R4]; rfl); rfl)
        rw [HE0.out, HP0.out, HM.out]
        exact ⟨_, rfl, HOF.out, hbF⟩
      · have HE0 : Hid (joinE p q = 11) := by unfold Hid; rw [HE.out, HJ.out, if_neg he]
        have HP0 : Hid (joinP p q = []) := by unfold Hid joinP; rw [HE0.out, if_neg (by decide)]
        have g1 : (ropeErr (p ++ q) != 0) = true := by rw [bne_iff_ne]; exact he
        have g2 : (ropeErr (p ++ q) == 0) = false := by rw [beq_eq_false_iff_ne]; exact he
        clear he
        generalize ropeErr (p ++ q) = e5 at *
        have h4 := HB4.out.below' hb5'
        have q4 := Blk.cell0 h4
        have f4 := Blk.frozen h4 0
        have hbb : Below w.heap.size w w5 := hb0.trans (Below.mono hb5' (by have := HSZ0.out; omega))
        have R4 : (w5.setCell ⟨w.heap.size + 1 + 1, 0, none⟩ (.slice none 0 0)).cell? ⟨w.heap.size + 1 + 1, 0, none⟩ = some (.slice none 0 0) := Blk.cell0 (h4.set_ 0 _)
        have hbF : Below w.heap.size w (w5.setCell ⟨w.heap.size + 1 + 1, 0, none⟩ (.slice none 0 0)) := (by repeat (first | exact Below.refl _ _ | assumption | refine Below.alloc ?_ (by first | exact Nat.le_refl _ | assumption | omega | (simp <;> omega)) _ | refine Below.setCell ?_ (by first | exact Nat.le_refl _ | assumption | omega | (simp <;> omega)) _ | refine Below.drew ?_ | refine below_drewN ?_ _))
        go_wp2_with fail
        (apply bodyPost_ret; (simp [results, Tryd.results28, go_sem, R4]; rfl); rfl)
        rw [HE0.out, HP0.out]
        exact ⟨_, rfl, World.ownsRow_nil _ _ _ _, hbF⟩
    · have HE : Hid (joinE p q = ropeErr q) := by unfold Hid joinE; rw [if_neg (by rw [hp0]; decide), if_pos hq0]
      have HP : Hid (joinP p q = []) := by unfold Hid joinP; rw [HE.out, if_neg hq0]
      have g1 : (ropeErr q != 0) = true := by rw [bne_iff_ne]; exact hq0
      rw [hp0] at HC1
      rw [HE.out, HP.out]
      clear hp0 hq0 HE HP
      generalize ropeErr q = e0 at *
      go_enter Tryd.func28, Tryd.ntmps28
      go_wp2_with fail
      rw [← hw0]
      clear hw0
      refine (HC1.out).mono ?_
      rintro e w1 ⟨rfl, hb1⟩
      have q3 := Blk.cell0 (HB3.out.below' hb1)
      go_wp2_with fail
      refine (HC2.out _ hb1).mono ?_
      rintro e w2 ⟨rfl, hb2⟩
      have hb2' := bthen hb1 hb2
      have h4 := HB4.out.below hb2' (by have := HSZ0.out; omega)
      have q4 := Blk.cell0 h4
      have f4 := Blk.frozen h4 0
      have hbb : Below w.heap.size w w2 := hb0.trans (Below.mono hb2' (by have := HSZ0.out; omega))
      have R4 : (w2.setCell ⟨w.heap.size + 1 + 1, 0, none⟩ (.slice none 0 0)).cell? ⟨w.heap.size + 1 + 1, 0, none⟩ = some (.slice none 0 0) := Blk.cell0 (h4.set_ 0 _)
      have hbF : Below w.heap.size w (w2.setCell ⟨w.heap.size + 1 + 1, 0, none⟩ (.slice none 0 0)) := (by repeat (first | exact Below.refl _ _ | assumption | refine Below.alloc ?_ (by first | exact Nat.le_refl _ | assumption | omega | (simp <;> omega)) _ | refine Below.setCell ?_ (by first | exact Nat.le_refl _ | assumption | omega | (simp <;> omega)) _ | refine Below.drew ?_ | refine below_drewN ?_ _))
      go_wp2_with fail
      (apply bodyPost_ret; (simp [results, Tryd.results28, go_sem, R4]; rfl); rfl)
      exact ⟨_, rfl, World.ownsRow_nil _ _ _ _, hbF⟩
  · have HE : Hid (joinE p q = ropeErr p) := by unfold Hid joinE; rw [if_pos hp0]
    have HP : Hid (joinP p q = []) := by unfold Hid joinP; rw [HE.out, if_neg hp0]
    have g1 : (ropeErr p != 0) = true := by rw [bne_iff_ne]; exact hp0
    rw [HE.out, HP.out]
    clear hp0 HE HP
    generalize ropeErr p = e0 at *
    go_enter Tryd.func28, Tryd.ntmps28
    go_wp2_with fail
    rw [← hw0]
    clear hw0
    refine (HC1.out).mono ?_
    rintro e w1 ⟨rfl, hb1⟩
    have h4 := HB4.out.below hb1 (by have := HSZ0.out; omega)
    have q4 := Blk.cell0 h4
    have f4 := Blk.frozen h4 0
    have hbb : Below w.heap.size w w1 := hb0.trans (Below.mono hb1 (by have := HSZ0.out; omega))
    have R4 : (w1.setCell ⟨w.heap.size + 1 + 1, 0, none⟩ (.slice none 0 0)).cell? ⟨w.heap.size + 1 + 1, 0, none⟩ = some (.slice none 0 0) := Blk.cell0 (h4.set_ 0 _)
    have hbF : Below w.heap.size w (w1.setCell ⟨w.heap.size + 1 + 1, 0, none⟩ (.slice none 0 0)) := (by repeat (first | exact Below.refl _ _ | assumption | refine Below.alloc ?_ (by first | exact Nat.le_refl _ | assumption | omega | (simp <;> omega)) _ | refine Below.setCell ?_ (by first | exact Nat.le_refl _ | assumption | omega | (simp <;> omega)) _ | refine Below.drew ?_ | refine below_drewN ?_ _))
    go_wp2_with fail
    (apply bodyPost_ret; (simp [results, Tryd.results28, go_sem, R4]; rfl); rfl)
    exact ⟨_, rfl, World.ownsRow_nil _ _ _ _, hbF⟩
end Go.Proofs.YtmikckhihfcooaaDoor
