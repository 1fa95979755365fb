/- The document's cut of a rope. -/
import Derived.Test.YtolnhplgaolieaaRopeC
namespace Go.Proofs.Ytolnhplgaolieaa
open Go.RowKit
theorem one_news {w : World} {b : Nat} {v : Value} (h : w.cell? ⟨b, 0, none⟩ = some v) : ∀ (j : Nat) u, [v][j]? = some u → w.cell? (Addr.add ⟨b, 0, none⟩ j) = some u
  | 0, u, hj => by
    have : v = u := by simpa using hj
    subst this; exact h
  | j + 1, u, hj => by simp at hj
/-- Two rows, and two blocks that may hold older ones. -/
structure TwoG (w : World) (base gA gB : Nat) (ca cb va vb : Value) (la lb : Parts) : Prop where
  a : Blk w gA 89 #[ca]
  b : Blk w gB 89 #[cb]
  ra : w.ownsRow base 9 1 va la.length (strCells la)
  rb : w.ownsRow base 9 1 vb lb.length (strCells lb)
  ap : Apart va vb
  ga : base ≤ gA
  gb : base ≤ gB
  ne : gA ≠ gB
section
variable {w w' : World} {base gA gB g : Nat} {ca cb va vb v6 v u : Value} {la lb l : Parts} {x : List UInt8}
theorem TwoG.of (h : TwoR w base gA gB va vb la lb) : TwoG w base gA gB va vb va vb la lb := ⟨h.a, h.b, h.ra, h.rb, h.ap, h.ga, h.gb, h.ne⟩
theorem TwoG.to (h : TwoG w base gA gB va vb va vb la lb) : TwoR w base gA gB va vb la lb := ⟨h.a, h.b, h.ra, h.rb, h.ap, h.ga, h.gb, h.ne⟩
theorem TwoG.sw (h : TwoG w base gA gB ca cb va vb la lb) : TwoG w base gB gA cb ca vb va lb la := ⟨h.b, h.a, h.rb, h.ra, h.ap.comm, h.gb, h.ga, h.ne.symm⟩
theorem TwoG.below (h : TwoG w base gA gB ca cb va vb la lb) (hb : Below w.heap.size w w') : TwoG w' base gA gB ca cb va vb la lb := ⟨h.a.below' hb, h.b.below' hb, own_below h.ra hb, own_below h.rb hb, h.ap, h.ga, h.gb, h.ne⟩
theorem TwoG.growA (h : TwoG w base gA gB ca cb va vb la lb) (hg : w.grownBy w' va.ownBlock) (hown : w'.ownsRow base 9 1 v6 (la.length + 1) (strCells la ++ [.string (S x)])) (ha : v6.ownBlock = va.ownBlock ∨ v6.ownBlock = some w.heap.size) :
    TwoG w' base gA gB ca cb v6 vb (la ++ [x]) lb := by
  have hA : Blk w' gA 89 #[ca] := h.a.grown hg (rope_ne_some (own_ne_rope h.ra h.a))
  have hB : Blk w' gB 89 #[cb] := h.b.grown hg (rope_ne_some (own_ne_rope h.ra h.b))
  have ho : w'.ownsRow base 9 1 v6 (la ++ [x]).length (strCells (la ++ [x])) := by
    rw [List.length_append, strCells, List.map_append]; exact hown
  exact ⟨hA, hB, ho, own_apart h.rb h.ap.comm hg, (apart_new h.rb h.ap.comm ha).comm, h.ga, h.gb, h.ne⟩
theorem TwoG.setA (h : TwoG w base gA gB ca cb va vb la lb) (u : Value) : TwoG (w.setCell ⟨gA, 0, none⟩ u) base gA gB u cb va vb la lb :=
  ⟨h.a.set_ 0 u, h.b.far (p := ⟨gA, 0, none⟩) h.ne.symm u, own_far h.ra (own_ne_rope h.ra h.a) 0 u, own_far h.rb (own_ne_rope h.rb h.a) 0 u, h.ap, h.ga, h.gb, h.ne⟩
theorem TwoG.cells (h : TwoG w base gA gB ca cb va vb la lb) : w.cell? ⟨gA, 0, none⟩ = some ca ∧ w.cell? ⟨gB, 0, none⟩ = some cb := ⟨Blk.cell0 h.a, Blk.cell0 h.b⟩
theorem grown_cell {b : Nat} (hg : w.grownBy w' v.ownBlock) (h : w.cell? ⟨b, 0, none⟩ = some u) (hb : ∀ k, v.ownBlock = some k → k ≠ b) : w'.cell? ⟨b, 0, none⟩ = some u :=
  World.grownBy.cell (w := w) (a := ⟨b, 0, none⟩) (v := u) hg h (fun e => hb b e.symm rfl)
end
set_option maxRecDepth 100000 in
set_option maxHeartbeats 16000000 in
theorem cutOf_any (p : Parts) (A : Option Addr) (n c B : Nat) (r : Nat) (w : World) (hr : Rd w B 1 A n (strCells p)) (hB : B ≤ w.heap.size) (hok : RopeOk p) (hr0 : r ≤ tot p) :
    Calls Try.prog 70 #[.agg #[.slice A n c], .int .i64 (r : Int)] w fun e w' => ∃ va vb, e = .returned (.tuple #[.agg #[va], .agg #[vb]]) ∧
      w'.ownsRow w.heap.size 9 1 va (cutA r p).length (strCells (cutA r p)) ∧ w'.ownsRow w.heap.size 9 1 vb (cutB r p).length (strCells (cutB r p)) ∧ Apart va vb ∧ Below w.heap.size w w' := by
  obtain ⟨i0, hi0, hz0, hz1, hz2⟩ := info_parts info_str
  have hpn := strCells_len' hr
  have HPN := Lib.hid hpn
  have HOK := Lib.hid hok
  have hn60 : n ≤ 60 := by have := hok.n; omega
  have ht200 := hok.t
  obtain ⟨w0, hw0⟩ : ∃ w0, w0 = (((((w.alloc (.cells #[.slice A n c] 89)).alloc (.cells #[.slice none 0 0] 89)).alloc (.cells #[.slice none 0 0] 89)).alloc (.cells #[.slice none 0 0] 89)).alloc (.cells #[.slice none 0 0] 89)) := ⟨_, rfl⟩
  have hb0 : Below w.heap.size w w0 := by rw [hw0]; exact (by repeat (first | exact Below.refl _ _ | assumption | refine Below.alloc ?_ (by first | exact Nat.le_refl _ | assumption | omega | (simp <;> omega)) _ | refine Below.setCell ?_ (by first | exact Nat.le_refl _ | assumption | omega | (simp <;> omega)) _ | refine Below.drew ?_ | refine below_drewN ?_ _))
  have HR : Hid (Rd w0 B 1 A n (strCells p)) := hr.below (hb0.mono hB)
  have HB2 : Hid (Blk w0 w.heap.size 89 #[.slice A n c]) := by
    unfold Hid; rw [hw0]; exact Blk.alloc (Blk.alloc (Blk.alloc (Blk.alloc (Blk.new_ _ _ _) _) _) _) _
  have HB4 : Hid (Blk w0 (w.heap.size + 1) 89 #[.slice none 0 0]) := by
    have h1 := Blk.new_ (w.alloc (.cells #[.slice A n c] 89)) 89 #[.slice none 0 0]
    rw [World.size_alloc] at h1
    unfold Hid; rw [hw0]; exact Blk.alloc (Blk.alloc (Blk.alloc h1 _) _) _
  have HB5 : Hid (Blk w0 (w.heap.size + 1 + 1) 89 #[.slice none 0 0]) := by
    have h1 := Blk.new_ ((w.alloc (.cells #[.slice A n c] 89)).alloc (.cells #[.slice none 0 0] 89)) 89 #[.slice none 0 0]
    rw [World.size_alloc, World.size_alloc] at h1
    unfold Hid; rw [hw0]; exact Blk.alloc (Blk.alloc h1 _) _
  have HT0 : Hid (TwoR w0 (w.heap.size + 1 + 1 + 1) (w.heap.size + 1 + 1 + 1) (w.heap.size + 1 + 1 + 1 + 1) (.slice none 0 0) (.slice none 0 0) [] []) := by
    have h1 := Blk.new_ (((w.alloc (.cells #[.slice A n c] 89)).alloc (.cells #[.slice none 0 0] 89)).alloc (.cells #[.slice none 0 0] 89)) 89 #[.slice none 0 0]
    have h2 := Blk.new_ ((((w.alloc (.cells #[.slice A n c] 89)).alloc (.cells #[.slice none 0 0] 89)).alloc (.cells #[.slice none 0 0] 89)).alloc (.cells #[.slice none 0 0] 89)) 89 #[.slice none 0 0]
    rw [World.size_alloc, World.size_alloc, World.size_alloc] at h1
    rw [World.size_alloc, World.size_alloc, World.size_alloc, World.size_alloc] at h2
    unfold Hid; rw [hw0]
    exact ⟨Blk.alloc h1 _, h2, World.ownsRow_nil _ _ _ _, World.ownsRow_nil _ _ _ _, Apart.none_left _, Nat.le_refl _, by omega, by omega⟩
  have hs0 : w0.heap.size = w.heap.size + 1 + 1 + 1 + 1 + 1 := by rw [hw0]; simp
  have HSZ0 : Hid (w.heap.size + 1 + 1 + 1 ≤ w0.heap.size) := by unfold Hid; omega
  clear hr hpn hok hs0
  go_enter Try.func70, Try.ntmps70
  go_wp2_with fail
  rw [← hw0]
  clear hw0
  have hlt2 : w.heap.size + 1 + 1 < w.heap.size + 1 + 1 + 1 := by omega
  generalize w.heap.size + 1 + 1 + 1 = g6 at *
  go_loopw [8, 15] (fun a i wr => ∃ (k : Nat) (va vb : Value), k ≤ n ∧ i = .int .i64 (k : Int) ∧ a = .int .i64 ((tot (p.take k) : Nat) : Int) ∧ TwoR wr g6 g6 (g6 + 1) va vb (cutA r (p.take k)) (cutB r (p.take k)) ∧ Below g6 w0 wr) (fun _ i _ => n - (intOf i).toNat)
  case atStart => exact ⟨0, _, _, Nat.zero_le _, rfl, rfl, HT0.out, Below.refl _ _⟩
  case round =>
    clear HT0
    obtain ⟨k, va, vb, hk, rfl, rfl, htw, hb⟩ := hrel
    have HTW := Lib.hid htw
    clear htw
    have hbs : g6 ≤ wr.heap.size := Nat.le_trans HSZ0.out hb.size
    by_cases hlt : k < n
    · have g3 : decide ((k : Int) < (n : Int)) = true := decide_eq_true (by omega)
      have HRk := Lib.hid (HR.out.below (hb.mono (by omega)))
      obtain ⟨ad, rfl, hab, hc⟩ := str_cell HRk.out hlt
      have hkp : k < p.length := by rw [HPN.out]; exact hlt
      have hts1 := tot_succ p (k := k) hkp
      have HTS := Lib.hid hts1
      have HSA := Lib.hid (cutA_step p r (k := k) hkp)
      have HSB := Lib.hid (cutB_step p r (k := k) hkp)
      have hx0 : (p.getD k []).length ≠ 0 := by
        rw [List.getD_eq_getElem?_getD, List.getElem?_eq_getElem hkp]
        exact HOK.out.e _ (List.getElem_mem hkp)
      have hx200 : tot (p.take k) + (p.getD k []).length ≤ 200 := by
        have h2 := tot_take_le p (k + 1)
        omega
      have hla := cutA_len (p.take k) r
      have hlb := cutB_len (p.take k) r
      rw [List.length_take] at hla hlb
      have hxs := S_size (p.getD k [])
      clear hts1
      generalize p.getD k [] = x at *
      generalize cutA r (p.take k) = la at *
      generalize cutB r (p.take k) = lb at *
      generalize htk : tot (p.take k) = t at *
      clear htk
      have hX200 : t + (S x).size ≤ 200 := by omega
      have hX1 : 0 < (S x).size := by omega
      by_cases h1 : t + x.length ≤ r
      · have g4 : decide ((t : Int) + ((S x).size : Int) ≤ (r : Int)) = true := decide_eq_true (by omega)
        have g4' : decide (t + (S x).size ≤ r) = true := decide_eq_true (by omega)
        obtain ⟨hpa, hpb⟩ := pc_whole (x := x) (r := r - t) hx0 (by omega)
        rw [hpa] at HSA
        rw [hpb, List.append_nil] at HSB
        clear hpa hpb
        have HXS := Lib.hid hxs
        clear hxs
        have hHT := Lib.hid (HTW.out)
        have c0 := Blk.cell0 hHT.out.a
        have f0 := Blk.frozen hHT.out.a 0
        have hglt := Blk.lt hHT.out.a
        have k00 : (wr.alloc (.cells #[.string (S x)] 9)).cell? ⟨g6, 0, none⟩ = some va := (World.cell?_alloc_lt wr _ _ hglt).trans c0
        have hbW : Below g6 w0 (wr.alloc (.cells #[.string (S x)] 9)) := (by repeat (first | exact Below.refl _ _ | assumption | refine Below.alloc ?_ (by first | exact Nat.le_refl _ | assumption | omega | (simp <;> omega)) _ | refine Below.setCell ?_ (by first | exact Nat.le_refl _ | assumption | omega | (simp <;> omega)) _ | refine Below.drew ?_ | refine below_drewN ?_ _))
        have HBW0 : Hid (Below wr.heap.size wr (wr.alloc (.cells #[.string (S x)] 9))) := (by repeat (first | exact Below.refl _ _ | assumption | refine Below.alloc ?_ (by first | exact Nat.le_refl _ | assumption | omega | (simp <;> omega)) _ | refine Below.setCell ?_ (by first | exact Nat.le_refl _ | assumption | omega | (simp <;> omega)) _ | refine Below.drew ?_ | refine below_drewN ?_ _))
        have hgne := rope_ne_some (own_ne_rope hHT.out.ra hHT.out.a)
        have hO1 : ∀ o, (wr.alloc o).ownsRow g6 9 1 va la.length (strCells la) := fun o => own_below hHT.out.ra (by repeat (first | exact Below.refl _ _ | assumption | refine Below.alloc ?_ (by first | exact Nat.le_refl _ | assumption | omega | (simp <;> omega)) _ | refine Below.setCell ?_ (by first | exact Nat.le_refl _ | assumption | omega | (simp <;> omega)) _ | refine Below.drew ?_ | refine below_drewN ?_ _))
        go_wp2_with (at_builtin; go_must (refine wpList_appN rfl _ _ _ rfl g6 9 i0 _ 1 16 Try.underlying44 hi0 hz0 hz1 hz2 rfl (by omega) _ la.length (strCells la) rfl (hO1 _) ⟨wr.heap.size, 0, none⟩ 1 1 [.string (S x)] rfl rfl (cell_one_new _ _ _) (by simp [Value.oneCell']) (by omega) (by omega) (by simp; omega) ?_); intro v6 w6 hown6 hg6 hb6 ha6; obtain ⟨A6, c6, rfl, _, _, _⟩ := own_form hown6; have k0 : w6.cell? ⟨g6, 0, none⟩ = some va := World.grownBy.cell (w := (wr.alloc (.cells #[.string (S x)] 9))) (a := ⟨g6, 0, none⟩) (v := va) hg6 k00 hgne; have q1f : w6.frozen? ⟨g6, 0, none⟩ = false := ((hHT.out.a.below' HBW0.out).grown hg6 hgne).frozen 0)
        have HTN := Lib.hid ((hHT.out.below HBW0.out).appA (x := x) hg6 hown6 ha6)
        have hbn : Below g6 w0 (w6.setCell ⟨g6, 0, none⟩ (.slice A6 (la.length + 1) c6)) := Below.setCell (hbW.trans hb6) (p := ⟨g6, 0, none⟩) hHT.out.ga _
        go_roundw
        case rel =>
          refine ⟨k + 1, .slice A6 (la.length + 1) c6, vb, by omega, by go_num, ?_, ?_, hbn⟩
          · rw [HTS.out, ← HXS.out]; go_num
          · rw [HSA.out, HSB.out]; exact HTN.out
        case measure => simp [intOf]; omega
      · have g4 : decide ((t : Int) + ((S x).size : Int) ≤ (r : Int)) = false := decide_eq_false (by omega)
        have g4' : decide (t + (S x).size ≤ r) = false := decide_eq_false (by omega)
        by_cases h2 : r ≤ t
        · have g5 : decide ((r : Int) ≤ (t : Int)) = true := decide_eq_true (by omega)
          have g5' : decide (r ≤ t) = true := decide_eq_true (by omega)
          have hrt : r - t = 0 := by omega
          obtain ⟨hpa, hpb⟩ := pc_none hx0
          rw [hrt, hpa, List.append_nil] at HSA
          rw [hrt, hpb] at HSB
          clear hpa hpb
          have HXS := Lib.hid hxs
          clear hxs
          have hHT := Lib.hid (HTW.out.sw)
          have c0 := Blk.cell0 hHT.out.a
          have f0 := Blk.frozen hHT.out.a 0
          have hglt := Blk.lt hHT.out.a
          have k00 : (wr.alloc (.cells #[.string (S x)] 9)).cell? ⟨g6 + 1, 0, none⟩ = some vb := (World.cell?_alloc_lt wr _ _ hglt).trans c0
          have hbW : Below g6 w0 (wr.alloc (.cells #[.string (S x)] 9)) := (by repeat (first | exact Below.refl _ _ | assumption | refine Below.alloc ?_ (by first | exact Nat.le_refl _ | assumption | omega | (simp <;> omega)) _ | refine Below.setCell ?_ (by first | exact Nat.le_refl _ | assumption | omega | (simp <;> omega)) _ | refine Below.drew ?_ | refine below_drewN ?_ _))
          have HBW0 : Hid (Below wr.heap.size wr (wr.alloc (.cells #[.string (S x)] 9))) := (by repeat (first | exact Below.refl _ _ | assumption | refine Below.alloc ?_ (by first | exact Nat.le_refl _ | assumption | omega | (simp <;> omega)) _ | refine Below.setCell ?_ (by first | exact Nat.le_refl _ | assumption | omega | (simp <;> omega)) _ | refine Below.drew ?_ | refine below_drewN ?_ _))
          have hgne := rope_ne_some (own_ne_rope hHT.out.ra hHT.out.a)
          have hO1 : ∀ o, (wr.alloc o).ownsRow g6 9 1 vb lb.length (strCells lb) := fun o => own_below hHT.out.ra (by repeat (first | exact Below.refl _ _ | assumption | refine Below.alloc ?_ (by first | exact Nat.le_refl _ | assumption | omega | (simp <;> omega)) _ | refine Below.setCell ?_ (by first | exact Nat.le_refl _ | assumption | omega | (simp <;> omega)) _ | refine Below.drew ?_ | refine below_drewN ?_ _))
          go_wp2_with (at_builtin; go_must (refine wpList_appN rfl _ _ _ rfl g6 9 i0 _ 1 16 Try.underlying44 hi0 hz0 hz1 hz2 rfl (by omega) _ lb.length (strCells lb) rfl (hO1 _) ⟨wr.heap.size, 0, none⟩ 1 1 [.string (S x)] rfl rfl (cell_one_new _ _ _) (by simp [Value.oneCell']) (by omega) (by omega) (by simp; omega) ?_); intro v6 w6 hown6 hg6 hb6 ha6; obtain ⟨A6, c6, rfl, _, _, _⟩ := own_form hown6; have k0 : w6.cell? ⟨g6 + 1, 0, none⟩ = some vb := World.grownBy.cell (w := (wr.alloc (.cells #[.string (S x)] 9))) (a := ⟨g6 + 1, 0, none⟩) (v := vb) hg6 k00 hgne; have q1f : w6.frozen? ⟨g6 + 1, 0, none⟩ = false := ((hHT.out.a.below' HBW0.out).grown hg6 hgne).frozen 0)
          have HTN := Lib.hid ((hHT.out.below HBW0.out).appA (x := x) hg6 hown6 ha6)
          have hbn : Below g6 w0 (w6.setCell ⟨g6 + 1, 0, none⟩ (.slice A6 (lb.length + 1) c6)) := Below.setCell (hbW.trans hb6) (p := ⟨g6 + 1, 0, none⟩) hHT.out.ga _
          go_roundw
          case rel =>
            refine ⟨k + 1, va, .slice A6 (lb.length + 1) c6, by omega, by go_num, ?_, ?_, hbn⟩
            · rw [HTS.out, ← HXS.out]; go_num
            · rw [HSA.out, HSB.out]; exact HTN.out.sw
          case measure => simp [intOf]; omega
        · have g5 : decide ((r : Int) ≤ (t : Int)) = false := decide_eq_false (by omega)
          have g5' : decide (r ≤ t) = false := decide_eq_false (by omega)
          obtain ⟨q, hq⟩ : ∃ q, r = t + q := ⟨r - t, by omega⟩
          have hrq : r - t = q := by omega
          obtain ⟨hpa, hpb⟩ := pc_in (x := x) (r := q) (by omega) (by omega)
          rw [hrq, hpa] at HSA
          rw [hrq, hpb] at HSB
          have hqi : (r : Int) - (t : Int) = (q : Int) := by omega
          have hqX : q < (S x).size := by omega
          have HEA : Hid ((S x).extract 0 q = S (x.take q)) := by unfold Hid; rw [extract_S, L_S, List.drop_zero, Nat.sub_zero]
          have HEB : Hid ((S x).extract q (S x).size = S (x.drop q)) := by unfold Hid; rw [extract_S, L_S, List.take_of_length_le (by rw [List.length_drop, hxs]; exact Nat.le_refl _)]
          clear hpa hpb hrq
          have HXS := Lib.hid hxs
          have HQR := Lib.hid hq
          clear hxs hq
          have HG := Lib.hid (TwoG.of HTW.out)
          obtain ⟨c0, c1⟩ := HG.out.cells
          have hl0 := Blk.lt HG.out.a
          have hl1 := Blk.lt HG.out.b
          have hvaN : ∀ j, va.ownBlock = some j → j < wr.heap.size := fun j hj => (HG.out.ra.lt j hj).2
          have hvbN : ∀ j, vb.ownBlock = some j → j < wr.heap.size := fun j hj => (HG.out.rb.lt j hj).2
          have HVA := Lib.hid hvaN
          have HVB := Lib.hid hvbN
          clear hvaN hvbN
          go_wp2_with fail
          obtain ⟨F1, hFd⟩ : ∃ F : World → Prop, F = fun w' => w'.cell? ⟨g6, 0, none⟩ = some (va) ∧ w'.cell? ⟨g6 + 1, 0, none⟩ = some (vb) := ⟨_, rfl⟩
          have HF1 := Lib.hid hFd
          clear hFd
          have hcell10 : ∀ p' : Wof F1, p'.w.cell? ⟨g6, 0, none⟩ = some (va) := fun ⟨x, hx⟩ => by rw [HF1.out] at hx; exact hx.1
          have hcell11 : ∀ p' : Wof F1, p'.w.cell? ⟨g6 + 1, 0, none⟩ = some (vb) := fun ⟨x, hx⟩ => by rw [HF1.out] at hx; exact hx.2
          refine wp_region_schedT (.op 0 true (.op 1 true (.op 2 true (.op 3 true (.op 4 true (.op 5 true (.op 6 true (.op 9 true (.op 10 true (.op 11 true (.op 12 true (.op 13 true (.op 14 true (.op 15 true (.fork 7 16 (.fork 8 16 (.op 18 true (.op 16 false (.op 17 false .nil))) (.op 8 false (.op 18 true (.op 17 false .nil)))) (.op 7 false (.op 8 false (.op 18 true (.op 17 false .nil))))))))))))))))))) 19 19 [20, 21] F1 (by kernel_rfl) (by kernel_rfl) (by kernel_rfl) rfl (fun _ _ _ _ _ h => h) (by kernel_rfl) (by rw [HF1.out]; first | trivial | (repeat' apply And.intro) <;> assumption | (simp; done) | (simp [*]; done)) (by rw [HF1.out]; exact fun h => h) ?_
          intro hne1
          simp only [opersT, opsAt, List.getElem?_toArray, List.getElem?_cons_succ, List.getElem?_cons_zero]
          repeat (first | (refine wpT_want rfl ?_; intro K hK; go_big_quiet_op; go_big_quiet_on) | (refine wpT_skip rfl ?_; simp only [Act.put, List.setIfInBounds_toArray, List.set_cons_zero, List.set_cons_succ]))
          refine wpT_fork ?_ ?_
          · -- the first part's row is made first
            go_wp2_with fail
            have HG1 : Hid (TwoG ((wr.alloc (.cells #[.string ((S x).extract 0 q)] 9)).drew) g6 g6 (g6 + 1) va vb va vb la lb) := HG.out.below (by repeat (first | exact Below.refl _ _ | assumption | refine Below.alloc ?_ (by first | exact Nat.le_refl _ | assumption | omega | (simp <;> omega)) _ | refine Below.setCell ?_ (by first | exact Nat.le_refl _ | assumption | omega | (simp <;> omega)) _ | refine Below.drew ?_ | refine below_drewN ?_ _))
            have hB1 : Below g6 w0 ((wr.alloc (.cells #[.string ((S x).extract 0 q)] 9)).drew) := (by repeat (first | exact Below.refl _ _ | assumption | refine Below.alloc ?_ (by first | exact Nat.le_refl _ | assumption | omega | (simp <;> omega)) _ | refine Below.setCell ?_ (by first | exact Nat.le_refl _ | assumption | omega | (simp <;> omega)) _ | refine Below.drew ?_ | refine below_drewN ?_ _))
            refine sched_back (by rw [HF1.out]; exact HG1.out.cells) ?_
            repeat (first | (refine wpT_want rfl ?_; intro K hK; go_big_quiet_op; go_big_quiet_on) | (refine wpT_skip rfl ?_; simp only [Act.put, List.setIfInBounds_toArray, List.set_cons_zero, List.set_cons_succ]))
            refine wpT_fork ?_ ?_
            · have n1 : ((wr.alloc (.cells #[.string ((S x).extract 0 q)] 9)).drew).cell? ⟨wr.heap.size, 0, none⟩ = some (.string ((S x).extract 0 q)) := Blk.cell0 (Blk.drew (Blk.new_ wr _ _))
              go_wp2_with (at_builtin; go_must (refine wpList_appN rfl _ _ _ rfl g6 9 i0 _ 1 16 Try.underlying44 hi0 hz0 hz1 hz2 rfl (by omega) _ la.length (strCells la) rfl HG1.out.ra ⟨wr.heap.size, 0, none⟩ 1 1 [.string ((S x).extract 0 q)] rfl rfl (one_news n1) (by simp [Value.oneCell']) (by omega) (by omega) (by first | omega | (simp; omega)) ?_); intro v6 w6 hown6 hg6 hb6 ha6; obtain ⟨A6, c6, hv6, _, _, _⟩ := own_form hown6; subst hv6)
              have HG2 := Lib.hid (HG1.out.growA (x := x.take q) hg6 (by rw [← HEA.out]; exact hown6) ha6)
              have hB2 := hB1.trans hb6
              have hs2 := hB2.size
              clear hg6 hb6 ha6 hown6 n1
              refine sched_back (by rw [HF1.out]; exact HG2.out.cells) ?_
              repeat (first | (refine wpT_want rfl ?_; intro K hK; go_big_quiet_op; go_big_quiet_on) | (refine wpT_skip rfl ?_; simp only [Act.put, List.setIfInBounds_toArray, List.set_cons_zero, List.set_cons_succ]))
              refine wpT_other ?_
              go_wp2_with fail
              have HG3 : Hid (TwoG (w6.alloc (.cells #[.string ((S x).extract q (S x).size)] 9)) g6 g6 (g6 + 1) va vb (.slice A6 (la.length + 1) c6) vb (la ++ [x.take q]) lb) := HG2.out.below (by repeat (first | exact Below.refl _ _ | assumption | refine Below.alloc ?_ (by first | exact Nat.le_refl _ | assumption | omega | (simp <;> omega)) _ | refine Below.setCell ?_ (by first | exact Nat.le_refl _ | assumption | omega | (simp <;> omega)) _ | refine Below.drew ?_ | refine below_drewN ?_ _))
              have hw6s : g6 ≤ w6.heap.size := Nat.le_trans HSZ0.out hs2
              have hB3 : Below g6 w0 (w6.alloc (.cells #[.string ((S x).extract q (S x).size)] 9)) := (by repeat (first | exact Below.refl _ _ | assumption | refine Below.alloc ?_ (by first | exact Nat.le_refl _ | assumption | omega | (simp <;> omega)) _ | refine Below.setCell ?_ (by first | exact Nat.le_refl _ | assumption | omega | (simp <;> omega)) _ | refine Below.drew ?_ | refine below_drewN ?_ _))
              refine sched_back (by rw [HF1.out]; exact HG3.out.cells) ?_
              repeat (first | (refine wpT_want rfl ?_; intro K hK; go_big_quiet_op; go_big_quiet_on) | (refine wpT_skip rfl ?_; simp only [Act.put, List.setIfInBounds_toArray, List.set_cons_zero, List.set_cons_succ]))
              refine wpT_other ?_
              have n2 : (w6.alloc (.cells #[.string ((S x).extract q (S x).size)] 9)).cell? ⟨w6.heap.size, 0, none⟩ = some (.string ((S x).extract q (S x).size)) := Blk.cell0 (Blk.new_ w6 _ _)
              have HR6 := Lib.hid HG3
              generalize A6 = A5 at *
              generalize c6 = c5 at *
              go_wp2_with (at_builtin; go_must (refine wpList_appN rfl _ _ _ rfl g6 9 i0 _ 1 16 Try.underlying44 hi0 hz0 hz1 hz2 rfl (by omega) _ lb.length (strCells lb) rfl HG3.out.rb ⟨w6.heap.size, 0, none⟩ 1 1 [.string ((S x).extract q (S x).size)] rfl rfl (one_news n2) (by simp [Value.oneCell']) (by omega) (by omega) (by first | omega | (simp; omega)) ?_); intro v9 w9 hown9 hg6 hb6 ha6; obtain ⟨A6, c6, hv6, _, _, _⟩ := own_form hown9; subst hv6)
              have HGF := Lib.hid ((HG3.out.sw.growA (x := x.drop q) hg6 (by rw [← HEB.out]; exact hown9) ha6).sw)
              have hB9 := hB3.trans hb6
              clear hg6 hb6 ha6 hown9 n2 HG1 HG2 HG3 hB1 hB2 hB3 HR6 c0 c1
              refine sched_back (by rw [HF1.out]; exact HGF.out.cells) ?_
              have hQ := Lib.hid ((HGF.out.setA (.slice A5 (la.length + 1) c5)).sw.setA (.slice A6 (lb.length + 1) c6))
              have hbF1 : Below g6 w0 (w9.setCell ⟨g6, 0, none⟩ ((.slice A5 (la.length + 1) c5))) := Below.setCell hB9 (p := ⟨g6, 0, none⟩) (Nat.le_refl _) _
              have hbF : Below g6 w0 ((w9.setCell ⟨g6, 0, none⟩ ((.slice A5 (la.length + 1) c5))).setCell ⟨g6 + 1, 0, none⟩ ((.slice A6 (lb.length + 1) c6))) := Below.setCell hbF1 (p := ⟨g6 + 1, 0, none⟩) (by show g6 ≤ g6 + 1; omega) _
              obtain ⟨t0, t1⟩ := HGF.out.cells
              have e0 := Blk.frozen HGF.out.a 0
              have e1 := Blk.frozen ((HGF.out.setA (.slice A5 (la.length + 1) c5)).b) 0
              have t2 := Blk.cell0 ((HGF.out.setA (.slice A5 (la.length + 1) c5)).b)
              refine wpT_nil ?_
              refine wpTail_cons ?_
              go_wp2_with fail
              refine tail_back ?_
              refine wpTail_cons ?_
              go_wp2_with fail
              refine tail_back ?_
              refine wpTail_cons ?_
              go_wp2_with fail
              refine tail_back ?_
              refine wpTail_nil ?_
              clear t0 t1 e0 e1 t2
              go_wp2_with fail
              go_roundw
              case rel =>
                refine ⟨k + 1, (.slice A5 (la.length + 1) c5), (.slice A6 (lb.length + 1) c6), by omega, by go_num, ?_, ?_, hbF⟩
                · rw [HTS.out, ← HXS.out]; go_num
                · rw [HSA.out, HSB.out]; exact hQ.out.sw.to
              case measure => simp [intOf]; omega
            · go_wp2_with fail
              have HG2 : Hid (TwoG (((wr.alloc (.cells #[.string ((S x).extract 0 q)] 9)).alloc (.cells #[.string ((S x).extract q (S x).size)] 9)).drew) g6 g6 (g6 + 1) va vb va vb la lb) := HG.out.below (by repeat (first | exact Below.refl _ _ | assumption | refine Below.alloc ?_ (by first | exact Nat.le_refl _ | assumption | omega | (simp <;> omega)) _ | refine Below.setCell ?_ (by first | exact Nat.le_refl _ | assumption | omega | (simp <;> omega)) _ | refine Below.drew ?_ | refine below_drewN ?_ _))
              have hB2 : Below g6 w0 (((wr.alloc (.cells #[.string ((S x).extract 0 q)] 9)).alloc (.cells #[.string ((S x).extract q (S x).size)] 9)).drew) := (by repeat (first | exact Below.refl _ _ | assumption | refine Below.alloc ?_ (by first | exact Nat.le_refl _ | assumption | omega | (simp <;> omega)) _ | refine Below.setCell ?_ (by first | exact Nat.le_refl _ | assumption | omega | (simp <;> omega)) _ | refine Below.drew ?_ | refine below_drewN ?_ _))
              refine sched_back (by rw [HF1.out]; exact HG2.out.cells) ?_
              repeat (first | (refine wpT_want rfl ?_; intro K hK; go_big_quiet_op; go_big_quiet_on) | (refine wpT_skip rfl ?_; simp only [Act.put, List.setIfInBounds_toArray, List.set_cons_zero, List.set_cons_succ]))
              refine wpT_other ?_
              have n1 : (((wr.alloc (.cells #[.string ((S x).extract 0 q)] 9)).alloc (.cells #[.string ((S x).extract q (S x).size)] 9)).drew).cell? ⟨wr.heap.size, 0, none⟩ = some (.string ((S x).extract 0 q)) := Blk.cell0 (Blk.drew (Blk.alloc (Blk.new_ wr _ _) _))
              have n2 : (((wr.alloc (.cells #[.string ((S x).extract 0 q)] 9)).alloc (.cells #[.string ((S x).extract q (S x).size)] 9)).drew).cell? ⟨wr.heap.size + 1, 0, none⟩ = some (.string ((S x).extract q (S x).size)) := by
                have h9 := Blk.new_ (wr.alloc (.cells #[.string ((S x).extract 0 q)] 9)) 9 #[.string ((S x).extract q (S x).size)]
                rw [World.size_alloc] at h9
                exact Blk.cell0 (Blk.drew h9)
              go_wp2_with (at_builtin; go_must (refine wpList_appN rfl _ _ _ rfl g6 9 i0 _ 1 16 Try.underlying44 hi0 hz0 hz1 hz2 rfl (by omega) _ la.length (strCells la) rfl HG2.out.ra ⟨wr.heap.size, 0, none⟩ 1 1 [.string ((S x).extract 0 q)] rfl rfl (one_news n1) (by simp [Value.oneCell']) (by omega) (by omega) (by first | omega | (simp; omega)) ?_); intro v6 w6 hown6 hg6 hb6 ha6; obtain ⟨A6, c6, hv6, _, _, _⟩ := own_form hown6; subst hv6)
              have n3 := grown_cell hg6 n2 (fun j hj => by have := HVA.out j hj; omega)
              have HG3 := Lib.hid (HG2.out.growA (x := x.take q) hg6 (by rw [← HEA.out]; exact hown6) ha6)
              have hB3 := hB2.trans hb6
              have hs2 := hB3.size
              have hw6s : g6 ≤ w6.heap.size := Nat.le_trans HSZ0.out hs2
              clear hg6 hb6 ha6 hown6 n1 n2
              refine sched_back (by rw [HF1.out]; exact HG3.out.cells) ?_
              repeat (first | (refine wpT_want rfl ?_; intro K hK; go_big_quiet_op; go_big_quiet_on) | (refine wpT_skip rfl ?_; simp only [Act.put, List.setIfInBounds_toArray, List.set_cons_zero, List.set_cons_succ]))
              refine wpT_other ?_
              generalize A6 = A5 at *
              generalize c6 = c5 at *
              go_wp2_with (at_builtin; go_must (refine wpList_appN rfl _ _ _ rfl g6 9 i0 _ 1 16 Try.underlying44 hi0 hz0 hz1 hz2 rfl (by omega) _ lb.length (strCells lb) rfl HG3.out.rb ⟨wr.heap.size + 1, 0, none⟩ 1 1 [.string ((S x).extract q (S x).size)] rfl rfl (one_news n3) (by simp [Value.oneCell']) (by omega) (by omega) (by first | omega | (simp; omega)) ?_); intro v9 w9 hown9 hg6 hb6 ha6; obtain ⟨A6, c6, hv6, _, _, _⟩ := own_form hown9; subst hv6)
              have HGF := Lib.hid ((HG3.out.sw.growA (x := x.drop q) hg6 (by rw [← HEB.out]; exact hown9) ha6).sw)
              have hB9 := hB3.trans hb6
              clear hg6 hb6 ha6 hown9 n3 HG2 HG3 hB2 hB3 c0 c1
              refine sched_back (by rw [HF1.out]; exact HGF.out.cells) ?_
              have hQ := Lib.hid ((HGF.out.setA (.slice A5 (la.length + 1) c5)).sw.setA (.slice A6 (lb.length + 1) c6))
              have hbF1 : Below g6 w0 (w9.setCell ⟨g6, 0, none⟩ ((.slice A5 (la.length + 1) c5))) := Below.setCell hB9 (p := ⟨g6, 0, none⟩) (Nat.le_refl _) _
              have hbF : Below g6 w0 ((w9.setCell ⟨g6, 0, none⟩ ((.slice A5 (la.length + 1) c5))).setCell ⟨g6 + 1, 0, none⟩ ((.slice A6 (lb.length + 1) c6))) := Below.setCell hbF1 (p := ⟨g6 + 1, 0, none⟩) (by show g6 ≤ g6 + 1; omega) _
              obtain ⟨t0, t1⟩ := HGF.out.cells
              have e0 := Blk.frozen HGF.out.a 0
              have e1 := Blk.frozen ((HGF.out.setA (.slice A5 (la.length + 1) c5)).b) 0
              have t2 := Blk.cell0 ((HGF.out.setA (.slice A5 (la.length + 1) c5)).b)
              refine wpT_nil ?_
              refine wpTail_cons ?_
              go_wp2_with fail
              refine tail_back ?_
              refine wpTail_cons ?_
              go_wp2_with fail
              refine tail_back ?_
              refine wpTail_cons ?_
              go_wp2_with fail
              refine tail_back ?_
              refine wpTail_nil ?_
              clear t0 t1 e0 e1 t2
              go_wp2_with fail
              go_roundw
              case rel =>
                refine ⟨k + 1, (.slice A5 (la.length + 1) c5), (.slice A6 (lb.length + 1) c6), by omega, by go_num, ?_, ?_, hbF⟩
                · rw [HTS.out, ← HXS.out]; go_num
                · rw [HSA.out, HSB.out]; exact hQ.out.sw.to
              case measure => simp [intOf]; omega
          · go_wp2_with fail
            have HG1 : Hid (TwoG ((wr.alloc (.cells #[.string ((S x).extract q (S x).size)] 9)).drew) g6 g6 (g6 + 1) va vb va vb la lb) := HG.out.below (by repeat (first | exact Below.refl _ _ | assumption | refine Below.alloc ?_ (by first | exact Nat.le_refl _ | assumption | omega | (simp <;> omega)) _ | refine Below.setCell ?_ (by first | exact Nat.le_refl _ | assumption | omega | (simp <;> omega)) _ | refine Below.drew ?_ | refine below_drewN ?_ _))
            refine sched_back (by rw [HF1.out]; exact HG1.out.cells) ?_
            repeat (first | (refine wpT_want rfl ?_; intro K hK; go_big_quiet_op; go_big_quiet_on) | (refine wpT_skip rfl ?_; simp only [Act.put, List.setIfInBounds_toArray, List.set_cons_zero, List.set_cons_succ]))
            refine wpT_other ?_
            go_wp2_with fail
            have HG2 : Hid (TwoG (((wr.alloc (.cells #[.string ((S x).extract q (S x).size)] 9)).alloc (.cells #[.string ((S x).extract 0 q)] 9)).drew) g6 g6 (g6 + 1) va vb va vb la lb) := HG.out.below (by repeat (first | exact Below.refl _ _ | assumption | refine Below.alloc ?_ (by first | exact Nat.le_refl _ | assumption | omega | (simp <;> omega)) _ | refine Below.setCell ?_ (by first | exact Nat.le_refl _ | assumption | omega | (simp <;> omega)) _ | refine Below.drew ?_ | refine below_drewN ?_ _))
            have hB2 : Below g6 w0 (((wr.alloc (.cells #[.string ((S x).extract q (S x).size)] 9)).alloc (.cells #[.string ((S x).extract 0 q)] 9)).drew) := (by repeat (first | exact Below.refl _ _ | assumption | refine Below.alloc ?_ (by first | exact Nat.le_refl _ | assumption | omega | (simp <;> omega)) _ | refine Below.setCell ?_ (by first | exact Nat.le_refl _ | assumption | omega | (simp <;> omega)) _ | refine Below.drew ?_ | refine below_drewN ?_ _))
            refine sched_back (by rw [HF1.out]; exact HG2.out.cells) ?_
            repeat (first | (refine wpT_want rfl ?_; intro K hK; go_big_quiet_op; go_big_quiet_on) | (refine wpT_skip rfl ?_; simp only [Act.put, List.setIfInBounds_toArray, List.set_cons_zero, List.set_cons_succ]))
            refine wpT_other ?_
            have n2 : (((wr.alloc (.cells #[.string ((S x).extract q (S x).size)] 9)).alloc (.cells #[.string ((S x).extract 0 q)] 9)).drew).cell? ⟨wr.heap.size, 0, none⟩ = some (.string ((S x).extract q (S x).size)) := Blk.cell0 (Blk.drew (Blk.alloc (Blk.new_ wr _ _) _))
            have n1 : (((wr.alloc (.cells #[.string ((S x).extract q (S x).size)] 9)).alloc (.cells #[.string ((S x).extract 0 q)] 9)).drew).cell? ⟨wr.heap.size + 1, 0, none⟩ = some (.string ((S x).extract 0 q)) := by
              have h9 := Blk.new_ (wr.alloc (.cells #[.string ((S x).extract q (S x).size)] 9)) 9 #[.string ((S x).extract 0 q)]
              rw [World.size_alloc] at h9
              exact Blk.cell0 (Blk.drew h9)
            go_wp2_with (at_builtin; go_must (refine wpList_appN rfl _ _ _ rfl g6 9 i0 _ 1 16 Try.underlying44 hi0 hz0 hz1 hz2 rfl (by omega) _ la.length (strCells la) rfl HG2.out.ra ⟨wr.heap.size + 1, 0, none⟩ 1 1 [.string ((S x).extract 0 q)] rfl rfl (one_news n1) (by simp [Value.oneCell']) (by omega) (by omega) (by first | omega | (simp; omega)) ?_); intro v6 w6 hown6 hg6 hb6 ha6; obtain ⟨A6, c6, hv6, _, _, _⟩ := own_form hown6; subst hv6)
            have n3 := grown_cell hg6 n2 (fun j hj => by have := HVA.out j hj; omega)
            have HG3 := Lib.hid (HG2.out.growA (x := x.take q) hg6 (by rw [← HEA.out]; exact hown6) ha6)
            have hB3 := hB2.trans hb6
            have hs2 := hB3.size
            have hw6s : g6 ≤ w6.heap.size := Nat.le_trans HSZ0.out hs2
            clear hg6 hb6 ha6 hown6 n1 n2
            refine sched_back (by rw [HF1.out]; exact HG3.out.cells) ?_
            repeat (first | (refine wpT_want rfl ?_; intro K hK; go_big_quiet_op; go_big_quiet_on) | (refine wpT_skip rfl ?_; simp only [Act.put, List.setIfInBounds_toArray, List.set_cons_zero, List.set_cons_succ]))
            refine wpT_other ?_
            generalize A6 = A5 at *
            generalize c6 = c5 at *
            go_wp2_with (at_builtin; go_must (refine wpList_appN rfl _ _ _ rfl g6 9 i0 _ 1 16 Try.underlying44 hi0 hz0 hz1 hz2 rfl (by omega) _ lb.length (strCells lb) rfl HG3.out.rb ⟨wr.heap.size, 0, none⟩ 1 1 [.string ((S x).extract q (S x).size)] rfl rfl (one_news n3) (by simp [Value.oneCell']) (by omega) (by omega) (by first | omega | (simp; omega)) ?_); intro v9 w9 hown9 hg6 hb6 ha6; obtain ⟨A6, c6, hv6, _, _, _⟩ := own_form hown9; subst hv6)
            have HGF := Lib.hid ((HG3.out.sw.growA (x := x.drop q) hg6 (by rw [← HEB.out]; exact hown9) ha6).sw)
            have hB9 := hB3.trans hb6
            clear hg6 hb6 ha6 hown9 n3 HG1 HG2 HG3 hB2 hB3 c0 c1
            refine sched_back (by rw [HF1.out]; exact HGF.out.cells) ?_
            have hQ := Lib.hid ((HGF.out.setA (.slice A5 (la.length + 1) c5)).sw.setA (.slice A6 (lb.length + 1) c6))
            have hbF1 : Below g6 w0 (w9.setCell ⟨g6, 0, none⟩ ((.slice A5 (la.length + 1) c5))) := Below.setCell hB9 (p := ⟨g6, 0, none⟩) (Nat.le_refl _) _
            have hbF : Below g6 w0 ((w9.setCell ⟨g6, 0, none⟩ ((.slice A5 (la.length + 1) c5))).setCell ⟨g6 + 1, 0, none⟩ ((.slice A6 (lb.length + 1) c6))) := Below.setCell hbF1 (p := ⟨g6 + 1, 0, none⟩) (by show g6 ≤ g6 + 1; omega) _
            obtain ⟨t0, t1⟩ := HGF.out.cells
            have e0 := Blk.frozen HGF.out.a 0
            have e1 := Blk.frozen ((HGF.out.setA (.slice A5 (la.length + 1) c5)).b) 0
            have t2 := Blk.cell0 ((HGF.out.setA (.slice A5 (la.length + 1) c5)).b)
            refine wpT_nil ?_
            refine wpTail_cons ?_
            go_wp2_with fail
            refine tail_back ?_
            refine wpTail_cons ?_
            go_wp2_with fail
            refine tail_back ?_
            refine wpTail_cons ?_
            go_wp2_with fail
            refine tail_back ?_
            refine wpTail_nil ?_
            clear t0 t1 e0 e1 t2
            go_wp2_with fail
            go_roundw
            case rel =>
              refine ⟨k + 1, (.slice A5 (la.length + 1) c5), (.slice A6 (lb.length + 1) c6), by omega, by go_num, ?_, ?_, hbF⟩
              · rw [HTS.out, ← HXS.out]; go_num
              · rw [HSA.out, HSB.out]; exact hQ.out.sw.to
            case measure => simp [intOf]; omega
    · obtain rfl : k = n := by omega
      have g3 : decide ((k : Int) < (k : Int)) = false := by simp
      have htk : p.take k = p := List.take_of_length_le (by rw [HPN.out]; exact Nat.le_refl _)
      rw [htk] at HTW
      clear htk
      obtain ⟨la, hla0⟩ : ∃ la, la = cutA r p := ⟨_, rfl⟩
      obtain ⟨lb, hlb0⟩ : ∃ lb, lb = cutB r p := ⟨_, rfl⟩
      rw [← hla0, ← hlb0] at HTW
      have HLA := Lib.hid hla0
      have HLB := Lib.hid hlb0
      clear hla0 hlb0
      obtain ⟨Aa, ca, hva, _, _, _⟩ := own_form HTW.out.ra
      subst hva
      obtain ⟨Ab, cb, hvb, _, _, _⟩ := own_form HTW.out.rb
      subst hvb
      have h4 := HB4.out.below hb (by omega)
      have h5 := HB5.out.below hb (by omega)
      have q4 := Blk.cell0 h4; have q5 := Blk.cell0 h5
      have f4 := Blk.frozen h4 0; have f5 := Blk.frozen h5 0
      have c9 := Blk.cell0 HTW.out.a; have c10 := Blk.cell0 HTW.out.b
      have hbF0 : Below w.heap.size w wr := hb0.trans (hb.mono (by omega))
      have hd1 : g6 ≠ w.heap.size + 1 := by omega
      have hd2 : g6 + 1 ≠ w.heap.size + 1 := by omega
      have hd3 : g6 ≠ w.heap.size + 1 + 1 := by omega
      have hd4 : g6 + 1 ≠ w.heap.size + 1 + 1 := by omega
      have hT4 : TwoR (wr.setCell ⟨w.heap.size + 1, 0, none⟩ (.slice Aa la.length ca)) g6 g6 (g6 + 1) (.slice Aa la.length ca) (.slice Ab lb.length cb) la lb :=
        ⟨HTW.out.a.far (p := ⟨w.heap.size + 1, 0, none⟩) hd1 _, HTW.out.b.far (p := ⟨w.heap.size + 1, 0, none⟩) hd2 _, own_far HTW.out.ra (own_ne_rope HTW.out.ra h4) 0 _, own_far HTW.out.rb (own_ne_rope HTW.out.rb h4) 0 _, HTW.out.ap, HTW.out.ga, HTW.out.gb, HTW.out.ne⟩
      have h4' : Blk (wr.setCell ⟨w.heap.size + 1, 0, none⟩ (.slice Aa la.length ca)) (w.heap.size + 1) 89 #[.slice Aa la.length ca] := h4.set_ 0 _
      have h5' := h5.far (p := ⟨w.heap.size + 1, 0, none⟩) (by show w.heap.size + 1 + 1 ≠ w.heap.size + 1; omega) (.slice Aa la.length ca)
      have hT5 : TwoR ((wr.setCell ⟨w.heap.size + 1, 0, none⟩ (.slice Aa la.length ca)).setCell ⟨w.heap.size + 1 + 1, 0, none⟩ (.slice Ab lb.length cb)) g6 g6 (g6 + 1) (.slice Aa la.length ca) (.slice Ab lb.length cb) la lb :=
        ⟨hT4.a.far (p := ⟨w.heap.size + 1 + 1, 0, none⟩) hd3 _, hT4.b.far (p := ⟨w.heap.size + 1 + 1, 0, none⟩) hd4 _, own_far hT4.ra (own_ne_rope hT4.ra h5') 0 _, own_far hT4.rb (own_ne_rope hT4.rb h5') 0 _, hT4.ap, hT4.ga, hT4.gb, hT4.ne⟩
      have R4 : (wr.setCell ⟨w.heap.size + 1, 0, none⟩ (.slice Aa la.length ca)).cell? ⟨w.heap.size + 1, 0, none⟩ = some (.slice Aa la.length ca) := Blk.cell0 h4'
      have R5 : ((wr.setCell ⟨w.heap.size + 1, 0, none⟩ (.slice Aa la.length ca)).setCell ⟨w.heap.size + 1 + 1, 0, none⟩ (.slice Ab lb.length cb)).cell? ⟨w.heap.size + 1 + 1, 0, none⟩ = some (.slice Ab lb.length cb) := Blk.cell0 (h5'.set_ 0 _)
      have HFIN : Hid (Below w.heap.size w (((wr.setCell ⟨w.heap.size + 1, 0, none⟩ (.slice Aa la.length ca)).setCell ⟨w.heap.size + 1 + 1, 0, none⟩ (.slice Ab lb.length cb)).drew)) := (by repeat (first | exact Below.refl _ _ | assumption | refine Below.alloc ?_ (by first | exact Nat.le_refl _ | assumption | omega | (simp <;> omega)) _ | refine Below.setCell ?_ (by first | exact Nat.le_refl _ | assumption | omega | (simp <;> omega)) _ | refine Below.drew ?_ | refine below_drewN ?_ _))
      have HT5 := Lib.hid hT5
      have c9' := Blk.cell0 hT4.a; have c10' := Blk.cell0 hT4.b
      have q5' := Blk.cell0 h5'; have f5' := Blk.frozen h5' 0
      have c9'' := Blk.cell0 hT5.a; have c10'' := Blk.cell0 hT5.b
      have HC1 := Lib.hid (And.intro c9' c10')
      have HC2 := Lib.hid (And.intro c9'' c10'')
      clear hT4 hT5 h4 h5 h4' h5' HTW hb
      go_wp2_with fail
      obtain ⟨F1, hFd⟩ : ∃ F : World → Prop, F = fun w' => w'.cell? ⟨g6, 0, none⟩ = some (.slice Aa la.length ca) ∧ w'.cell? ⟨g6 + 1, 0, none⟩ = some (.slice Ab lb.length cb) := ⟨_, rfl⟩
      have HF1 := Lib.hid hFd
      clear hFd
      have hcell10 : ∀ p' : Wof F1, p'.w.cell? ⟨g6, 0, none⟩ = some (.slice Aa la.length ca) := fun ⟨x, hx⟩ => by rw [HF1.out] at hx; exact hx.1
      have hcell11 : ∀ p' : Wof F1, p'.w.cell? ⟨g6 + 1, 0, none⟩ = some (.slice Ab lb.length cb) := fun ⟨x, hx⟩ => by rw [HF1.out] at hx; exact hx.2
      refine wp_region_schedF [(0, true), (1, true), (2, false), (3, false)] F1 (by kernel_rfl) (by kernel_rfl) rfl (fun _ _ _ _ _ h => h) (by kernel_rfl) (by rw [HF1.out]; first | trivial | (repeat' apply And.intro) <;> assumption | (simp; done) | (simp [*]; done)) (by rw [HF1.out]; exact fun h => h) ?_
      intro hne1
      simp only [opersOf, List.getElem?_toArray, List.getElem?_cons_succ, List.getElem?_cons_zero]
      repeat (first | (refine wpSched_want rfl ?_; intro K hK; go_big_quiet_op; go_big_quiet_on) | (refine wpSched_skip rfl ?_; simp only [Act.put, List.setIfInBounds_toArray, List.set_cons_zero, List.set_cons_succ]))
      refine wpSched_other ?_
      go_wp2_with fail
      refine sched_back (by rw [HF1.out]; exact HC1.out) ?_
      repeat (first | (refine wpSched_want rfl ?_; intro K hK; go_big_quiet_op; go_big_quiet_on) | (refine wpSched_skip rfl ?_; simp only [Act.put, List.setIfInBounds_toArray, List.set_cons_zero, List.set_cons_succ]))
      refine wpSched_other ?_
      go_wp2_with fail
      refine sched_back (by rw [HF1.out]; exact HC2.out) ?_
      repeat (first | (refine wpSched_want rfl ?_; intro K hK; go_big_quiet_op; go_big_quiet_on) | (refine wpSched_skip rfl ?_; simp only [Act.put, List.setIfInBounds_toArray, List.set_cons_zero, List.set_cons_succ]))
      refine wpSched_nil ?_
      go_wp2_with fail
      (apply bodyPost_ret; (simp [results, Try.results70, go_sem, R4, R5]; rfl); rfl)
      refine ⟨_, _, rfl, ?_, ?_, HT5.out.ap, HFIN.out⟩
      · have h9 := own_lower HT5.out.ra (show w.heap.size ≤ g6 by omega)
        rw [← HLA.out]
        exact h9
      · have h9 := own_lower HT5.out.rb (show w.heap.size ≤ g6 by omega)
        rw [← HLB.out]
        exact h9
end Go.Proofs.Ytolnhplgaolieaa
