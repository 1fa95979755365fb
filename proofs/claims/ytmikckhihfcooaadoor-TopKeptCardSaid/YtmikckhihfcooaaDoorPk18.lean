/- rope.At; the parts of a text, as the document cuts them. rope.Of. A script as a text: its numbers and its entries (plain). -/
import Derived.Test.YtmikckhihfcooaaDoorPk15
import Derived.Test.YtmikckhihfcooaaDoorPk17
import Derived.Test.YtmikckhihfcooaaDoorPk14
import Derived.Test.YtmikckhihfcooaaDoorPk01
import Derived.Lib.Atoi
import Derived.Lib.IndexMore
import Derived.Lib.SlTrimSet
namespace Go.Proofs.YtmikckhihfcooaaDoor
open Go.RowKit
/-- The first i parts, of K bytes each. -/
def pcs (K : Nat) (s : List UInt8) (i : Nat) : Parts := (List.range i).map fun j => (s.drop (j * K)).take K
def cnt (K n : Nat) : Nat := (n + K - 1) / K
def partsOf (K : Nat) (s : List UInt8) : Parts := pcs K s (cnt K s.length)
theorem pcs_len (K : Nat) (s : List UInt8) (i : Nat) : (pcs K s i).length = i := by simp [pcs]
theorem pcs_snoc (K : Nat) (s : List UInt8) (i : Nat) : pcs K s (i + 1) = pcs K s i ++ [(s.drop (i * K)).take K] := by
  unfold pcs; rw [List.range_succ, List.map_append]; rfl
theorem cnt_lt {K n i : Nat} (hK : 1 ≤ K) : i * K < n ↔ i < cnt K n := by
  unfold cnt
  rw [Nat.lt_div_iff_mul_lt (by omega)]
  omega
theorem cnt_le {K n : Nat} (hK : 1 ≤ K) : cnt K n ≤ n := by
  unfold cnt
  rcases Nat.eq_zero_or_pos n with h | h
  · subst h; rw [Nat.zero_add, Nat.div_eq_of_lt (by omega)]; exact Nat.le_refl _
  · rw [Nat.div_le_iff_le_mul_add_pred (by omega)]
    have : n ≤ K * n := Nat.le_mul_of_pos_left _ (by omega)
    omega
def atE (p : Parts) (i : Int) : Int := if ropeErr p ≠ 0 then ropeErr p else if i < 0 ∨ (tot p : Int) ≤ i then 1 else 0
def atV (p : Parts) (i : Int) : UInt8 := if atE p i = 0 then p.flatten.getD i.toNat 0 else 0
theorem flat_at (p : Parts) {k j : Nat} (hk : k < p.length) (hj : j < (p.getD k []).length) : p.flatten.getD (tot (p.take k) + j) 0 = (p.getD k []).getD j 0 := by
  have e : p = p.take k ++ (p.getD k [] :: p.drop (k + 1)) := by
    rw [List.getD_eq_getElem?_getD, List.getElem?_eq_getElem hk, Option.getD_some, ← List.drop_eq_getElem_cons hk, List.take_append_drop]
  generalize p.getD k [] = x at *
  have e2 : p.flatten = (p.take k).flatten ++ (x ++ (p.drop (k + 1)).flatten) := by
    conv => lhs; rw [e]
    rw [List.flatten_append, List.flatten_cons]
  rw [e2, List.getD_eq_getElem?_getD, List.getElem?_append_right (by unfold tot; omega)]
  unfold tot
  rw [Nat.add_sub_cancel_left, List.getElem?_append_left hj, ← List.getD_eq_getElem?_getD]
end Go.Proofs.YtmikckhihfcooaaDoor
namespace Go.Proofs.YtmikckhihfcooaaDoor
open Go.RowKit
def ofBad (z : Int) (n : Nat) : Prop := z < 1 ∨ 60 < cnt (min z 200).toNat n
instance (z : Int) (n : Nat) : Decidable (ofBad z n) := inferInstanceAs (Decidable (_ ∨ _))
def ofE (s : List UInt8) (z : Int) : Int := if 200 < s.length then 2 else if ofBad z s.length then 1 else 0
def ofP (s : List UInt8) (z : Int) : Parts := if ofE s z = 0 then partsOf (min z 200).toNat s else []
set_option maxRecDepth 100000 in
set_option maxHeartbeats 4000000 in
theorem ropeOf_any (s : ByteArray) (z : Int) (hs : s.size ≤ 9223372036854775807) (ha0 : -9223372036854775808 ≤ z) (ha1 : z ≤ 9223372036854775807) (w : World) :
    Calls Tryd.prog 6 #[.string s, .int .i64 z] w fun e w' => ∃ v, e = .returned (.tuple #[.agg #[v], .int .i64 (ofE (L s) z)]) ∧
      w'.ownsRow w.heap.size 9 1 v (ofP (L s) z).length (strCells (ofP (L s) z)) ∧ Below w.heap.size w w' := by
  obtain ⟨i0, hi0, hz0, hz1, hz2⟩ := info_parts info_str
  have HLL : Hid ((L s).length = s.size) := L_len s
  have hb0 : Below w.heap.size w (w.alloc (.cells #[.slice none 0 0] 32)) := (by repeat (first | exact Below.refl _ _ | assumption | refine Below.alloc ?_ (by first | exact Nat.le_refl _ | assumption | omega | (simp <;> omega)) _ | refine Below.setCell ?_ (by first | exact Nat.le_refl _ | assumption | omega | (simp <;> omega)) _ | refine Below.drew ?_ | refine below_drewN ?_ _))
  have HB0 : Hid (Blk (w.alloc (.cells #[.slice none 0 0] 32)) w.heap.size 32 #[.slice none 0 0]) := Blk.new_ _ _ _
  have hsz0 : (w.alloc (.cells #[.slice none 0 0] 32)).heap.size = w.heap.size + 1 := by simp
  have HZ0 := Lib.hid hsz0
  clear hsz0
  by_cases h2 : 200 < s.size
  · have g1 : decide ((200 : Int) < (s.size : Int)) = true := decide_eq_true (by omega)
    have HE : Hid (ofE (L s) z = 2) := by unfold Hid ofE; rw [HLL.out, if_pos h2]
    have HP : Hid (ofP (L s) z = []) := by unfold Hid ofP; rw [HE.out, if_neg (by decide)]
    rw [HE.out, HP.out]
    go_enter Tryd.func6, Tryd.ntmps6
    go_wp2_with fail
    (apply bodyPost_ret; (simp [results, Tryd.results6, go_sem]; rfl); rfl)
    exact ⟨_, rfl, World.ownsRow_nil _ _ _ _, hb0⟩
  have g1 : decide ((200 : Int) < (s.size : Int)) = false := decide_eq_false (by omega)
  by_cases hbad : ofBad z s.size
  · have HE : Hid (ofE (L s) z = 1) := by unfold Hid ofE; rw [HLL.out, if_neg h2, if_pos hbad]
    have HP : Hid (ofP (L s) z = []) := by unfold Hid ofP; rw [HE.out, if_neg (by decide)]
    rw [HE.out, HP.out]
    by_cases hz1' : z < 1
    · have g2 : decide (z < 1) = true := decide_eq_true hz1'
      go_enter Tryd.func6, Tryd.ntmps6
      go_wp2_with fail
      (apply bodyPost_ret; (simp [results, Tryd.results6, go_sem]; rfl); rfl)
      exact ⟨_, rfl, World.ownsRow_nil _ _ _ _, hb0⟩
    · obtain ⟨zn, rfl⟩ : ∃ zn : Nat, z = (zn : Int) := ⟨z.toNat, by omega⟩
      have hdv : ((s.size : Int) + ((min zn 200 : Nat) : Int) - 1) / ((min zn 200 : Nat) : Int) = ((cnt (min zn 200) s.size : Nat) : Int) := by
        unfold cnt
        rw [show ((s.size : Int) + ((min zn 200 : Nat) : Int) - 1) = ((s.size + (min zn 200) - 1 : Nat) : Int) by omega]; rfl
      have hc9 : 60 < cnt (min zn 200) s.size := by
        unfold ofBad at hbad
        rw [show (min (zn : Int) 200).toNat = min zn 200 by omega] at hbad; omega
      have g2 : decide ((zn : Int) < 1) = false := decide_eq_false (by omega)
      have g3 : decide (60 < ((s.size : Int) + ((min zn 200 : Nat) : Int) - 1) / ((min zn 200 : Nat) : Int)) = true := by
        rw [hdv]; exact decide_eq_true (by omega)
      have g3' : decide (60 < ((s.size : Int) + min (zn : Int) 200 - 1) / min (zn : Int) 200) = true := by
        rw [show min (zn : Int) 200 = ((min zn 200 : Nat) : Int) by omega]; exact g3
      clear hdv hbad
      go_enter Tryd.func6, Tryd.ntmps6
      go_wp2_with fail
      (apply bodyPost_ret; (simp [results, Tryd.results6, go_sem]; rfl); rfl)
      exact ⟨_, rfl, World.ownsRow_nil _ _ _ _, hb0⟩
  · have HE : Hid (ofE (L s) z = 0) := by unfold Hid ofE; rw [HLL.out, if_neg h2, if_neg hbad]
    have HP : Hid (ofP (L s) z = partsOf (min z 200).toNat (L s)) := by unfold Hid ofP; rw [HE.out, if_pos rfl]
    rw [HE.out, HP.out]
    obtain ⟨zn, rfl⟩ : ∃ zn : Nat, z = (zn : Int) := ⟨z.toNat, by unfold ofBad at hbad; omega⟩
    obtain ⟨K, hK⟩ : ∃ K : Nat, K = min zn 200 := ⟨_, rfl⟩
    have hKt : (min (zn : Int) 200).toNat = K := by omega
    have hb2 : 1 ≤ zn ∧ cnt K s.size ≤ 60 := by unfold ofBad at hbad; rw [hKt] at hbad; omega
    have hmn : min (zn : Int) (200 : Int) = (K : Int) := by omega
    have g2 : decide ((zn : Int) < 1) = false := decide_eq_false (by omega)
    have hK1 : 1 ≤ K := by omega
    have hK2 : K ≤ 200 := by omega
    rw [hKt]
    have hM : (min zn 200 : Nat) = K := hK.symm
    have hdv : ((s.size : Int) + ((min zn 200 : Nat) : Int) - 1) / ((min zn 200 : Nat) : Int) = ((cnt K s.size : Nat) : Int) := by
      rw [hM]; unfold cnt
      rw [show ((s.size : Int) + (K : Int) - 1) = ((s.size + K - 1 : Nat) : Int) by omega]; rfl
    have g3 : decide (60 < ((s.size : Int) + ((min zn 200 : Nat) : Int) - 1) / ((min zn 200 : Nat) : Int)) = false := by
      rw [hdv]; exact decide_eq_false (by omega)
    have g3' : decide (60 < ((s.size : Int) + min (zn : Int) 200 - 1) / min (zn : Int) 200) = false := by
      rw [show min (zn : Int) 200 = ((min zn 200 : Nat) : Int) by omega]; exact g3
    clear hdv hmn hKt hM hbad
    have HK := Lib.hid hK
    clear hK
    have HT0 : Hid (TwoR ((w.alloc (.cells #[.slice none 0 0] 32)).alloc (.cells #[.slice none 0 0] 32)) w.heap.size (w.heap.size + 1) w.heap.size (.slice none 0 0) (.slice none 0 0) [] []) := by
      have h1 := Blk.new_ (w.alloc (.cells #[.slice none 0 0] 32)) 32 #[.slice none 0 0]
      rw [World.size_alloc] at h1
      exact ⟨h1, Blk.alloc (Blk.new_ _ _ _) _, World.ownsRow_nil _ _ _ _, World.ownsRow_nil _ _ _ _, Apart.none_left _, by omega, Nat.le_refl _, by omega⟩
    have hbA : Below w.heap.size w ((w.alloc (.cells #[.slice none 0 0] 32)).alloc (.cells #[.slice none 0 0] 32)) := (by repeat (first | exact Below.refl _ _ | assumption | refine Below.alloc ?_ (by first | exact Nat.le_refl _ | assumption | omega | (simp <;> omega)) _ | refine Below.setCell ?_ (by first | exact Nat.le_refl _ | assumption | omega | (simp <;> omega)) _ | refine Below.drew ?_ | refine below_drewN ?_ _))
    have HLT : Hid (∀ i, i * K < s.size ↔ i < cnt K s.size) := fun i => cnt_lt hK1
    have hc0 := Blk.cell0 HB0.out
    go_enter Tryd.func6, Tryd.ntmps6
    go_wp2_with fail
    clear g3 g3' hc0
    generalize ((w.alloc (.cells #[.slice none 0 0] 32)).alloc (.cells #[.slice none 0 0] 32)) = wA at *
    go_loopw [0] (fun o wr => ∃ (k : Nat) (va : Value), o = .string (S ((L s).drop (k * K))) ∧ k ≤ cnt K s.size ∧ TwoR wr w.heap.size (w.heap.size + 1) w.heap.size va (.slice none 0 0) (pcs K (L s) k) [] ∧ Below w.heap.size w wr) (fun o _ => match o with | .string b => b.size | _ => 0)
    case atStart => exact ⟨0, _, by rw [Nat.zero_mul, List.drop_zero, S_L], Nat.zero_le _, HT0.out, hbA⟩
    case round =>
      clear HT0 hbA
      obtain ⟨k, va, rfl, hk, htw, hb⟩ := hrel
      have HTW := Lib.hid htw
      clear htw
      have hkl := pcs_len K (L s) k
      have hk60 : k ≤ 60 := by omega
      have HSN := Lib.hid (pcs_snoc K (L s) k)
      have HL := Lib.hid (HLT.out k)
      have hxs := S_size ((L s).drop (k * K))
      rw [List.length_drop, HLL.out] at hxs
      have HDD : Hid ((L s).drop ((k + 1) * K) = ((L s).drop (k * K)).drop K) := by unfold Hid; rw [List.drop_drop, Nat.succ_mul]
      by_cases hlt : k < cnt K s.size
      · have ha := HL.out.2 hlt
        generalize pcs K (L s) k = la at *
        generalize (L s).drop (k * K) = x at *
        generalize k * K = a at *
        have HXL : Hid (x.length = s.size - a) := by unfold Hid; rw [← hxs, S_size]
        have hX1 : 0 < (S x).size := by omega
        have hX200 : (S x).size ≤ 200 := by omega
        have g4 : decide ((0 : Int) < ((S x).size : Int)) = true := decide_eq_true (by omega)
        have g4' : decide (0 < (S x).size) = true := decide_eq_true (by omega)
        obtain ⟨q, hq⟩ : ∃ q, q = min zn (S x).size := ⟨_, rfl⟩
        have hqK : q = min K x.length := by have := HK.out; have h9 := HXL.out; rw [hq, hxs]; omega
        have hmn : min (zn : Int) ((S x).size : Int) = (q : Int) := by omega
        have hq1 : 1 ≤ q := by omega
        have hqX : q ≤ (S x).size := by omega
        have HQ := Lib.hid hq
        have HQK := Lib.hid hqK
        clear hq hqK
        have HEX : Hid ((S x).extract 0 q = S (x.take K)) := by
          unfold Hid; rw [extract_S, L_S, List.drop_zero, Nat.sub_zero]; congr 1; rw [List.take_eq_take_iff, HQK.out]; omega
        have HEX2 : Hid ((S x).extract q (S x).size = S (x.drop K)) := by
          unfold Hid; rw [extract_S, L_S, List.take_of_length_le (by rw [List.length_drop, S_size]; exact Nat.le_refl _)]
          congr 1
          by_cases h9 : K ≤ x.length
          · rw [HQK.out, Nat.min_eq_left h9]
          · rw [List.drop_of_length_le (by rw [HQK.out]; omega), List.drop_of_length_le (by omega)]
        have hll : la.length ≤ 60 := by omega
        clear hxs hkl
        have hHT := Lib.hid (HTW.out)
        have c0 := Blk.cell0 hHT.out.a
        have f0 := Blk.frozen hHT.out.a 0
        have hglt := Blk.lt hHT.out.a
        go_wp2_with fail
        obtain ⟨F1, hFd⟩ : ∃ F : World → Prop, F = fun w' => w'.cell? ⟨w.heap.size+1, 0, none⟩ = some (va) := ⟨_, rfl⟩
        have HF1 := Lib.hid hFd
        clear hFd
        have hcell10 : ∀ p' : Wof F1, p'.w.cell? ⟨w.heap.size+1, 0, none⟩ = some (va) := fun ⟨x, hx⟩ => by rw [HF1.out] at hx; exact hx
        refine wp_region_schedZ [(0, true), (1, true), (2, true), (3, true), (4, true), (5, false), (6, false), (7, true)] 8 _ F1 (by kernel_rfl) (by kernel_rfl) rfl (by kernel_rfl) rfl (fun _ _ _ _ _ h => h) (by kernel_rfl) (by rw [HF1.out]; first | trivial | (repeat' apply And.intro) <;> assumption | (simp; done) | (simp [*]; done)) (by rw [HF1.out]; exact fun h => h) ?_
        intro hne1
        simp only [opersOf, List.getElem?_toArray, List.getElem?_cons_succ, List.getElem?_cons_zero]
        repeat (first | (refine wpSched_free rfl ?_; intro K hK; go_big_quiet_op; go_big_quiet_on) | (refine wpSched_wantS _ rfl rfl rfl ?_; intro K hK; go_big_quiet_op; go_big_quiet_on) | (refine wpSched_skipS _ rfl rfl rfl rfl ?_; simp only [Act.put, List.setIfInBounds_toArray, List.set_cons_zero, List.set_cons_succ]) | (refine wpSched_skipU _ rfl rfl rfl ?_; simp only [Act.put, List.setIfInBounds_toArray, List.set_cons_zero, List.set_cons_succ]))
        refine wpSched_other ?_
        go_wp2_with fail
        have k00 : (wr.alloc (.cells #[.string ((S x).extract 0 q)] 9)).cell? ⟨w.heap.size+1, 0, none⟩ = some va := (World.cell?_alloc_lt wr _ _ hglt).trans c0
        refine sched_back (by rw [HF1.out]; first | trivial | (repeat' apply And.intro) <;> assumption | (simp; done) | (go_simp; done) | (simp [*]; done)) ?_
        repeat (first | (refine wpSched_free rfl ?_; intro K hK; go_big_quiet_op; go_big_quiet_on) | (refine wpSched_wantS _ rfl rfl rfl ?_; intro K hK; go_big_quiet_op; go_big_quiet_on) | (refine wpSched_skipS _ rfl rfl rfl rfl ?_; simp only [Act.put, List.setIfInBounds_toArray, List.set_cons_zero, List.set_cons_succ]) | (refine wpSched_skipU _ rfl rfl rfl ?_; simp only [Act.put, List.setIfInBounds_toArray, List.set_cons_zero, List.set_cons_succ]))
        refine wpSched_other ?_
        have hO1 : ∀ o, ((wr.alloc o).drew).ownsRow w.heap.size 9 1 va la.length (strCells la) := fun o => own_below hHT.out.ra (by repeat (first | exact Below.refl _ _ | assumption | refine Below.alloc ?_ (by first | exact Nat.le_refl _ | assumption | omega | (simp <;> omega)) _ | refine Below.setCell ?_ (by first | exact Nat.le_refl _ | assumption | omega | (simp <;> omega)) _ | refine Below.drew ?_ | refine below_drewN ?_ _))
        have hnw : ∀ j u, [Value.string ((S x).extract 0 q)][j]? = some u → ((wr.alloc (.cells #[.string ((S x).extract 0 q)] 9)).drew).cell? (Addr.add ⟨wr.heap.size, 0, none⟩ j) = some u := fun j u hj => cells_new wr #[.string ((S x).extract 0 q)] 9 j u hj
        have hbW : Below w.heap.size w ((wr.alloc (.cells #[.string ((S x).extract 0 q)] 9)).drew) := (by repeat (first | exact Below.refl _ _ | assumption | refine Below.alloc ?_ (by first | exact Nat.le_refl _ | assumption | omega | (simp <;> omega)) _ | refine Below.setCell ?_ (by first | exact Nat.le_refl _ | assumption | omega | (simp <;> omega)) _ | refine Below.drew ?_ | refine below_drewN ?_ _))
        have hbW0 : Below wr.heap.size wr ((wr.alloc (.cells #[.string ((S x).extract 0 q)] 9)).drew) := (by repeat (first | exact Below.refl _ _ | assumption | refine Below.alloc ?_ (by first | exact Nat.le_refl _ | assumption | omega | (simp <;> omega)) _ | refine Below.setCell ?_ (by first | exact Nat.le_refl _ | assumption | omega | (simp <;> omega)) _ | refine Below.drew ?_ | refine below_drewN ?_ _))
        have HBW0 := Lib.hid hbW0
        clear hbW0
        go_wp2_with (at_builtin; go_must (refine wpList_appN rfl _ _ _ rfl w.heap.size 9 i0 _ 1 16 Tryd.underlying30 hi0 hz0 hz1 hz2 rfl (by omega) _ la.length (strCells la) rfl (hO1 _) ⟨wr.heap.size, 0, none⟩ 1 1 [.string ((S x).extract 0 q)] rfl rfl hnw (by simp [Value.oneCell']) (by omega) (by omega) (by simp; omega) ?_); intro v6 w6 hown6 hg6 hb6 ha6; obtain ⟨A6, c6, rfl, _, _, _⟩ := own_form hown6)
        have hgne := rope_ne_some (own_ne_rope hHT.out.ra hHT.out.a)
        have k0 : w6.cell? ⟨w.heap.size+1, 0, none⟩ = some va := World.grownBy.cell (w := (wr.alloc (.cells #[.string ((S x).extract 0 q)] 9)).drew) (a := ⟨w.heap.size+1, 0, none⟩) (v := va) hg6 k00 hgne
        have HTN := Lib.hid ((hHT.out.below HBW0.out).appA (x := (x.take K)) hg6 (by first | exact hown6 | (rw [← HEX.out]; exact hown6)) ha6)
        have hbn : Below w.heap.size w (w6.setCell ⟨w.heap.size+1, 0, none⟩ (.slice A6 (la.length + 1) c6)) := Below.setCell (hbW.trans hb6) (p := ⟨w.heap.size+1, 0, none⟩) hHT.out.ga _
        refine sched_back (by rw [HF1.out]; exact k0) ?_
        repeat (first | (refine wpSched_free rfl ?_; intro K hK; go_big_quiet_op; go_big_quiet_on) | (refine wpSched_wantS _ rfl rfl rfl ?_; intro K hK; go_big_quiet_op; go_big_quiet_on) | (refine wpSched_skipS _ rfl rfl rfl rfl ?_; simp only [Act.put, List.setIfInBounds_toArray, List.set_cons_zero, List.set_cons_succ]) | (refine wpSched_skipU _ rfl rfl rfl ?_; simp only [Act.put, List.setIfInBounds_toArray, List.set_cons_zero, List.set_cons_succ]))
        refine wpSched_nil ?_
        refine qz_nil ?_
        have q1f : w6.frozen? ⟨w.heap.size+1, 0, none⟩ = false := ((hHT.out.a.below' HBW0.out).grown hg6 hgne).frozen 0
        clear HF1 hcell10 hne1 c0 f0 k00 hO1 hnw hbW HBW0 hown6 hg6 hb6 ha6 hHT
        go_wp2_with fail
        clear k0 q1f hgne hglt
        generalize (w6.setCell ⟨w.heap.size+1, 0, none⟩ (.slice A6 (la.length + 1) c6)) = w7 at *
        go_roundw
        case rel =>
          refine ⟨k + 1, .slice A6 (la.length + 1) c6, ?_, by omega, ?_, hbn⟩
          · rw [HDD.out, ← HEX2.out]
          · rw [HSN.out]; exact HTN.out
        case measure => have h5 := HQK.out; have h6 := HXL.out; have h7 : (S x).size = x.length := S_size _; rw [HEX2.out]; show (S (x.drop K)).size < (S x).size; rw [S_size, S_size, List.length_drop]; omega
      · obtain rfl : k = cnt K s.size := by omega
        have ha : ¬ cnt K s.size * K < s.size := fun h => hlt (HL.out.1 h)
        have HQ : Hid (partsOf K (L s) = pcs K (L s) (cnt K s.size)) := by unfold Hid partsOf; rw [HLL.out]
        generalize cnt K s.size * K = a at *
        generalize (L s).drop a = x at *
        have hX0 : (S x).size = 0 := by omega
        have g4 : decide ((0 : Int) < ((S x).size : Int)) = false := decide_eq_false (by omega)
        have g4' : decide (0 < (S x).size) = false := decide_eq_false (by omega)
        clear hxs hX0
        have q1 := Blk.cell0 HTW.out.a
        have q2 := Blk.cell0 HTW.out.b
        obtain ⟨A6, c6, hv6, _, _, _⟩ := own_form HTW.out.ra
        rw [hkl] at hv6
        subst hv6
        have f1 := Blk.frozen HTW.out.b 0
        have R4 : (wr.setCell ⟨w.heap.size, 0, none⟩ (.slice A6 (cnt K s.size) c6)).cell? ⟨w.heap.size, 0, none⟩ = some (.slice A6 (cnt K s.size) c6) := Blk.cell0 (HTW.out.b.set_ 0 _)
        have hbF : Below w.heap.size w (wr.setCell ⟨w.heap.size, 0, none⟩ (.slice A6 (cnt K s.size) c6)) := (by repeat (first | exact Below.refl _ _ | assumption | refine Below.alloc ?_ (by first | exact Nat.le_refl _ | assumption | omega | (simp <;> omega)) _ | refine Below.setCell ?_ (by first | exact Nat.le_refl _ | assumption | omega | (simp <;> omega)) _ | refine Below.drew ?_ | refine below_drewN ?_ _))
        have hOF := own_far HTW.out.ra (own_ne_rope HTW.out.ra HTW.out.b) 0 (.slice A6 (cnt K s.size) c6)
        go_wp2_with fail
        (apply bodyPost_ret; (simp [results, Tryd.results6, go_sem, R4]; rfl); rfl)
        rw [HQ.out]
        exact ⟨_, rfl, hOF, hbF⟩
end Go.Proofs.YtmikckhihfcooaaDoor
namespace Go.Proofs.YtmikckhihfcooaaDoor
def cutSB : List UInt8 → UInt8 → Option (List UInt8 × List UInt8)
  | [], _ => none
  | x :: s, c => if x = c then some ([], s) else (cutSB s c).map fun p => (x :: p.1, p.2)
theorem cutSB_none {c : UInt8} : ∀ {s : List UInt8}, (∀ b ∈ s, b ≠ c) → cutSB s c = none := by
  intro s
  induction s with
  | nil => intro _; rfl
  | cons x s ih =>
    intro h
    rw [cutSB, if_neg (h x List.mem_cons_self), ih fun b hb => h b (List.mem_cons_of_mem _ hb)]; rfl
theorem cutSB_at {c : UInt8} : ∀ {a r : List UInt8}, (∀ b ∈ a, b ≠ c) → cutSB (a ++ c :: r) c = some (a, r) := by
  intro a
  induction a with
  | nil => intro r _; rw [List.nil_append, cutSB, if_pos rfl]
  | cons x a ih =>
    intro r h
    rw [List.cons_append, cutSB, if_neg (h x List.mem_cons_self), ih fun b hb => h b (List.mem_cons_of_mem _ hb)]; rfl
theorem cutSB_spec {c : UInt8} : ∀ {s a r : List UInt8}, cutSB s c = some (a, r) → s = a ++ c :: r ∧ ∀ b ∈ a, b ≠ c := by
  intro s
  induction s with
  | nil => intro a r h; cases h
  | cons x s ih =>
    intro a r h
    rw [cutSB] at h
    split at h
    · rename_i hx
      simp only [Option.some.injEq, Prod.mk.injEq] at h
      obtain ⟨rfl, rfl⟩ := h
      subst hx
      exact ⟨rfl, by simp⟩
    · rename_i hx
      cases hc : cutSB s c with
      | none => rw [hc] at h; cases h
      | some p =>
        rw [hc] at h
        simp only [Option.map_some, Option.some.injEq, Prod.mk.injEq] at h
        obtain ⟨rfl, rfl⟩ := h
        obtain ⟨h1, h2⟩ := ih hc
        exact ⟨by rw [List.cons_append, ← h1], fun b hb => by
          rcases List.mem_cons.1 hb with rfl | hb
          · exact hx
          · exact h2 b hb⟩
theorem cutSB_len {c : UInt8} {s a r : List UInt8} (h : cutSB s c = some (a, r)) : r.length < s.length := by
  rw [(cutSB_spec h).1, List.length_append, List.length_cons]; omega
theorem index_cutB (c : UInt8) : ∀ s : List UInt8, Lib.index s [c] = match cutSB s c with
    | some p => (p.1.length : Int)
    | none => -1 := by
  intro s
  induction s with
  | nil => rfl
  | cons x s ih =>
    rw [Lib.index, cutSB]
    by_cases h : x = c
    · subst h
      simp
    · have e : List.isPrefixOf [c] (x :: s) = false := by
        simp only [List.isPrefixOf, Bool.and_eq_false_iff, beq_eq_false_iff_ne]
        exact .inl fun e => h e.symm
      rw [e, if_neg h]
      simp only [Bool.false_eq_true, if_false, ih]
      cases cutSB s c with
      | none => rfl
      | some p =>
        simp only [Option.map_some, List.length_cons]
        rw [if_neg (by first | (simp; done) | (simp; omega)), Int.natCast_add]
        rfl
theorem cut_lib (s : List UInt8) (c : UInt8) : Lib.cut s [c] = match cutSB s c with
    | some p => (p.1, p.2, true)
    | none => (s, [], false) := by
  unfold Lib.cut
  rw [index_cutB]
  cases h : cutSB s c with
  | none => rfl
  | some p =>
    obtain ⟨a, r⟩ := p
    simp only
    rw [if_pos (by omega), (cutSB_spec h).1]
    simp
/-- Where the first k bytes are not the end: what is cut begins with them. -/
theorem cutSB_pre {c : UInt8} {s a r : List UInt8} {k : Nat} (hn : ∀ b ∈ s.take k, b ≠ c) (h : cutSB s c = some (a, r)) : ∃ q, a = s.take k ++ q := by
  obtain ⟨h1, h2⟩ := cutSB_spec h
  have hka : k ≤ a.length := by
    rcases Nat.lt_or_ge a.length k with h3 | h3
    · exfalso
      refine hn c ?_ rfl
      rw [h1, List.take_append, List.mem_append]
      right
      rw [show k - a.length = (k - a.length - 1) + 1 by omega, List.take_succ_cons]
      exact List.mem_cons_self
    · exact h3
  refine ⟨a.drop k, ?_⟩
  rw [h1, List.take_append_of_le_length hka, List.take_append_drop]
theorem dec_app : ∀ (x y : List UInt8) (acc : Nat), Lib.decFrom acc (x ++ y) = match Lib.decFrom acc x with
    | some v => Lib.decFrom v y
    | none => none := by
  intro x
  induction x with
  | nil => intro y acc; rfl
  | cons b x ih =>
    intro y acc
    rw [List.cons_append, Lib.decFrom, Lib.decFrom]
    cases Lib.digitVal b with
    | none => rfl
    | some d => exact ih y _
theorem dec_ge : ∀ (x : List UInt8) (acc v : Nat), Lib.decFrom acc x = some v → acc * 10 ^ x.length ≤ v := by
  intro x
  induction x with
  | nil => intro acc v h; simp [Lib.decFrom] at h; subst h; simp
  | cons b x ih =>
    intro acc v h
    rw [Lib.decFrom] at h
    cases hd : Lib.digitVal b with
    | none => rw [hd] at h; cases h
    | some d =>
      rw [hd] at h
      have := ih _ _ h
      rw [List.length_cons, Nat.pow_succ, Nat.mul_comm (10 ^ x.length) 10, ← Nat.mul_assoc]
      exact Nat.le_trans (Nat.mul_le_mul_right _ (by omega)) this
theorem dec_up {x : List UInt8} {acc v : Nat} (h : Lib.decFrom acc x = some v) : acc ≤ v :=
  Nat.le_trans (Nat.le_mul_of_pos_right _ (Nat.pow_pos (by omega))) (dec_ge _ _ _ h)
/-- A numeral: none empty, of three digits at most, without a nought ahead. -/
def okNum (a : List UInt8) : Bool := decide (a.length ≠ 0 ∧ a.length ≤ 3 ∧ ¬ (a.getD 0 0 = 48 ∧ 1 < a.length))
def valNum (a : List UInt8) : Option Nat := if okNum a then Lib.decFrom 0 a else none
def cutNum (s : List UInt8) (c : UInt8) : Option (Nat × List UInt8) := match cutSB s c with
  | some p => (valNum p.1).map fun v => (v, p.2)
  | none => none
def progNum (s : List UInt8) (c : UInt8) (most : Nat) : Option (Nat × List UInt8) := match cutNum s c with
  | some p => if p.1 ≤ most then some p else none
  | none => none
theorem dig48 {b : UInt8} {d : Nat} (h : Lib.digitVal b = some d) : d = b.toNat - 48 ∧ 48 ≤ b.toNat ∧ b.toNat ≤ 57 := by
  unfold Lib.digitVal at h
  split at h
  · rename_i hb
    cases h; exact ⟨rfl, hb⟩
  · cases h
theorem okNum_small {a : List UInt8} {n : Nat} (h : Lib.decFrom 0 a = some n) (hn : n ≤ 999) : okNum a = (decide (0 < a.length) && (decide (a.getD 0 0 ≠ 48) || decide (a.length = 1))) := by
  cases a with
  | nil => rfl
  | cons b a =>
    rw [Lib.decFrom] at h
    cases hd : Lib.digitVal b with
    | none => rw [hd] at h; cases h
    | some d =>
      rw [hd] at h
      obtain ⟨e, h1, h2⟩ := dig48 hd
      have h3 := dec_ge _ _ _ h
      unfold okNum
      simp only [List.length_cons, List.getD_cons_zero]
      by_cases h48 : b = 48
      · subst h48
        cases a with
        | nil => decide
        | cons y a =>
          rw [Bool.eq_iff_iff]
          simp
      · have hb : b.toNat ≠ 48 := fun e => h48 (UInt8.toNat_inj.1 (e.trans (rfl : 48 = (48 : UInt8).toNat)))
        have hd1 : 1 ≤ d := by omega
        have hl : a.length ≤ 2 := by
          rcases Nat.lt_or_ge 2 a.length with h4 | h4
          · exfalso
            have h5 : 10 ^ 3 ≤ 10 ^ a.length := Nat.pow_le_pow_right (by omega) h4
            have h6 : 1 * 10 ^ a.length ≤ (0 * 10 + d) * 10 ^ a.length := Nat.mul_le_mul_right _ (by omega)
            omega
          · exact h4
        rw [Bool.eq_iff_iff]
        simp [h48]
        omega
/- What the program's reading of a number comes to. -/
theorem num_end {s : List UInt8} {c : UInt8} {most k n : Nat} (hk : k < s.length) (hn : ∀ b ∈ s.take k, b ≠ c) (hd : Lib.decFrom 0 (s.take k) = some n) (hm : n ≤ most) (hm9 : most ≤ 999) (hc : s.getD k 0 = c) :
    progNum s c most = if (decide (0 < k) && (decide (s.getD 0 0 ≠ 48) || decide (k = 1))) = true then some (n, s.drop (k + 1)) else none := by
  have e : s = s.take k ++ c :: s.drop (k + 1) := by
    conv => lhs; rw [← List.take_append_drop k s]
    rw [List.drop_eq_getElem_cons hk]
    congr 2
    rw [← hc, List.getD_eq_getElem?_getD, List.getElem?_eq_getElem hk]; rfl
  have h1 : cutSB s c = some (s.take k, s.drop (k + 1)) := by
    conv => lhs; rw [e]
    exact cutSB_at hn
  have h2 := okNum_small hd (by omega)
  have h3 : (s.take k).length = k := by rw [List.length_take]; omega
  unfold progNum cutNum
  rw [h1]
  simp only
  unfold valNum
  rw [h2, h3]
  cases Nat.eq_zero_or_pos k with
  | inl h0 => subst h0; simp
  | inr h0 =>
    have h4 : (s.take k).getD 0 0 = s.getD 0 0 := by
      rw [List.getD_eq_getElem?_getD, List.getD_eq_getElem?_getD, List.getElem?_take, if_pos h0]
    rw [h4]
    by_cases hf : (decide (0 < k) && (decide (s.getD 0 0 ≠ 48) || decide (k = 1))) = true
    · rw [if_pos hf, if_pos hf, hd]; simp only [Option.map_some]; rw [if_pos hm]
    · rw [if_neg hf, if_neg hf]; rfl
theorem num_stop {s : List UInt8} {c : UInt8} {most k : Nat} (hn : ∀ b ∈ s.take (k + 1), b ≠ c) (hd : Lib.decFrom 0 (s.take (k + 1)) = none) : progNum s c most = none := by
  unfold progNum cutNum
  cases h : cutSB s c with
  | none => rfl
  | some p =>
    obtain ⟨a, r⟩ := p
    obtain ⟨q, rfl⟩ := cutSB_pre hn h
    simp only
    have : valNum (s.take (k + 1) ++ q) = none := by
      unfold valNum
      rw [dec_app, hd]; split <;> rfl
    rw [this]; rfl
theorem num_much {s : List UInt8} {c : UInt8} {most k n : Nat} (hn : ∀ b ∈ s.take (k + 1), b ≠ c) (hd : Lib.decFrom 0 (s.take (k + 1)) = some n) (hm : most < n) : progNum s c most = none := by
  unfold progNum cutNum
  cases h : cutSB s c with
  | none => rfl
  | some p =>
    obtain ⟨a, r⟩ := p
    obtain ⟨q, rfl⟩ := cutSB_pre hn h
    simp only
    cases hv : valNum (s.take (k + 1) ++ q) with
    | none => rfl
    | some v =>
      unfold valNum at hv
      split at hv
      · rw [dec_app, hd] at hv
        have := dec_up hv
        simp only [Option.map_some]
        rw [if_neg (by omega)]
      · cases hv
theorem num_none {s : List UInt8} {c : UInt8} {most : Nat} (hn : ∀ b ∈ s, b ≠ c) : progNum s c most = none := by
  unfold progNum cutNum
  rw [cutSB_none hn]
end Go.Proofs.YtmikckhihfcooaaDoor
