/- same.Check, dist.Of and dist.Swaps. dist.Near and dist.Swaps. The walks of package front: the shelf, take, Put, Get. -/
import Derived.Test.YtncakjchaniheaaDoorPk08
import Derived.Test.YtncakjchaniheaaDoorPk16
import Derived.BigRegion
import Derived.Test.YtncakjchaniheaaDoorPk03
import Derived.Test.YtncakjchaniheaaDoorPk02
import Derived.Test.YtncakjchaniheaaDoorPk06
import Derived.Test.YtncakjchaniheaaDoorPk09
namespace Go.Proofs.YtncakjchaniheaaDoor
open Go.RowKit
theorem long2 (s t : ByteArray) : longAll [s, t] = if 200 < s.size ∨ 200 < t.size then 2 else 0 := by simp [longAll]
theorem getD_set (l : List Int) (k j : Nat) (v : Int) (h : k < l.length) : (l.set k v).getD j 0 = if j = k then v else l.getD j 0 := by
  rw [List.getD_eq_getElem?_getD, List.getD_eq_getElem?_getD, List.getElem?_set]
  by_cases hj : j = k
  · subst hj; simp [h]
  · have : ¬ k = j := fun e => hj e.symm
    simp [hj, this]
/-- How far the beginnings are. -/
def levT (s t : ByteArray) (i k : Nat) : Nat := lev ((L s).take i) ((L t).take k)
theorem take_byte (s : ByteArray) (k : Nat) (h : k < s.size) : (L s).take (k + 1) = (L s).take k ++ [s[k]] := by
  rw [List.take_succ_eq_append_getElem (by rw [L_len]; exact h), getB s k h, List.getD_eq_getElem?_getD, List.getElem?_eq_getElem (by rw [L_len]; exact h)]; rfl
theorem levT_step (s t : ByteArray) (i k : Nat) (hi : i < s.size) (hk : k < t.size) : levT s t (i + 1) (k + 1) = min (levT s t i k + if s[i] = t[k] then 0 else 1) (min (levT s t (i + 1) k + 1) (levT s t i (k + 1) + 1)) := by
  unfold levT; rw [take_byte s i hi, take_byte t k hk, lev_snoc]
theorem levT_zero_left (s t : ByteArray) (k : Nat) (hk : k ≤ t.size) : levT s t 0 k = k := by
  unfold levT; rw [List.take_zero, lev_nil_left, List.length_take, L_len]; omega
theorem levT_zero_right (s t : ByteArray) (i : Nat) (hi : i ≤ s.size) : levT s t i 0 = i := by
  unfold levT; rw [List.take_zero, lev_nil_right, List.length_take, L_len]; omega
theorem levT_all (s t : ByteArray) : levT s t s.size t.size = lev (L s) (L t) := by
  unfold levT; rw [List.take_of_length_le (by rw [L_len]; exact Nat.le_refl _), List.take_of_length_le (by rw [L_len]; exact Nat.le_refl _)]
theorem levT_le (s t : ByteArray) (i k : Nat) : levT s t i k ≤ s.size + t.size := by
  have := lev_len ((L s).take i) ((L t).take k)
  simp only [List.length_take, L_len] at this
  unfold levT; omega
/-- Where the inner loop stands: k places of the row are new. -/
structure OfIn (s t : ByteArray) (wr : World) (base g i k : Nat) (l : List Int) : Prop where
  row : ArrI wr base g (t.size + 1) l
  new : ∀ j, j ≤ k → l.getD j 0 = (levT s t (i + 1) j : Nat)
  old : ∀ j, k < j → j ≤ t.size → l.getD j 0 = (levT s t i j : Nat)
theorem OfIn.step {s t : ByteArray} {wr : World} {base g i k : Nat} {l : List Int} (h : OfIn s t wr base g i k l) (hk : k < t.size) (n : Nat) {v : Int} (hv : v = (levT s t (i + 1) (k + 1) : Nat)) :
    OfIn s t ((wr.drewN n).setCell ⟨g, k + 1, none⟩ (.int .i64 v)) base g i (k + 1) (l.set (k + 1) v) := by
  have hl := h.row.len
  refine ⟨(h.row.drewN n).set_ _ _, fun j hj => ?_, fun j h1 h2 => ?_⟩
  · rw [getD_set _ _ _ _ (by omega)]
    by_cases hq : j = k + 1
    · subst hq; rw [if_pos rfl]; exact hv
    · rw [if_neg hq]; exact h.new j (by omega)
  · rw [getD_set _ _ _ _ (by omega), if_neg (by omega)]; exact h.old j (by omega) h2
end Go.Proofs.YtncakjchaniheaaDoor
namespace Go.Proofs.YtncakjchaniheaaDoor
open Go.RowKit
/-- The places of the words that are near, of the first k. -/
def nearAt (a : List UInt8) (most : Int) (l : List (List UInt8)) (k : Nat) : List Int := ((List.range k).filter fun i => decide (((lev a (l.getD i []) : Nat) : Int) ≤ most)).map fun (i : Nat) => (i : Int)
theorem nearAt_zero (a : List UInt8) (most : Int) (l : List (List UInt8)) : nearAt a most l 0 = [] := rfl
theorem nearAt_hit {a : List UInt8} {most : Int} {l : List (List UInt8)} {k : Nat} (h : ((lev a (l.getD k []) : Nat) : Int) ≤ most) : nearAt a most l (k + 1) = nearAt a most l k ++ [(k : Int)] := by
  have e : List.filter (fun i => decide (((lev a (l.getD i []) : Nat) : Int) ≤ most)) [k] = [k] := List.filter_cons_of_pos (decide_eq_true h)
  unfold nearAt; rw [List.range_succ, List.filter_append, List.map_append, e]; rfl
theorem nearAt_miss {a : List UInt8} {most : Int} {l : List (List UInt8)} {k : Nat} (h : ¬ ((lev a (l.getD k []) : Nat) : Int) ≤ most) : nearAt a most l (k + 1) = nearAt a most l k := by
  have e : List.filter (fun i => decide (((lev a (l.getD i []) : Nat) : Int) ≤ most)) [k] = [] := List.filter_cons_of_neg (by show ¬ (decide _ = true); rw [decide_eq_true_iff]; exact h)
  unfold nearAt; rw [List.range_succ, List.filter_append, List.map_append, e]; simp
theorem nearAt_len (a : List UInt8) (most : Int) (l : List (List UInt8)) (k : Nat) : (nearAt a most l k).length ≤ k := by
  unfold nearAt; rw [List.length_map]; exact Nat.le_trans (List.length_filter_le _ _) (by simp)
theorem ints_app (l m : List Int) : ints (l ++ m) = ints l ++ ints m := by simp [ints]
def nearErr (s : ByteArray) (l : List (List UInt8)) : Int := if 200 < s.size ∨ 200 < l.length ∨ ∃ x ∈ l, 200 < x.length then 2 else 0
/-- In how many of the first k places two texts are unlike. -/
def ham (a b : List UInt8) : Nat → Nat
  | 0 => 0
  | k + 1 => ham a b k + if a.getD k 0 = b.getD k 0 then 0 else 1
theorem ham_le (a b : List UInt8) (k : Nat) : ham a b k ≤ k := by
  induction k with
  | zero => exact Nat.le_refl _
  | succ k ih => rw [ham]; split <;> omega
end Go.Proofs.YtncakjchaniheaaDoor
namespace Go.Proofs.YtncakjchaniheaaDoor
open Go.RowKit
theorem info_u8' : (Tryd.prog.info? 5).map (fun i => (i.zero, i.size, i.bytes)) = some (some (.int .u8 0), 1, 1) := by kernel_rfl
/-- A row that the call made whole is a block of bytes. -/
theorem BB.of_own {w : World} {base g n : Nat} {x : List UInt8} (h : w.ownsRow base 5 1 (.slice (some ⟨g, 0, none⟩) n n) n (byteCells x)) : BB w g x := by
  rcases h.2 with ⟨h1, _⟩ | ⟨g', cap, cur, h1, h2⟩
  · cases h1
  · injection h1 with e1 _ e3
    injection e1 with e1
    injection e1 with e1
    subst e1; subst e3
    obtain ⟨_, hg, _, _, hs, ht⟩ := h2
    show w.heap[g]? = _
    rw [hg, ← ht, List.take_of_length_le (by rw [Array.length_toList, hs]; exact Nat.le_refl _)]
set_option maxRecDepth 100000 in
set_option maxHeartbeats 4000000 in
theorem frontTake_any (x : List UInt8) (g k : Nat) (w : World) (hx : BB w g x) (hl : x.length = 256) (hk : k < 256) :
    Calls Tryd.prog 19 #[.slice (some ⟨g, 0, none⟩) 256 256, .int .i64 (k : Int)] w fun e w' => e = .returned (.int .u8 ((x.getD k 0).toNat : Int)) ∧ BB w' g (frontK x k) ∧ w.grownBy w' (some g) := by
  have c0 := hx.at_ (k := k) (by omega)
  have HX := Lib.hid hx
  have HC := Lib.hid (front_cells x k (by omega))
  have HL := Lib.hid hl
  clear hx hl
  go_enter Tryd.func19, Tryd.ntmps19
  go_wp2_with fail
  obtain ⟨F1, hFd⟩ : ∃ F : World → Prop, F = fun w' => True := ⟨_, rfl⟩
  have HF1 := Lib.hid hFd
  clear hFd
  refine wp_region_schedF [(0, true), (1, true), (2, true), (3, true), (4, true), (5, true), (6, true), (7, false)] F1 (by kernel_rfl) (by kernel_rfl) rfl (fun _ _ _ _ _ h => h) (by kernel_rfl) (by rw [HF1.out]; first | trivial | (repeat' apply And.intro) <;> assumption | (simp; done) | (simp [*]; done)) (by rw [HF1.out]; exact fun h => h) ?_
  intro hne1
  simp only [opersOf, List.getElem?_toArray, List.getElem?_cons_succ, List.getElem?_cons_zero]
  repeat (first | (refine wpSched_free rfl ?_; intro K hK; go_big_quiet_op; go_big_quiet_on) | (refine wpSched_wantS _ rfl rfl rfl ?_; intro K hK; go_big_quiet_op; go_big_quiet_on) | (refine wpSched_skipS _ rfl rfl rfl rfl ?_; simp only [Act.put, List.setIfInBounds_toArray, List.set_cons_zero, List.set_cons_succ]) | (refine wpSched_skipU _ rfl rfl rfl ?_; simp only [Act.put, List.setIfInBounds_toArray, List.set_cons_zero, List.set_cons_succ]))
  refine wpSched_other ?_
  refine wpList_copy_gb rfl (.tmp 13) (.tmp 16) _ _ rfl 5 Tryd.underlying44 (by kernel_rfl) _ _ _ _ _ _ rfl rfl g 1 (byteCells x) 5 HX.out ((byteCells x).take k) ?_ ?_ ?_ ?_ ?_
  · rw [List.length_take, byteCells_len, HL.out]
    show min k 256 = min k k
    omega
  · intro _
    refine ⟨rfl, _, rfl, fun j v hv => ?_⟩
    have hj : j < 256 := by
      have := (List.getElem?_eq_some_iff.1 hv).1
      rw [List.length_take, byteCells_len, HL.out] at this
      omega
    have hv2 : (byteCells x)[j]? = some v := by
      rw [List.getElem?_take] at hv
      split at hv
      · exact hv
      · cases hv
    show w.cell? _ = _
    rw [cell_row w g j _ _ HX.out]
    simpa using hv2
  · rw [List.length_take, byteCells_len, HL.out]; omega
  · intro v hv; exact byteCells_one x v (List.mem_of_mem_take hv)
  · intro w2 hB2 hg2
    have c1 : w2.cell? ⟨g, 0, none⟩ = some ((splice (byteCells x) 1 ((byteCells x).take k)).getD 0 undef) := by
      rw [Blk.cell hB2, List.getElem?_toArray, List.getD_eq_getElem?_getD]
      have : 0 < (splice (byteCells x) 1 ((byteCells x).take k)).length := by
        rw [length_splice _ _ _ (by rw [List.length_take, byteCells_len, HL.out]; omega), byteCells_len, HL.out]; omega
      rw [List.getElem?_eq_getElem this]; rfl
    have f1 := hB2.frozen 0
    have HB3 : Hid (BB (w2.setCell ⟨g, 0, none⟩ (.int .u8 ((x.getD k 0).toNat : Int))) g (frontK x k)) := by
      have := hB2.set_ 0 (.int .u8 ((x.getD k 0).toNat : Int))
      rw [HC.out] at this; exact this
    have HG3 : Hid (w.grownBy (w2.setCell ⟨g, 0, none⟩ (.int .u8 ((x.getD k 0).toNat : Int))) (some g)) := gb_set (gb_trans (gb_drew (gb_refl w _)) hg2) _ _
    clear hB2 hg2 HC
    generalize (splice (byteCells x) 1 ((byteCells x).take k)).getD 0 undef = v0 at *
    go_wp2_with fail
    refine sched_back (by rw [HF1.out]; first | trivial | (repeat' apply And.intro) <;> assumption | (simp; done) | (go_simp; done) | (simp [*]; done)) ?_
    repeat (first | (refine wpSched_free rfl ?_; intro K hK; go_big_quiet_op; go_big_quiet_on) | (refine wpSched_wantS _ rfl rfl rfl ?_; intro K hK; go_big_quiet_op; go_big_quiet_on) | (refine wpSched_skipS _ rfl rfl rfl rfl ?_; simp only [Act.put, List.setIfInBounds_toArray, List.set_cons_zero, List.set_cons_succ]) | (refine wpSched_skipU _ rfl rfl rfl ?_; simp only [Act.put, List.setIfInBounds_toArray, List.set_cons_zero, List.set_cons_succ]))
    refine wpSched_nil ?_
    go_wp2_with fail
    go_ret
    exact ⟨rfl, HB3.out, HG3.out⟩
/-- The shelf at the start. -/
def natB (n : Nat) : List UInt8 := (List.range n).map UInt8.ofNat ++ List.replicate (256 - n) 0
theorem natB_len {n : Nat} (h : n ≤ 256) : (natB n).length = 256 := by simp [natB]; omega
theorem natB_all : natB 256 = shelfA [] := by simp [natB, shelfA, shelfR, allB]
theorem natB_set {n : Nat} (h : n < 256) : (natB n).set n (UInt8.ofNat n) = natB (n + 1) := by
  unfold natB
  rw [List.set_append_right _ _ (by simp), List.length_map, List.length_range, Nat.sub_self, List.range_succ, List.map_append, List.append_assoc]
  congr 1
  rw [show 256 - n = (256 - (n + 1)) + 1 by omega, List.replicate_succ]
  rfl
theorem ofNat_toNat {n : Nat} (h : n < 256) : ((UInt8.ofNat n).toNat : Int) = (n : Int) := by
  rw [UInt8.toNat_ofNat', Nat.mod_eq_of_lt h]
set_option maxRecDepth 100000 in
set_option maxHeartbeats 4000000 in
theorem frontShelf_any (w : World) :
    Calls Tryd.prog 18 #[] w fun e w' => ∃ g, e = .returned (.slice (some ⟨g, 0, none⟩) 256 256) ∧ w.heap.size ≤ g ∧ BB w' g (shelfA []) ∧ Below w.heap.size w w' := by
  obtain ⟨i0, hi0, hz0, hz1, hz2⟩ := info_parts info_u8'
  go_enter Tryd.func18, Tryd.ntmps18
  go_wp2_with (at_make; go_must (refine wpList_make_full _ rfl _ _ _ rfl w.heap.size 5 i0 _ 1 Tryd.underlying44 hi0 hz0 hz1 .i64 .i64 256 256 256 rfl rfl (by omega) (by omega) (by rw [hz2]; omega) (by unfold maxLen; omega) (Nat.le_refl _) ?_); intro w2 hown2 hg2)
  have hb2 : Below w.heap.size w w2 := (Below.refl _ _).grown hg2 (Nat.le_refl _) (fun _ h => by cases h)
  have HB2 : Hid (BB w2 w.heap.size (natB 0)) := by
    refine BB.of_own (base := w.heap.size) (n := 256) ?_
    rw [made_one _ rfl] at hown2
    have e : byteCells (natB 0) = List.replicate 256 (.int .u8 0) := by simp [byteCells, natB]
    rw [e]
    simpa using hown2
  clear hown2 hg2
  have HN : Hid (∀ n, n < 256 → ((UInt8.ofNat n).toNat : Int) = (n : Int)) := fun n h => ofNat_toNat h
  go_loopw [6] (fun i wr => ∃ k : Nat, k ≤ 256 ∧ i = .int .i64 k ∧ BB wr w.heap.size (natB k) ∧ Below w.heap.size w wr) (fun i _ => 256 - (intOf i).toNat)
  case atStart => exact ⟨0, by omega, rfl, HB2.out, hb2⟩
  case round =>
    clear HB2 hb2
    obtain ⟨k, hk, rfl, hB, hb⟩ := hrel
    by_cases hlt : k < 256
    · have g1 : decide ((k : Int) < 256) = true := decide_eq_true (by omega)
      have c0 := hB.at_ (k := k) (by rw [natB_len hk]; exact hlt)
      have f0 := hB.free k
      have HB3 : Hid (BB (wr.setCell ⟨w.heap.size, k, none⟩ (.int .u8 (k : Int))) w.heap.size (natB (k + 1))) := by
        have := hB.set_ k (UInt8.ofNat k)
        rw [natB_set hlt, HN.out k hlt] at this
        exact this
      clear hB
      generalize ((natB k).getD k 0).toNat = y at *
      go_wp2_with fail
      go_roundw
      case rel => exact ⟨k + 1, by omega, by go_num, HB3.out, Below.setCell hb (Nat.le_refl _) _⟩
      case measure => simp [intOf]; omega
    · obtain rfl : k = 256 := by omega
      rw [natB_all] at hB
      have HB3 := Lib.hid hB
      clear hB
      go_wp2_with fail
      go_ret
      exact ⟨_, rfl, Nat.le_refl _, HB3.out, hb⟩
/-- Ahead of its place a byte does not stand on the shelf. -/
theorem before_idx : ∀ (x : List UInt8) (c : UInt8) (j : Nat), j < x.idxOf c → x.getD j 0 ≠ c
  | [], c, j, h => by simp at h
  | a :: x, c, j, h => by
    by_cases e : a = c
    · subst e; rw [List.idxOf_cons_self] at h; omega
    · rw [idx_ne _ e] at h
      cases j with
      | zero => exact e
      | succ j => exact before_idx x c j (by omega)
def agesI (u : List UInt8) (n : Nat) : List Int := (ages u n).map fun k : Nat => (k : Int)
theorem agesI_len (u : List UInt8) (n : Nat) : (agesI u n).length = n := by unfold agesI; rw [List.length_map, ages_len]
theorem agesI_snoc (u : List UInt8) (n : Nat) : agesI u (n + 1) = agesI u n ++ [(ago (u.take n) (u.getD n 0) : Int)] := by unfold agesI; rw [ages_snoc, List.map_append]; rfl
def putV (s : ByteArray) : List Int := if 200 < s.size then [] else agesI (L s) s.size
/-- Where Put stands. -/
structure PutAt (w wr : World) (g g3 : Nat) (s : ByteArray) (k : Nat) (o : Value) : Prop where
  sh : BB wr g (shelfA ((L s).take k))
  by_ : ∀ j, j < s.size → wr.cell? ⟨g3, j, none⟩ = some (.int .u8 (((L s).getD j 0).toNat : Int))
  out : wr.ownsRow (g3 + 1) 3 1 o k (ints (agesI (L s) k))
  lt : g < g3
  lt3 : g3 < wr.heap.size
  le : w.heap.size ≤ g
  b : Below w.heap.size w wr
theorem PutAt.own5 {w wr w5 : World} {g g3 k : Nat} {s : ByteArray} {o : Value} (h : PutAt w wr g g3 s k o) (hg5 : wr.grownBy w5 (some g)) : w5.ownsRow (g3 + 1) 3 1 o k (ints (agesI (L s) k)) :=
  World.ownsRow.kept h.out hg5 (.inr (fun e => by
    have := (World.ownsRow.lt h.out g e).1
    have := h.lt
    omega))
theorem PutAt.step {w wr w5 w6 : World} {g g3 k : Nat} {s : ByteArray} {o v6 : Value} (h : PutAt w wr g g3 s k o) (hg5 : wr.grownBy w5 (some g)) (hB5 : BB w5 g (shelfA ((L s).take (k + 1)))) (hb6 : Below (g3 + 1) w5 w6)
    (hown : w6.ownsRow (g3 + 1) 3 1 v6 (k + 1) (ints (agesI (L s) (k + 1)))) : PutAt w w6 g g3 s (k + 1) v6 := by
  have h1 := h.lt
  have h2 := h.lt3
  have h4 := hg5.size
  have h5 := hb6.size
  refine ⟨Blk.below hB5 hb6 (by omega), fun j hj => ?_, hown, h1, by omega, h.le, ?_⟩
  · rw [hb6.cell (p := ⟨g3, j, none⟩) (by show g3 < g3 + 1; omega), World.cell?_of_block (a := ⟨g3, j, none⟩) (hg5.block g3 h2 (by simp; omega)), h.by_ j hj]
  · exact (below_gb h.b hg5 h.le h.b.size).trans (hb6.mono (by have := h.le; omega))
set_option maxRecDepth 100000 in
set_option maxHeartbeats 4000000 in
theorem frontPut_any (s : ByteArray) (w : World) :
    Calls Tryd.prog 5 #[.string s] w fun e w' => ∃ v, e = .returned (.tuple #[v, .int .i64 (longErr s.size)]) ∧ w'.ownsRow w.heap.size 3 1 v (putV s).length (ints (putV s)) ∧ Below w.heap.size w w' := by
  obtain ⟨i0, hi0, hz0, hz1, hz2⟩ := info_parts info_int
  by_cases h2 : 200 < s.size
  · have HE : Hid (longErr s.size = 2) := by unfold Hid longErr; rw [if_pos h2]
    have HV : Hid (putV s = []) := by unfold Hid putV; rw [if_pos h2]
    clear h2
    go_enter Tryd.func5, Tryd.ntmps5
    go_wp2_with fail
    refine (wordCheck_any s _).mono ?_
    rintro e w1 ⟨rfl, hb1⟩
    rw [HE.out]
    go_wp2_with fail
    go_ret2
    rw [HE.out]
    exact ⟨_, rfl, by rw [HV.out]; exact ⟨rfl, .inl ⟨rfl, rfl⟩⟩, hb1⟩
  have HE : Hid (longErr s.size = 0) := by unfold Hid longErr; rw [if_neg h2]
  have HV : Hid (putV s = agesI (L s) s.size) := by unfold Hid putV; rw [if_neg h2]
  have hs2 : s.size ≤ 200 := by omega
  have hcv := fun W => Lib.run_convert_string_bytes (P := Tryd.prog) W 9 44 5 s Tryd.underlying9 Tryd.underlying44 Tryd.underlying5
  clear h2
  go_enter Tryd.func5, Tryd.ntmps5
  go_wp2_with fail
  refine (wordCheck_any s _).mono ?_
  rintro e w1 ⟨rfl, hb1⟩
  rw [HE.out]
  go_wp2_with fail
  refine (frontShelf_any _).mono ?_
  rintro e w2 ⟨g, rfl, hg, hB, hb2⟩
  have hgw : w.heap.size ≤ g := Nat.le_trans hb1.size hg
  have hglt : g < w2.heap.size := hB.lt
  have hb3 : Below w2.heap.size w2 (Lib.bytesWorld w2 5 s) := bytesWorld_below w2 _ s
  have hcells := Lib.bytesWorld_cell w2 5 s
  have hsz3 : w2.heap.size < (Lib.bytesWorld w2 5 s).heap.size := by rw [Lib.bytesWorld_size]; exact Nat.lt_succ_self _
  have HP : Hid (PutAt w (Lib.bytesWorld w2 5 s) g w2.heap.size s 0 (.slice none 0 0)) :=
    ⟨hB.below hb3, fun j hj => hcells j hj, ⟨rfl, .inl ⟨rfl, rfl⟩⟩, hglt, hsz3, hgw, bthen (bthen hb1 hb2) hb3⟩
  clear hB hb1 hb2 hb3 hcells hsz3 hg
  go_wp2_with fail
  clear hcv
  generalize Lib.bytesWorld w2 5 s = w3 at *
  generalize w2.heap.size = g3 at *
  go_loopw [6, 19] (fun o i wr => ∃ k : Nat, k ≤ s.size ∧ i = .int .i64 k ∧ PutAt w wr g g3 s k o) (fun _ i _ => s.size - (intOf i).toNat)
  case atStart => exact ⟨0, Nat.zero_le _, rfl, HP.out⟩
  case round =>
    clear HP
    obtain ⟨k, hk, rfl, hP⟩ := hrel
    by_cases hlt : k < s.size
    · have g1 : decide ((k : Int) < (s.size : Int)) = true := decide_eq_true (by omega)
      have c0 := hP.by_ k hlt
      have HST := Lib.hid (shelfA_front (L s) (n := k) (by rw [L_len]; exact hlt))
      have HSN := Lib.hid (agesI_snoc (L s) k)
      have hal := ago_lt ((L s).take k) ((L s).getD k 0)
      have HBF := Lib.hid (before_idx (shelfA ((L s).take k)) ((L s).getD k 0))
      have HGD := Lib.hid (getD_idx (shelfA ((L s).take k)) ((L s).getD k 0) (mem_shelfR _ _))
      have HSL := Lib.hid (shelfA_len ((L s).take k))
      have HPA := Lib.hid hP
      clear hP
      change Hid (∀ j, j < ago ((L s).take k) ((L s).getD k 0) → _) at HBF
      change Hid ((shelfA ((L s).take k)).getD (ago ((L s).take k) ((L s).getD k 0)) 0 = _) at HGD
      generalize hag : ago ((L s).take k) ((L s).getD k 0) = a at *
      have hpsh := HPA.out.sh
      generalize shelfA ((L s).take k) = x at *
      generalize (L s).getD k 0 = c at *
      clear hag
      go_wp2_with fail
      go_loopw [9] (fun i w' => ∃ j : Nat, j ≤ a ∧ i = .int .i64 j ∧ w' = wr) (fun i _ => a - (intOf i).toNat)
      case atStart => exact ⟨0, Nat.zero_le _, rfl, rfl⟩
      case round =>
        obtain ⟨j, hj, rfl, rfl⟩ := hrel
        have c1 := hpsh.at_ (k := j) (by rw [HSL.out]; omega)
        by_cases hja : j < a
        · have hne := HBF.out j hja
          have g2 : ((x.getD j 0).toNat != c.toNat) = true := by rw [bne_iff_ne]; exact fun h => hne (UInt8.toNat_inj.1 h)
          have g4 : (((x.getD j 0).toNat : Int) != (c.toNat : Int)) = true := by rw [bne_iff_ne]; exact fun h => hne (UInt8.toNat_inj.1 (by omega))
          clear hne
          generalize (x.getD j 0).toNat = y at *
          go_wp2_with fail
          go_roundw
          case rel => exact ⟨j + 1, by omega, by go_num, by first | rfl | trivial⟩
          case measure => simp [intOf]; omega
        · obtain rfl : j = a := by omega
          rw [HGD.out] at c1
          have g2 : (c.toNat != c.toNat) = false := by simp
          have g4 : ((c.toNat : Int) != (c.toNat : Int)) = false := by simp
          go_wp2_with fail
          refine (frontTake_any x g j _ hpsh HSL.out hal).mono ?_
          rintro e w5 ⟨rfl, hB5, hg5⟩
          have HO5 := Lib.hid (HPA.out.own5 hg5)
          have HST5 : Hid (∀ w6 v6, Below (g3 + 1) w5 w6 → w6.ownsRow (g3 + 1) 3 1 v6 (k + 1) (ints (agesI (L s) (k + 1))) → PutAt w w6 g g3 s (k + 1) v6) := fun w6 v6 h1 h2 => HPA.out.step hg5 (by rw [HST.out]; exact hB5) h1 h2
          have h35 : g3 + 1 ≤ w5.heap.size := Nat.le_trans HPA.out.lt3 hg5.size
          have HIN : Hid (ints (agesI (L s) k) ++ [.int .i64 (j : Int)] = ints (agesI (L s) (k + 1))) := by unfold Hid; rw [HSN.out, ints_app]; rfl
          clear HPA hpsh hB5 hg5 HSN HST HBF HGD c0 c1
          go_wp2_with (at_builtin; go_must (refine wpList_appG rfl _ _ _ rfl (g3 + 1) 3 i0 _ 1 8 Tryd.underlying25 hi0 hz0 hz1 hz2 rfl (by omega) _ k (ints (agesI (L s) k)) rfl (World.ownsRow.alloc (w := w5) HO5.out _) ⟨w5.heap.size, 0, none⟩ 1 1 [.int .i64 (j : Int)] rfl rfl (cell_one_new _ _ _) (by simp [Value.oneCell']) (by omega) (by omega) (by simp; omega) ?_); intro v6 w6 hown6 hg6 hb6)
          rw [HIN.out] at hown6
          have HPN := Lib.hid (HST5.out w6 v6 (((Below.refl _ _).alloc h35 _).trans hb6) hown6)
          clear hown6 hg6 hb6 HST5 HO5
          go_roundw
          case rel => exact ⟨k + 1, by omega, by go_num, HPN.out⟩
          case measure => simp [intOf]; omega
    · obtain rfl : k = s.size := by omega
      have g1 : decide ((s.size : Int) < (s.size : Int)) = false := by simp
      have ho := hP.out
      have hle : w.heap.size ≤ g3 + 1 := by have := hP.lt; have := hP.le; omega
      have HO : Hid (wr.ownsRow w.heap.size 3 1 u6 (putV s).length (ints (putV s))) := by
        unfold Hid; rw [HV.out, agesI_len]; exact own_lower ho hle
      have hb := hP.b
      clear hP ho
      go_wp2_with fail
      go_ret2
      rw [HE.out]
      exact ⟨_, rfl, HO.out, hb⟩
end Go.Proofs.YtncakjchaniheaaDoor
