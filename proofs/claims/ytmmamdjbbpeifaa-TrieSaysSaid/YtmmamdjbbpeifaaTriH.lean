/- trie.Fronts. -/
import Derived.Test.YtmmamdjbbpeifaaTriF
import Derived.Test.YtmmamdjbbpeifaaSortS
import Derived.Test.YtmmamdjbbpeifaaTab
import Derived.Shelf.SlSortCmp.Xorshift
namespace Go.Proofs.Ytmmamdjbbpeifaa
open Go.RowKit Go.Sort Go.Proofs
theorem ltListT : ∀ (x y : List UInt8), Op.bytesLess x y = decide (x < y)
  | [], [] => rfl
  | [], _ :: _ => rfl
  | _ :: _, [] => rfl
  | a :: x, b :: y => by
    unfold Op.bytesLess
    rw [Bool.eq_iff_iff]
    simp [ltListT x y, List.cons_lt_cons_iff]
theorem lessT (a b : List UInt8) : Op.bytesLess (S a).toList (S b).toList = decide (a < b) := by
  rw [ByteArray.toList_eq, ByteArray.toList_eq]; exact ltListT a b
/-- The words that begin so: of the first k. -/
def frN (ps : List (List UInt8)) (hd : List UInt8) (k : Nat) : List Nat := (List.range k).filter fun i => hd.isPrefixOf (ps.getD i [])
def frS (ps : List (List UInt8)) (hd : List UInt8) : List Nat := (frN ps hd ps.length).mergeSort fun x y => decide (ps.getD x [] ≤ ps.getD y [])
section
variable {ps : List (List UInt8)} {hd : List UInt8}
theorem frN_snoc (k : Nat) : frN ps hd (k + 1) = frN ps hd k ++ (if hd.isPrefixOf (ps.getD k []) then [k] else []) := by
  unfold frN
  rw [List.range_succ, List.filter_append]
  congr 1
  rw [List.filter_cons, List.filter_nil]
theorem frN_len (k : Nat) : (frN ps hd k).length ≤ k := by
  unfold frN
  exact Nat.le_trans (List.length_filter_le _ _) (by rw [List.length_range]; exact Nat.le_refl _)
theorem frN_lt {k i : Nat} (h : i ∈ frN ps hd k) : i < k := by
  unfold frN at h
  rw [List.mem_filter, List.mem_range] at h
  exact h.1
theorem frS_len : (frS ps hd).length = (frN ps hd ps.length).length := List.length_mergeSort _
theorem frS_lt {i : Nat} (h : i ∈ frS ps hd) : i < ps.length := by
  unfold frS at h
  rw [List.mem_mergeSort] at h
  exact frN_lt h
/-- The names, sorted. -/
theorem frS_names : (frS ps hd).map (fun i => ps.getD i []) = sortB ((frN ps hd ps.length).map fun i => ps.getD i []) := by
  unfold frS sortB
  rw [List.map_mergeSort]
  intro a _ b _
  rfl
theorem frN_names (ps : List (List UInt8)) (hd : List UInt8) : (frN ps hd ps.length).map (fun i => ps.getD i []) = ps.filter fun p => hd.isPrefixOf p := by
  have h : ∀ k, k ≤ ps.length → (frN ps hd k).map (fun i => ps.getD i []) = (ps.take k).filter fun p => hd.isPrefixOf p := by
    intro k
    induction k with
    | zero => intro _; rfl
    | succ k ih =>
      intro hk
      rw [frN_snoc, List.map_append, ih (by omega), List.take_add_one, List.getElem?_eq_getElem (by omega), List.filter_append]
      congr 1
      have e : ps.getD k [] = ps[k] := by rw [List.getD_eq_getElem?_getD, List.getElem?_eq_getElem (by omega)]; rfl
      rw [e]
      show List.map (fun i => ps.getD i []) (if hd.isPrefixOf ps[k] = true then [k] else []) = List.filter (fun p => hd.isPrefixOf p) [ps[k]]
      rw [List.filter_cons, List.filter_nil]
      split
      · show [ps.getD k []] = _
        rw [e]
      · rfl
  have := h ps.length (Nat.le_refl _)
  rwa [List.take_length] at this
end
section
variable (ps : List (List UInt8)) (m : Nat)
def encFr (x : Fin (m + 1)) : Value := .int .i64 (x.val : Int)
def cfFr (x y : Fin (m + 1)) : Int := if ps.getD x.val [] < ps.getD y.val [] then -1 else 1
theorem ltFr (x y : Fin (m + 1)) : ltOf (cfFr ps m) x y = decide (ps.getD x.val [] < ps.getD y.val []) := by
  unfold ltOf cfFr
  by_cases h : ps.getD x.val [] < ps.getD y.val []
  · rw [if_pos h, decide_eq_true h]; decide
  · rw [if_neg h, decide_eq_false h]; decide
theorem swoFr : SWO (ltOf (cfFr ps m)) where
  irrefl x := by rw [ltFr]; exact decide_eq_false (List.lt_irrefl _)
  trans x y z h1 h2 := by
    rw [ltFr, decide_eq_true_iff] at *
    exact List.lt_trans h1 h2
  ntrans x y z h1 h2 := by
    rw [ltFr, decide_eq_false_iff_not] at *
    have g1 : ps.getD y.val [] ≤ ps.getD x.val [] := h1
    have g2 : ps.getD z.val [] ≤ ps.getD y.val [] := h2
    exact List.le_trans g2 g1
theorem totFr (hm : ps.length = m + 1) (hnd : ps.Nodup) (x y : Fin (m + 1)) (h1 : ltOf (cfFr ps m) x y = false) (h2 : ltOf (cfFr ps m) y x = false) : x = y := by
  rw [ltFr, decide_eq_false_iff_not] at *
  have g1 : ps.getD y.val [] ≤ ps.getD x.val [] := h1
  have g2 : ps.getD x.val [] ≤ ps.getD y.val [] := h2
  have e := List.le_antisymm g1 g2
  have hx : x.val < ps.length := by rw [hm]; exact x.isLt
  have hy : y.val < ps.length := by rw [hm]; exact y.isLt
  rw [List.getD_eq_getElem?_getD, List.getD_eq_getElem?_getD, List.getElem?_eq_getElem hx, List.getElem?_eq_getElem hy] at e
  exact Fin.ext ((List.getElem_inj hnd).1 e.symm)
def toFr (l : List Nat) : List (Fin (m + 1)) := l.map (Fin.ofNat (m + 1))
theorem toFr_val {l : List Nat} (h : ∀ i ∈ l, i < m + 1) : (toFr m l).map (fun x => x.val) = l := by
  unfold toFr
  rw [List.map_map]
  conv => rhs; rw [← List.map_id l]
  exact List.map_congr_left fun i hi => Nat.mod_eq_of_lt (h i hi)
def nisC (l : List Nat) : List Value := l.map fun (k : Nat) => .int .i64 (k : Int)
theorem toFr_enc {l : List Nat} (h : ∀ i ∈ l, i < m + 1) : (toFr m l).map (encFr m) = nisC l := by
  have h1 := congrArg (List.map fun (k : Nat) => Value.int .i64 (k : Int)) (toFr_val m h)
  rw [List.map_map] at h1
  exact h1
theorem sortFr_enc {l : List Nat} (h : ∀ i ∈ l, i < m + 1) : ((toFr m l).mergeSort fun x y => !(ltOf (cfFr ps m)) y x).map (encFr m) = nisC (l.mergeSort fun x y => decide (ps.getD x [] ≤ ps.getD y [])) := by
  have h1 : ((toFr m l).mergeSort fun x y => !(ltOf (cfFr ps m)) y x).map (fun x => x.val) = l.mergeSort fun x y => decide (ps.getD x [] ≤ ps.getD y []) := by
    rw [List.map_mergeSort (s := fun x y => decide (ps.getD x [] ≤ ps.getD y [])), toFr_val m h]
    intro a _ b _
    rw [ltFr, Bool.eq_iff_iff]
    simp
  have h2 := congrArg (List.map fun (k : Nat) => Value.int .i64 (k : Int)) h1
  rw [List.map_map] at h2
  exact h2
end
set_option maxRecDepth 100000 in
set_option maxHeartbeats 2000000 in
theorem cmpFr_any (ps : List (List UInt8)) (m : Nat) (pa : Addr) (c B : Nat) (x y : Fin (m + 1)) (W : World) (hb : W.cell? ⟨B, 0, none⟩ = some (.slice (some pa) (m + 1) c))
    (hx : W.cell? (pa.add x.val) = some (.string (S (ps.getD x.val [])))) (hy : W.cell? (pa.add y.val) = some (.string (S (ps.getD y.val [])))) :
    Calls Try.prog 52 #[.int .i64 (x.val : Int), .int .i64 (y.val : Int), .pointer (some ⟨B, 0, none⟩)] W fun e w' => e = .returned (.int .i64 (cfFr ps m x y)) ∧ ∃ q, w' = W.drewN q := by
  have hxl := x.isLt
  have hyl := y.isLt
  have HL := Lib.hid (lessT (ps.getD x.val []) (ps.getD y.val []))
  by_cases h : ps.getD x.val [] < ps.getD y.val []
  · have HV : Hid (cfFr ps m x y = -1) := if_pos h
    have hlt : Op.bytesLess (S (ps.getD x.val [])).toList (S (ps.getD y.val [])).toList = true := by rw [HL.out]; exact decide_eq_true h
    clear h HL
    generalize cfFr ps m x y = z at *
    generalize S (ps.getD x.val []) = X at *
    generalize S (ps.getD y.val []) = Y at *
    generalize x.val = i at *
    generalize y.val = j at *
    go_enter Try.func52, Try.ntmps52
    go_wp2_with fail
    go_quiet (fail)
    go_wp2_with fail
    go_ret
    rw [HV.out]
    exact ⟨rfl, _, rfl⟩
  · have HV : Hid (cfFr ps m x y = 1) := if_neg h
    have hlt : Op.bytesLess (S (ps.getD x.val [])).toList (S (ps.getD y.val [])).toList = false := by rw [HL.out]; exact decide_eq_false h
    clear h HL
    generalize cfFr ps m x y = z at *
    generalize S (ps.getD x.val []) = X at *
    generalize S (ps.getD y.val []) = Y at *
    generalize x.val = i at *
    generalize y.val = j at *
    go_enter Try.func52, Try.ntmps52
    go_wp2_with fail
    go_quiet (fail)
    go_wp2_with fail
    go_ret
    rw [HV.out]
    exact ⟨rfl, _, rfl⟩
/-- slices.SortFunc at an own row of places. -/
theorem sortFr_any (ps : List (List UInt8)) (n : Nat) (hn : ps.length = n) (hnd : ps.Nodup) (A : Option Addr) (c B : Nat) (l : List Nat) (v : Value) (w0 w : World) (hrow : w.ownsRow w0.heap.size 3 1 v l.length (nisC l)) (hb : Below w0.heap.size w0 w) (hB : B < w0.heap.size)
    (hbx : w0.cell? ⟨B, 0, none⟩ = some (.slice A n c)) (hR : Rd w0 w0.heap.size 1 A n (strCells ps)) (hl : ∀ i ∈ l, i < n) (hlen : l.length ≤ 100000) :
    Calls Try.prog 45 #[v, .func (.func 52) #[] #[.pointer (some ⟨B, 0, none⟩)]] w fun e w' => e = .returned (.tuple #[]) ∧ w'.ownsRow w0.heap.size 3 1 v l.length (nisC (l.mergeSort fun x y => decide (ps.getD x [] ≤ ps.getD y []))) ∧ Below w0.heap.size w0 w' := by
  by_cases hl0 : l = []
  · subst hl0
    obtain ⟨A', c', rfl, _, _, _⟩ := own_form hrow
    refine (AnyF.slices_SortFunc_none { Try.laysSF45 with } A' c' _ w).mono ?_
    rintro e w' ⟨rfl, rfl⟩
    exact ⟨rfl, by simpa using hrow, hb⟩
  · obtain ⟨m, rfl⟩ : ∃ m, n = m + 1 := by
      cases l with
      | nil => exact absurd rfl hl0
      | cons i l => exact ⟨n - 1, by have := hl i List.mem_cons_self; omega⟩
    have hrow' : w.ownsRow w0.heap.size 3 1 v l.length ((toFr m l).map (encFr m)) := by rw [toFr_enc m hl]; exact hrow
    have hv : v ≠ .slice none 0 0 := by
      rintro rfl
      rcases hrow.2 with ⟨_, h⟩ | ⟨g, cap, cur, h, _⟩
      · exact hl0 (List.eq_nil_of_length_eq_zero h)
      · cases h
    obtain ⟨g, cap, rfl, hg1, hg2, _, _, _, hH⟩ := Lib.holds_of_ownsRow hrow' hv
    obtain ⟨pa, rfl, hpb, hpc⟩ := hR.2 (by omega)
    have hst : ∀ i, i < m + 1 → w0.cell? (pa.add i) = some (.string (S (ps.getD i []))) := fun i hi => hpc i _ (by
      unfold strCells
      rw [List.getElem?_map, List.getElem?_eq_getElem (by omega), List.getD_eq_getElem?_getD, List.getElem?_eq_getElem (by omega)]; rfl)
    have hsz := hb.size
    have hkeep : ∀ (q : Nat) os (dk : Array (Fin (m + 1))) (a : Addr), a.block < w0.heap.size → (sortWorld (encFr m) w g 0 q dk os).cell? a = w0.cell? a := by
      intro q os dk a ha
      unfold sortWorld
      rw [cell?_grow _ _ _ (by simp; omega), cell?_putRow_other _ _ _ _ _ _ (.inl (show a.block ≠ g by omega))]
      exact hb.cell ha
    have hcmp : CmpLays1 Try.prog 52 #[.pointer (some ⟨B, 0, none⟩)] (encFr m) (cfFr ps m) g 0 (toFr m l).toArray.size w := by
      intro q os dk hdk x y
      refine (cmpFr_any ps m pa c B x y _ ((hkeep q os dk ⟨B, 0, none⟩ hB).trans hbx) ((hkeep q os dk _ (by rw [blk_add]; exact hpb)).trans (hst _ x.isLt)) ((hkeep q os dk _ (by rw [blk_add]; exact hpb)).trans (hst _ y.isLt))).mono ?_
      rintro e w' ⟨rfl, q, rfl⟩
      exact ⟨rfl, q, #[], (grow_empty _).symm⟩
    have hfl : (toFr m l).length = l.length := by unfold toFr; rw [List.length_map]
    have h := Any.slices_SortFunc_total Try.laysSF45 (encFr m) (fun _ => rfl) (cfFr ps m) (swoFr _ _) 52 #[.pointer (some ⟨B, 0, none⟩)] g 0 cap (toFr m l).toArray w (enters_of Try.func52 (by kernel_rfl) rfl) hcmp hH hg2 (by rw [List.size_toArray, hfl]; omega) (totFr ps m hn hnd)
    rw [List.size_toArray, hfl] at h
    refine h.mono ?_
    rintro e w' ⟨rfl, q, os, rfl⟩
    have hl2 : ((toFr m l).mergeSort fun x y => !(ltOf (cfFr ps m)) y x).length = l.length := by rw [List.length_mergeSort, hfl]
    have h1 := Lib.ownsRow_putRow (q := q) hrow' hl2 (Nat.le_refl _)
    rw [List.take_of_length_le (by rw [hl2]; exact Nat.le_refl _), sortFr_enc ps m hl] at h1
    have hb1 := Lib.below_putRow (enc := encFr m) (q := q) (d := ((toFr m l).mergeSort fun x y => !(ltOf (cfFr ps m)) y x).toArray) hb hg1
    have hgr : ∀ W : World, Below W.heap.size W (Go.Sort.grow W os) := fun W => ⟨rfl, rfl, rfl, by simp, fun k hk => heap_grow_old _ _ hk⟩
    exact ⟨rfl, own_below h1 (hgr _), hb1.trans ((hgr _).mono hb1.size)⟩
end Go.Proofs.Ytmmamdjbbpeifaa
