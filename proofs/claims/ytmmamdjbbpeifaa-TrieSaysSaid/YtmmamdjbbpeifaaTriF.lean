/- Hits, sorted by slices.SortFunc. -/
import Derived.Test.YtmmamdjbbpeifaaSortF
import Derived.Test.YtmmamdjbbpeifaaTriE
import Derived.Lib.OwnBridge
namespace Go.Proofs.Ytmmamdjbbpeifaa
open Go.RowKit Go.Sort Go.Proofs
theorem holdsRowK {w : World} {base size n cap g : Nat} {e : TypeId} {xs : List Value} (h : w.ownsRow base e size (.slice (some ⟨g, 0, none⟩) n cap) n xs) : g < w.heap.size ∧ base ≤ g ∧ Holds id w g 0 xs.toArray := by
  have hl := h.1
  rcases h.2 with ⟨e0, _⟩ | ⟨g', cap', cur, e0, hb, hg, hn, hm, hs, ht⟩
  · cases e0
  · injection e0 with e1 _ e3
    injection e1 with e1
    injection e1 with e1
    subst e1; subst e3
    refine ⟨(Array.getElem?_eq_some_iff.1 hg).1, hb, fun j hj => ?_⟩
    have hj' : j < n * size := by simpa [hl] using hj
    refine ⟨?_, by simp [World.frozen?, hg]⟩
    have e1 : (cur.toList.take (n * size))[j]? = xs[j]? := by rw [ht]
    rw [List.getElem?_take, if_pos (by omega), Array.getElem?_toList, List.getElem?_eq_getElem (by omega)] at e1
    simp only [World.cell?, hg, Nat.zero_add]
    simp only [Option.isSome_none, Bool.false_eq_true, if_false]
    rw [e1]
    simp [getElem!_pos, show j < xs.length by omega]
theorem ownsRowK_put {w : World} {base size n cap g q : Nat} {e : TypeId} {xs ys : List Value} (h : w.ownsRow base e size (.slice (some ⟨g, 0, none⟩) n cap) n xs) (hy : ys.length = n * size) :
    (putRow id (Sort.ahead w q) g 0 ys.toArray).ownsRow base e size (.slice (some ⟨g, 0, none⟩) n cap) n ys := by
  rcases h.2 with ⟨e0, _⟩ | ⟨g', cap', cur, e0, hb, hg, hn, hm, hs, ht⟩
  · cases e0
  · injection e0 with e1 _ e3
    injection e1 with e1
    injection e1 with e1
    subst e1; subst e3
    have hnc : n * size ≤ cap * size := Nat.mul_le_mul_right _ hn
    refine ⟨hy, .inr ⟨g, cap, putCells id 0 ys.toArray cur, rfl, hb, ?_, hn, hm, by simpa [putCells] using hs, ?_⟩⟩
    · simp [putRow, mapBlock, Sort.ahead, Array.getElem?_modify, hg, onCells]
    · apply List.ext_getElem?
      intro j
      rw [List.getElem?_take, Array.getElem?_toList]
      by_cases hj : j < n * size
      · have hjc : j < cur.size := by omega
        simp only [if_pos hj, putCells, Array.getElem?_mapIdx, Array.getElem?_eq_getElem hjc, Option.map_some]
        rw [if_pos (by simp; omega), List.getElem?_eq_getElem (by omega)]
        simp [getElem!_pos, show j < ys.length by omega]
      · rw [if_neg hj, List.getElem?_eq_none (by omega)]
theorem flatK_of {α : Type} [Inhabited α] (enc : α → List Value) {k : Nat} (hk : ∀ x, (enc x).length = k) (k0 : 0 < k) (zs : List α) : flatK enc k zs.toArray = (zs.flatMap enc).toArray := by
  apply Array.ext
  · simp only [size_flatK, List.size_toArray]
    exact (flat_len hk zs).symm
  · intro t h1 h2
    have ht : t < zs.length * k := by
      have := h1
      rw [size_flatK] at this
      simpa using this
    have hq : t / k < zs.length := Nat.div_lt_of_lt_mul (by rw [Nat.mul_comm]; exact ht)
    have hg := get_flatK enc k zs.toArray t (by simpa using ht)
    have h3 := flat_get hk zs (t / k) hq (t % k) (Nat.mod_lt _ k0)
    rw [Nat.div_add_mod'] at h3
    rw [getElem!_pos _ t h1] at hg
    rw [hg]
    have h4 : (zs.flatMap enc)[t]? = some ((zs.flatMap enc).toArray[t]'h2) := by
      rw [← List.getElem?_toArray, Array.getElem?_eq_getElem h2]
    rw [h4] at h3
    have hm : t % k < (enc zs[t / k]).length := by rw [hk]; exact Nat.mod_lt _ k0
    rw [List.getElem?_eq_getElem hm] at h3
    rw [Option.some.inj h3]
    rw [getElem!_pos zs.toArray (t / k) (by simpa using hq)]
    rw [getElem!_pos (enc (zs.toArray[t / k]'(by simpa using hq))) (t % k) hm]
    rfl
/-- A hit, within bounds. -/
abbrev FH := Fin 1024 × Fin 1024
def encFH (x : FH) : List Value := [.int .i64 (x.1.val : Int), .int .i64 (x.2.val : Int)]
def cfH (x y : FH) : Int := if x.1.val ≠ y.1.val then (x.1.val : Int) - (y.1.val : Int) else (x.2.val : Int) - (y.2.val : Int)
def valH (x : FH) : Nat × Nat := (x.1.val, x.2.val)
theorem ltFH (x y : FH) : ltOf cfH x y = ltH (valH x) (valH y) := by
  unfold ltOf cfH ltH valH
  by_cases h : x.1.val = y.1.val
  · rw [if_neg (by simpa using h)]
    rw [Bool.eq_iff_iff, decide_eq_true_iff, decide_eq_true_iff]
    simp only
    omega
  · rw [if_pos h]
    rw [Bool.eq_iff_iff, decide_eq_true_iff, decide_eq_true_iff]
    simp only
    omega
theorem swoFH : SWO (ltOf cfH) where
  irrefl x := by rw [ltFH]; exact ltH_irr _
  trans x y z h1 h2 := by rw [ltFH] at *; exact ltH_trans h1 h2
  ntrans x y z h1 h2 := by rw [ltFH] at *; exact ltH_ntrans h1 h2
theorem totFH (x y : FH) (h1 : ltOf cfH x y = false) (h2 : ltOf cfH y x = false) : x = y := by
  rw [ltFH] at *
  have := ltH_tri h1 h2
  unfold valH at this
  injection this with e1 e2
  exact Prod.ext (Fin.ext e1) (Fin.ext e2)
def toFH (y : Nat × Nat) : FH := (Fin.ofNat 1024 y.1, Fin.ofNat 1024 y.2)
theorem val_toFH {y : Nat × Nat} (h : y.1 < 1024 ∧ y.2 < 1024) : valH (toFH y) = y := by
  unfold valH toFH
  exact Prod.ext (Nat.mod_eq_of_lt h.1) (Nat.mod_eq_of_lt h.2)
theorem vals_toFH {l : List (Nat × Nat)} (h : ∀ y ∈ l, y.1 < 1024 ∧ y.2 < 1024) : (l.map toFH).map valH = l := by
  rw [List.map_map]
  conv => rhs; rw [← List.map_id l]
  exact List.map_congr_left fun y hy => val_toFH (h y hy)
theorem encFH_flat (l : List FH) : l.flatMap encFH = hcCells (l.map valH) := by
  unfold hcCells
  rw [List.flatMap_map]; rfl
theorem sortFH {l : List (Nat × Nat)} (h : ∀ y ∈ l, y.1 < 1024 ∧ y.2 < 1024) : (((l.map toFH).mergeSort fun x y => !(ltOf cfH) y x).map valH) = l.mergeSort fun x y => !ltH y x := by
  rw [List.map_mergeSort (s := fun x y => !ltH y x) (f := valH) (r := fun x y => !(ltOf cfH) y x), vals_toFH h]
  intro a _ b _
  rw [ltFH]
set_option maxHeartbeats 1000000 in
theorem cmpHit_any (x y : FH) (w : World) :
    Calls Try.prog 51 #[.agg #[.int .i64 (x.1.val : Int), .int .i64 (x.2.val : Int)], .agg #[.int .i64 (y.1.val : Int), .int .i64 (y.2.val : Int)]] w fun e w' => e = .returned (.int .i64 (cfH x y)) ∧ ∃ q os', w' = Go.Sort.grow (w.drewN q) os' := by
  have h1 := x.1.isLt
  have h2 := x.2.isLt
  have h3 := y.1.isLt
  have h4 := y.2.isLt
  by_cases h : x.1.val = y.1.val
  · have HV : Hid (cfH x y = (x.2.val : Int) - (y.2.val : Int)) := if_neg (by simpa using h)
    have g1 : ((x.1.val : Int) != (y.1.val : Int)) = false := by rw [h]; exact bne_self_eq_false _
    have g1' : (x.1.val != y.1.val) = false := by rw [h]; exact bne_self_eq_false _
    clear h
    generalize cfH x y = z at *
    generalize x.1.val = a at *
    generalize x.2.val = b at *
    generalize y.1.val = c at *
    generalize y.2.val = d at *
    go_enter Try.func51, Try.ntmps51
    go_wp2_with fail
    go_ret
    rw [HV.out]
    exact ⟨rfl, 0, _, by rw [alloc_eq_grow, alloc_eq_grow, grow_grow]; rfl⟩
  · have HV : Hid (cfH x y = (x.1.val : Int) - (y.1.val : Int)) := if_pos h
    have g1 : ((x.1.val : Int) != (y.1.val : Int)) = true := by rw [bne_iff_ne]; omega
    have g1' : (x.1.val != y.1.val) = true := by rw [bne_iff_ne]; exact h
    clear h
    generalize cfH x y = z at *
    generalize x.1.val = a at *
    generalize x.2.val = b at *
    generalize y.1.val = c at *
    generalize y.2.val = d at *
    go_enter Try.func51, Try.ntmps51
    go_wp2_with fail
    go_ret
    rw [HV.out]
    exact ⟨rfl, 0, _, by rw [alloc_eq_grow, alloc_eq_grow, grow_grow]; rfl⟩
/-- slices.SortFunc at an own row of hits. -/
theorem sortHit_any (l : List (Nat × Nat)) (v : Value) (w0 w : World) (hrow : w.ownsRow w0.heap.size 49 2 v l.length (hcCells l)) (hb : Below w0.heap.size w0 w) (hl : ∀ y ∈ l, y.1 < 1024 ∧ y.2 < 1024) (hlen : l.length ≤ 100000) :
    Calls Try.prog 50 #[v, .func (.func 51) #[] #[]] w fun e w' => e = .returned (.tuple #[]) ∧ w'.ownsRow w0.heap.size 49 2 v l.length (hcCells (l.mergeSort fun x y => !ltH y x)) ∧ Below w0.heap.size w0 w' := by
  by_cases hv : v = .slice none 0 0
  · subst hv
    have hl0 : l = [] := by
      rcases hrow.2 with ⟨_, h⟩ | ⟨g, cap, cur, h, _⟩
      · exact List.eq_nil_of_length_eq_zero h
      · cases h
    subst hl0
    refine (AnyF.slices_SortFunc_none Try.laysSF50 none 0 _ w).mono ?_
    rintro e w' ⟨rfl, rfl⟩
    exact ⟨rfl, by simpa using hrow, hb⟩
  · obtain ⟨g, cap, rfl⟩ : ∃ g cap, v = .slice (some ⟨g, 0, none⟩) l.length cap := by
      rcases hrow.2 with ⟨h, _⟩ | ⟨g, cap, cur, h, _⟩
      · exact absurd h hv
      · exact ⟨g, cap, h⟩
    obtain ⟨hg1, hg2, hH⟩ := holdsRowK hrow
    have hfl : hcCells l = (l.map toFH).flatMap encFH := by rw [encFH_flat, vals_toFH hl]
    have hHK : HoldsK encFH 2 w g 0 (l.map toFH).toArray := by
      unfold HoldsK
      rw [flatK_of encFH (fun _ => rfl) (by omega), ← hfl]
      exact hH
    have hcmp : CmpLays Try.prog 51 #[] encFH 2 cfH g 0 (l.map toFH).toArray.size w := fun m os dk _ x y => cmpHit_any x y _
    have h := AnyQ.slices_SortFunc_total Try.laysSF50 2 Try.isAgg49 Try.sizeOf49 encFH (fun _ => rfl) (fun x v hv => by simp [encFH] at hv; rcases hv with rfl | rfl <;> rfl) cfH swoFH 51 #[] g 0 cap (l.map toFH).toArray w (enters_of Try.func51 (by kernel_rfl) rfl) hcmp hHK hg1 (by simp; omega) totFH
    rw [List.size_toArray, List.length_map] at h
    refine h.mono ?_
    rintro e w' ⟨rfl, q, os, rfl⟩
    have h1 := ownsRowK_put (q := q) hrow (ys := hcCells (l.mergeSort fun x y => !ltH y x)) (by rw [hcCells_len, List.length_mergeSort])
    have e1 : flatK encFH 2 ((l.map toFH).toArray.toList.mergeSort fun x y => !(ltOf cfH) y x).toArray = (hcCells (l.mergeSort fun x y => !ltH y x)).toArray := by
      show flatK encFH 2 ((l.map toFH).mergeSort fun x y => !(ltOf cfH) y x).toArray = _
      rw [flatK_of encFH (fun _ => rfl) (by omega), encFH_flat, sortFH hl]
    have hb1 := Lib.below_putRow (enc := id) (q := q) (d := (hcCells (l.mergeSort fun x y => !ltH y x)).toArray) hb hg2
    unfold sortWorldK putRowK
    rw [e1]
    have hgr : ∀ W : World, Below W.heap.size W (Go.Sort.grow W os) := fun W => ⟨rfl, rfl, rfl, by simp, fun k hk => heap_grow_old _ _ hk⟩
    exact ⟨rfl, own_below h1 (hgr _), hb1.trans ((hgr _).mono hb1.size)⟩
end Go.Proofs.Ytmmamdjbbpeifaa
