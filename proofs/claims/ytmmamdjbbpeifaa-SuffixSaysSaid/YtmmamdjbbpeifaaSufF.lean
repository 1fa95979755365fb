/- suffix.Order. -/
import Derived.Test.YtmmamdjbbpeifaaSortF
import Derived.Test.YtmmamdjbbpeifaaSufC
import Derived.Test.YtmmamdjbbpeifaaWordC
import Derived.Test.YtmmamdjbbpeifaaTab
import Derived.Lib.OwnBridge
namespace Go.Proofs.Ytmmamdjbbpeifaa
open Go.RowKit Go.Sort Go.Proofs
def idxL (n k : Nat) : List Int := (List.range n).map fun j => if j < k then (j : Int) else 0
theorem idxL_len (n k : Nat) : (idxL n k).length = n := by simp [idxL]
theorem idxL_zero (n : Nat) : idxL n 0 = List.replicate n 0 := by
  apply List.ext_getElem
  · simp [idxL]
  · intro j h1 h2; simp [idxL]
theorem idxL_set (n k : Nat) : (idxL n k).set k (k : Int) = idxL n (k + 1) := by
  apply List.ext_getElem
  · simp [idxL]
  · intro j h1 h2
    rw [List.getElem_set]
    simp only [idxL, List.getElem_map, List.getElem_range]
    by_cases e : k = j
    · subst e; rw [if_pos rfl, if_pos (by omega)]
    · rw [if_neg e]
      by_cases h3 : j < k
      · rw [if_pos h3, if_pos (by omega)]
      · rw [if_neg h3, if_neg (by omega)]
def ordI (s : List UInt8) : List Int := (ordS s).map fun (k : Nat) => (k : Int)
theorem ordI_len (s : List UInt8) : (ordI s).length = s.length := by rw [ordI, List.length_map, ordS_len]
theorem ordI_at (s : List UInt8) {k : Nat} (h : k < s.length) : (ordI s).getD k 0 = (oS s k : Int) := by
  unfold ordI oS
  rw [List.getD_eq_getElem?_getD, List.getElem?_map, (ordS_srt s).get h, List.getElem?_eq_getElem (by rw [ordS_len]; exact h)]; rfl
section
variable (s : List UInt8) (n : Nat)
def finL : List (Fin (n + 1)) := (List.range n).map (Fin.ofNat (n + 1))
def encF (x : Fin (n + 1)) : Value := .int .i64 (x.val : Int)
def cfF (x y : Fin (n + 1)) : Int := Lib.compareBytes (s.drop x.val) (s.drop y.val)
theorem cmpB_lt : ∀ a b : List UInt8, decide (Lib.compareBytes a b < 0) = decide (a < b)
  | [], [] => by simp [Lib.compareBytes]
  | [], _ :: _ => by simp [Lib.compareBytes]
  | _ :: _, [] => by simp [Lib.compareBytes]
  | x :: a, y :: b => by
    unfold Lib.compareBytes
    by_cases h1 : x < y
    · simp [h1, List.cons_lt_cons_iff]
    · by_cases h2 : y < x
      · have h3 : x ≠ y := fun e => by subst e; exact h1 h2
        simp [h1, h2, h3, List.cons_lt_cons_iff]
      · have h3 : x = y := UInt8.le_antisymm (UInt8.not_lt.1 h2) (UInt8.not_lt.1 h1)
        subst h3
        simp only [h1, if_false, List.cons_lt_cons_iff, false_or, true_and]
        exact cmpB_lt a b
theorem ltF (x y : Fin (n + 1)) : ltOf (cfF s n) x y = decide (s.drop x.val < s.drop y.val) := cmpB_lt _ _
theorem swoF : SWO (ltOf (cfF s n)) where
  irrefl x := by rw [ltF]; exact decide_eq_false (List.lt_irrefl _)
  trans x y z h1 h2 := by
    rw [ltF, decide_eq_true_iff] at *
    exact List.lt_trans h1 h2
  ntrans x y z h1 h2 := by
    rw [ltF, decide_eq_false_iff_not] at *
    have g1 : s.drop y.val ≤ s.drop x.val := h1
    have g2 : s.drop z.val ≤ s.drop y.val := h2
    exact List.le_trans g2 g1
theorem totF (hn : n = s.length) (x y : Fin (n + 1)) (h1 : ltOf (cfF s n) x y = false) (h2 : ltOf (cfF s n) y x = false) : x = y := by
  rw [ltF, decide_eq_false_iff_not] at *
  have g1 : s.drop y.val ≤ s.drop x.val := h1
  have g2 : s.drop x.val ≤ s.drop y.val := h2
  have := congrArg List.length (List.le_antisymm g1 g2)
  rw [List.length_drop, List.length_drop] at this
  apply Fin.ext
  have := x.isLt
  have := y.isLt
  omega
theorem finL_len : (finL n).length = n := by simp [finL]
theorem finL_val : (finL n).map (fun x => x.val) = List.range n := by
  unfold finL
  rw [List.map_map]
  conv => rhs; rw [← List.map_id (List.range n)]
  apply List.map_congr_left
  intro i hi
  rw [List.mem_range] at hi
  show i % (n + 1) = i
  exact Nat.mod_eq_of_lt (by omega)
theorem finL_enc : (finL n).map (encF n) = ints (idxL n n) := by
  have h := congrArg (List.map fun (k : Nat) => Value.int .i64 (k : Int)) (finL_val n)
  rw [List.map_map] at h
  have e : ints (idxL n n) = (List.range n).map fun (k : Nat) => Value.int .i64 (k : Int) := by
    unfold ints idxL
    rw [List.map_map]
    apply List.map_congr_left
    intro i hi
    rw [List.mem_range] at hi
    show Value.int .i64 (if i < n then (i : Int) else 0) = _
    rw [if_pos hi]
  rw [e, ← h]; rfl
theorem sortF_enc (hn : n = s.length) : ((finL n).mergeSort fun x y => !(ltOf (cfF s n)) y x).map (encF n) = ints (ordI s) := by
  have h1 : ((finL n).mergeSort fun x y => !(ltOf (cfF s n)) y x).map (fun x => x.val) = ordS s := by
    rw [List.map_mergeSort (s := fun x y => decide (s.drop x ≤ s.drop y)), finL_val, hn]
    · rfl
    · intro a _ b _
      rw [ltF, Bool.eq_iff_iff]
      simp
  have h := congrArg (List.map fun (k : Nat) => Value.int .i64 (k : Int)) h1
  rw [List.map_map] at h
  have e : ints (ordI s) = (ordS s).map fun (k : Nat) => Value.int .i64 (k : Int) := by
    unfold ints ordI; rw [List.map_map]; rfl
  rw [e, ← h]; rfl
end
theorem below_growS (w : World) (os : Array Obj) : Below w.heap.size w (Go.Sort.grow w os) :=
  ⟨rfl, rfl, rfl, by simp, fun k hk => heap_grow_old _ _ hk⟩
theorem sufSort_any (s : ByteArray) (hs : s.size ≤ 200) (w0 w : World) (B g : Nat) (hB : B < w0.heap.size) (hc : w.cell? ⟨B, 0, none⟩ = some (.string s)) (hrow : ArrI w w0.heap.size g s.size (idxL s.size s.size)) (hb : Below w0.heap.size w0 w) :
    Calls Try.prog 45 #[.slice (some ⟨g, 0, none⟩) s.size s.size, .func (.func 46) #[] #[.pointer (some ⟨B, 0, none⟩)]] w fun e w' => e = .returned (.tuple #[]) ∧ ArrI w' w0.heap.size g s.size (ordI (L s)) ∧ Below w0.heap.size w0 w' := by
  have hg := hrow.lt
  have hrow' : w.ownsRow w0.heap.size 3 1 (.slice (some ⟨g, 0, none⟩) s.size s.size) s.size ((finL s.size).map (encF s.size)) := by rw [finL_enc]; exact hrow
  obtain ⟨g', cap', hv, _, _, _, _, _, hH⟩ := Lib.holds_of_ownsRow hrow' (by intro h; cases h)
  obtain rfl : g = g' := by cases hv; rfl
  have hcmp : CmpLays1 Try.prog 46 #[.pointer (some ⟨B, 0, none⟩)] (encF s.size) (cfF (L s) s.size) g 0 (finL s.size).toArray.size w := by
    intro m os dk hdk x y
    refine (sufCmp_any s B x.val y.val (by have := x.isLt; omega) (by have := y.isLt; omega) _ ?_).mono ?_
    · unfold sortWorld
      rw [cell?_grow _ _ _ (by simp; have := hb.size; omega), cell?_putRow_other _ _ _ _ _ _ (.inl (show B ≠ g by omega))]
      exact hc
    · rintro e w' ⟨rfl, q, rfl⟩
      exact ⟨rfl, q, #[], (grow_empty _).symm⟩
  have h := Any.slices_SortFunc_total Try.laysSF45 (encF s.size) (fun _ => rfl) (cfF (L s) s.size) (swoF _ _) 46 #[.pointer (some ⟨B, 0, none⟩)] g 0 s.size (finL s.size).toArray w (enters_of Try.func46 (by kernel_rfl) rfl) hcmp hH hg.2 (by simp [finL_len]; omega) (totF _ _ (L_len s).symm)
  rw [List.size_toArray, finL_len] at h
  refine h.mono ?_
  rintro e w' ⟨rfl, q, os, rfl⟩
  have hl : ((finL s.size).mergeSort fun x y => !(ltOf (cfF (L s) s.size)) y x).length = s.size := by rw [List.length_mergeSort, finL_len]
  have h1 := Lib.ownsRow_putRow (q := q) hrow' hl (Nat.le_refl _)
  rw [List.take_of_length_le (by rw [hl]; exact Nat.le_refl _), sortF_enc _ _ (L_len s).symm] at h1
  have hb1 := Lib.below_putRow (enc := encF s.size) (q := q) (d := ((finL s.size).mergeSort fun x y => !(ltOf (cfF (L s) s.size)) y x).toArray) hb hg.1
  refine ⟨rfl, own_below h1 (below_growS _ _), ?_⟩
  exact hb1.trans ((below_growS _ _).mono hb1.size)
set_option maxRecDepth 100000 in
set_option maxHeartbeats 8000000 in
theorem order_any (s : ByteArray) (hs : s.size ≤ 200) (w : World) :
    Calls Try.prog 14 #[.string s] w fun e w' => ∃ g, e = .returned (.tuple #[.slice (some ⟨g, 0, none⟩) s.size s.size, .int .i64 0]) ∧ ArrI w' w.heap.size g s.size (ordI (L s)) ∧ Below w.heap.size w w' := by
  obtain ⟨i0, hi0, hz0, hz1, hz2⟩ := info_parts info_int
  have HE : Hid (longErr s.size = 0) := by unfold Hid longErr; rw [if_neg (by omega)]
  go_enter Try.func14, Try.ntmps14
  go_wp2_with fail
  refine (wordCheck_any s _).mono ?_
  rintro e w1 ⟨rfl, hb1⟩
  rw [HE.out]
  have hbox := ((Blk.new_ w 9 #[.string s]).below' hb1).cell0
  have hz0' : w.heap.size < w1.heap.size := by have := hb1.size; simp only [World.size_alloc] at this; omega
  have hb1' : Below w.heap.size w w1 := bthen ((Below.refl _ _).alloc (Nat.le_refl _) _) hb1
  clear hb1
  have HBOX := Lib.hid hbox
  go_wp2_with (at_make; go_must (refine wpList_make_full _ rfl _ _ _ rfl w1.heap.size 3 i0 _ 1 Try.underlying22 hi0 hz0 hz1 .i64 .i64 (s.size : Int) (s.size : Int) s.size rfl rfl (by omega) (by omega) (by rw [hz2]; omega) (by unfold maxLen; omega) (Nat.le_refl _) ?_); intro w2 hown2 hg2)
  have hb2 : Below w1.heap.size w1 w2 := (Below.refl _ _).grown hg2 (Nat.le_refl _) (fun _ h => by cases h)
  have hown2 : ArrI w2 w1.heap.size w1.heap.size s.size (List.replicate s.size 0) := by
    rw [made_ints] at hown2; exact hown2
  clear hg2 hbox
  obtain ⟨g, hg⟩ : ∃ g, w1.heap.size = g := ⟨_, rfl⟩
  have hown2 : ArrI w2 w1.heap.size g s.size (idxL s.size 0) := by rw [← hg, idxL_zero]; exact hown2
  rw [hg]
  have HG := Lib.hid hg
  clear hg
  go_loopw [17] (fun iv wr => ∃ i : Nat, i ≤ s.size ∧ iv = .int .i64 (i : Int) ∧ ArrI wr w1.heap.size g s.size (idxL s.size i) ∧ Below w1.heap.size w1 wr) (fun iv _ => s.size - (intOf iv).toNat)
  case atStart => exact ⟨0, Nat.zero_le _, rfl, hown2, hb2⟩
  case round =>
    clear hown2 hb2
    obtain ⟨i, hi, rfl, hrow, hb⟩ := hrel
    have hgl := hrow.lt
    by_cases hlt : i < s.size
    · have g1 : decide ((i : Int) < (s.size : Int)) = true := decide_eq_true (by omega)
      have g1' : decide (i < s.size) = true := decide_eq_true hlt
      have c0 := hrow.at_ (k := i) hlt
      have f0 := hrow.free i
      have hln := hrow.len
      have HN : Hid ((idxL s.size i).set i (i : Int) = idxL s.size (i + 1)) := idxL_set _ _
      have HROW := Lib.hid hrow
      clear hrow
      generalize (idxL s.size i).getD i 0 = u at *
      go_wp2_with fail
      refine ⟨⟨i + 1, by omega, by go_num, ?_, hb.setCell (p := ⟨g, i, none⟩) hgl.1 _⟩, by simp [intOf]; omega⟩
      rw [← HN.out]
      exact HROW.out.set_ i _
    · obtain rfl : i = s.size := by omega
      have g1 : decide ((s.size : Int) < (s.size : Int)) = false := decide_eq_false (by omega)
      have g1' : decide (s.size < s.size) = false := decide_eq_false hlt
      have hbx := (hb.cell (p := ⟨w.heap.size, 0, none⟩) hz0').trans HBOX.out
      have HS := Lib.hid (sufSort_any s hs w1 wr w.heap.size g hz0' hbx hrow hb)
      clear hbx hrow
      go_wp2_with fail
      refine HS.out.mono ?_
      rintro e w3 ⟨rfl, hrow3, hb3⟩
      go_wp2_with fail
      go_ret2
      exact ⟨g, rfl, own_lower hrow3 (by omega), bthen hb1' hb3⟩
end Go.Proofs.Ytmmamdjbbpeifaa
