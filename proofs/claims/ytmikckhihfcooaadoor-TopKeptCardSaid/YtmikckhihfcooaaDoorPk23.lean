/- A world in which these blocks alone have turned. strings.Builder: WriteString, whose copyCheck is cut at its panic here; and String. The document's Written. -/
import Derived.Test.YtmikckhihfcooaaDoorPk04
import Derived.Test.YtmikckhihfcooaaDoorShelf
import Derived.Test.YtmikckhihfcooaaDoorPk08
import Derived.Lib.Builder
import Derived.Lib.AppendStr
import Derived.Test.YtmikckhihfcooaaDoorPk02
import Derived.Test.YtmikckhihfcooaaDoorPk21
namespace Go.Proofs.YtmikckhihfcooaaDoor
open Go.RowKit
structure Gbs (w w' : World) (rs : List Nat) : Prop where
  os : w'.os = w.os
  tape : w'.tape = w.tape
  output : w'.output = w.output
  size : w.heap.size ≤ w'.heap.size
  block : ∀ k, k < w.heap.size → k ∉ rs → w'.heap[k]? = w.heap[k]?
section
variable {w w' w2 : World} {rs ss : List Nat} {g : Nat}
theorem Gbs.refl (w : World) (rs : List Nat) : Gbs w w rs := ⟨rfl, rfl, rfl, Nat.le_refl _, fun _ _ _ => rfl⟩
theorem Gbs.trans (h : Gbs w w' rs) (k : Gbs w' w2 rs) : Gbs w w2 rs :=
  ⟨k.os.trans h.os, k.tape.trans h.tape, k.output.trans h.output, Nat.le_trans h.size k.size, fun i hi hr => (k.block i (Nat.lt_of_lt_of_le hi h.size) hr).trans (h.block i hi hr)⟩
theorem Gbs.of_gb (h : w.grownBy w' (some g)) (hg : g ∈ rs) : Gbs w w' rs := ⟨h.os, h.tape, h.output, h.size, fun i hi hr => h.block i hi (fun e => hr (by cases e; exact hg))⟩
theorem Gbs.of_below (h : Below w.heap.size w w') (rs : List Nat) : Gbs w w' rs := ⟨h.os, h.tape, h.output, h.size, fun k hk _ => h.block k hk⟩
theorem Gbs.gb (h : Gbs w w' rs) (k : w'.grownBy w2 (some g)) (hg : g ∈ rs ∨ w.heap.size ≤ g) : Gbs w w2 rs :=
  ⟨k.os.trans h.os, k.tape.trans h.tape, k.output.trans h.output, Nat.le_trans h.size k.size, fun i hi hr => (k.block i (Nat.lt_of_lt_of_le hi h.size) (fun e => by
    cases e
    rcases hg with hg | hg
    · exact hr hg
    · omega)).trans (h.block i hi hr)⟩
theorem Gbs.then_below (h : Gbs w w' rs) (k : Below w'.heap.size w' w2) : Gbs w w2 rs := h.trans (Gbs.of_below k rs)
theorem Gbs.set_ (h : Gbs w w' rs) (hg : g ∈ rs ∨ w.heap.size ≤ g) (i : Nat) (u : Value) : Gbs w (w'.setCell ⟨g, i, none⟩ u) rs := h.gb (gb_set (gb_refl _ _) i u) hg
theorem Gbs.alloc (h : Gbs w w' rs) (o : Obj) : Gbs w (w'.alloc o) rs := h.then_below ((Below.refl _ _).alloc (Nat.le_refl _) _)
theorem Gbs.drewN (h : Gbs w w' rs) (n : Nat) : Gbs w (w'.drewN n) rs := h.then_below (below_drewN (Below.refl _ _) _)
theorem Gbs.drew (h : Gbs w w' rs) : Gbs w w'.drew rs := h.then_below (Below.drew (Below.refl _ _))
theorem Gbs.mono (h : Gbs w w' rs) (hs : ∀ g ∈ rs, g ∈ ss) : Gbs w w' ss := ⟨h.os, h.tape, h.output, h.size, fun k hk hr => h.block k hk (fun e => hr (hs k e))⟩
theorem Below.gbs {base : Nat} {a : World} (h : Below base a w) (k : Gbs w w' rs) (hr : ∀ g ∈ rs, base ≤ g) (hs : base ≤ w.heap.size) : Below base a w' :=
  ⟨k.os.trans h.os, k.tape.trans h.tape, k.output.trans h.output, Nat.le_trans h.size k.size, fun i hi => (k.block i (by omega) (fun e => by have := hr i e; omega)).trans (h.block i hi)⟩
theorem Blk.gbs {t : TypeId} {cs : Array Value} (h : Blk w g t cs) (k : Gbs w w' rs) (hg : g ∉ rs) : Blk w' g t cs := (k.block g h.lt hg).trans h
end
end Go.Proofs.YtmikckhihfcooaaDoor
namespace Go.Proofs.YtmikckhihfcooaaDoor
open Go.RowKit Go.Proofs
theorem sizeBld : (Tryd.prog.info? 87).map (·.size) = some 2 := by kernel_rfl
theorem infoByt : (Tryd.prog.info? 5).map (fun i => (i.zero, i.size, i.bytes)) = some (some (.int .u8 0), 1, 1) := by kernel_rfl
set_option maxHeartbeats 1000000 in
set_option maxRecDepth 1000000 in
theorem bldCheck_used (b : Nat) (w : World) (h0 : w.cell? ⟨b, 0, none⟩ = some (.pointer (some ⟨b, 0, none⟩))) :
    Calls Tryd.prog 57 #[.pointer (some ⟨b, 0, none⟩)] w fun e w' => e = .returned (.tuple #[]) ∧ w' = w := by
  obtain ⟨j, hj, _⟩ := Option.map_eq_some_iff.1 sizeBld
  go_enter Tryd.func57, Tryd.ntmps57
  go_wp2
  rw [Lib.run_neq_ptr_same w _ Tryd.underlying85 hj]
  go_wp2
  go_end0
  exact ⟨rfl, rfl⟩
set_option maxHeartbeats 1000000 in
set_option maxRecDepth 1000000 in
theorem bldCheck_fresh (b : Nat) (w : World) (h0 : w.cell? ⟨b, 0, none⟩ = some (.pointer none)) (hsh : w.shape? b = some (87, 2)) (hfz : w.frozen? ⟨b, 0, none⟩ = false) :
    Calls Tryd.prog 57 #[.pointer (some ⟨b, 0, none⟩)] w fun e w' => e = .returned (.tuple #[]) ∧ w' = w.setCell ⟨b, 0, none⟩ (.pointer (some ⟨b, 0, none⟩)) := by
  obtain ⟨j, hj, hjs⟩ := Option.map_eq_some_iff.1 sizeBld
  go_enter Tryd.func57, Tryd.ntmps57
  go_wp2
  rw [Lib.run_to_unsafe w ⟨b, 0, none⟩ Tryd.underlying85 Tryd.underlying121 hj (by rw [hjs]; decide) hsh (Nat.zero_lt_succ 1)]
  simp only [Result.andThen]
  rw [Oper.upon_value]
  go_wp2
  rw [run_callFunc_extern Tryd.func73 (by kernel_rfl) (by kernel_rfl) (by kernel_rfl) (e := Extern.AbiNoEscape.same) (by kernel_rfl)]
  rw [Lib.run_noEscape]
  simp only [Result.andThen]
  rw [Oper.upon_value]
  go_wp2
  rw [Lib.run_from_unsafe w ⟨b, 0, none⟩ Tryd.underlying121 Tryd.underlying85 hj hsh (by kernel_rfl)]
  simp only [Result.andThen]
  rw [Oper.upon_value]
  go_wp2
  go_end0
  exact ⟨rfl, rfl⟩
def Bld (B b : Nat) (l : List UInt8) (w : World) : Prop := Lib.IsBuilder 87 5 B b (Lib.byteCells l) w
theorem bldCheck (B b : Nat) (bs : List Value) (w : World) (h : Lib.IsBuilder 87 5 B b bs w) :
    Calls Tryd.prog 57 #[.pointer (some ⟨b, 0, none⟩)] w fun e w' => e = .returned (.tuple #[]) ∧ Lib.BuilderAt 87 5 B b (.pointer (some ⟨b, 0, none⟩)) bs w' ∧ Below B w w' := by
  rcases h with h | h
  · refine (bldCheck_fresh b w h.cell0 h.shape h.frozen0).mono ?_
    rintro e w' ⟨rfl, rfl⟩
    exact ⟨rfl, h.used _, (Below.refl B w).setCell (p := ⟨b, 0, none⟩) h.1 _⟩
  · refine (bldCheck_used b w h.cell0).mono ?_
    rintro e w' ⟨rfl, rfl⟩
    exact ⟨rfl, h, Below.refl B _⟩
set_option maxHeartbeats 2000000 in
set_option maxRecDepth 1000000 in
theorem bldWrite (B b : Nat) (l : List UInt8) (s : ByteArray) (w : World) (h : Bld B b l w) (hlen : l.length + s.size ≤ 140737488355328) (hBw : B ≤ w.heap.size) :
    Calls Tryd.prog 45 #[.pointer (some ⟨b, 0, none⟩), .string s] w fun e w' => (∃ v, e = .returned v) ∧ Bld B b (l ++ L s) w' ∧ Below B w w' := by
  obtain ⟨i0, hi, hz0, hz1, hz2⟩ := info_parts infoByt
  have hbl : (Lib.byteCells l).length = l.length := by simp [Lib.byteCells]
  go_enter Tryd.func45, Tryd.ntmps45
  go_wp2_with fail
  refine (bldCheck B b (Lib.byteCells l) w h).mono ?_
  rintro e w1 ⟨rfl, h1, hb1⟩
  obtain ⟨hB, v, hbk, hown, hne⟩ := h1
  have c0 : w1.cell? ⟨b, 0, none⟩ = some (.pointer (some ⟨b, 0, none⟩)) := by rw [Lib.cell_of_heap hbk]; rfl
  have c1 : w1.cell? ⟨b, 1, none⟩ = some v := by rw [Lib.cell_of_heap hbk]; rfl
  go_wp2_with (at_builtin; refine Lib.wpList_append_own_string _ rfl _ _ 81 9 rfl B 5 i0 Tryd.underlying81 Tryd.underlying9 hi hz0 hz1 hz2 _ _ _ rfl hown s rfl ?c3 ?c4 ?c5 ?_)
  case c3 => unfold maxLen; omega
  case c4 => omega
  case c5 => have := hb1.size; omega
  intro v' w2 hown' hgrow _
  have hlt : b < w1.heap.size := (Array.getElem?_eq_some_iff.1 hbk).1
  have hb2 : w2.heap[b]? = some (.cells #[.pointer (some ⟨b, 0, none⟩), v] 87 (0, 0)) := by
    rw [hgrow.block b hlt (fun e => hne e.symm)]
    exact hbk
  have d0 : w2.cell? ⟨b, 0, none⟩ = some (.pointer (some ⟨b, 0, none⟩)) := by rw [Lib.cell_of_heap hb2]; rfl
  have d1 : w2.cell? ⟨b, 1, none⟩ = some v := by rw [Lib.cell_of_heap hb2]; rfl
  have f1 : w2.frozen? ⟨b, 1, none⟩ = false := Lib.frozen_of_heap hb2 1
  obtain ⟨ao, n', cap, rfl⟩ : ∃ ao n' cap, v' = .slice ao n' cap := by
    rcases hown'.2 with ⟨hv, _⟩ | ⟨g, cap, cur, hv, _⟩
    · exact ⟨_, _, _, hv⟩
    · exact ⟨_, _, _, hv⟩
  go_wp2
  go_ret2
  refine ⟨⟨_, rfl⟩, .inr ?_, ?_⟩
  · have e1 : Lib.byteCells (l ++ L s) = Lib.byteCells l ++ Lib.strCells s := by
      simp [Lib.byteCells, Lib.strCells, L]
    rw [e1]
    exact Lib.BuilderAt.put (T := 87) (e := 5) hB hb2 (bs' := Lib.byteCells l ++ Lib.strCells s) (by rw [List.length_append, Lib.strCells_length, hbl]; exact hown') (by decide)
  · exact (hb1.grown hgrow (by have := hb1.size; omega) (fun k hk => (hown.lt k hk).1)).setCell (p := ⟨b, 1, none⟩) hB _
theorem bldString (B b : Nat) (l : List UInt8) (w : World) (h : Bld B b l w) (hBw : B ≤ w.heap.size) :
    Calls Tryd.prog 46 #[.pointer (some ⟨b, 0, none⟩)] w fun e w' => e = .returned (.string (S l)) ∧ Below B w w' :=
  Tryd.Builder_String_any B b l w h hBw
end Go.Proofs.YtmikckhihfcooaaDoor
namespace Go.Proofs.YtmikckhihfcooaaDoor
open Go.RowKit Go.Proofs
theorem bldCheckK (B b : Nat) (bs : List Value) (w : World) (h : Lib.IsBuilder 87 5 B b bs w) :
    Calls Tryd.prog 57 #[.pointer (some ⟨b, 0, none⟩)] w fun e w' => e = .returned (.tuple #[]) ∧ Lib.BuilderAt 87 5 B b (.pointer (some ⟨b, 0, none⟩)) bs w' ∧ Below B w w' ∧ ∀ k, k ≠ b → w'.heap[k]? = w.heap[k]? := by
  rcases h with h | h
  · refine (bldCheck_fresh b w h.cell0 h.shape h.frozen0).mono ?_
    rintro e w' ⟨rfl, rfl⟩
    exact ⟨rfl, h.used _, (Below.refl B w).setCell (p := ⟨b, 0, none⟩) h.1 _, fun k hk => Below.heap_setCell _ _ _ _ hk⟩
  · refine (bldCheck_used b w h.cell0).mono ?_
    rintro e w' ⟨rfl, rfl⟩
    exact ⟨rfl, h, Below.refl B _, fun _ _ => rfl⟩
set_option maxHeartbeats 2000000 in
set_option maxRecDepth 1000000 in
/-- .. and what is of another type than bytes lies on. -/
theorem bldWriteK (B b : Nat) (l : List UInt8) (s : ByteArray) (w : World) (h : Bld B b l w) (hlen : l.length + s.size ≤ 140737488355328) (hBw : B ≤ w.heap.size) :
    Calls Tryd.prog 45 #[.pointer (some ⟨b, 0, none⟩), .string s] w fun e w' => (∃ v, e = .returned v) ∧ Bld B b (l ++ L s) w' ∧ Below B w w' ∧
      ∀ g cs T r, g ≠ b → T ≠ 5 → w.heap[g]? = some (.cells cs T r) → w'.heap[g]? = some (.cells cs T r) := by
  obtain ⟨i0, hi, hz0, hz1, hz2⟩ := info_parts infoByt
  have hbl : (Lib.byteCells l).length = l.length := by simp [Lib.byteCells]
  go_enter Tryd.func45, Tryd.ntmps45
  go_wp2_with fail
  refine (bldCheckK B b (Lib.byteCells l) w h).mono ?_
  rintro e w1 ⟨rfl, h1, hb1, hk1⟩
  have HK1 := Lib.hid hk1
  clear hk1
  obtain ⟨hB, v, hbk, hown, hne⟩ := h1
  have c0 : w1.cell? ⟨b, 0, none⟩ = some (.pointer (some ⟨b, 0, none⟩)) := by rw [Lib.cell_of_heap hbk]; rfl
  have c1 : w1.cell? ⟨b, 1, none⟩ = some v := by rw [Lib.cell_of_heap hbk]; rfl
  go_wp2_with (at_builtin; refine Lib.wpList_append_own_string _ rfl _ _ 81 9 rfl B 5 i0 Tryd.underlying81 Tryd.underlying9 hi hz0 hz1 hz2 _ _ _ rfl hown s rfl ?c3 ?c4 ?c5 ?_)
  case c3 => unfold maxLen; omega
  case c4 => omega
  case c5 => have := hb1.size; omega
  intro v' w2 hown' hgrow _
  have hlt : b < w1.heap.size := (Array.getElem?_eq_some_iff.1 hbk).1
  have hb2 : w2.heap[b]? = some (.cells #[.pointer (some ⟨b, 0, none⟩), v] 87 (0, 0)) := by
    rw [hgrow.block b hlt (fun e => hne e.symm)]
    exact hbk
  have d0 : w2.cell? ⟨b, 0, none⟩ = some (.pointer (some ⟨b, 0, none⟩)) := by rw [Lib.cell_of_heap hb2]; rfl
  have d1 : w2.cell? ⟨b, 1, none⟩ = some v := by rw [Lib.cell_of_heap hb2]; rfl
  have f1 : w2.frozen? ⟨b, 1, none⟩ = false := Lib.frozen_of_heap hb2 1
  obtain ⟨ao, n', cap, rfl⟩ : ∃ ao n' cap, v' = .slice ao n' cap := by
    rcases hown'.2 with ⟨hv, _⟩ | ⟨g, cap, cur, hv, _⟩
    · exact ⟨_, _, _, hv⟩
    · exact ⟨_, _, _, hv⟩
  have HG : Hid (∀ g cs T r, g ≠ b → T ≠ 5 → w.heap[g]? = some (.cells cs T r) → w2.heap[g]? = some (.cells cs T r)) := fun g cs T r hg hT hh => by
    have h1 : w1.heap[g]? = some (.cells cs T r) := (HK1.out g hg).trans hh
    have h2 : g < w1.heap.size := (Array.getElem?_eq_some_iff.1 h1).1
    rw [hgrow.block g h2 (fun e => Lib.ownBlock_ne hown h1 hT e.symm)]
    exact h1
  go_wp2
  go_ret2
  refine ⟨⟨_, rfl⟩, .inr ?_, ?_, fun g cs T r hg hT hh => ?_⟩
  · have e1 : Lib.byteCells (l ++ L s) = Lib.byteCells l ++ Lib.strCells s := by
      simp [Lib.byteCells, Lib.strCells, L]
    rw [e1]
    exact Lib.BuilderAt.put (T := 87) (e := 5) hB hb2 (bs' := Lib.byteCells l ++ Lib.strCells s) (by rw [List.length_append, Lib.strCells_length, hbl]; exact hown') (by decide)
  · exact (hb1.grown hgrow (by have := hb1.size; omega) (fun k hk => (hown.lt k hk).1)).setCell (p := ⟨b, 1, none⟩) hB _
  · rw [Below.heap_setCell _ _ _ _ hg]
    exact HG.out g cs T r hg hT hh
theorem bldAt_below {B b : Nat} {p : Value} {bs : List Value} {w w' : World} (h : Lib.BuilderAt 87 5 B b p bs w) (hb : Below w.heap.size w w') : Lib.BuilderAt 87 5 B b p bs w' := by
  have hlt := h.lt
  obtain ⟨hB, v, hbk, hown, hne⟩ := h
  exact ⟨hB, v, (hb.block b hlt).trans hbk, own_below hown hb, hne⟩
theorem Bld.below {B b : Nat} {l : List UInt8} {w w' : World} (h : Bld B b l w) (hb : Below w.heap.size w w') : Bld B b l w' := by
  rcases h with h | h
  · exact .inl (bldAt_below h hb)
  · exact .inr (bldAt_below h hb)
theorem Bld.lt {B b : Nat} {l : List UInt8} {w : World} (h : Bld B b l w) : b < w.heap.size := by
  rcases h with h | h
  · exact h.lt
  · exact h.lt
theorem heap_new (w : World) (o : Obj) : (w.alloc o).heap[w.heap.size]? = some o := by
  show (w.heap.push o)[w.heap.size]? = some o
  simp
theorem fl_len {Ps : List ByteArray} (h : ∀ p ∈ Ps, p.size ≤ 40) (j : Nat) : ((Ps.take j).flatMap L).length ≤ 40 * j := by
  induction Ps generalizing j with
  | nil => simp
  | cons p Ps ih =>
    cases j with
    | zero => simp
    | succ j =>
      rw [List.take_succ_cons, List.flatMap_cons, List.length_append, L_len]
      have := ih (fun q hq => h q (List.mem_cons_of_mem _ hq)) j
      have := h p List.mem_cons_self
      omega
theorem fl_snoc {Ps : List ByteArray} {j : Nat} (h : j < Ps.length) : (Ps.take (j + 1)).flatMap L = (Ps.take j).flatMap L ++ L (Ps.getD j ⟨#[]⟩) := by
  rw [List.take_add_one, List.getElem?_eq_getElem h, List.flatMap_append, List.getD_eq_getElem?_getD, List.getElem?_eq_getElem h]; simp
theorem wrE_len {x : Ed} (h : scrOneE x = 0) : (wrE x).length ≤ 120 := by
  obtain ⟨h0, h1, h2, h3, h4⟩ := scrOne_zero h
  have z0 := Lib.itoa_length_le x.at_ (by omega) (by omega)
  have z1 := Lib.itoa_length_le x.del (by omega) (by omega)
  have z2 := Lib.itoa_length_le (x.ins.length : Int) (by omega) (by omega)
  unfold wrE
  simp only [List.length_append, List.length_cons, List.length_nil]
  omega
theorem wrL_len {l : List Ed} (h : ∀ x ∈ l, scrOneE x = 0) : (wrL l).length ≤ 120 * l.length := by
  induction l with
  | nil => simp [wrL]
  | cons x l ih =>
    have h1 := wrE_len (h x List.mem_cons_self)
    have h2 := ih (fun y hy => h y (List.mem_cons_of_mem _ hy))
    unfold wrL at *
    rw [List.flatMap_cons, List.length_append, List.length_cons]
    omega
theorem ps_cell {w : World} {g : Nat} {Ps : List ByteArray} (h : w.heap[g]? = some (.cells (Ps.map Value.string).toArray 9 (0, 0))) {j : Nat} (hj : j < Ps.length) : w.cell? ⟨g, j, none⟩ = some (.string (Ps.getD j ⟨#[]⟩)) := by
  rw [Lib.cell_of_heap h, List.getElem?_toArray, List.getElem?_map, List.getElem?_eq_getElem hj, List.getD_eq_getElem?_getD, List.getElem?_eq_getElem hj]; rfl
theorem ps_size {Ps : List ByteArray} (h : ∀ p ∈ Ps, p.size ≤ 40) (j : Nat) : (Ps.getD j ⟨#[]⟩).size ≤ 40 := by
  rw [List.getD_eq_getElem?_getD]
  cases hj : Ps[j]? with
  | none => exact Nat.zero_le _
  | some p => exact h p (List.mem_of_getElem? hj)
end Go.Proofs.YtmikckhihfcooaaDoor
