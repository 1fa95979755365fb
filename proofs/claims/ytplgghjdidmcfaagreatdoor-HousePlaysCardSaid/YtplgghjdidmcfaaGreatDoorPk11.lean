/- The document's Written. The reference's AppendOf, CrashOf and Rest. The law LogPlays, walked. -/
import Derived.Test.YtplgghjdidmcfaaGreatDoorPk10
import Derived.Test.YtplgghjdidmcfaaGreatDoorPk03
import Derived.Test.YtplgghjdidmcfaaGreatDoorPk07
import Derived.Test.YtplgghjdidmcfaaGreatDoorPk08
namespace Go.Proofs.YtplgghjdidmcfaaGreatDoor
open Go.RowKit Go.Proofs
theorem bldCheckK (B b : Nat) (bs : List Value) (w : World) (h : Lib.IsBuilder 213 5 B b bs w) :
    Calls Tryz.prog 186 #[.pointer (some ⟨b, 0, none⟩)] w fun e w' => e = .returned (.tuple #[]) ∧ Lib.BuilderAt 213 5 B b (.pointer (some ⟨b, 0, none⟩)) bs w' ∧ Below B w w' ∧ ∀ k, k ≠ b → w'.heap[k]? = w.heap[k]? := by
  rcases h with h | h
  · refine (bldCheck_fresh b w h.cell0 h.shape h.frozen0).mono ?_
    rintro e w' ⟨rfl, rfl⟩
    exact ⟨rfl, h.used _, (Below.refl B w).setCell (p := ⟨b, 0, none⟩) h.1 _, fun k hk => Below.heap_setCell _ _ _ _ hk⟩
  · refine (bldCheck_used b w h.cell0).mono ?_
    rintro e w' ⟨rfl, rfl⟩
    exact ⟨rfl, h, Below.refl B _, fun _ _ => rfl⟩
set_option maxHeartbeats 2000000 in
set_option maxRecDepth 1000000 in
/-- .. and what is of another type than bytes lies on. -/
theorem bldWriteK (B b : Nat) (l : List UInt8) (s : ByteArray) (w : World) (h : Bld B b l w) (hlen : l.length + s.size ≤ 140737488355328) (hBw : B ≤ w.heap.size) :
    Calls Tryz.prog 145 #[.pointer (some ⟨b, 0, none⟩), .string s] w fun e w' => (∃ v, e = .returned v) ∧ Bld B b (l ++ L s) w' ∧ Below B w w' ∧
      ∀ g cs T r, g ≠ b → T ≠ 5 → w.heap[g]? = some (.cells cs T r) → w'.heap[g]? = some (.cells cs T r) := by
  obtain ⟨i0, hi, hz0, hz1, hz2⟩ := info_parts infoByt
  have hbl : (Lib.byteCells l).length = l.length := by simp [Lib.byteCells]
  go_enter Tryz.func145, Tryz.ntmps145
  go_wp2_with fail
  refine (bldCheckK B b (Lib.byteCells l) w h).mono ?_
  rintro e w1 ⟨rfl, h1, hb1, hk1⟩
  have HK1 := Lib.hid hk1
  clear hk1
  obtain ⟨hB, v, hbk, hown, hne⟩ := h1
  have c0 : w1.cell? ⟨b, 0, none⟩ = some (.pointer (some ⟨b, 0, none⟩)) := by rw [Lib.cell_of_heap hbk]; rfl
  have c1 : w1.cell? ⟨b, 1, none⟩ = some v := by rw [Lib.cell_of_heap hbk]; rfl
  go_wp2_with (at_builtin; refine Lib.wpList_append_own_string _ rfl _ _ 119 9 rfl B 5 i0 Tryz.underlying119 Tryz.underlying9 hi hz0 hz1 hz2 _ _ _ rfl hown s rfl ?c3 ?c4 ?c5 ?_)
  case c3 => unfold maxLen; omega
  case c4 => omega
  case c5 => have := hb1.size; omega
  intro v' w2 hown' hgrow _
  have hlt : b < w1.heap.size := (Array.getElem?_eq_some_iff.1 hbk).1
  have hb2 : w2.heap[b]? = some (.cells #[.pointer (some ⟨b, 0, none⟩), v] 213 (0, 0)) := by
    rw [hgrow.block b hlt (fun e => hne e.symm)]
    exact hbk
  have d0 : w2.cell? ⟨b, 0, none⟩ = some (.pointer (some ⟨b, 0, none⟩)) := by rw [Lib.cell_of_heap hb2]; rfl
  have d1 : w2.cell? ⟨b, 1, none⟩ = some v := by rw [Lib.cell_of_heap hb2]; rfl
  have f1 : w2.frozen? ⟨b, 1, none⟩ = false := Lib.frozen_of_heap hb2 1
  obtain ⟨ao, n', cap, rfl⟩ : ∃ ao n' cap, v' = .slice ao n' cap := by
    rcases hown'.2 with ⟨hv, _⟩ | ⟨g, cap, cur, hv, _⟩
    · exact ⟨_, _, _, hv⟩
    · exact ⟨_, _, _, hv⟩
  have HG : Hid (∀ g cs T r, g ≠ b → T ≠ 5 → w.heap[g]? = some (.cells cs T r) → w2.heap[g]? = some (.cells cs T r)) := fun g cs T r hg hT hh => by
    have h1 : w1.heap[g]? = some (.cells cs T r) := (HK1.out g hg).trans hh
    have h2 : g < w1.heap.size := (Array.getElem?_eq_some_iff.1 h1).1
    rw [hgrow.block g h2 (fun e => Lib.ownBlock_ne hown h1 hT e.symm)]
    exact h1
  go_wp2
  go_ret2
  refine ⟨⟨_, rfl⟩, .inr ?_, ?_, fun g cs T r hg hT hh => ?_⟩
  · have e1 : Lib.byteCells (l ++ L s) = Lib.byteCells l ++ Lib.strCells s := by
      simp [Lib.byteCells, Lib.strCells, L]
    rw [e1]
    exact Lib.BuilderAt.put (T := 213) (e := 5) hB hb2 (bs' := Lib.byteCells l ++ Lib.strCells s) (by rw [List.length_append, Lib.strCells_length, hbl]; exact hown') (by decide)
  · exact (hb1.grown hgrow (by have := hb1.size; omega) (fun k hk => (hown.lt k hk).1)).setCell (p := ⟨b, 1, none⟩) hB _
  · rw [Below.heap_setCell _ _ _ _ hg]
    exact HG.out g cs T r hg hT hh
theorem bldAt_below {B b : Nat} {p : Value} {bs : List Value} {w w' : World} (h : Lib.BuilderAt 213 5 B b p bs w) (hb : Below w.heap.size w w') : Lib.BuilderAt 213 5 B b p bs w' := by
  have hlt := h.lt
  obtain ⟨hB, v, hbk, hown, hne⟩ := h
  exact ⟨hB, v, (hb.block b hlt).trans hbk, own_below hown hb, hne⟩
theorem Bld.below {B b : Nat} {l : List UInt8} {w w' : World} (h : Bld B b l w) (hb : Below w.heap.size w w') : Bld B b l w' := by
  rcases h with h | h
  · exact .inl (bldAt_below h hb)
  · exact .inr (bldAt_below h hb)
theorem Bld.lt {B b : Nat} {l : List UInt8} {w : World} (h : Bld B b l w) : b < w.heap.size := by
  rcases h with h | h
  · exact h.lt
  · exact h.lt
theorem heap_new (w : World) (o : Obj) : (w.alloc o).heap[w.heap.size]? = some o := by
  show (w.heap.push o)[w.heap.size]? = some o
  simp
theorem fl_len {Ps : List ByteArray} (h : ∀ p ∈ Ps, p.size ≤ 40) (j : Nat) : ((Ps.take j).flatMap L).length ≤ 40 * j := by
  induction Ps generalizing j with
  | nil => simp
  | cons p Ps ih =>
    cases j with
    | zero => simp
    | succ j =>
      rw [List.take_succ_cons, List.flatMap_cons, List.length_append, L_len]
      have := ih (fun q hq => h q (List.mem_cons_of_mem _ hq)) j
      have := h p List.mem_cons_self
      omega
theorem fl_snoc {Ps : List ByteArray} {j : Nat} (h : j < Ps.length) : (Ps.take (j + 1)).flatMap L = (Ps.take j).flatMap L ++ L (Ps.getD j ⟨#[]⟩) := by
  rw [List.take_add_one, List.getElem?_eq_getElem h, List.flatMap_append, List.getD_eq_getElem?_getD, List.getElem?_eq_getElem h]; simp
theorem wrE_len {x : Ed} (h : scrOneE x = 0) : (wrE x).length ≤ 120 := by
  obtain ⟨h0, h1, h2, h3, h4⟩ := scrOne_zero h
  have z0 := Lib.itoa_length_le x.at_ (by omega) (by omega)
  have z1 := Lib.itoa_length_le x.del (by omega) (by omega)
  have z2 := Lib.itoa_length_le (x.ins.length : Int) (by omega) (by omega)
  unfold wrE
  simp only [List.length_append, List.length_cons, List.length_nil]
  omega
theorem wrL_len {l : List Ed} (h : ∀ x ∈ l, scrOneE x = 0) : (wrL l).length ≤ 120 * l.length := by
  induction l with
  | nil => simp [wrL]
  | cons x l ih =>
    have h1 := wrE_len (h x List.mem_cons_self)
    have h2 := ih (fun y hy => h y (List.mem_cons_of_mem _ hy))
    unfold wrL at *
    rw [List.flatMap_cons, List.length_append, List.length_cons]
    omega
theorem ps_cell {w : World} {g : Nat} {Ps : List ByteArray} (h : w.heap[g]? = some (.cells (Ps.map Value.string).toArray 9 (0, 0))) {j : Nat} (hj : j < Ps.length) : w.cell? ⟨g, j, none⟩ = some (.string (Ps.getD j ⟨#[]⟩)) := by
  rw [Lib.cell_of_heap h, List.getElem?_toArray, List.getElem?_map, List.getElem?_eq_getElem hj, List.getD_eq_getElem?_getD, List.getElem?_eq_getElem hj]; rfl
theorem ps_size {Ps : List ByteArray} (h : ∀ p ∈ Ps, p.size ≤ 40) (j : Nat) : (Ps.getD j ⟨#[]⟩).size ≤ 40 := by
  rw [List.getD_eq_getElem?_getD]
  cases hj : Ps[j]? with
  | none => exact Nat.zero_le _
  | some p => exact h p (List.mem_of_getElem? hj)
set_option maxRecDepth 100000 in
set_option maxHeartbeats 32000000 in
theorem written_any (l : List Ed) (A : Option Addr) (m c B : Nat) (w : World) (hr : Rd w B 3 A m (edCells l)) (hB : B ≤ w.heap.size) (hm : m ≤ 9223372036854775807) (ht : TabI w) (hz : scrErr l = 0) :
    Calls Tryz.prog 130 #[.slice A m c] w fun e w' => e = .returned (.string (S (wrL l))) ∧ Below w.heap.size w w' := by
  have hlen := Rd.rec_len ed_len (by omega) hr
  have HR := Lib.hid hr; clear hr
  have HL := Lib.hid hlen; clear hlen
  have hall := (scrErr_zero.1 hz).2
  have hm20 : m ≤ 20 := by have := (scrErr_zero.1 hz).1; have := HL.out; omega
  have HALL : Hid (∀ k (h : k < l.length), scrOneE l[k] = 0) := fun k h => hall _ (List.getElem_mem h)
  have HWL : Hid (∀ k, k ≤ m → (wrL (l.take k)).length ≤ 2400) := fun k hk => by
    have := wrL_len (l := l.take k) (fun x hx => hall x (List.mem_of_mem_take hx))
    rw [List.length_take] at this
    omega
  clear hall hz
  go_enter Tryz.func130, Tryz.ntmps130
  have hb0 : Below w.heap.size w (w.alloc (.cells #[.pointer none, .slice none 0 0] 213)) := (Below.refl _ _).alloc (Nat.le_refl _) _
  have hbld : Bld w.heap.size w.heap.size [] (w.alloc (.cells #[.pointer none, .slice none 0 0] 213)) := Lib.fresh_isBuilder _ _ w
  go_wp2_with fail
  go_loopw [10] (fun iv wr => ∃ k : Nat, k ≤ m ∧ iv = .int .i64 (k : Int) ∧ Bld w.heap.size w.heap.size (wrL (l.take k)) wr ∧ Below w.heap.size w wr) (fun iv _ => m - (intOf iv).toNat)
  case atStart => exact ⟨0, Nat.zero_le _, rfl, hbld, hb0⟩
  case round =>
    clear hbld hb0
    obtain ⟨k, hk, rfl, hbd, hb⟩ := hrel
    have hbs := hb.size
    by_cases hlt : k < m
    · have g1 : decide ((k : Int) < (m : Int)) = true := decide_eq_true (by omega)
      have g1' : decide (k < m) = true := decide_eq_true hlt
      obtain ⟨ad, hl, rfl, hab, c0, c1, c2⟩ := (HR.out.below (hb.mono hB)).at_ed hlt
      obtain ⟨hx0, hx1, hx2, hx3, hx4⟩ := scrOne_zero (HALL.out k hl)
      have HSN := Lib.hid (wrL_snoc hl)
      have hwl := HWL.out k hk
      have hzz : (S l[k].ins).size = l[k].ins.length := S_size _
      have HZ := Lib.hid hzz; clear hzz
      generalize l[k] = x at *
      obtain ⟨xa, xd, xi⟩ := x
      simp only at c0 c1 c2 HZ hx0 hx1 hx2 hx3 hx4
      have HI0 := Lib.hid (fun W (hW : Below w.heap.size w W) => itoa_any xa (by omega) (by omega) ht hW)
      have HI1 := Lib.hid (fun W (hW : Below w.heap.size w W) => itoa_any xd (by omega) (by omega) ht hW)
      have HI2 := Lib.hid (fun W (hW : Below w.heap.size w W) => itoa_any ((S xi).size : Int) (by rw [HZ.out]; omega) (by rw [HZ.out]; omega) ht hW)
      obtain ⟨Ps, hPs⟩ : ∃ Ps : List ByteArray, Ps = [S (Lib.itoa xa), ⟨#[32]⟩, S (Lib.itoa xd), ⟨#[32]⟩, S (Lib.itoa ((S xi).size : Int)), ⟨#[58]⟩, S xi, ⟨#[59]⟩] := ⟨_, rfl⟩
      have z0 : (S (Lib.itoa xa)).size ≤ 21 := by rw [S_size]; exact Lib.itoa_length_le _ (by omega) (by omega)
      have z1 : (S (Lib.itoa xd)).size ≤ 21 := by rw [S_size]; exact Lib.itoa_length_le _ (by omega) (by omega)
      have z2 : (S (Lib.itoa ((S xi).size : Int))).size ≤ 21 := by rw [S_size]; exact Lib.itoa_length_le _ (by rw [HZ.out]; omega) (by rw [HZ.out]; omega)
      have z3 : (S xi).size ≤ 40 := by rw [HZ.out]; omega
      have HP8 : Hid (Ps.length = 8) := by unfold Hid; rw [hPs]; rfl
      have HPF : Hid (wrL (l.take k) ++ Ps.flatMap L = wrL (l.take (k + 1))) := by
        unfold Hid
        rw [HSN.out, hPs]
        simp only [List.flatMap_cons, List.flatMap_nil, L_S]
        unfold wrE
        rw [HZ.out]
        simp only [List.append_nil]
        rfl
      have HPS : Hid (∀ p ∈ Ps, p.size ≤ 40) := by
        intro p hp
        rw [hPs] at hp
        simp only [List.mem_cons, List.not_mem_nil, or_false] at hp
        rcases hp with rfl | rfl | rfl | rfl | rfl | rfl | rfl | rfl
        · omega
        · decide
        · omega
        · decide
        · omega
        · decide
        · omega
        · decide
      have HPA : Hid ((Ps.map Value.string).toArray = #[.string (S (Lib.itoa xa)), .string ⟨#[32]⟩, .string (S (Lib.itoa xd)), .string ⟨#[32]⟩, .string (S (Lib.itoa ((S xi).size : Int))), .string ⟨#[58]⟩, .string (S xi), .string ⟨#[59]⟩]) := by
        unfold Hid; rw [hPs]; rfl
      clear hPs HSN HZ hx0 hx1 hx2 hx3 hx4 z0 z1 z2
      generalize S (Lib.itoa ((S xi).size : Int)) = Y2 at *
      generalize S (Lib.itoa xa) = Y0 at *
      generalize S (Lib.itoa xd) = Y1 at *
      generalize S xi = X at *
      generalize wrL (l.take k) = acc at *
      go_wp2_with fail
      have hbA : Below wr.heap.size wr (wr.alloc (.cells #[.int .i64 xa, .int .i64 xd, .string X] 95)) := (Below.refl _ _).alloc (Nat.le_refl _) _
      have c0' : (wr.alloc (.cells #[.int .i64 xa, .int .i64 xd, .string X] 95)).cell? ⟨wr.heap.size, 0, none⟩ = some (.int .i64 xa) := by simp
      have c1' : (wr.alloc (.cells #[.int .i64 xa, .int .i64 xd, .string X] 95)).cell? ⟨wr.heap.size, 1, none⟩ = some (.int .i64 xd) := by simp
      have c3' : (wr.alloc (.cells #[.int .i64 xa, .int .i64 xd, .string X] 95)).cell? ⟨wr.heap.size, 2, none⟩ = some (.string X) := by simp
      have hgl : wr.heap.size < (wr.alloc (.cells #[.int .i64 xa, .int .i64 xd, .string X] 95)).heap.size := by simp
      have hbd2 := hbd.below hbA
      have hB12 := bthen hb hbA
      generalize (wr.alloc (.cells #[.int .i64 xa, .int .i64 xd, .string X] 95)) = wa at *
      clear c0 c1 c2 hbd hbA
      generalize wr.heap.size = gb at *
      obtain ⟨F1, hFd⟩ : ∃ F : World → Prop, F = fun w' => w'.cell? ⟨gb, 0, none⟩ = some (.int .i64 xa) ∧ w'.cell? ⟨gb, 1, none⟩ = some (.int .i64 xd) ∧ w'.cell? ⟨gb, 2, none⟩ = some (.string X) := ⟨_, rfl⟩
      have HF1 := Lib.hid hFd
      clear hFd
      have hcell10 : ∀ p' : Wof F1, p'.w.cell? ⟨gb, 0, none⟩ = some (.int .i64 xa) := fun ⟨x, hx⟩ => by rw [HF1.out] at hx; exact hx.1
      have hcell11 : ∀ p' : Wof F1, p'.w.cell? ⟨gb, 1, none⟩ = some (.int .i64 xd) := fun ⟨x, hx⟩ => by rw [HF1.out] at hx; exact hx.2.1
      have hcell12 : ∀ p' : Wof F1, p'.w.cell? ⟨gb, 2, none⟩ = some (.string X) := fun ⟨x, hx⟩ => by rw [HF1.out] at hx; exact hx.2.2
      refine wp_region_schedF [(0, true), (1, true), (3, true), (4, true), (6, true), (7, true), (8, true), (10, true), (11, true), (14, true), (2, false), (5, false), (9, false), (12, false), (13, true)] F1 (by kernel_rfl) (by kernel_rfl) rfl (fun _ _ _ _ _ h => h) (by kernel_rfl) (by rw [HF1.out]; first | ((repeat' apply And.intro) <;> assumption) | trivial | (simp; done) | (simp [*]; done)) (by rw [HF1.out]; exact fun h => h) ?_
      intro hne1
      simp only [opersOf, List.getElem?_toArray, List.getElem?_cons_succ, List.getElem?_cons_zero]
      repeat (first | (refine wpSched_free rfl ?_; intro K hK; go_big_quiet_op; go_big_quiet_on) | (refine wpSched_wantS _ rfl rfl rfl ?_; intro K hK; go_big_quiet_op; go_big_quiet_on) | (refine wpSched_skipS _ rfl rfl rfl rfl ?_; simp only [Act.put, List.setIfInBounds_toArray, List.set_cons_zero, List.set_cons_succ]) | (refine wpSched_skipU _ rfl rfl rfl ?_; simp only [Act.put, List.setIfInBounds_toArray, List.set_cons_zero, List.set_cons_succ]))
      refine wpSched_other ?_
      go_wp2_with fail
      refine (HI0.out _ (by first | exact hB12.drew | exact hB12)).mono ?_
      rintro e w2 ⟨rfl, hb2⟩
      have hB2 := bthen (by first | exact hB12.drew | exact hB12) hb2
      have hbd3 := (hbd2.below (by first | exact (Below.refl _ _).drew | exact Below.refl _ _)).below hb2
      have d0 : w2.cell? ⟨gb, 0, none⟩ = some (.int .i64 xa) := ((bcell hb2).1 gb 0 hgl).trans c0'
      have d1 : w2.cell? ⟨gb, 1, none⟩ = some (.int .i64 xd) := ((bcell hb2).1 gb 1 hgl).trans c1'
      have d2 : w2.cell? ⟨gb, 2, none⟩ = some (.string X) := ((bcell hb2).1 gb 2 hgl).trans c3'
      have hg2 : gb < w2.heap.size := Nat.lt_of_lt_of_le hgl hb2.size
      go_wp2_with fail
      refine sched_back (by rw [HF1.out]; first | ((repeat' apply And.intro) <;> assumption) | trivial | (simp; done) | (go_simp; done) | (simp [*]; done)) ?_
      repeat (first | (refine wpSched_free rfl ?_; intro K hK; go_big_quiet_op; go_big_quiet_on) | (refine wpSched_wantS _ rfl rfl rfl ?_; intro K hK; go_big_quiet_op; go_big_quiet_on) | (refine wpSched_skipS _ rfl rfl rfl rfl ?_; simp only [Act.put, List.setIfInBounds_toArray, List.set_cons_zero, List.set_cons_succ]) | (refine wpSched_skipU _ rfl rfl rfl ?_; simp only [Act.put, List.setIfInBounds_toArray, List.set_cons_zero, List.set_cons_succ]))
      refine wpSched_other ?_
      go_wp2_with fail
      refine (HI1.out _ hB2).mono ?_
      rintro e w3 ⟨rfl, hb3⟩
      have hB3 := bthen hB2 hb3
      have hbd4 := hbd3.below hb3
      have e0 : w3.cell? ⟨gb, 0, none⟩ = some (.int .i64 xa) := ((bcell hb3).1 gb 0 hg2).trans d0
      have e1 : w3.cell? ⟨gb, 1, none⟩ = some (.int .i64 xd) := ((bcell hb3).1 gb 1 hg2).trans d1
      have e2 : w3.cell? ⟨gb, 2, none⟩ = some (.string X) := ((bcell hb3).1 gb 2 hg2).trans d2
      have hg3 : gb < w3.heap.size := Nat.lt_of_lt_of_le hg2 hb3.size
      go_wp2_with fail
      refine sched_back (by rw [HF1.out]; first | ((repeat' apply And.intro) <;> assumption) | trivial | (simp; done) | (go_simp; done) | (simp [*]; done)) ?_
      repeat (first | (refine wpSched_free rfl ?_; intro K hK; go_big_quiet_op; go_big_quiet_on) | (refine wpSched_wantS _ rfl rfl rfl ?_; intro K hK; go_big_quiet_op; go_big_quiet_on) | (refine wpSched_skipS _ rfl rfl rfl rfl ?_; simp only [Act.put, List.setIfInBounds_toArray, List.set_cons_zero, List.set_cons_succ]) | (refine wpSched_skipU _ rfl rfl rfl ?_; simp only [Act.put, List.setIfInBounds_toArray, List.set_cons_zero, List.set_cons_succ]))
      refine wpSched_other ?_
      go_wp2_with fail
      refine (HI2.out _ hB3).mono ?_
      rintro e w4 ⟨rfl, hb4⟩
      have hB4 := bthen hB3 hb4
      have hbd5 := hbd4.below hb4
      have k0 : w4.cell? ⟨gb, 0, none⟩ = some (.int .i64 xa) := ((bcell hb4).1 gb 0 hg3).trans e0
      have k1 : w4.cell? ⟨gb, 1, none⟩ = some (.int .i64 xd) := ((bcell hb4).1 gb 1 hg3).trans e1
      have k2 : w4.cell? ⟨gb, 2, none⟩ = some (.string X) := ((bcell hb4).1 gb 2 hg3).trans e2
      have hg4 : gb < w4.heap.size := Nat.lt_of_lt_of_le hg3 hb4.size
      go_wp2_with fail
      refine sched_back (by rw [HF1.out]; first | ((repeat' apply And.intro) <;> assumption) | trivial | (simp; done) | (go_simp; done) | (simp [*]; done)) ?_
      repeat (first | (refine wpSched_free rfl ?_; intro K hK; go_big_quiet_op; go_big_quiet_on) | (refine wpSched_wantS _ rfl rfl rfl ?_; intro K hK; go_big_quiet_op; go_big_quiet_on) | (refine wpSched_skipS _ rfl rfl rfl rfl ?_; simp only [Act.put, List.setIfInBounds_toArray, List.set_cons_zero, List.set_cons_succ]) | (refine wpSched_skipU _ rfl rfl rfl ?_; simp only [Act.put, List.setIfInBounds_toArray, List.set_cons_zero, List.set_cons_succ]))
      clear d0 d1 d2 e0 e1 e2 c0' c1' c3' hbd2 hbd3 hbd4 hb2 hb3 hb4 hB2 hB3 hB12
      have hb5 : Below w4.heap.size w4 (w4.alloc (.cells #[.string Y0, .string ⟨#[32]⟩, .string Y1, .string ⟨#[32]⟩, .string Y2, .string ⟨#[58]⟩, .string X, .string ⟨#[59]⟩] 9)) := (Below.refl _ _).alloc (Nat.le_refl _) _
      have f0 : (w4.alloc (.cells #[.string Y0, .string ⟨#[32]⟩, .string Y1, .string ⟨#[32]⟩, .string Y2, .string ⟨#[58]⟩, .string X, .string ⟨#[59]⟩] 9)).cell? ⟨gb, 0, none⟩ = some (.int .i64 xa) := ((bcell hb5).1 gb 0 hg4).trans k0
      have f1 : (w4.alloc (.cells #[.string Y0, .string ⟨#[32]⟩, .string Y1, .string ⟨#[32]⟩, .string Y2, .string ⟨#[58]⟩, .string X, .string ⟨#[59]⟩] 9)).cell? ⟨gb, 1, none⟩ = some (.int .i64 xd) := ((bcell hb5).1 gb 1 hg4).trans k1
      have f2 : (w4.alloc (.cells #[.string Y0, .string ⟨#[32]⟩, .string Y1, .string ⟨#[32]⟩, .string Y2, .string ⟨#[58]⟩, .string X, .string ⟨#[59]⟩] 9)).cell? ⟨gb, 2, none⟩ = some (.string X) := ((bcell hb5).1 gb 2 hg4).trans k2
      have hn5 := heap_new w4 (.cells #[.string Y0, .string ⟨#[32]⟩, .string Y1, .string ⟨#[32]⟩, .string Y2, .string ⟨#[58]⟩, .string X, .string ⟨#[59]⟩] 9)
      have hbd6 := hbd5.below hb5
      have hB5 := bthen hB4 hb5
      refine wpSched_other ?_
      go_wp2_with fail
      refine sched_back (by rw [HF1.out]; first | ((repeat' apply And.intro) <;> assumption) | trivial | (simp; done) | (go_simp; done) | (simp [*]; done)) ?_
      repeat (first | (refine wpSched_free rfl ?_; intro K hK; go_big_quiet_op; go_big_quiet_on) | (refine wpSched_wantS _ rfl rfl rfl ?_; intro K hK; go_big_quiet_op; go_big_quiet_on) | (refine wpSched_skipS _ rfl rfl rfl rfl ?_; simp only [Act.put, List.setIfInBounds_toArray, List.set_cons_zero, List.set_cons_succ]) | (refine wpSched_skipU _ rfl rfl rfl ?_; simp only [Act.put, List.setIfInBounds_toArray, List.set_cons_zero, List.set_cons_succ]))
      have hgs : w.heap.size < w4.heap.size := hbd5.lt
      clear HI0 HI1 HI2 f0 f1 f2 k0 k1 k2 hbd5 hB4 hg4 hg3 hg2 hgl hb5
      generalize (w4.alloc (.cells #[.string Y0, .string ⟨#[32]⟩, .string Y1, .string ⟨#[32]⟩, .string Y2, .string ⟨#[58]⟩, .string X, .string ⟨#[59]⟩] 9)) = w5 at *
      generalize w4.heap.size = gs at *
      rw [← HPA.out] at hn5
      clear HPA
      refine wpSched_nil ?_
      go_wp2_with fail
      go_loopw [28] (fun jv w6 => ∃ j : Nat, j ≤ 8 ∧ jv = .int .i64 (j : Int) ∧ Bld w.heap.size w.heap.size (acc ++ (Ps.take j).flatMap L) w6 ∧ Below w.heap.size w w6 ∧ w6.heap[gs]? = some (.cells (Ps.map Value.string).toArray 9 (0, 0))) (fun jv _ => 8 - (intOf jv).toNat)
      case atStart => exact ⟨0, Nat.zero_le _, rfl, by simpa using hbd6, hB5, hn5⟩
      case round =>
        clear hbd6 hB5 hn5
        obtain ⟨j, hj, rfl, hbd, hb6, hh6⟩ := hrel
        have hbs6 := hb6.size
        by_cases hj8 : j < 8
        · have g1 : decide ((j : Int) < 8) = true := decide_eq_true (by omega)
          have g1' : decide (j < 8) = true := decide_eq_true hj8
          have cj := ps_cell hh6 (j := j) (by rw [HP8.out]; exact hj8)
          have hzj := ps_size HPS.out j
          have hfl := fl_len HPS.out j
          have HSJ := Lib.hid (fl_snoc (Ps := Ps) (j := j) (by rw [HP8.out]; exact hj8))
          generalize Ps.getD j ⟨#[]⟩ = Z at *
          have HW := Lib.hid (bldWriteK w.heap.size w.heap.size (acc ++ (Ps.take j).flatMap L) Z _ hbd (by rw [List.length_append]; omega) hb6.size)
          rw [List.append_assoc, ← HSJ.out] at HW
          have HH6 := Lib.hid hh6
          clear hbd hh6 hfl hwl
          go_wp2_with fail
          refine HW.out.mono ?_
          rintro e w7 ⟨⟨v, rfl⟩, hbd7, hb7, hk7⟩
          have hh7 := hk7 gs _ _ _ (by omega) (by decide) HH6.out
          clear hk7
          go_wp2_with fail
          go_roundw
          case rel => exact ⟨j + 1, by omega, by go_num, hbd7, hb6.trans hb7, hh7⟩
          case measure => simp [intOf]; omega
        · obtain rfl : j = 8 := by omega
          have g1 : decide ((8 : Int) < 8) = false := by decide
          rw [List.take_of_length_le (by rw [HP8.out]; exact Nat.le_refl _), HPF.out] at hbd
          clear hh6
          go_wp2_with fail
          go_roundw
          case rel => exact ⟨k + 1, by omega, by go_num, hbd, hb6⟩
          case measure => simp [intOf]; omega
    · obtain rfl : k = m := by omega
      have g1 : decide ((k : Int) < (k : Int)) = false := decide_eq_false (by omega)
      have g1' : decide (k < k) = false := decide_eq_false hlt
      rw [List.take_of_length_le (by rw [HL.out]; exact Nat.le_refl _)] at hbd
      have HS := Lib.hid (bldString w.heap.size w.heap.size _ wr hbd hb.size)
      clear hbd
      go_wp2_with fail
      refine HS.out.mono ?_
      rintro e w3 ⟨rfl, hb3⟩
      go_wp2_with fail
      go_ret
      exact ⟨rfl, hb.trans hb3⟩
end Go.Proofs.YtplgghjdidmcfaaGreatDoor
namespace Go.Proofs.YtplgghjdidmcfaaGreatDoor
open Go.RowKit
set_option maxRecDepth 100000 in
set_option maxHeartbeats 1000000 in
theorem lgAppendOf_any (d rec : ByteArray) (sf : Nat) (w : World) (hd : d.size ≤ 4000) :
    Calls Tryz.prog 63 #[.agg #[.string d, .int .i64 (sf : Int)], .string rec] w fun e w' => e = .returned (.tuple #[.agg #[.string (appD d rec), .int .i64 (sf : Int)], .int .i64 (appErr d rec)]) ∧ Below w.heap.size w w' := by
  by_cases hr : 1100 < rec.size
  · have HE : Hid (appErr d rec = 2) := by unfold Hid appErr; rw [if_pos hr]
    have HD : Hid (appD d rec = d) := by unfold Hid appD; rw [HE.out, if_neg (by decide)]
    go_enter Tryz.func63, Tryz.ntmps63
    go_wp2_with fail
    (apply bodyPost_ret; (simp [results, Tryz.results63, go_sem]; rfl); rfl)
    exact ⟨by rw [HE.out, HD.out], (by repeat (first | exact Below.refl _ _ | assumption | refine Below.alloc ?_ (by first | exact Nat.le_refl _ | assumption | omega | (simp <;> omega)) _ | refine Below.setCell ?_ (by first | exact Nat.le_refl _ | assumption | omega | (simp <;> omega)) _ | refine Below.drew ?_ | refine below_drewN ?_ _))⟩
  · have hz : (S (frameL (L rec))).size = rec.size + 6 := by rw [S_size, frameL_length, L_len]
    have HZ := Lib.hid hz
    have hz1 : (S (frameL (L rec))).size ≤ 1106 := by omega
    have HE : Hid (appErr d rec = if 4000 < d.size + (rec.size + 6) then 11 else 0) := by unfold Hid appErr; rw [if_neg hr]
    clear hz
    by_cases hf : 4000 < d.size + (rec.size + 6)
    · rw [Hid, if_pos hf] at HE
      have HE := Lib.hid HE
      have HD : Hid (appD d rec = d) := by unfold Hid appD; rw [HE.out, if_neg (by decide)]
      go_enter Tryz.func63, Tryz.ntmps63
      go_wp2_with fail
      (apply bodyPost_ret; (simp [results, Tryz.results63, go_sem]; rfl); rfl)
      exact ⟨by rw [HE.out, HD.out], (by repeat (first | exact Below.refl _ _ | assumption | refine Below.alloc ?_ (by first | exact Nat.le_refl _ | assumption | omega | (simp <;> omega)) _ | refine Below.setCell ?_ (by first | exact Nat.le_refl _ | assumption | omega | (simp <;> omega)) _ | refine Below.drew ?_ | refine below_drewN ?_ _))⟩
    · rw [Hid, if_neg hf] at HE
      have HE := Lib.hid HE
      have HD : Hid (appD d rec = d ++ S (frameL (L rec))) := by unfold Hid appD; rw [HE.out, if_pos rfl]
      go_enter Tryz.func63, Tryz.ntmps63
      go_wp2_with fail
      go_region_with ((go_at_call 128; refine (frameRef_any rec (by omega) _).mono ?_; rintro e w1 ⟨rfl, hb1⟩; obtain ⟨hc, hf⟩ := bcell hb1; have c0 : w1.cell? ⟨w.heap.size, 0, none⟩ = some (.string d) := (by rw [hc _ _ (by simp; try omega)]; simp); have f0 : w1.frozen? ⟨w.heap.size, 0, none⟩ = false := (by rw [hf _ _ (by simp; try omega)]; simp); have c1 : w1.cell? ⟨w.heap.size, 1, none⟩ = some (.int .i64 (sf : Int)) := (by rw [hc _ _ (by simp; try omega)]; simp); have e0 : w1.cell? ⟨w.heap.size + 1, 0, none⟩ = some (.string ⟨#[]⟩) := (by rw [hc _ _ (by simp; try omega)]; simp); have e1 : w1.cell? ⟨w.heap.size + 1, 1, none⟩ = some (.int .i64 0) := (by rw [hc _ _ (by simp; try omega)]; simp); have k0 : w1.frozen? ⟨w.heap.size + 1, 0, none⟩ = false := (by rw [hf _ _ (by simp; try omega)]; simp); have k1 : w1.frozen? ⟨w.heap.size + 1, 1, none⟩ = false := (by rw [hf _ _ (by simp; try omega)]; simp); have hbA : Below w.heap.size w w1 := bthen (by repeat (first | exact Below.refl _ _ | assumption | refine Below.alloc ?_ (by first | exact Nat.le_refl _ | assumption | omega | (simp <;> omega)) _ | refine Below.setCell ?_ (by first | exact Nat.le_refl _ | assumption | omega | (simp <;> omega)) _ | refine Below.drew ?_ | refine below_drewN ?_ _)) hb1; have hs1 := hbA.size; clear hc hf hb1))
      all_goals go_wp2_with fail
      all_goals (apply bodyPost_ret; (simp [results, Tryz.results63, go_sem, e0, e1]; rfl); rfl)
      all_goals exact ⟨by rw [HE.out, HD.out], (by repeat (first | exact Below.refl _ _ | assumption | refine Below.alloc ?_ (by first | exact Nat.le_refl _ | assumption | omega | (simp <;> omega)) _ | refine Below.setCell ?_ (by first | exact Nat.le_refl _ | assumption | omega | (simp <;> omega)) _ | refine Below.drew ?_ | refine below_drewN ?_ _))⟩
set_option maxRecDepth 100000 in
set_option maxHeartbeats 1000000 in
theorem lgCrashOf_any (d : ByteArray) (sf : Nat) (keep : Int) (w : World) (hd : d.size ≤ 4000) (hs : sf ≤ d.size) :
    Calls Tryz.prog 132 #[.agg #[.string d, .int .i64 (sf : Int)], .int .i64 keep] w fun e w' => e = .returned (.tuple #[.agg #[.string (craD d sf keep), .int .i64 (craF d sf keep : Nat)], .int .i64 (craErr d sf keep)]) ∧ Below w.heap.size w w' := by
  by_cases hk0 : keep < 0 ∨ (d.size : Int) - (sf : Int) < keep
  · have HE : Hid (craErr d sf keep = 1) := by unfold Hid craErr; rw [if_pos hk0]
    have HD : Hid (craD d sf keep = d ∧ craF d sf keep = sf) := by unfold Hid craD craF; rw [HE.out, if_neg (by decide), if_neg (by decide)]; exact ⟨rfl, rfl⟩
    have HK := Lib.hid hk0; clear hk0
    go_enter Tryz.func132, Tryz.ntmps132
    go_wp2_with fail
    all_goals first
      | ((apply bodyPost_ret; (simp [results, Tryz.results132, go_sem]; rfl); rfl)
         exact ⟨by rw [HE.out, HD.out.1, HD.out.2], (by repeat (first | exact Below.refl _ _ | assumption | refine Below.alloc ?_ (by first | exact Nat.le_refl _ | assumption | omega | (simp <;> omega)) _ | refine Below.setCell ?_ (by first | exact Nat.le_refl _ | assumption | omega | (simp <;> omega)) _ | refine Below.drew ?_ | refine below_drewN ?_ _))⟩)
      | (exfalso; have := HK.out; omega)
  have hk1 : 0 ≤ keep := by omega
  have hk2 : keep ≤ (d.size : Int) - (sf : Int) := by omega
  have HE : Hid (craErr d sf keep = 0) := by unfold Hid craErr; rw [if_neg (by omega)]
  have HD : Hid (craD d sf keep = (craS d sf keep).extract 0 (craN d sf keep) ∧ craF d sf keep = craN d sf keep) := by unfold Hid craD craF; rw [HE.out, if_pos rfl, if_pos rfl]; exact ⟨rfl, rfl⟩
  obtain ⟨k, rfl⟩ := Int.eq_ofNat_of_zero_le hk1
  have HS : Hid (craS d sf (k : Int) = d.extract 0 (sf + k)) := rfl
  have hsz : (d.extract 0 (sf + k)).size ≤ 4000 := by rw [ByteArray.size_extract]; omega
  clear hk0
  go_enter Tryz.func132, Tryz.ntmps132
  go_wp2_with fail
  refine (scanRef_any _ (d.extract 0 (sf + k)) (by omega) (Nat.le_refl _) _).mono ?_
  rintro e w1 ⟨v1, rfl, hown1, hb1⟩
  obtain ⟨hc, hf⟩ := bcell hb1
  have hz := hb1.size
  simp only [World.size_alloc] at hc hf hz
  have hbA : Below w.heap.size w w1 := bthen (by repeat (first | exact Below.refl _ _ | assumption | refine Below.alloc ?_ (by first | exact Nat.le_refl _ | assumption | omega | (simp <;> omega)) _ | refine Below.setCell ?_ (by first | exact Nat.le_refl _ | assumption | omega | (simp <;> omega)) _ | refine Below.drew ?_ | refine below_drewN ?_ _)) hb1
  have hs1 := hbA.size
  have e0 : w1.cell? ⟨w.heap.size + 1, 0, none⟩ = some (.string ⟨#[]⟩) := by rw [hc _ _ (by omega)]; simp
  have e1 : w1.cell? ⟨w.heap.size + 1, 1, none⟩ = some (.int .i64 0) := by rw [hc _ _ (by omega)]; simp
  have hle := scanL_le (L (d.extract 0 (sf + k)))
  rw [L_len] at hle
  have HN : Hid (craN d sf (k : Int) = (scanL (L (d.extract 0 (sf + k)))).2) := rfl
  clear hown1
  generalize (scanL (L (d.extract 0 (sf + k)))).2 = n at *
  generalize d.extract 0 (sf + k) = ds at *
  go_wp2_with fail
  (apply bodyPost_ret; (simp [results, Tryz.results132, go_sem, e0, e1]; rfl); rfl)
  exact ⟨by rw [HE.out, HD.out.1, HD.out.2, HS.out, HN.out], (by repeat (first | exact Below.refl _ _ | assumption | refine Below.alloc ?_ (by first | exact Nat.le_refl _ | assumption | omega | (simp <;> omega)) _ | refine Below.setCell ?_ (by first | exact Nat.le_refl _ | assumption | omega | (simp <;> omega)) _ | refine Below.drew ?_ | refine below_drewN ?_ _))⟩
end Go.Proofs.YtplgghjdidmcfaaGreatDoor
namespace Go.Proofs.YtplgghjdidmcfaaGreatDoor
open Go.RowKit
set_option maxRecDepth 100000 in
theorem lgNew_any (w : World) : Calls Tryz.prog 114 #[] w fun e w' => e = .returned (.pointer (some ⟨w.heap.size, 0, none⟩)) ∧ w' = w.alloc (.cells #[.string ⟨#[]⟩, .int .i64 0] 187) := by
  go_enter Tryz.func114, Tryz.ntmps114
  go_wp2_with fail
  go_ret
  exact ⟨rfl, rfl⟩
end Go.Proofs.YtplgghjdidmcfaaGreatDoor
