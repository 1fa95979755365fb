/- The walks of package front: the shelf, take, Put, Get. trim.script, walked. trim.Many, trim.Two, walked. -/
import Derived.Test.YtmikckhihfcooaaDoorPk05
import Derived.Test.YtmikckhihfcooaaDoorPk02
import Derived.Test.YtmikckhihfcooaaDoorPk04
import Derived.Test.YtmikckhihfcooaaDoorPk10
import Derived.BigRegion
namespace Go.Proofs.YtmikckhihfcooaaDoor
open Go.RowKit
theorem info_u8' : (Tryd.prog.info? 5).map (fun i => (i.zero, i.size, i.bytes)) = some (some (.int .u8 0), 1, 1) := by kernel_rfl
/-- A row that the call made whole is a block of bytes. -/
theorem BB.of_own {w : World} {base g n : Nat} {x : List UInt8} (h : w.ownsRow base 5 1 (.slice (some ⟨g, 0, none⟩) n n) n (byteCells x)) : BB w g x := by
  rcases h.2 with ⟨h1, _⟩ | ⟨g', cap, cur, h1, h2⟩
  · cases h1
  · injection h1 with e1 _ e3
    injection e1 with e1
    injection e1 with e1
    subst e1; subst e3
    obtain ⟨_, hg, _, _, hs, ht⟩ := h2
    show w.heap[g]? = _
    rw [hg, ← ht, List.take_of_length_le (by rw [Array.length_toList, hs]; exact Nat.le_refl _)]
/-- The shelf at the start. -/
def natB (n : Nat) : List UInt8 := (List.range n).map UInt8.ofNat ++ List.replicate (256 - n) 0
theorem natB_len {n : Nat} (h : n ≤ 256) : (natB n).length = 256 := by simp [natB]; omega
theorem natB_all : natB 256 = shelfA [] := by simp [natB, shelfA, shelfR, allB]
theorem natB_set {n : Nat} (h : n < 256) : (natB n).set n (UInt8.ofNat n) = natB (n + 1) := by
  unfold natB
  rw [List.set_append_right _ _ (by simp), List.length_map, List.length_range, Nat.sub_self, List.range_succ, List.map_append, List.append_assoc]
  congr 1
  rw [show 256 - n = (256 - (n + 1)) + 1 by omega, List.replicate_succ]
  rfl
theorem ofNat_toNat {n : Nat} (h : n < 256) : ((UInt8.ofNat n).toNat : Int) = (n : Int) := by
  rw [UInt8.toNat_ofNat', Nat.mod_eq_of_lt h]
/-- Ahead of its place a byte does not stand on the shelf. -/
theorem before_idx : ∀ (x : List UInt8) (c : UInt8) (j : Nat), j < x.idxOf c → x.getD j 0 ≠ c
  | [], c, j, h => by simp at h
  | a :: x, c, j, h => by
    by_cases e : a = c
    · subst e; rw [List.idxOf_cons_self] at h; omega
    · rw [idx_ne _ e] at h
      cases j with
      | zero => exact e
      | succ j => exact before_idx x c j (by omega)
def agesI (u : List UInt8) (n : Nat) : List Int := (ages u n).map fun k : Nat => (k : Int)
theorem agesI_len (u : List UInt8) (n : Nat) : (agesI u n).length = n := by unfold agesI; rw [List.length_map, ages_len]
theorem agesI_snoc (u : List UInt8) (n : Nat) : agesI u (n + 1) = agesI u n ++ [(ago (u.take n) (u.getD n 0) : Int)] := by unfold agesI; rw [ages_snoc, List.map_append]; rfl
def putV (s : ByteArray) : List Int := if 200 < s.size then [] else agesI (L s) s.size
/-- Where Put stands. -/
structure PutAt (w wr : World) (g g3 : Nat) (s : ByteArray) (k : Nat) (o : Value) : Prop where
  sh : BB wr g (shelfA ((L s).take k))
  by_ : ∀ j, j < s.size → wr.cell? ⟨g3, j, none⟩ = some (.int .u8 (((L s).getD j 0).toNat : Int))
  out : wr.ownsRow (g3 + 1) 3 1 o k (ints (agesI (L s) k))
  lt : g < g3
  lt3 : g3 < wr.heap.size
  le : w.heap.size ≤ g
  b : Below w.heap.size w wr
theorem PutAt.own5 {w wr w5 : World} {g g3 k : Nat} {s : ByteArray} {o : Value} (h : PutAt w wr g g3 s k o) (hg5 : wr.grownBy w5 (some g)) : w5.ownsRow (g3 + 1) 3 1 o k (ints (agesI (L s) k)) :=
  World.ownsRow.kept h.out hg5 (.inr (fun e => by
    have := (World.ownsRow.lt h.out g e).1
    have := h.lt
    omega))
theorem PutAt.step {w wr w5 w6 : World} {g g3 k : Nat} {s : ByteArray} {o v6 : Value} (h : PutAt w wr g g3 s k o) (hg5 : wr.grownBy w5 (some g)) (hB5 : BB w5 g (shelfA ((L s).take (k + 1)))) (hb6 : Below (g3 + 1) w5 w6)
    (hown : w6.ownsRow (g3 + 1) 3 1 v6 (k + 1) (ints (agesI (L s) (k + 1)))) : PutAt w w6 g g3 s (k + 1) v6 := by
  have h1 := h.lt
  have h2 := h.lt3
  have h4 := hg5.size
  have h5 := hb6.size
  refine ⟨Blk.below hB5 hb6 (by omega), fun j hj => ?_, hown, h1, by omega, h.le, ?_⟩
  · rw [hb6.cell (p := ⟨g3, j, none⟩) (by show g3 < g3 + 1; omega), World.cell?_of_block (a := ⟨g3, j, none⟩) (hg5.block g3 h2 (by simp; omega)), h.by_ j hj]
  · exact (below_gb h.b hg5 h.le h.b.size).trans (hb6.mono (by have := h.le; omega))
end Go.Proofs.YtmikckhihfcooaaDoor
namespace Go.Proofs.YtmikckhihfcooaaDoor
open Go.RowKit
theorem own_ne_own {w : World} {base base' : Nat} {e e' : TypeId} {size size' n n' : Nat} {v v' : Value} {xs xs' : List Value} (h : w.ownsRow base e size v n xs) (h' : w.ownsRow base' e' size' v' n' xs') (hne : e ≠ e') : v.ownBlock = none ∨ v.ownBlock ≠ v'.ownBlock := by
  rcases h.2 with ⟨rfl, _⟩ | ⟨g, cap, cur, rfl, _, h3, _⟩
  · exact .inl rfl
  · right
    intro e1
    rcases h'.2 with ⟨rfl, _⟩ | ⟨g', cap', cur', rfl, _, h3', _⟩
    · cases e1
    · simp only [Value.ownBlock, Option.some.injEq] at e1
      subst e1
      rw [h3] at h3'
      injection h3' with h3'
      injection h3' with _ h4
      exact hne h4
/-- What script holds: the edit at work, the bytes to put, the edits, the cells. -/
structure ScIn (base : Nat) (w wr : World) (g7 : Nat) (x : Array Value) (ins : List UInt8) (vi : Value) (out : List Ed) (vo : Value) (cs : List Tc) (vc : Value) : Prop where
  box : Blk wr g7 39 x
  ins : wr.ownsRow (g7 + 1) 5 1 vi ins.length (byteCells ins)
  out : wr.ownsRow (g7 + 1) 39 3 vo out.length (edCells out)
  cs : wr.ownsRow base 70 2 vc cs.length (tcCells cs)
  le : base ≤ g7
  b : Below base w wr
section
variable {base g7 : Nat} {w wr w6 : World} {x : Array Value} {ins ins2 : List UInt8} {vi vo vc v6 : Value} {out out2 : List Ed} {cs : List Tc}
theorem ScIn.sz (h : ScIn base w wr g7 x ins vi out vo cs vc) : g7 + 1 ≤ wr.heap.size := h.box.lt
theorem ScIn.alloc (h : ScIn base w wr g7 x ins vi out vo cs vc) (o : Obj) : ScIn base w (wr.alloc o) g7 x ins vi out vo cs vc :=
  ⟨h.box.alloc o, h.ins.alloc o, h.out.alloc o, h.cs.alloc o, h.le, h.b.alloc (Nat.le_of_lt (Nat.lt_of_le_of_lt h.le h.box.lt)) o⟩
theorem ScIn.drew (h : ScIn base w wr g7 x ins vi out vo cs vc) : ScIn base w wr.drew g7 x ins vi out vo cs vc :=
  ⟨h.box, h.ins, h.out, h.cs, h.le, h.b.drew⟩
theorem ScIn.insG (h : ScIn base w wr g7 x ins vi out vo cs vc) (hg : wr.grownBy w6 vi.ownBlock) (ho : w6.ownsRow (g7 + 1) 5 1 v6 ins2.length (byteCells ins2)) : ScIn base w w6 g7 x ins2 v6 out vo cs vc := by
  have hs := h.sz
  have hl := h.le
  refine ⟨h.box.grown hg (fun e => ?_), ho, h.out.kept hg (own_ne_own h.out h.ins (by decide)), h.cs.kept hg (own_ne_own h.cs h.ins (by decide)), h.le, h.b.grown hg (by omega) (fun k hk => ?_)⟩
  · have := (h.ins.lt g7 e.symm).1; omega
  · have := (h.ins.lt k hk).1; omega
theorem ScIn.outG (h : ScIn base w wr g7 x ins vi out vo cs vc) (hg : wr.grownBy w6 vo.ownBlock) (ho : w6.ownsRow (g7 + 1) 39 3 v6 out2.length (edCells out2)) : ScIn base w w6 g7 x ins vi out2 v6 cs vc := by
  have hs := h.sz
  have hl := h.le
  refine ⟨h.box.grown hg (fun e => ?_), h.ins.kept hg (own_ne_own h.ins h.out (by decide)), ho, h.cs.kept hg (own_ne_own h.cs h.out (by decide)), h.le, h.b.grown hg (by omega) (fun k hk => ?_)⟩
  · have := (h.out.lt g7 e.symm).1; omega
  · have := (h.out.lt k hk).1; omega
theorem ScIn.set_ (h : ScIn base w wr g7 x ins vi out vo cs vc) (i : Nat) (u : Value) : ScIn base w (wr.setCell ⟨g7, i, none⟩ u) g7 (x.setIfInBounds i u) ins vi out vo cs vc := by
  have hg : wr.grownBy (wr.setCell ⟨g7, i, none⟩ u) (some g7) := gb_set (gb_refl _ _) i u
  have h1 : ∀ {e size v n xs}, wr.ownsRow (g7 + 1) e size v n xs → v.ownBlock = none ∨ v.ownBlock ≠ some g7 := fun {e size v n xs} ho => .inr (fun e1 => by have := (ho.lt g7 e1).1; omega)
  refine ⟨h.box.set_ i u, h.ins.kept hg (h1 h.ins), h.out.kept hg (h1 h.out), h.cs.kept hg (.inr fun e1 => ?_), h.le, h.b.setCell h.le u⟩
  exact h.box.ne_own h.cs (by decide) e1.symm
theorem ScIn.nilI (h : ScIn base w wr g7 x ins vi out vo cs vc) : ScIn base w wr g7 x [] (.slice none 0 0) out vo cs vc :=
  ⟨h.box, World.ownsRow_nil _ _ _ _, h.out, h.cs, h.le, h.b⟩
end
theorem scr_step (a : Int) (ins : List UInt8) (cs : List Tc) {k : Nat} (h : k < cs.length) :
    scr a ins (cs.drop k) = if cs[k].1 < 0 then scr a (ins ++ [cs[k].2]) (cs.drop (k + 1)) else scrOne a ins cs[k].1 ++ scr (cs[k].1 + 1) [] (cs.drop (k + 1)) := by
  rw [List.drop_eq_getElem_cons h, scr]
theorem scrOne_len (a : Int) (ins : List UInt8) (k : Int) : (scrOne a ins k).length ≤ 1 := by unfold scrOne; split <;> simp
theorem ScIn.emit {base g7 g10 : Nat} {w wz w6 : World} {x y cc : Array Value} {ins : List UInt8} {vi vo vc v6 : Value} {out : List Ed} {cs : List Tc} {a d : Int} (h : ScIn base w wz g7 x ins vi out vo cs vc) (hk : Blk wz g10 70 y)
    (hg : (wz.drew.alloc (.cells cc 39)).grownBy w6 vo.ownBlock) (ho : w6.ownsRow (g7 + 1) 39 3 v6 (out.length + 1) (edCells out ++ [.int .i64 a, .int .i64 d, .string (S ins)])) :
    ScIn base w w6 g7 x ins vi (out ++ [⟨a, d, ins⟩]) v6 cs vc ∧ Blk w6 g10 70 y := by
  have h1 := h.drew.alloc (.cells cc 39)
  refine ⟨h1.outG hg (by rw [List.length_append, List.length_singleton, edCells_append]; exact ho), ?_⟩
  have h2 := hk.drew.alloc (.cells cc 39)
  exact h2.grown hg (h2.ne_own h1.out (by decide))
def scrE (n : Int) (l : List Tc) : Int := edErr n (scr 0 [] (l ++ [(n, 0)]))
theorem ScIn.start {base : Nat} {w w6 : World} {v : Value} {A6 : Option Addr} {c6 n : Nat} {l : List Tc} {cc : Array Value} (hbase : base ≤ w.heap.size) (ho : w.ownsRow base 70 2 v l.length (tcCells l)) {x : Array Value}
    (hg : ((w.alloc (.cells x 39)).alloc (.cells cc 70)).grownBy w6 v.ownBlock) (hn : w6.ownsRow base 70 2 (.slice A6 (l.length + 1) c6) (l.length + 1) (tcCells l ++ [.int .i64 (n : Int), .int .u8 0])) :
    ScIn base w w6 w.heap.size x [] (.slice none 0 0) [] (.slice none 0 0) (l ++ [((n : Int), 0)]) (.slice A6 (l.length + 1) c6) := by
  have h1 := (ho.alloc (.cells x 39)).alloc (.cells cc 70)
  have hk := (Blk.new_ w 39 x).alloc (.cells cc 70)
  have hb : Below base w ((w.alloc (.cells x 39)).alloc (.cells cc 70)) := ((Below.refl _ _).alloc hbase _).alloc (by simp; omega) _
  refine ⟨hk.grown hg (hk.ne_own h1 (by decide)), World.ownsRow_nil _ _ _ _, World.ownsRow_nil _ _ _ _, ?_, hbase, hb.grown hg (by simp; omega) (fun k hk => (h1.lt k hk).1)⟩
  rw [tcCells_app, tcCells_one, List.length_append, List.length_singleton]
  exact hn
set_option maxRecDepth 100000 in
set_option maxHeartbeats 4000000 in
theorem trimScript_any (n : Nat) (l : List Tc) (base : Nat) (v : Value) (w : World) (hown : w.ownsRow base 70 2 v l.length (tcCells l)) (hbase : base ≤ w.heap.size) (hn : n ≤ 200) (hl : l.length ≤ 200) (hb : ∀ c ∈ l, -1 ≤ c.1 ∧ c.1 < n) :
    Calls Tryd.prog 34 #[.int .i64 (n : Int), v] w fun e w' => ∃ v', e = .returned (.tuple #[v', .int .i64 (scrE n l)]) ∧ (scrE n l ≠ 0 → v' = .slice none 0 0) ∧
      (scrE n l = 0 → w'.ownsRow w.heap.size 39 3 v' (scr 0 [] (l ++ [((n : Int), 0)])).length (edCells (scr 0 [] (l ++ [((n : Int), 0)])))) ∧ Below base w w' := by
  obtain ⟨i0, hi0, hz0, hz1, hz2⟩ := info_parts info_tc
  obtain ⟨j0, hj0, hy0, hy1, hy2⟩ := info_parts info_u8'
  obtain ⟨q0, hq0, hx0, hx1, hx2⟩ := info_parts info_ed
  obtain ⟨A0, c0, rfl, hc0, hcm, _⟩ := own_form hown
  have HO := Lib.hid hown
  have HB : Hid (∀ c ∈ l ++ [((n : Int), (0 : UInt8))], -1 ≤ c.1 ∧ c.1 ≤ n) := fun c hc => by
    rcases List.mem_append.1 hc with h | h
    · have := hb c h; omega
    · rw [List.mem_singleton] at h; subst h; exact ⟨by show (-1 : Int) ≤ n; omega, Int.le_refl _⟩
  clear hown hb
  go_enter Tryd.func34, Tryd.ntmps34
  go_wp2_with (at_builtin; go_must (refine wpList_appG rfl _ _ _ rfl base 70 i0 _ 2 16 Tryd.underlying68 hi0 hz0 hz1 hz2 rfl (by omega) _ l.length (tcCells l) rfl ((HO.out.alloc _).alloc _) ⟨w.heap.size + 1, 0, none⟩ 1 1 [.int .i64 (n : Int), .int .u8 0] rfl rfl (by have := cells_new2 (w.alloc (.cells #[.int .i64 0, .int .i64 0, .string ⟨#[]⟩] 39)) (.int .i64 (n : Int)) (.int .u8 0) 70; rw [World.size_alloc] at this; exact this) (by simp [Value.oneCell']) (by omega) (by omega) (by simp; omega) ?_); intro v6 w6 hown6 hg6 hb6; obtain ⟨A6, c6, rfl, hc6, hcm6, _⟩ := own_form hown6; have HSC := Lib.hid (ScIn.start hbase HO.out hg6 hown6); clear hown6 hg6 hb6)
  have HLN : Hid ((l ++ [((n : Int), (0 : UInt8))]).length = l.length + 1) := by unfold Hid; rw [List.length_append, List.length_singleton]
  have HZE : Hid (scrE n l = edErr n (scr 0 [] (l ++ [((n : Int), 0)]))) := rfl
  have HBASE := Lib.hid hbase
  clear HO hc0 hcm hbase
  generalize hcs : l ++ [((n : Int), (0 : UInt8))] = cs at *
  generalize l.length = nl at *
  have HCS := Lib.hid hcs
  clear hcs
  generalize hg7 : w.heap.size = g7 at *
  have HG7 := Lib.hid hg7
  clear hg7
  go_loopw [6, 8, 19] (fun vo vi i wr => ∃ (k : Nat) (a : Int) (ins : List UInt8) (out : List Ed), k ≤ nl + 1 ∧ i = .int .i64 k ∧ 0 ≤ a ∧ a ≤ 201 ∧ ins.length ≤ k ∧ out.length ≤ k ∧ scr 0 [] cs = out ++ scr a ins (cs.drop k) ∧
    ScIn base w wr g7 #[.int .i64 a, .int .i64 0, .string ⟨#[]⟩] ins vi out vo cs (.slice A6 (nl + 1) c6)) (fun _ _ i _ => nl + 1 - (intOf i).toNat)
  case atStart => exact ⟨0, 0, [], [], by omega, rfl, by omega, by omega, by simp, by simp, by simp, HSC.out⟩
  case round =>
    clear HSC
    obtain ⟨k, a, ins, out, hk, rfl, ha0, ha1, hil, hol, hspl, hS⟩ := hrel
    by_cases hlt : k < nl + 1
    · have g1 : decide ((k : Int) < (nl : Int) + 1) = true := decide_eq_true (by omega)
      have hkl : k < cs.length := by rw [HLN.out]; exact hlt
      have hrd := Rd.of_own (show wr.ownsRow base 70 2 (.slice A6 (nl + 1) c6) (nl + 1) (tcCells cs) by have := hS.cs; rw [HLN.out] at this; exact this)
      obtain ⟨ad, _, rfl, hab, cc0, cc1⟩ := hrd.at_tc hlt
      have HST := Lib.hid (scr_step a ins cs hkl)
      have hcb := HB.out cs[k] (List.getElem_mem hkl)
      have HSP := Lib.hid hspl
      have HS := Lib.hid hS
      have hgz := hS.sz
      clear hspl hS hrd
      generalize cs[k] = ck at *
      obtain ⟨fr, by9⟩ := ck
      simp only at cc0 cc1 HST hcb
      obtain ⟨hc1, hc2⟩ := hcb
      have HS10 := Lib.hid (HS.out.alloc (.cells #[.int .i64 fr, .int .u8 (by9.toNat : Int)] 70))
      have HK10 : Hid (Blk (wr.alloc (.cells #[.int .i64 fr, .int .u8 (by9.toNat : Int)] 70)) wr.heap.size 70 #[.int .i64 fr, .int .u8 (by9.toNat : Int)]) := Blk.new_ _ _ _
      by_cases hneg : fr < 0
      · have g2 : decide (fr < 0) = true := decide_eq_true hneg
        have HNX : Hid (scr 0 [] cs = out ++ scr a (ins ++ [by9]) (cs.drop (k + 1))) := by unfold Hid; rw [HSP.out, HST.out, if_pos hneg]
        clear HSP HST
        go_wp2_with (at_builtin; go_must (refine wpList_appG rfl _ _ _ rfl (g7 + 1) 5 j0 _ 1 1 Tryd.underlying81 hj0 hy0 hy1 hy2 rfl (by omega) _ ins.length (byteCells ins) rfl (HS10.out.ins.alloc _) ⟨wr.heap.size + 1, 0, none⟩ 1 1 [.int .u8 (by9.toNat : Int)] rfl rfl (by have := cell_one_new (wr.alloc (.cells #[.int .i64 fr, .int .u8 (by9.toNat : Int)] 70)) (.int .u8 (by9.toNat : Int)) 5; rw [World.size_alloc] at this; exact this) (by simp [Value.oneCell']) (by omega) (by omega) (by simp; omega) ?_); intro v6 w6 hown6 hg6 hb6)
        have HN : Hid (ScIn base w w6 g7 #[.int .i64 a, .int .i64 0, .string ⟨#[]⟩] (ins ++ [by9]) v6 out u6 cs (.slice (some ad) (nl + 1) c6)) :=
          (HS10.out.alloc _).insG hg6 (by rw [List.length_append, List.length_singleton, show byteCells (ins ++ [by9]) = byteCells ins ++ [.int .u8 (by9.toNat : Int)] from by simp [byteCells]]; exact hown6)
        clear hown6 hg6 hb6 HS10 HK10
        go_roundw
        case rel => exact ⟨k + 1, a, ins ++ [by9], out, by omega, by go_num, ha0, ha1, by rw [List.length_append, List.length_singleton]; omega, by omega, HNX.out, HN.out⟩
        case measure => simp [intOf]; omega
      · have g2 : decide (fr < 0) = false := decide_eq_false hneg
        have HNX : Hid (scr 0 [] cs = (out ++ scrOne a ins fr) ++ scr (fr + 1) [] (cs.drop (k + 1))) := by unfold Hid; rw [HSP.out, HST.out, if_neg hneg, List.append_assoc]
        clear HSP HST
        obtain ⟨fr, rfl⟩ := Int.eq_ofNat_of_zero_le (Int.not_lt.1 hneg)
        obtain ⟨a, rfl⟩ := Int.eq_ofNat_of_zero_le ha0
        clear hneg hc1 ha0
        obtain ⟨AI, cI, rfl, hcI, hcmI, hrdI⟩ := own_form HS10.out.ins
        have HRI := Lib.hid hrdI
        clear hrdI
        have k10 := Blk.cell0 HK10.out
        have k70 := Blk.cell0 HS10.out.box
        have k71 := Blk.cell1 HS10.out.box
        have k72 := Blk.cell2 HS10.out.box
        have f71 := HS10.out.box.frozen 1
        have f72 := HS10.out.box.frozen 2
        go_wp2_with fail
        have hne9 : g7 ≠ wr.heap.size := by omega
        have HNE := Lib.hid hne9
        clear hne9
        generalize wr.alloc (.cells #[.int .i64 (fr : Int), .int .u8 (by9.toNat : Int)] 70) = wq at *
        generalize wr.heap.size = g10 at *
        obtain ⟨F1, hFd⟩ : ∃ F : World → Prop, F = fun w' => w'.cell? ⟨g10, 0, none⟩ = some (.int .i64 (fr : Int)) ∧ w'.cell? ⟨g7, 0, none⟩ = some (.int .i64 (a : Int)) ∧ Rd w' wq.heap.size 1 AI ins.length (byteCells ins) := ⟨_, rfl⟩
        have HF1 := Lib.hid hFd
        clear hFd
        have hcell10 : ∀ p' : Wof F1, p'.w.cell? ⟨g10, 0, none⟩ = some (.int .i64 (fr : Int)) := fun ⟨x, hx⟩ => by rw [HF1.out] at hx; exact hx.1
        have hcell11 : ∀ p' : Wof F1, p'.w.cell? ⟨g7, 0, none⟩ = some (.int .i64 (a : Int)) := fun ⟨x, hx⟩ => by rw [HF1.out] at hx; exact hx.2.1
        have hcell12 : ∀ p' : Wof F1, Rd p'.w wq.heap.size 1 AI ins.length (byteCells ins) := fun ⟨x, hx⟩ => by rw [HF1.out] at hx; exact hx.2.2
        refine wp_region_schedF [(0, true), (1, true), (2, true), (3, true), (4, true), (5, true), (6, true), (7, true), (8, false), (9, true), (10, false)] F1 (by kernel_rfl) (by kernel_rfl) rfl (fun _ _ _ _ _ h => h) (by kernel_rfl) (by rw [HF1.out]; first | trivial | (repeat' apply And.intro) <;> assumption | (simp; done) | (simp [*]; done)) (by rw [HF1.out]; exact fun h => h) ?_
        intro hne1
        simp only [opersOf, List.getElem?_toArray, List.getElem?_cons_succ, List.getElem?_cons_zero]
        have hcv : ∀ p' : Wof F1, (convert 81 9 (.slice AI ins.length cI)).run Tryd.prog p'.w = .ok (.string (S ins)) p'.w := fun p' =>
          run_bytes_string (P := Tryd.prog) p'.w Tryd.underlying81 Tryd.underlying5 Tryd.underlying9 (hcell12 p')
        repeat (first | (refine wpSched_free rfl ?_; intro K hK; go_big_quiet_op; go_big_quiet_on) | (refine wpSched_wantS _ rfl rfl rfl ?_; intro K hK; go_big_quiet_op; go_big_quiet_on) | (refine wpSched_skipS _ rfl rfl rfl rfl ?_; simp only [Act.put, List.setIfInBounds_toArray, List.set_cons_zero, List.set_cons_succ]) | (refine wpSched_skipU _ rfl rfl rfl ?_; simp only [Act.put, List.setIfInBounds_toArray, List.set_cons_zero, List.set_cons_succ]))
        have HS11 := Lib.hid (HS10.out.set_ 1 (.int .i64 ((fr : Int) - (a : Int))))
        have HS12 := Lib.hid (HS11.out.set_ 2 (.string (S ins)))
        have HK12 : Hid (Blk ((wq.setCell ⟨g7, 1, none⟩ (.int .i64 ((fr : Int) - (a : Int)))).setCell ⟨g7, 2, none⟩ (.string (S ins))) g10 70 #[.int .i64 (fr : Int), .int .u8 (by9.toNat : Int)]) :=
          (HK10.out.far (p := ⟨g7, 1, none⟩) (fun e => HNE.out e.symm) _).far (p := ⟨g7, 2, none⟩) (fun e => HNE.out e.symm) _
        have HRB : Hid (Rd (wq.setCell ⟨g7, 1, none⟩ (.int .i64 ((fr : Int) - (a : Int)))) wq.heap.size 1 AI ins.length (byteCells ins) ∧ Rd ((wq.setCell ⟨g7, 1, none⟩ (.int .i64 ((fr : Int) - (a : Int)))).setCell ⟨g7, 2, none⟩ (.string (S ins))) wq.heap.size 1 AI ins.length (byteCells ins)) := by
          obtain ⟨A9, c9, e9, _, _, h8⟩ := own_form HS11.out.ins
          cases e9
          obtain ⟨A9, c9, e9, _, _, h7⟩ := own_form HS12.out.ins
          cases e9
          simp only [World.setCell, Array.size_modify] at h8 h7
          exact ⟨h8, h7⟩
        have hne : g7 ≠ g10 := HNE.out
        have kq10 := World.cell?_setCell_other wq ⟨g7, 1, none⟩ ⟨g10, 0, none⟩ (.int .i64 ((fr : Int) - (a : Int))) (fun e => by injection e with e; omega)
        have kq7 := World.cell?_setCell_other wq ⟨g7, 1, none⟩ ⟨g7, 0, none⟩ (.int .i64 ((fr : Int) - (a : Int))) (by simp)
        have kq72 := World.cell?_setCell_other wq ⟨g7, 1, none⟩ ⟨g7, 2, none⟩ (.int .i64 ((fr : Int) - (a : Int))) (by simp)
        rw [k10] at kq10
        rw [k70] at kq7
        rw [k72] at kq72
        clear hne
        refine wpSched_other ?_
        go_wp2_with fail
        refine sched_back (by rw [HF1.out]; exact ⟨kq10, kq7, HRB.out.1⟩) ?_
        repeat (first | (refine wpSched_free rfl ?_; intro K hK; go_big_quiet_op; go_big_quiet_on) | (refine wpSched_wantS _ rfl rfl rfl ?_; intro K hK; go_big_quiet_op; go_big_quiet_on) | (refine wpSched_skipS _ rfl rfl rfl rfl ?_; simp only [Act.put, List.setIfInBounds_toArray, List.set_cons_zero, List.set_cons_succ]) | (refine wpSched_skipU _ rfl rfl rfl ?_; simp only [Act.put, List.setIfInBounds_toArray, List.set_cons_zero, List.set_cons_succ]))
        refine wpSched_other ?_
        go_wp2_with fail
        have kz10 := Blk.cell0 HK12.out
        have kz0 : ((wq.setCell ⟨g7, 1, none⟩ (.int .i64 ((fr : Int) - (a : Int)))).setCell ⟨g7, 2, none⟩ (.string (S ins))).cell? ⟨g7, 0, none⟩ = some (.int .i64 (a : Int)) := Blk.cell0 HS12.out.box
        have kz1 : ((wq.setCell ⟨g7, 1, none⟩ (.int .i64 ((fr : Int) - (a : Int)))).setCell ⟨g7, 2, none⟩ (.string (S ins))).cell? ⟨g7, 1, none⟩ = some (.int .i64 ((fr : Int) - (a : Int))) := Blk.cell1 HS12.out.box
        have kz2 : ((wq.setCell ⟨g7, 1, none⟩ (.int .i64 ((fr : Int) - (a : Int)))).setCell ⟨g7, 2, none⟩ (.string (S ins))).cell? ⟨g7, 2, none⟩ = some (.string (S ins)) := Blk.cell2 HS12.out.box
        refine sched_back (by rw [HF1.out]; exact ⟨kz10, kz0, HRB.out.2⟩) ?_
        refine wpSched_nil ?_
        have HS13 : Hid (ScIn base w ((wq.setCell ⟨g7, 1, none⟩ (.int .i64 ((fr : Int) - (a : Int)))).setCell ⟨g7, 2, none⟩ (.string (S ins))) g7 #[.int .i64 (a : Int), .int .i64 ((fr : Int) - (a : Int)), .string (S ins)] ins (.slice AI ins.length cI) out u6 cs (.slice (some ad) (nl + 1) c6)) := HS12.out
        clear hcv hcell10 hcell11 hcell12 HF1 hne1 HRB HS10 HS11 HS12 HK10 HRI kq10 kq7 kq72 k10 k70 k71 k72 f71 f72 hcI hcmI
        generalize (wq.setCell ⟨g7, 1, none⟩ (.int .i64 ((fr : Int) - (a : Int)))).setCell ⟨g7, 2, none⟩ (.string (S ins)) = wz at *
        have HZI : Hid ((S ins).toList.isEmpty = decide (ins.length = 0)) := isEmpty_size ins
        rcases Decidable.em (0 < (fr : Int) - (a : Int)) with hd | hd
        · have g3 : decide (0 < (fr : Int) - (a : Int)) = true := decide_eq_true hd
          have g3' : decide ((a : Int) < (fr : Int)) = true := decide_eq_true (by omega)
          have g3'' : decide (a < fr) = true := decide_eq_true (by omega)
          have HONE : Hid (scrOne a ins fr = [⟨a, (fr : Int) - a, ins⟩]) := by unfold Hid scrOne; rw [if_pos (.inl hd)]
          clear hd
          go_wp2_with (at_builtin; go_must (refine wpList_appG rfl _ _ _ rfl (g7 + 1) 39 q0 _ 3 32 Tryd.underlying22 hq0 hx0 hx1 hx2 rfl (by omega) _ out.length (edCells out) rfl (HS13.out.out.drew.alloc _) ⟨wz.heap.size, 0, none⟩ 1 1 [.int .i64 (a : Int), .int .i64 ((fr : Int) - (a : Int)), .string (S ins)] rfl rfl (cells_new3 wz.drew _ _ _ _) (by simp [Value.oneCell']) (by omega) (by omega) (by have := HS13.out.sz; simp; omega) ?_); intro v6 w6 hown6 hg6 hb6; (have hN9 := ScIn.emit HS13.out HK12.out hg6 hown6; have HN := Lib.hid hN9.1; have q10' := Blk.cell0 hN9.2; have q0' := Blk.cell0 HN.out.box; have q1' := Blk.cell1 HN.out.box; have q2' := Blk.cell2 HN.out.box; have r0' := HN.out.box.frozen 0; have r1' := HN.out.box.frozen 1; have r2' := HN.out.box.frozen 2; clear hN9 hown6 hg6 hb6 kz10 kz0 kz1 kz2))
          have HNX2 : Hid (scr 0 [] cs = (out ++ [⟨a, (fr : Int) - a, ins⟩]) ++ scr ((fr : Int) + 1) [] (cs.drop (k + 1))) := by unfold Hid; rw [HNX.out, HONE.out]
          have HNF : Hid (ScIn base w (((w6.setCell ⟨g7, 0, none⟩ (.int .i64 ((fr : Int) + 1))).setCell ⟨g7, 1, none⟩ (.int .i64 0)).setCell ⟨g7, 2, none⟩ (.string ⟨#[]⟩)) g7 #[.int .i64 ((fr : Int) + 1), .int .i64 0, .string ⟨#[]⟩] [] (.slice none 0 0) (out ++ [⟨a, (fr : Int) - a, ins⟩]) v6 cs (.slice (some ad) (nl + 1) c6)) :=
            (((HN.out.set_ 0 (.int .i64 ((fr : Int) + 1))).set_ 1 (.int .i64 0)).set_ 2 (.string ⟨#[]⟩)).nilI
          clear HN HS13 HK12 HNX HONE
          go_roundw
          case rel => exact ⟨k + 1, (fr : Int) + 1, [], _, by omega, by go_num, by omega, by omega, by simp, by rw [List.length_append, List.length_singleton]; omega, HNX2.out, HNF.out⟩
          case measure => simp [intOf]; omega
        · have g3 : decide (0 < (fr : Int) - (a : Int)) = false := decide_eq_false hd
          have g3' : decide ((a : Int) < (fr : Int)) = false := decide_eq_false (by omega)
          have g3'' : decide (a < fr) = false := decide_eq_false (by omega)
          by_cases hi0 : ins = []
          · have HONE : Hid (scrOne a ins fr = []) := by unfold Hid scrOne; rw [if_neg (by rintro (h | h); exact hd h; exact h hi0)]
            have g4 : (S ins).toList.isEmpty = true := by rw [HZI.out, hi0]; rfl
            have g4' : ((S ins).toList == []) = true := by rw [hi0, show (S []).toList = [] from ByteArray.toList_mk []]; rfl
            have HNX2 : Hid (scr 0 [] cs = out ++ scr (fr + 1) [] (cs.drop (k + 1))) := by unfold Hid; rw [HNX.out, HONE.out, List.append_nil]
            have r0' := HS13.out.box.frozen 0
            have r1' := HS13.out.box.frozen 1
            have r2' := HS13.out.box.frozen 2
            have HNF : Hid (ScIn base w (((wz.setCell ⟨g7, 0, none⟩ (.int .i64 ((fr : Int) + 1))).setCell ⟨g7, 1, none⟩ (.int .i64 0)).setCell ⟨g7, 2, none⟩ (.string ⟨#[]⟩)).drew g7 #[.int .i64 ((fr : Int) + 1), .int .i64 0, .string ⟨#[]⟩] [] (.slice none 0 0) out u6 cs (.slice (some ad) (nl + 1) c6)) :=
              (((HS13.out.set_ 0 (.int .i64 ((fr : Int) + 1))).set_ 1 (.int .i64 0)).set_ 2 (.string ⟨#[]⟩)).nilI.drew
            clear hi0 hd HONE HNX HS13 HK12
            go_wp2_with fail
            go_roundw
            case rel => exact ⟨k + 1, (fr : Int) + 1, [], out, by omega, by go_num, by omega, by omega, by simp, by omega, HNX2.out, HNF.out⟩
            case measure => simp [intOf]; omega
          · have HONE : Hid (scrOne a ins fr = [⟨a, (fr : Int) - a, ins⟩]) := by unfold Hid scrOne; rw [if_pos (.inr hi0)]
            have g4 : (S ins).toList.isEmpty = false := by rw [HZI.out]; exact decide_eq_false (fun h => hi0 (List.eq_nil_of_length_eq_zero h))
            have g4' : ((S ins).toList == []) = false := by
              rw [beq_eq_false_iff_ne]; intro h; rw [h] at g4; cases g4
            clear hi0 hd
            go_wp2_with (at_builtin; go_must (refine wpList_appG rfl _ _ _ rfl (g7 + 1) 39 q0 _ 3 32 Tryd.underlying22 hq0 hx0 hx1 hx2 rfl (by omega) _ out.length (edCells out) rfl (HS13.out.out.drew.alloc _) ⟨wz.heap.size, 0, none⟩ 1 1 [.int .i64 (a : Int), .int .i64 ((fr : Int) - (a : Int)), .string (S ins)] rfl rfl (cells_new3 wz.drew _ _ _ _) (by simp [Value.oneCell']) (by omega) (by omega) (by have := HS13.out.sz; simp; omega) ?_); intro v6 w6 hown6 hg6 hb6; (have hN9 := ScIn.emit HS13.out HK12.out hg6 hown6; have HN := Lib.hid hN9.1; have q10' := Blk.cell0 hN9.2; have q0' := Blk.cell0 HN.out.box; have q1' := Blk.cell1 HN.out.box; have q2' := Blk.cell2 HN.out.box; have r0' := HN.out.box.frozen 0; have r1' := HN.out.box.frozen 1; have r2' := HN.out.box.frozen 2; clear hN9 hown6 hg6 hb6 kz10 kz0 kz1 kz2))
            have HNX2 : Hid (scr 0 [] cs = (out ++ [⟨a, (fr : Int) - a, ins⟩]) ++ scr ((fr : Int) + 1) [] (cs.drop (k + 1))) := by unfold Hid; rw [HNX.out, HONE.out]
            have HNF : Hid (ScIn base w (((w6.setCell ⟨g7, 0, none⟩ (.int .i64 ((fr : Int) + 1))).setCell ⟨g7, 1, none⟩ (.int .i64 0)).setCell ⟨g7, 2, none⟩ (.string ⟨#[]⟩)) g7 #[.int .i64 ((fr : Int) + 1), .int .i64 0, .string ⟨#[]⟩] [] (.slice none 0 0) (out ++ [⟨a, (fr : Int) - a, ins⟩]) v6 cs (.slice (some ad) (nl + 1) c6)) :=
              (((HN.out.set_ 0 (.int .i64 ((fr : Int) + 1))).set_ 1 (.int .i64 0)).set_ 2 (.string ⟨#[]⟩)).nilI
            clear HN HS13 HK12 HNX HONE
            go_roundw
            case rel => exact ⟨k + 1, (fr : Int) + 1, [], _, by omega, by go_num, by omega, by omega, by simp, by rw [List.length_append, List.length_singleton]; omega, HNX2.out, HNF.out⟩
            case measure => simp [intOf]; omega
    · obtain rfl : k = nl + 1 := by omega
      have g1 : decide ((nl : Int) + 1 < (nl : Int) + 1) = false := by simp
      have HEQ : Hid (scr 0 [] cs = out) := by
        unfold Hid
        rw [hspl, List.drop_eq_nil_of_le (by rw [HLN.out]; exact Nat.le_refl _), scr, List.append_nil]
      have hz : scrE n l = edErr n out := by rw [HZE.out, HEQ.out]
      have HZ := Lib.hid hz
      obtain ⟨A9, c9, rfl, hc9, hcm9, hrd9⟩ := own_form hS.out
      have HR9 := Lib.hid hrd9
      have HO9 := Lib.hid hS.out
      have HB9 := Lib.hid hS.b
      have hol9 : out.length ≤ 9223372036854775807 := by omega
      have hg79 : g7 ≤ wr.heap.size := Nat.le_of_lt hS.box.lt
      clear hz hrd9 hS hspl hc9 hcm9
      go_wp2_with fail
      refine (edCheck_any n out A9 out.length c9 wr.heap.size wr HR9.out (Nat.le_refl _) hol9).mono ?_
      rintro e w9 ⟨rfl, hb9⟩
      have HO10 := Lib.hid (own_below HO9.out hb9)
      have HB10 : Hid (Below base w w9) := HB9.out.trans (hb9.mono (Nat.le_trans HBASE.out hg79))
      have hg9 := hb9.size
      by_cases he : edErr n out = 0
      · have g2 : (edErr n out != 0) = false := by rw [he]; rfl
        have HE := Lib.hid he
        clear he
        go_wp2_with fail
        go_ret2
        refine ⟨_, by rw [HZ.out, HE.out]; rfl, fun h => absurd (by rw [HZ.out, HE.out]) h, fun _ => ?_, HB10.out⟩
        rw [HCS.out, HEQ.out, HG7.out]
        exact own_lower HO10.out (Nat.le_succ _)
      · have g2 : (edErr n out != 0) = true := by simpa using he
        have HE := Lib.hid he
        clear he
        go_wp2_with fail
        go_ret2
        exact ⟨_, by rw [HZ.out]; rfl, fun _ => rfl, fun h => absurd (by rw [← HZ.out]; exact h) HE.out, HB10.out⟩
end Go.Proofs.YtmikckhihfcooaaDoor
namespace Go.Proofs.YtmikckhihfcooaaDoor
open Go.RowKit
/-- A script that lies somewhere: its slice, and what it reads as. -/
structure Sc where
  A : Option Addr
  n : Nat
  c : Nat
  l : List Ed
deriving Inhabited
def scCell (x : Sc) : List Value := [.slice x.A x.n x.c]
def scCells (l : List Sc) : List Value := l.flatMap scCell
theorem sc_len (x : Sc) : (scCell x).length = 1 := rfl
structure ScOk (w : World) (B : Nat) (x : Sc) : Prop where
  nc : x.n ≤ x.c
  cm : x.c ≤ maxLen
  rd : Rd w B 3 x.A x.n (edCells x.l)
theorem ScOk.below {w w' : World} {B : Nat} {x : Sc} (h : ScOk w B x) (hb : Below B w w') : ScOk w' B x := ⟨h.nc, h.cm, h.rd.below hb⟩
theorem ScOk.len {w : World} {B : Nat} {x : Sc} (h : ScOk w B x) : x.l.length = x.n := Rd.rec_len ed_len (by omega) h.rd
theorem Rd.at_sc {w : World} {B n : Nat} {A : Option Addr} {l : List Sc} (h : Rd w B 1 A n (scCells l)) {k : Nat} (hk : k < n) :
    ∃ ad, ∃ hl : k < l.length, A = some ad ∧ ad.block < B ∧ w.cell? (ad.add k) = some (.slice l[k].A l[k].n l[k].c) := by
  obtain ⟨ad, hl, e, hb, hc⟩ := Rd.at_rec sc_len (by omega) h hk
  have := hc 0 _ rfl
  rw [Nat.mul_one] at this
  exact ⟨ad, hl, e, hb, this⟩
/-- Script by script. -/
def tmGo : List Tc → List (List Ed) → Int × List Tc
  | cs, [] => (0, cs)
  | cs, e :: r => if edErr cs.length e = 0 then tmGo (tApply cs 0 e) r else (edErr cs.length e, [])
def scLists (l : List Sc) : List (List Ed) := l.map (·.l)
def tmAll (n : Nat) (l : List Sc) : Int × List Tc := tmGo (tStart n) (scLists l)
def manyErr (n : Int) (l : List Sc) : Int := if n < 0 ∨ 200 < n then 1 else if 30 < l.length then 2 else if (tmAll n.toNat l).1 ≠ 0 then (tmAll n.toNat l).1 else scrE n (tmAll n.toNat l).2
def manyOut (n : Int) (l : List Sc) : List Ed := scr 0 [] ((tmAll n.toNat l).2 ++ [(n, 0)])
/-- Where the scripts stand. -/
structure TmAt (n : Nat) (l : List Sc) (k : Nat) (cs : List Tc) (wh : List Int) : Prop where
  kl : k ≤ l.length
  eq : tmAll n l = tmGo cs ((scLists l).drop k)
  wh : Wh n cs wh
  sm : cs.length ≤ 200
theorem TmAt.start {n : Nat} (h : n ≤ 200) (l : List Sc) : TmAt n l 0 (tStart n) (wStart n) := ⟨Nat.zero_le _, rfl, Wh.start n, by simpa [tStart] using h⟩
theorem scLists_drop (l : List Sc) {k : Nat} (h : k < l.length) : (scLists l).drop k = l[k].l :: (scLists l).drop (k + 1) := by
  unfold scLists
  rw [List.drop_eq_getElem_cons (by rw [List.length_map]; exact h), List.getElem_map]
theorem TmAt.step {n k : Nat} {l : List Sc} {cs : List Tc} {wh : List Int} (h : TmAt n l k cs wh) (hk : k < l.length) (he : edErr cs.length l[k].l = 0) : TmAt n l (k + 1) (tApply cs 0 l[k].l) (wh.map (wOne l[k].l)) :=
  ⟨hk, by rw [h.eq, scLists_drop l hk, tmGo, if_pos he], h.wh.step he, (tApply_len he).2⟩
theorem TmAt.bad {n k : Nat} {l : List Sc} {cs : List Tc} {wh : List Int} (h : TmAt n l k cs wh) (hk : k < l.length) (he : edErr cs.length l[k].l ≠ 0) (h0 : n ≤ 200) (h1 : l.length ≤ 30) : manyErr n l = edErr cs.length l[k].l := by
  have e : tmAll (n : Int).toNat l = (edErr cs.length l[k].l, []) := by
    rw [Int.toNat_natCast, h.eq, scLists_drop l hk, tmGo, if_neg he]
  unfold manyErr
  rw [if_neg (by omega), if_neg (by omega), e]
  exact if_pos he
theorem TmAt.fin {n : Nat} {l : List Sc} {cs : List Tc} {wh : List Int} (h : TmAt n l l.length cs wh) (h0 : n ≤ 200) (h1 : l.length ≤ 30) : manyErr n l = scrE n cs ∧ manyOut n l = scr 0 [] (cs ++ [((n : Int), 0)]) := by
  have e : tmAll (n : Int).toNat l = (0, cs) := by
    rw [Int.toNat_natCast, h.eq, List.drop_eq_nil_of_le (by simp [scLists]), tmGo]
  unfold manyErr manyOut
  rw [if_neg (by omega), if_neg (by omega), e]
  exact ⟨if_neg (fun h => h rfl), rfl⟩
theorem tStart_snoc (k : Nat) : tStart (k + 1) = tStart k ++ [((k : Int), 0)] := by unfold tStart; rw [List.range_succ, List.map_append]; rfl
theorem tStart_len (k : Nat) : (tStart k).length = k := by simp [tStart]
set_option maxRecDepth 100000 in
set_option maxHeartbeats 4000000 in
theorem trimMany_any (n : Int) (l : List Sc) (A : Option Addr) (m c B : Nat) (w : World) (hr : Rd w B 1 A m (scCells l)) (hq : ∀ x ∈ l, ScOk w B x) (hB : B ≤ w.heap.size) (hm : m ≤ 9223372036854775807) :
    Calls Tryd.prog 17 #[.int .i64 n, .slice A m c] w fun e w' => ∃ v', e = .returned (.tuple #[v', .int .i64 (manyErr n l)]) ∧ (manyErr n l ≠ 0 → v' = .slice none 0 0) ∧
      (manyErr n l = 0 → w'.ownsRow w.heap.size 39 3 v' (manyOut n l).length (edCells (manyOut n l))) ∧ Below w.heap.size w w' := by
  obtain ⟨i0, hi0, hz0, hz1, hz2⟩ := info_parts info_tc
  have hlen := Rd.rec_len sc_len (by omega) hr
  have HR := Lib.hid hr; clear hr
  have HQ := Lib.hid hq; clear hq
  have HL := Lib.hid hlen; clear hlen
  by_cases h0 : n < 0
  · have g1 : decide (n < 0) = true := decide_eq_true h0
    have HE : Hid (manyErr n l = 1) := by unfold Hid manyErr; rw [if_pos (.inl h0)]
    go_enter Tryd.func17, Tryd.ntmps17
    go_wp2_with fail
    go_ret2
    exact ⟨_, by rw [HE.out]; rfl, fun _ => rfl, fun h => by rw [HE.out] at h; (cases h), Below.refl _ _⟩
  have g1 : decide (n < 0) = false := decide_eq_false h0
  by_cases h2 : 200 < n
  · have g2 : decide (200 < n) = true := decide_eq_true h2
    have HE : Hid (manyErr n l = 1) := by unfold Hid manyErr; rw [if_pos (.inr h2)]
    go_enter Tryd.func17, Tryd.ntmps17
    go_wp2_with fail
    go_ret2
    exact ⟨_, by rw [HE.out]; rfl, fun _ => rfl, fun h => by rw [HE.out] at h; (cases h), Below.refl _ _⟩
  obtain ⟨n, rfl⟩ := Int.eq_ofNat_of_zero_le (Int.not_lt.1 h0)
  have g2 : decide ((200 : Int) < (n : Int)) = false := decide_eq_false h2
  have g2' : decide (200 < n) = false := decide_eq_false (by omega)
  have hn : n ≤ 200 := by omega
  by_cases h3 : 30 < m
  · have g3 : decide ((30 : Int) < (m : Int)) = true := decide_eq_true (by omega)
    have g3' : decide (30 < m) = true := decide_eq_true h3
    have HE : Hid (manyErr n l = 2) := by unfold Hid manyErr; rw [if_neg (by omega), if_pos (by rw [HL.out]; exact h3)]
    clear h0 h2
    go_enter Tryd.func17, Tryd.ntmps17
    go_wp2_with fail
    go_ret2
    exact ⟨_, by rw [HE.out]; rfl, fun _ => rfl, fun h => by rw [HE.out] at h; (cases h), Below.refl _ _⟩
  have g3 : decide ((30 : Int) < (m : Int)) = false := decide_eq_false (by omega)
  have g3' : decide (30 < m) = false := decide_eq_false h3
  have hm30 : m ≤ 30 := by omega
  have HSN : Hid (∀ k, tcCells (tStart k) ++ [.int .i64 (k : Int), .int .u8 0] = tcCells (tStart (k + 1))) := fun k => by rw [tStart_snoc, tcCells_app, tcCells_one]; rfl
  clear h0 h2 h3
  go_enter Tryd.func17, Tryd.ntmps17
  go_wp2_with fail
  go_loopw [6, 21] (fun o i wr => ∃ k : Nat, k ≤ n ∧ i = .int .i64 k ∧ wr.ownsRow w.heap.size 70 2 o k (tcCells (tStart k)) ∧ Below w.heap.size w wr) (fun _ i _ => n - (intOf i).toNat)
  case atStart => exact ⟨0, Nat.zero_le _, rfl, World.ownsRow_nil _ _ _ _, Below.refl _ _⟩
  case round =>
    obtain ⟨k, hk, rfl, ho, hb⟩ := hrel
    have HO := Lib.hid ho
    clear ho
    by_cases hlt : k < n
    · have g4 : decide ((k : Int) < (n : Int)) = true := decide_eq_true (by omega)
      have hbs := hb.size
      go_wp2_with (at_builtin; go_must (refine wpList_appG rfl _ _ _ rfl w.heap.size 70 i0 _ 2 16 Tryd.underlying68 hi0 hz0 hz1 hz2 rfl (by omega) _ k (tcCells (tStart k)) rfl (HO.out.alloc _) ⟨wr.heap.size, 0, none⟩ 1 1 [.int .i64 (k : Int), .int .u8 0] rfl rfl (cells_new2 _ _ _ _) (by simp [Value.oneCell']) (by omega) (by omega) (by simp; omega) ?_); intro v6 w6 hown6 hg6 hb6)
      rw [HSN.out] at hown6
      have HO6 := Lib.hid hown6
      have hb6' := (hb.alloc hbs _).trans hb6
      clear hown6 hg6 hb6
      go_roundw
      case rel => exact ⟨k + 1, by omega, by go_num, HO6.out, hb6'⟩
      case measure => simp [intOf]; omega
    · obtain rfl : k = n := by omega
      have g4 : decide ((k : Int) < (k : Int)) = false := by simp
      have HT := Lib.hid (TmAt.start hn l)
      go_wp2_with fail
      go_loopw [6, 32] (fun o i wr' => ∃ (j : Nat) (cs : List Tc) (wh : List Int), TmAt k l j cs wh ∧ i = .int .i64 j ∧ wr'.ownsRow w.heap.size 70 2 o cs.length (tcCells cs) ∧ Below w.heap.size w wr') (fun _ i _ => m - (intOf i).toNat)
      case atStart => exact ⟨0, _, _, HT.out, rfl, by rw [tStart_len]; exact HO.out, hb⟩
      case round =>
        clear HT HO hb
        obtain ⟨j, cs, wh, hT, rfl, ho, hb⟩ := hrel
        have hj := hT.kl
        rw [HL.out] at hj
        have hsm := hT.sm
        have HT := Lib.hid hT
        obtain ⟨A5, c5, rfl, hc5, hcm5, hrd5⟩ := own_form ho
        have HO := Lib.hid ho
        have HR5 := Lib.hid hrd5
        have hbs := hb.size
        clear hT ho hrd5
        by_cases hlj : j < m
        · have g5 : decide ((j : Int) < (m : Int)) = true := decide_eq_true (by omega)
          obtain ⟨ad, hl, rfl, hab, cc⟩ := (HR.out.below (hb.mono hB)).at_sc hlj
          have hok := (HQ.out _ (List.getElem_mem hl)).below (hb.mono hB)
          have HOK := Lib.hid hok
          have hnm : l[j].n ≤ 9223372036854775807 := by have h1 := hok.nc; have h2 := hok.cm; unfold maxLen at h2; omega
          have HST := Lib.hid (HT.out.step hl)
          have HBD : Hid (edErr cs.length l[j].l ≠ 0 → manyErr k l = edErr cs.length l[j].l) := fun h => HT.out.bad hl h hn (by rw [HL.out]; exact hm30)
          clear hok
          generalize l[j] = x at *
          obtain ⟨xA, xn, xc, xl⟩ := x
          simp only at cc hnm HST HBD
          go_wp2_with fail
          refine (edCheck_any cs.length xl xA xn xc B _ HOK.out.rd (Nat.le_trans hB hbs) hnm).mono ?_
          rintro e w2 ⟨rfl, hb2⟩
          have hb2' := bthen hb hb2
          by_cases he : edErr cs.length xl = 0
          · have g6 : (edErr cs.length xl != 0) = false := by rw [he]; rfl
            have HST2 := Lib.hid (HST.out he)
            have HE := Lib.hid he
            have hs2 := hb2.size
            clear HST HBD he
            go_wp2_with fail
            refine (trimApply_any cs A5 cs.length c5 xl xA xn xc w2.heap.size w2 ((HR5.out.below hb2).more hs2) ((HOK.out.rd.below (hb2.mono (Nat.le_trans hB hbs))).more (Nat.le_trans hB (Nat.le_trans hbs hs2))) (Nat.le_refl _) hc5 hcm5 HE.out).mono ?_
            rintro e w3 ⟨v3, rfl, hown3, hb3⟩
            have HO3 := Lib.hid (own_lower hown3 (Nat.le_trans hbs hs2))
            have hb3' := bthen hb2' hb3
            clear hown3 hb3
            go_wp2_with fail
            go_roundw
            case rel => exact ⟨j + 1, _, _, HST2.out, by go_num, HO3.out, hb3'⟩
            case measure => simp [intOf]; omega
          · have g6 : (edErr cs.length xl != 0) = true := by simpa using he
            have HE2 := Lib.hid (HBD.out he)
            have HE := Lib.hid he
            clear HST HBD he
            go_wp2_with fail
            go_ret2
            exact ⟨_, by rw [HE2.out]; rfl, fun _ => rfl, fun h => absurd (by rw [← HE2.out]; exact h) HE.out, hb2'⟩
        · obtain rfl : j = m := by omega
          have g5 : decide ((j : Int) < (j : Int)) = false := by simp
          have hT2 : TmAt k l l.length cs wh := by have := HT.out; rw [HL.out]; exact this
          obtain ⟨hf1, hf2⟩ := hT2.fin hn (by rw [HL.out]; exact hm30)
          have HF1 := Lib.hid hf1
          have HF2 := Lib.hid hf2
          have HLT : Hid (∀ c ∈ cs, -1 ≤ c.1 ∧ c.1 < k) := fun c hc => ⟨HT.out.wh.lo _ (List.mem_map_of_mem hc), HT.out.wh.lt _ (List.mem_map_of_mem hc)⟩
          clear hT2 hf1 hf2
          go_wp2_with fail
          refine (trimScript_any k cs w.heap.size _ wr HO.out hbs hn hsm HLT.out).mono ?_
          rintro e w2 ⟨v2, rfl, hv0, hv1, hb2⟩
          have HV0 := Lib.hid hv0
          have HV1 := Lib.hid hv1
          have hb2' := hb.trans hb2
          clear hv0 hv1 hb2
          go_wp2_with fail
          go_ret2
          refine ⟨_, by rw [HF1.out]; rfl, fun h => HV0.out (by rw [← HF1.out]; exact h), fun h => ?_, hb2'⟩
          rw [HF2.out]
          exact own_lower (HV1.out (by rw [← HF1.out]; exact h)) hbs
end Go.Proofs.YtmikckhihfcooaaDoor
