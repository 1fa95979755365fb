/- code.Make. A block that is known whole, and a world in which one block alone has turned. A table of rows of numbers that the call makes ([][]int). -/
import Derived.Test.YtncakjchaniheaaDoorPk07
import Derived.Test.YtncakjchaniheaaDoorPk03
namespace Go.Proofs.YtncakjchaniheaaDoor
open Go.RowKit
def nInts (ns : List Nat) : List Int := ns.map fun (n : Nat) => (n : Int)
theorem share_nat (m : Nat) (h : m ≤ 12) : share (m : Int) = ((2 ^ (12 - m) : Nat) : Int) := by
  unfold share
  rw [show (12 - (m : Int)).toNat = 12 - m by omega, Int.natCast_pow]; rfl
theorem lensGo_nat {l : List Int} : ∀ {s x : Int}, lensGo s l = (x, 0) → ∃ ns : List Nat, l = nInts ns ∧ (∀ m ∈ ns, 1 ≤ m ∧ m ≤ 12) ∧ x = s + (total ns : Nat) := by
  induction l with
  | nil =>
    intro s x h
    simp only [lensGo, Prod.mk.injEq] at h
    exact ⟨[], rfl, by simp, by simp [total, h.1]⟩
  | cons n r ih =>
    intro s x h
    rw [lensGo] at h
    by_cases hn : n < 1 ∨ 12 < n
    · rw [if_pos hn] at h; simp at h
    · rw [if_neg hn] at h
      obtain ⟨m, rfl⟩ := Int.eq_ofNat_of_zero_le (show 0 ≤ n by omega)
      obtain ⟨ns, rfl, h1, h2⟩ := ih h
      refine ⟨m :: ns, rfl, ?_, ?_⟩
      · intro y hy
        rcases List.mem_cons.1 hy with rfl | hy
        · omega
        · exact h1 y hy
      · rw [h2, share_nat m (by omega)]
        simp only [total]
        omega
theorem lensErr_nat {l : List Int} {x : Int} (h : lensErr l = (x, 0)) : ∃ ns : List Nat, l = nInts ns ∧ (∀ m ∈ ns, 1 ≤ m ∧ m ≤ 12) ∧ ns.length ≤ 12 ∧ x = (total ns : Nat) := by
  unfold lensErr at h
  by_cases h12 : 12 < l.length
  · rw [if_pos h12] at h; simp at h
  · rw [if_neg h12] at h
    obtain ⟨ns, rfl, h1, h2⟩ := lensGo_nat h
    exact ⟨ns, rfl, h1, by simpa [nInts] using h12, by omega⟩
theorem nInts_len (ns : List Nat) : (nInts ns).length = ns.length := by simp [nInts]
theorem nInts_get (ns : List Nat) (k : Nat) (h : k < (nInts ns).length) : (nInts ns)[k] = ((ns.getD k 0 : Nat) : Int) := by
  have h2 : k < ns.length := by rwa [nInts_len] at h
  simp [nInts, List.getD_eq_getElem?_getD, List.getElem?_eq_getElem h2]
theorem pow_shr (n : Nat) (h : n ≤ 12) : (12 - (n : Int)).toNat = 12 - n := by omega
theorem made_one (z : Value) (hz : z.cells = #[z]) (m : Nat) : (madeCells z.cells (m * 1)).toList = List.replicate m z := by
  rw [hz]
  apply List.ext_getElem
  · simp [size_madeCells]
  · intro j h1 h2
    simp [madeCells, Nat.mod_one]
theorem pw_bd (n : Nat) : 1 ≤ 2 ^ (12 - n) ∧ 2 ^ (12 - n) ≤ 4096 := ⟨Nat.one_le_two_pow, Nat.le_trans (Nat.pow_le_pow_right (by omega) (Nat.sub_le _ _)) (by decide)⟩
theorem pw_add (a n : Nat) (h : a ≤ 4096) : wrap64 ((a : Int) + wrap64 (2 ^ (12 - n))) = ((a + 2 ^ (12 - n) : Nat) : Int) := by
  have hp := pw_bd n
  have e : (2 : Int) ^ (12 - n) = ((2 ^ (12 - n) : Nat) : Int) := by rw [Int.natCast_pow]; rfl
  rw [e, IntWalk.wrap64_in ((2 ^ (12 - n) : Nat) : Int) ⟨by omega, by omega⟩, IntWalk.wrap64_in _ ⟨by omega, by omega⟩]; omega
theorem div_cast (a n : Nat) : (a : Int) / 2 ^ n = ((a / 2 ^ n : Nat) : Int) := by rw [Int.natCast_ediv, Int.natCast_pow]; rfl
set_option maxRecDepth 100000 in
set_option maxHeartbeats 2000000 in
theorem coMake_any (ns : List Nat) (x : Int) (A : Option Addr) (m c B : Nat) (w : World) (hr : Rd w B 1 A m (ints (nInts ns))) (hB : B ≤ w.heap.size) (hE : lensErr (nInts ns) = (x, 0)) (hns : ∀ m ∈ ns, 1 ≤ m ∧ m ≤ 12) (h12 : ns.length ≤ 12) (hx : x = (total ns : Nat)) (ht : total ns ≤ 4096) :
    Calls Tryd.prog 22 #[.slice A m c] w fun e w' => ∃ v, e = .returned (.tuple #[v, .int .i64 0]) ∧ w'.ownsRow w.heap.size 9 1 v m (strCells (codesL ns)) ∧ Below w.heap.size w w' := by
  obtain ⟨i0, hi0, hz0, hz1, hz2⟩ := info_parts info_str
  have hlen := ints_len hr
  rw [nInts_len] at hlen
  have hm12 : m ≤ 12 := by omega
  have HR := Lib.hid hr; clear hr
  have HL := Lib.hid hlen; clear hlen
  have HE := Lib.hid hE; clear hE
  have HX := Lib.hid hx; clear hx
  have HNS := Lib.hid hns; clear hns
  go_enter Tryd.func22, Tryd.ntmps22
  go_wp2_with fail
  refine (coSum_any (nInts ns) A m c B w HR.out (by omega)).mono ?_
  rintro e w1 ⟨rfl, hb1⟩
  rw [HE.out, HX.out]
  have g1 : decide ((4096 : Int) < ((total ns : Nat) : Int)) = false := decide_eq_false (by omega)
  go_wp2_with (at_make; go_must (refine wpList_make_full _ rfl _ _ _ rfl w.heap.size 9 i0 _ 1 Tryd.underlying30 hi0 hz0 hz1 .i64 .i64 _ _ m rfl rfl rfl rfl (by rw [hz2]; omega) (by unfold maxLen; omega) hb1.size ?_); intro w2 hown2 hg2)
  have hb2 : Below w.heap.size w w2 := hb1.grown hg2 hb1.size (fun _ h => by cases h)
  have hgz : w.heap.size ≤ w1.heap.size := hb1.size
  have hown2 : w2.ownsRow w.heap.size 9 1 (.slice (some ⟨w1.heap.size, 0, none⟩) m m) m (strCells (outAt ns 1 0)) := by
    rw [outAt_one (fun y hy => (HNS.out y hy).1), HL.out]
    have e : strCells (List.replicate m []) = List.replicate m (.string ByteArray.empty) := by rw [strCells, List.map_replicate]; rfl
    rw [made_one _ rfl] at hown2
    rw [e]; exact hown2
  clear hg2 hb1
  generalize w1.heap.size = g at *
  go_loopw [7, 8] (fun nxt n wr => ∃ n' : Nat, 1 ≤ n' ∧ n' ≤ 13 ∧ n = .int .i64 n' ∧ nxt = .int .i64 (nx ns n' 0 : Nat) ∧ wr.ownsRow w.heap.size 9 1 (.slice (some ⟨g, 0, none⟩) m m) m (strCells (outAt ns n' 0)) ∧ Below w.heap.size w wr) (fun _ n _ => 13 - (intOf n).toNat)
  case atStart => exact ⟨1, Nat.le_refl _, by omega, rfl, by rw [nx_one (fun y hy => (HNS.out y hy).1)]; rfl, hown2, hb2⟩
  case round =>
    obtain ⟨n, hn1, hn13, rfl, rfl, hown, hb⟩ := hrel
    by_cases hn12 : n ≤ 12
    · have g12 : decide ((n : Int) ≤ 12) = true := decide_eq_true (by omega)
      go_wp2_with fail
      go_loopw [7, 30] (fun nxt i wr => ∃ k : Nat, k ≤ m ∧ i = .int .i64 k ∧ nxt = .int .i64 (nx ns n k : Nat) ∧ wr.ownsRow w.heap.size 9 1 (.slice (some ⟨g, 0, none⟩) m m) m (strCells (outAt ns n k)) ∧ Below w.heap.size w wr) (fun _ i _ => m - (intOf i).toNat)
      case atStart => exact ⟨0, Nat.zero_le _, rfl, rfl, hown, hb⟩
      case round =>
        obtain ⟨k, hk, rfl, rfl, hown, hb⟩ := hrel
        have hbs := hb.size
        by_cases hlt : k < m
        · obtain ⟨ad, hl, rfl, hab, c0⟩ := int_cell (HR.out.below (hb.mono hB)) hlt
          rw [nInts_get] at c0
          by_cases hkn : ns.getD k 0 = n
          · rw [hkn] at c0
            have hq : nx ns n k + 2 ^ (12 - n) ≤ 4096 := by
              have h1 := nx_hit (ns := ns) (n := n) (i := k) (by rw [← hkn, List.getD_eq_getElem?_getD, List.getElem?_eq_getElem (by rw [HL.out]; exact hlt)]; rfl)
              have h2 := nx_le ns n (k + 1)
              omega
            have hW : Hid (bw (nx ns n k / 2 ^ (12 - n)) n = wdAt ns k) := by unfold Hid wdAt; rw [hkn]
            have hOH := Lib.hid (outAt_hit (ns := ns) (n := n) (i := k) hkn)
            have hNH := Lib.hid (nx_hit (ns := ns) (n := n) (i := k) (by rw [← hkn, List.getD_eq_getElem?_getD, List.getElem?_eq_getElem (by rw [HL.out]; exact hlt)]; rfl))
            have hp := pw_bd n
            have hnx : nx ns n k < 4096 := by omega
            clear hkn
            go_wp2_with fail
            rw [div_cast]
            refine (bits_any (nx ns n k / 2 ^ (12 - n)) n (Nat.lt_of_le_of_lt (Nat.div_le_self _ _) hnx) hn12 _).mono ?_
            rintro e w4 ⟨rfl, hb4⟩
            rw [hW.out]
            have hown4 := own_below hown hb4
            have hB4 := bthen hb hb4
            have k0 := hown4.cellAt k (by omega)
            rw [strCells_at _ _ (by rw [outAt_len, HL.out]; exact hlt)] at k0
            have k1 := hown4.frozenAt k
            have hs4 := hB4.size
            have hst := (hown4.stored k (.string (S (wdAt ns k)))).1
            have hgb : w.heap.size ≤ g := (hown4.lt g rfl).1
            rw [← strCells_set, ← hOH.out] at hst
            have HST := Lib.hid hst
            clear hst hown hown4
            generalize (outAt ns n k).getD k [] = old at *
            generalize wdAt ns k = wk at *
            go_wp2_with fail
            go_roundw
            case rel => exact ⟨k + 1, by omega, by go_num, by rw [pw_add _ _ (by omega), hNH.out], HST.out, (by repeat (first | exact Below.refl _ _ | assumption | refine Below.alloc ?_ (by first | exact Nat.le_refl _ | assumption | omega | (simp <;> omega)) _ | refine Below.setCell ?_ (by first | exact Nat.le_refl _ | assumption | omega | (simp <;> omega)) _ | refine Below.drew ?_ | refine below_drewN ?_ _))⟩
            case measure => simp [intOf]; omega
          · have hOM := Lib.hid (outAt_miss (ns := ns) (n := n) (i := k) hkn)
            have hNM := Lib.hid (nx_miss (ns := ns) (n := n) (i := k) (fun h => hkn (by rw [List.getD_eq_getElem?_getD, h]; rfl)))
            have g2 : (((ns.getD k 0 : Nat) : Int) == (n : Int)) = false := by rw [beq_eq_false_iff_ne]; omega
            clear hkn
            generalize ns.getD k 0 = q at *
            go_wp2_with fail
            go_roundw
            case rel => exact ⟨k + 1, by omega, by go_num, by rw [hNM.out], by rw [hOM.out]; exact hown, hb⟩
            case measure => simp [intOf]; omega
        · obtain rfl : k = m := by omega
          have hNN : Hid (nx ns (n + 1) 0 = nx ns n k) := by unfold Hid; rw [nx_next, HL.out]
          have hON : Hid (outAt ns (n + 1) 0 = outAt ns n k) := by unfold Hid; rw [outAt_next, HL.out]
          go_wp2_with fail
          go_roundw
          case rel => exact ⟨n + 1, by omega, by omega, by go_num, by rw [hNN.out], by rw [hON.out]; exact hown, hb⟩
          case measure => simp [intOf]; omega
    · obtain rfl : n = 13 := by omega
      have hOE : Hid (outAt ns 13 0 = codesL ns) := outAt_end (fun y hy => (HNS.out y hy).2)
      go_wp2_with fail
      go_ret2
      exact ⟨_, rfl, by rw [← hOE.out]; exact hown, hb⟩
end Go.Proofs.YtncakjchaniheaaDoor
namespace Go.Proofs.YtncakjchaniheaaDoor
open Go.RowKit
/-- Block g is these cells. -/
def Blk (w : World) (g : Nat) (t : TypeId) (cs : Array Value) : Prop := w.heap[g]? = some (.cells cs t (0, 0))
section
variable {w w' : World} {g : Nat} {t : TypeId} {cs : Array Value}
theorem Blk.lt (h : Blk w g t cs) : g < w.heap.size := (Array.getElem?_eq_some_iff.1 h).1
theorem Blk.cell (h : Blk w g t cs) (i : Nat) : w.cell? ⟨g, i, none⟩ = cs[i]? := cell_of_row w g i cs t (0, 0) h
theorem Blk.cell0 {a : Value} {r : List Value} (h : Blk w g t ⟨a :: r⟩) : w.cell? ⟨g, 0, none⟩ = some a := h.cell 0
theorem Blk.cell1 {a b : Value} {r : List Value} (h : Blk w g t ⟨a :: b :: r⟩) : w.cell? ⟨g, 1, none⟩ = some b := h.cell 1
theorem Blk.cell2 {a b c : Value} {r : List Value} (h : Blk w g t ⟨a :: b :: c :: r⟩) : w.cell? ⟨g, 2, none⟩ = some c := h.cell 2
theorem Blk.frozen (h : Blk w g t cs) (i : Nat) : w.frozen? ⟨g, i, none⟩ = false := by
  unfold Blk at h
  simp [World.frozen?, h]
theorem Blk.new_ (w : World) (t : TypeId) (cs : Array Value) : Blk (w.alloc (.cells cs t)) w.heap.size t cs := heap_alloc_new w _
theorem Blk.drew (h : Blk w g t cs) : Blk w.drew g t cs := h
theorem Blk.drewN (h : Blk w g t cs) (n : Nat) : Blk (w.drewN n) g t cs := h
theorem Blk.below {B : Nat} (h : Blk w g t cs) (hb : Below B w w') (hg : g < B) : Blk w' g t cs := (hb.block g hg).trans h
theorem Blk.below' (h : Blk w g t cs) (hb : Below w.heap.size w w') : Blk w' g t cs := h.below hb h.lt
theorem Blk.alloc (h : Blk w g t cs) (o : Obj) : Blk (w.alloc o) g t cs := h.below' ((Below.refl _ _).alloc (Nat.le_refl _) _)
theorem Blk.set_ (h : Blk w g t cs) (i : Nat) (u : Value) : Blk (w.setCell ⟨g, i, none⟩ u) g t (cs.setIfInBounds i u) := by
  unfold Blk at h ⊢
  simp [World.setCell, Array.getElem?_modify, h]
theorem Blk.far (h : Blk w g t cs) {p : Addr} (hp : g ≠ p.block) (u : Value) : Blk (w.setCell p u) g t cs := (Below.heap_setCell w p u g hp).trans h
theorem Blk.grown {row : Option Nat} (h : Blk w g t cs) (hb : w.grownBy w' row) (hg : some g ≠ row) : Blk w' g t cs := (hb.block g h.lt hg).trans h
end
section
variable {w w' w2 : World} {row : Option Nat} {g : Nat}
theorem gb_refl (w : World) (row : Option Nat) : w.grownBy w row := ⟨rfl, rfl, rfl, Nat.le_refl _, fun _ _ _ => rfl⟩
theorem gb_trans (h : w.grownBy w' row) (k : w'.grownBy w2 row) : w.grownBy w2 row :=
  ⟨k.os.trans h.os, k.tape.trans h.tape, k.output.trans h.output, Nat.le_trans h.size k.size, fun i hi hr => (k.block i (Nat.lt_of_lt_of_le hi h.size) hr).trans (h.block i hi hr)⟩
theorem gb_of_below (h : Below w.heap.size w w') (row : Option Nat) : w.grownBy w' row := ⟨h.os, h.tape, h.output, h.size, fun k hk _ => h.block k hk⟩
theorem gb_below (h : w.grownBy w' row) (k : Below w'.heap.size w' w2) : w.grownBy w2 row := gb_trans h (gb_of_below k row)
theorem gb_set (h : w.grownBy w' (some g)) (i : Nat) (u : Value) : w.grownBy (w'.setCell ⟨g, i, none⟩ u) (some g) :=
  gb_trans h ⟨rfl, rfl, rfl, by simp [World.setCell], fun k _ hk => Below.heap_setCell w' ⟨g, i, none⟩ u k (fun e => hk (by rw [e]))⟩
theorem gb_alloc (h : w.grownBy w' row) (o : Obj) : w.grownBy (w'.alloc o) row := gb_below h ((Below.refl _ _).alloc (Nat.le_refl _) _)
theorem gb_drewN (h : w.grownBy w' row) (n : Nat) : w.grownBy (w'.drewN n) row := gb_below h (below_drewN (Below.refl _ _) _)
theorem gb_drew (h : w.grownBy w' row) : w.grownBy w'.drew row := gb_below h (Below.drew (Below.refl _ _))
theorem below_gb {base : Nat} {a : World} (h : Below base a w) (hg : w.grownBy w' (some g)) (hb : base ≤ g) (hs : base ≤ w.heap.size) : Below base a w' :=
  h.grown hg hs (fun k hk => by cases hk; exact hb)
end
end Go.Proofs.YtncakjchaniheaaDoor
namespace Go.Proofs.YtncakjchaniheaaDoor
open Go.RowKit
/-- An array of numbers of the call's own. -/
def ArrI (w : World) (base g n : Nat) (l : List Int) : Prop := w.ownsRow base 3 1 (.slice (some ⟨g, 0, none⟩) n n) n (ints l)
theorem ints_getD (l : List Int) (k : Nat) (h : k < l.length) : (ints l)[k]? = some (.int .i64 (l.getD k 0)) := by
  rw [ints, List.getElem?_map, List.getD_eq_getElem?_getD, List.getElem?_eq_getElem h]; rfl
theorem ints_set (l : List Int) (k : Nat) (v : Int) : ints (l.set k v) = (ints l).set k (.int .i64 v) := by simp [ints, List.map_set]
section
variable {w w' : World} {base g n : Nat} {l : List Int}
theorem ArrI.len (h : ArrI w base g n l) : l.length = n := by have := h.1; simpa [ints] using this
theorem ArrI.at_ (h : ArrI w base g n l) {k : Nat} (hk : k < n) : w.cell? ⟨g, k, none⟩ = some (.int .i64 (l.getD k 0)) := by
  have := h.len
  rw [World.ownsRow.cellAt h k (by omega), ints_getD l k (by omega)]
theorem ArrI.free (h : ArrI w base g n l) (k : Nat) : w.frozen? ⟨g, k, none⟩ = false := World.ownsRow.frozenAt h k
theorem ArrI.set_ (h : ArrI w base g n l) (k : Nat) (v : Int) : ArrI (w.setCell ⟨g, k, none⟩ (.int .i64 v)) base g n (l.set k v) := by
  have := (World.ownsRow.stored h k (.int .i64 v)).1
  unfold ArrI; rw [ints_set]; exact this
theorem ArrI.lt (h : ArrI w base g n l) : base ≤ g ∧ g < w.heap.size := World.ownsRow.lt h g rfl
theorem ArrI.below (h : ArrI w base g n l) (hb : Below w.heap.size w w') : ArrI w' base g n l := own_below h hb
theorem ArrI.kept {row : Option Nat} (h : ArrI w base g n l) (hg : w.grownBy w' row) (hne : some g ≠ row) : ArrI w' base g n l := World.ownsRow.kept h hg (.inr hne)
theorem ArrI.drewN (h : ArrI w base g n l) (k : Nat) : ArrI (w.drewN k) base g n l := h
end
/-- A table: its rows lie in the blocks G i, i among E. -/
structure Tab (w : World) (base gT n m : Nat) (E : Nat → Prop) (G : Nat → Nat) (R : Nat → List Int) : Prop where
  top : ∃ xs, w.ownsRow base 25 1 (.slice (some ⟨gT, 0, none⟩) n n) n xs ∧ ∀ i, E i → xs[i]? = some (.slice (some ⟨G i, 0, none⟩) m m)
  row : ∀ i, E i → ArrI w base (G i) m (R i)
  lt : ∀ i, E i → i < n
  inj : ∀ i j, E i → E j → G i = G j → i = j
section
variable {w w' : World} {base gT n m : Nat} {E : Nat → Prop} {G : Nat → Nat} {R : Nat → List Int}
theorem Tab.ptr (h : Tab w base gT n m E G R) {i : Nat} (hi : E i) : w.cell? ⟨gT, i, none⟩ = some (.slice (some ⟨G i, 0, none⟩) m m) := by
  obtain ⟨xs, h1, h2⟩ := h.top
  rw [h1.cellAt i (by have := h.lt i hi; omega), h2 i hi]
theorem Tab.gT_lt (h : Tab w base gT n m E G R) : base ≤ gT ∧ gT < w.heap.size := by
  obtain ⟨xs, h1, _⟩ := h.top
  exact h1.lt gT rfl
theorem Tab.ne (h : Tab w base gT n m E G R) {i : Nat} (hi : E i) : gT ≠ G i := by
  obtain ⟨xs, h1, _⟩ := h.top
  have := own_ne h1 (h.row i hi) (by decide)
  simpa [Value.ownBlock] using this
theorem Tab.below (h : Tab w base gT n m E G R) (hb : Below w.heap.size w w') : Tab w' base gT n m E G R := by
  obtain ⟨xs, h1, h2⟩ := h.top
  exact ⟨⟨xs, own_below h1 hb, h2⟩, fun i hi => (h.row i hi).below hb, h.lt, h.inj⟩
theorem Tab.drewN (h : Tab w base gT n m E G R) (k : Nat) : Tab (w.drewN k) base gT n m E G R := h.below (below_drewN (Below.refl _ _) _)
theorem Tab.slot (h : Tab w base gT n m E G R) {i : Nat} (hi : i < n) : ∃ u, w.cell? ⟨gT, i, none⟩ = some u ∧ w.frozen? ⟨gT, i, none⟩ = false := by
  obtain ⟨xs, h1, _⟩ := h.top
  have hl : xs.length = n := by have := h1.1; omega
  exact ⟨xs[i], by rw [h1.cellAt i (by omega), List.getElem?_eq_getElem (by omega)], h1.frozenAt i⟩
theorem Tab.congr {E' : Nat → Prop} (h : Tab w base gT n m E G R) (e : ∀ j, E j ↔ E' j) : Tab w base gT n m E' G R := by
  obtain rfl : E = E' := funext fun j => propext (e j)
  exact h
/-- A store into a row. -/
theorem Tab.set_ (h : Tab w base gT n m E G R) {i : Nat} (hi : E i) (k : Nat) (v : Int) :
    Tab (w.setCell ⟨G i, k, none⟩ (.int .i64 v)) base gT n m E G (fun j => if j = i then (R i).set k v else R j) := by
  obtain ⟨xs, h1, h2⟩ := h.top
  have hg : w.grownBy (w.setCell ⟨G i, k, none⟩ (.int .i64 v)) (some (G i)) := gb_set (gb_refl _ _) _ _
  refine ⟨⟨xs, h1.kept hg (.inr (by simpa [Value.ownBlock] using h.ne hi)), h2⟩, fun j hj => ?_, h.lt, h.inj⟩
  by_cases hji : j = i
  · subst hji; simp only [if_true]; exact (h.row j hj).set_ k v
  · simp only [hji, if_false]
    exact (h.row j hj).kept hg (fun e => hji (h.inj j i hj hi (by simpa using e)))
/-- A new row. -/
theorem Tab.add (h : Tab w base gT n m E G R) {i g : Nat} {l : List Int} (hi : ¬ E i) (hin : i < n) (hrow : ArrI w base g m l) (hg : ∀ j, E j → G j ≠ g) :
    Tab (w.setCell ⟨gT, i, none⟩ (.slice (some ⟨g, 0, none⟩) m m)) base gT n m (fun j => j = i ∨ E j) (fun j => if j = i then g else G j) (fun j => if j = i then l else R j) := by
  obtain ⟨xs, h1, h2⟩ := h.top
  have hgb : w.grownBy (w.setCell ⟨gT, i, none⟩ (.slice (some ⟨g, 0, none⟩) m m)) (some gT) := gb_set (gb_refl _ _) _ _
  have hxl : xs.length = n := by have := h1.1; omega
  have hng : gT ≠ g := by
    have := own_ne h1 hrow (by decide)
    simpa [Value.ownBlock] using this
  refine ⟨⟨xs.set i (.slice (some ⟨g, 0, none⟩) m m), (h1.stored i _).1, fun j hj => ?_⟩, fun j hj => ?_, fun j hj => ?_, fun j k hj hk e => ?_⟩
  · by_cases hji : j = i
    · subst hji; simp only [if_true]
      rw [List.getElem?_set_self (by omega)]
    · simp only [hji, if_false]
      rw [List.getElem?_set_ne (fun e => hji e.symm)]
      exact h2 j (hj.resolve_left hji)
  · by_cases hji : j = i
    · subst hji; simp only [if_true]; exact hrow.kept hgb (fun e => hng (by simpa using e.symm))
    · simp only [hji, if_false]
      exact (h.row j (hj.resolve_left hji)).kept hgb (fun e => h.ne (hj.resolve_left hji) (by simpa using e.symm))
  · rcases hj with rfl | hj
    · exact hin
    · exact h.lt j hj
  · by_cases hji : j = i
    · by_cases hki : k = i
      · omega
      · exfalso
        simp only [hji, if_true, hki, if_false] at e
        exact hg k (hk.resolve_left hki) e.symm
    · by_cases hki : k = i
      · exfalso
        simp only [hji, if_false, hki, if_true] at e
        exact hg j (hj.resolve_left hji) e
      · simp only [hji, if_false, hki] at e
        exact h.inj j k (hj.resolve_left hji) (hk.resolve_left hki) e
end
theorem info_int : (Tryd.prog.info? 3).map (fun i => (i.zero, i.size, i.bytes)) = some (some (.int .i64 0), 1, 8) := by kernel_rfl
theorem info_row : (Tryd.prog.info? 25).map (fun i => (i.zero, i.size, i.bytes)) = some (some (.slice none 0 0), 1, 24) := by kernel_rfl
theorem made_ints (m : Nat) : (madeCells (Value.cells (.int .i64 0)) (m * 1)).toList = ints (List.replicate m 0) := by
  rw [made_one _ rfl]; simp [ints]
theorem Tab.start {w : World} {base gT n : Nat} {xs : List Value} (h : w.ownsRow base 25 1 (.slice (some ⟨gT, 0, none⟩) n n) n xs) (m : Nat) (G : Nat → Nat) (R : Nat → List Int) : Tab w base gT n m (fun _ => False) G R :=
  ⟨⟨xs, h, fun _ h => h.elim⟩, fun _ h => h.elim, fun _ h => h.elim, fun _ _ h => h.elim⟩
end Go.Proofs.YtncakjchaniheaaDoor
