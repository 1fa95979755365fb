/- code.Make. A table of rows of numbers that the call makes ([][]int). turn.Put: the order of the turns, as its function tells it, and the walk. -/
import Derived.Test.YtncakjchaniheaaPk06
import Derived.Test.YtncakjchaniheaaPk07
import Derived.Test.YtncakjchaniheaaPk08
import Derived.Test.YtncakjchaniheaaPk02
import Derived.Test.YtncakjchaniheaaSortF
import Derived.Test.YtncakjchaniheaaShelf
import Derived.Test.YtncakjchaniheaaPk01
import Derived.Lib.OwnBridge
import Derived.Shelf.SlSortCmp.Xorshift
import Derived.Test.YtncakjchaniheaaPk04
import Derived.Lib.QuietBelow
namespace Go.Proofs.Ytncakjchaniheaa
open Go.RowKit
def nInts (ns : List Nat) : List Int := ns.map fun (n : Nat) => (n : Int)
theorem share_nat (m : Nat) (h : m ≤ 12) : share (m : Int) = ((2 ^ (12 - m) : Nat) : Int) := by
  unfold share
  rw [show (12 - (m : Int)).toNat = 12 - m by omega, Int.natCast_pow]; rfl
theorem lensGo_nat {l : List Int} : ∀ {s x : Int}, lensGo s l = (x, 0) → ∃ ns : List Nat, l = nInts ns ∧ (∀ m ∈ ns, 1 ≤ m ∧ m ≤ 12) ∧ x = s + (total ns : Nat) := by
  induction l with
  | nil =>
    intro s x h
    simp only [lensGo, Prod.mk.injEq] at h
    exact ⟨[], rfl, by simp, by simp [total, h.1]⟩
  | cons n r ih =>
    intro s x h
    rw [lensGo] at h
    by_cases hn : n < 1 ∨ 12 < n
    · rw [if_pos hn] at h; simp at h
    · rw [if_neg hn] at h
      obtain ⟨m, rfl⟩ := Int.eq_ofNat_of_zero_le (show 0 ≤ n by omega)
      obtain ⟨ns, rfl, h1, h2⟩ := ih h
      refine ⟨m :: ns, rfl, ?_, ?_⟩
      · intro y hy
        rcases List.mem_cons.1 hy with rfl | hy
        · omega
        · exact h1 y hy
      · rw [h2, share_nat m (by omega)]
        simp only [total]
        omega
theorem lensErr_nat {l : List Int} {x : Int} (h : lensErr l = (x, 0)) : ∃ ns : List Nat, l = nInts ns ∧ (∀ m ∈ ns, 1 ≤ m ∧ m ≤ 12) ∧ ns.length ≤ 12 ∧ x = (total ns : Nat) := by
  unfold lensErr at h
  by_cases h12 : 12 < l.length
  · rw [if_pos h12] at h; simp at h
  · rw [if_neg h12] at h
    obtain ⟨ns, rfl, h1, h2⟩ := lensGo_nat h
    exact ⟨ns, rfl, h1, by simpa [nInts] using h12, by omega⟩
theorem nInts_len (ns : List Nat) : (nInts ns).length = ns.length := by simp [nInts]
theorem nInts_get (ns : List Nat) (k : Nat) (h : k < (nInts ns).length) : (nInts ns)[k] = ((ns.getD k 0 : Nat) : Int) := by
  have h2 : k < ns.length := by rwa [nInts_len] at h
  simp [nInts, List.getD_eq_getElem?_getD, List.getElem?_eq_getElem h2]
theorem pow_shr (n : Nat) (h : n ≤ 12) : (12 - (n : Int)).toNat = 12 - n := by omega
theorem made_one (z : Value) (hz : z.cells = #[z]) (m : Nat) : (madeCells z.cells (m * 1)).toList = List.replicate m z := by
  rw [hz]
  apply List.ext_getElem
  · simp [size_madeCells]
  · intro j h1 h2
    simp [madeCells, Nat.mod_one]
theorem pw_bd (n : Nat) : 1 ≤ 2 ^ (12 - n) ∧ 2 ^ (12 - n) ≤ 4096 := ⟨Nat.one_le_two_pow, Nat.le_trans (Nat.pow_le_pow_right (by omega) (Nat.sub_le _ _)) (by decide)⟩
theorem pw_add (a n : Nat) (h : a ≤ 4096) : wrap64 ((a : Int) + wrap64 (2 ^ (12 - n))) = ((a + 2 ^ (12 - n) : Nat) : Int) := by
  have hp := pw_bd n
  have e : (2 : Int) ^ (12 - n) = ((2 ^ (12 - n) : Nat) : Int) := by rw [Int.natCast_pow]; rfl
  rw [e, IntWalk.wrap64_in ((2 ^ (12 - n) : Nat) : Int) ⟨by omega, by omega⟩, IntWalk.wrap64_in _ ⟨by omega, by omega⟩]; omega
theorem div_cast (a n : Nat) : (a : Int) / 2 ^ n = ((a / 2 ^ n : Nat) : Int) := by rw [Int.natCast_ediv, Int.natCast_pow]; rfl
end Go.Proofs.Ytncakjchaniheaa
namespace Go.Proofs.Ytncakjchaniheaa
open Go.RowKit
/-- An array of numbers of the call's own. -/
def ArrI (w : World) (base g n : Nat) (l : List Int) : Prop := w.ownsRow base 3 1 (.slice (some ⟨g, 0, none⟩) n n) n (ints l)
theorem ints_getD (l : List Int) (k : Nat) (h : k < l.length) : (ints l)[k]? = some (.int .i64 (l.getD k 0)) := by
  rw [ints, List.getElem?_map, List.getD_eq_getElem?_getD, List.getElem?_eq_getElem h]; rfl
theorem ints_set (l : List Int) (k : Nat) (v : Int) : ints (l.set k v) = (ints l).set k (.int .i64 v) := by simp [ints, List.map_set]
section
variable {w w' : World} {base g n : Nat} {l : List Int}
theorem ArrI.len (h : ArrI w base g n l) : l.length = n := by have := h.1; simpa [ints] using this
theorem ArrI.at_ (h : ArrI w base g n l) {k : Nat} (hk : k < n) : w.cell? ⟨g, k, none⟩ = some (.int .i64 (l.getD k 0)) := by
  have := h.len
  rw [World.ownsRow.cellAt h k (by omega), ints_getD l k (by omega)]
theorem ArrI.free (h : ArrI w base g n l) (k : Nat) : w.frozen? ⟨g, k, none⟩ = false := World.ownsRow.frozenAt h k
theorem ArrI.set_ (h : ArrI w base g n l) (k : Nat) (v : Int) : ArrI (w.setCell ⟨g, k, none⟩ (.int .i64 v)) base g n (l.set k v) := by
  have := (World.ownsRow.stored h k (.int .i64 v)).1
  unfold ArrI; rw [ints_set]; exact this
theorem ArrI.lt (h : ArrI w base g n l) : base ≤ g ∧ g < w.heap.size := World.ownsRow.lt h g rfl
theorem ArrI.below (h : ArrI w base g n l) (hb : Below w.heap.size w w') : ArrI w' base g n l := own_below h hb
theorem ArrI.kept {row : Option Nat} (h : ArrI w base g n l) (hg : w.grownBy w' row) (hne : some g ≠ row) : ArrI w' base g n l := World.ownsRow.kept h hg (.inr hne)
theorem ArrI.drewN (h : ArrI w base g n l) (k : Nat) : ArrI (w.drewN k) base g n l := h
end
/-- A table: its rows lie in the blocks G i, i among E. -/
structure Tab (w : World) (base gT n m : Nat) (E : Nat → Prop) (G : Nat → Nat) (R : Nat → List Int) : Prop where
  top : ∃ xs, w.ownsRow base 37 1 (.slice (some ⟨gT, 0, none⟩) n n) n xs ∧ ∀ i, E i → xs[i]? = some (.slice (some ⟨G i, 0, none⟩) m m)
  row : ∀ i, E i → ArrI w base (G i) m (R i)
  lt : ∀ i, E i → i < n
  inj : ∀ i j, E i → E j → G i = G j → i = j
section
variable {w w' : World} {base gT n m : Nat} {E : Nat → Prop} {G : Nat → Nat} {R : Nat → List Int}
theorem Tab.ptr (h : Tab w base gT n m E G R) {i : Nat} (hi : E i) : w.cell? ⟨gT, i, none⟩ = some (.slice (some ⟨G i, 0, none⟩) m m) := by
  obtain ⟨xs, h1, h2⟩ := h.top
  rw [h1.cellAt i (by have := h.lt i hi; omega), h2 i hi]
theorem Tab.gT_lt (h : Tab w base gT n m E G R) : base ≤ gT ∧ gT < w.heap.size := by
  obtain ⟨xs, h1, _⟩ := h.top
  exact h1.lt gT rfl
theorem Tab.ne (h : Tab w base gT n m E G R) {i : Nat} (hi : E i) : gT ≠ G i := by
  obtain ⟨xs, h1, _⟩ := h.top
  have := own_ne h1 (h.row i hi) (by decide)
  simpa [Value.ownBlock] using this
theorem Tab.below (h : Tab w base gT n m E G R) (hb : Below w.heap.size w w') : Tab w' base gT n m E G R := by
  obtain ⟨xs, h1, h2⟩ := h.top
  exact ⟨⟨xs, own_below h1 hb, h2⟩, fun i hi => (h.row i hi).below hb, h.lt, h.inj⟩
theorem Tab.drewN (h : Tab w base gT n m E G R) (k : Nat) : Tab (w.drewN k) base gT n m E G R := h.below (below_drewN (Below.refl _ _) _)
theorem Tab.slot (h : Tab w base gT n m E G R) {i : Nat} (hi : i < n) : ∃ u, w.cell? ⟨gT, i, none⟩ = some u ∧ w.frozen? ⟨gT, i, none⟩ = false := by
  obtain ⟨xs, h1, _⟩ := h.top
  have hl : xs.length = n := by have := h1.1; omega
  exact ⟨xs[i], by rw [h1.cellAt i (by omega), List.getElem?_eq_getElem (by omega)], h1.frozenAt i⟩
theorem Tab.congr {E' : Nat → Prop} (h : Tab w base gT n m E G R) (e : ∀ j, E j ↔ E' j) : Tab w base gT n m E' G R := by
  obtain rfl : E = E' := funext fun j => propext (e j)
  exact h
/-- A store into a row. -/
theorem Tab.set_ (h : Tab w base gT n m E G R) {i : Nat} (hi : E i) (k : Nat) (v : Int) :
    Tab (w.setCell ⟨G i, k, none⟩ (.int .i64 v)) base gT n m E G (fun j => if j = i then (R i).set k v else R j) := by
  obtain ⟨xs, h1, h2⟩ := h.top
  have hg : w.grownBy (w.setCell ⟨G i, k, none⟩ (.int .i64 v)) (some (G i)) := gb_set (gb_refl _ _) _ _
  refine ⟨⟨xs, h1.kept hg (.inr (by simpa [Value.ownBlock] using h.ne hi)), h2⟩, fun j hj => ?_, h.lt, h.inj⟩
  by_cases hji : j = i
  · subst hji; simp only [if_true]; exact (h.row j hj).set_ k v
  · simp only [hji, if_false]
    exact (h.row j hj).kept hg (fun e => hji (h.inj j i hj hi (by simpa using e)))
/-- A new row. -/
theorem Tab.add (h : Tab w base gT n m E G R) {i g : Nat} {l : List Int} (hi : ¬ E i) (hin : i < n) (hrow : ArrI w base g m l) (hg : ∀ j, E j → G j ≠ g) :
    Tab (w.setCell ⟨gT, i, none⟩ (.slice (some ⟨g, 0, none⟩) m m)) base gT n m (fun j => j = i ∨ E j) (fun j => if j = i then g else G j) (fun j => if j = i then l else R j) := by
  obtain ⟨xs, h1, h2⟩ := h.top
  have hgb : w.grownBy (w.setCell ⟨gT, i, none⟩ (.slice (some ⟨g, 0, none⟩) m m)) (some gT) := gb_set (gb_refl _ _) _ _
  have hxl : xs.length = n := by have := h1.1; omega
  have hng : gT ≠ g := by
    have := own_ne h1 hrow (by decide)
    simpa [Value.ownBlock] using this
  refine ⟨⟨xs.set i (.slice (some ⟨g, 0, none⟩) m m), (h1.stored i _).1, fun j hj => ?_⟩, fun j hj => ?_, fun j hj => ?_, fun j k hj hk e => ?_⟩
  · by_cases hji : j = i
    · subst hji; simp only [if_true]
      rw [List.getElem?_set_self (by omega)]
    · simp only [hji, if_false]
      rw [List.getElem?_set_ne (fun e => hji e.symm)]
      exact h2 j (hj.resolve_left hji)
  · by_cases hji : j = i
    · subst hji; simp only [if_true]; exact hrow.kept hgb (fun e => hng (by simpa using e.symm))
    · simp only [hji, if_false]
      exact (h.row j (hj.resolve_left hji)).kept hgb (fun e => h.ne (hj.resolve_left hji) (by simpa using e.symm))
  · rcases hj with rfl | hj
    · exact hin
    · exact h.lt j hj
  · by_cases hji : j = i
    · by_cases hki : k = i
      · omega
      · exfalso
        simp only [hji, if_true, hki, if_false] at e
        exact hg k (hk.resolve_left hki) e.symm
    · by_cases hki : k = i
      · exfalso
        simp only [hji, if_false, hki, if_true] at e
        exact hg j (hj.resolve_left hji) e
      · simp only [hji, if_false, hki] at e
        exact h.inj j k (hj.resolve_left hji) (hk.resolve_left hki) e
end
theorem info_int : (Try.prog.info? 3).map (fun i => (i.zero, i.size, i.bytes)) = some (some (.int .i64 0), 1, 8) := by kernel_rfl
theorem info_row : (Try.prog.info? 37).map (fun i => (i.zero, i.size, i.bytes)) = some (some (.slice none 0 0), 1, 24) := by kernel_rfl
theorem made_ints (m : Nat) : (madeCells (Value.cells (.int .i64 0)) (m * 1)).toList = ints (List.replicate m 0) := by
  rw [made_one _ rfl]; simp [ints]
theorem Tab.start {w : World} {base gT n : Nat} {xs : List Value} (h : w.ownsRow base 37 1 (.slice (some ⟨gT, 0, none⟩) n n) n xs) (m : Nat) (G : Nat → Nat) (R : Nat → List Int) : Tab w base gT n m (fun _ => False) G R :=
  ⟨⟨xs, h, fun _ h => h.elim⟩, fun _ h => h.elim, fun _ h => h.elim, fun _ _ h => h.elim⟩
end Go.Proofs.Ytncakjchaniheaa
namespace Go.Proofs.Ytncakjchaniheaa
open Go.RowKit Go.Sort Go.Proofs
theorem rot_ext (s : ByteArray) {i : Nat} (hi : i ≤ s.size) : ((s ++ s).extract i (i + s.size)).data.toList = rotT (L s) i := by
  have h := L_extract (s ++ s) i (i + s.size)
  have e : L (s ++ s) = L s ++ L s := L_append s s
  have h2 : L ((s ++ s).extract i (i + s.size)) = rotT (L s) i := by
    rw [h, e, List.drop_append_of_le_length (by rw [L_len]; exact hi), show i + s.size - i = s.size by omega, List.take_append, List.length_drop, L_len]
    unfold rotT
    rw [List.take_of_length_le (by rw [List.length_drop, L_len]; omega), show s.size - (s.size - i) = i by omega]
  exact h2
def cmpT (s : List UInt8) (x y : Nat) : Int := if Lib.compareBytes (rotT s x) (rotT s y) ≠ 0 then Lib.compareBytes (rotT s x) (rotT s y) else (x : Int) - (y : Int)
set_option maxHeartbeats 2000000 in
theorem turnCmp_any (s : ByteArray) (B2 B i k : Nat) (hs : s.size ≤ 200) (hi : i ≤ s.size) (hk : k ≤ s.size) (W : World) (hc2 : W.cell? ⟨B2, 0, none⟩ = some (.string (s ++ s))) (hc : W.cell? ⟨B, 0, none⟩ = some (.string s)) :
    Calls Try.prog 13 #[.int .i64 (i : Int), .int .i64 (k : Int), .pointer (some ⟨B2, 0, none⟩), .pointer (some ⟨B, 0, none⟩)] W fun e w' => e = .returned (.int .i64 (cmpT (L s) i k)) ∧ ∃ q, w' = W.drewN q := by
  have hz2 : (s ++ s).size = s.size + s.size := ByteArray.size_append
  have HX := Lib.hid (rot_ext s hi)
  have HY := Lib.hid (rot_ext s hk)
  have HC := fun w => Lib.hid (Try.strings_Compare ((s ++ s).extract i (i + s.size)) ((s ++ s).extract k (k + s.size)) w)
  rw [HX.out, HY.out] at HC
  obtain ⟨T, hT⟩ : ∃ T, s ++ s = T := ⟨_, rfl⟩
  rw [hT] at hc2 hz2 HC
  have hz : i + s.size ≤ T.size := by omega
  have hz' : k + s.size ≤ T.size := by omega
  have hTz : T.size ≤ 400 := by omega
  clear hT hz2 HX HY
  have HV : Hid (cmpT (L s) i k = if Lib.compareBytes (rotT (L s) i) (rotT (L s) k) ≠ 0 then Lib.compareBytes (rotT (L s) i) (rotT (L s) k) else (i : Int) - (k : Int)) := rfl
  generalize Lib.compareBytes (rotT (L s) i) (rotT (L s) k) = z at *
  by_cases h0 : z = 0
  · have hv : cmpT (L s) i k = (i : Int) - (k : Int) := by rw [HV.out, if_neg (by simp [h0])]
    have HV2 := Lib.hid hv
    subst h0
    clear HV hv
    go_enter Try.func13, Try.ntmps13
    go_wp2_with fail
    go_quiet ((go_at_call 14; exact Calls.quiet_of_same (HC _).out))
    go_wp2_with fail
    go_ret
    rw [HV2.out]
    exact ⟨rfl, _, rfl⟩
  · have hv : cmpT (L s) i k = z := by rw [HV.out, if_pos h0]
    have HV2 := Lib.hid hv
    have g1 : (z != (0 : Int)) = true := by rw [bne_iff_ne]; exact h0
    have g2 : (z == (0 : Int)) = false := by rw [beq_eq_false_iff_ne]; exact h0
    clear HV hv h0
    go_enter Try.func13, Try.ntmps13
    go_wp2_with fail
    go_quiet ((go_at_call 14; exact Calls.quiet_of_same (HC _).out))
    go_wp2_with fail
    go_ret
    rw [HV2.out]
    exact ⟨rfl, _, rfl⟩
open Go.RowKit Go.Sort Go.Proofs
def idxT (n k : Nat) : List Int := (List.range n).map fun j => if j < k then (j : Int) else 0
theorem idxT_zero (n : Nat) : idxT n 0 = List.replicate n 0 := by
  apply List.ext_getElem
  · simp [idxT]
  · intro j h1 h2; simp [idxT]
theorem idxT_set (n k : Nat) : (idxT n k).set k (k : Int) = idxT n (k + 1) := by
  apply List.ext_getElem
  · simp [idxT]
  · intro j h1 h2
    rw [List.getElem_set]
    simp only [idxT, List.getElem_map, List.getElem_range]
    by_cases e : k = j
    · subst e; rw [if_pos rfl, if_pos (by omega)]
    · rw [if_neg e]
      by_cases h3 : j < k
      · rw [if_pos h3, if_pos (by omega)]
      · rw [if_neg h3, if_neg (by omega)]
def turnI (s : List UInt8) : List Int := (turnO s).map fun (k : Nat) => (k : Int)
theorem turnI_at (s : List UInt8) {k : Nat} (h : k < s.length) : (turnI s).getD k 0 = ((turnO s).getD k 0 : Nat) := by
  unfold turnI
  rw [List.getD_eq_getElem?_getD, List.getElem?_map, List.getD_eq_getElem?_getD, List.getElem?_eq_getElem (by rw [turnO_len]; exact h)]; rfl
section
variable (s : List UInt8) (n : Nat)
def finT : List (Fin (n + 1)) := (List.range n).map (Fin.ofNat (n + 1))
def encT (x : Fin (n + 1)) : Value := .int .i64 (x.val : Int)
def cfT (x y : Fin (n + 1)) : Int := cmpT s x.val y.val
theorem cmpB_ltT : ∀ a b : List UInt8, (Lib.compareBytes a b < 0 ↔ a < b) ∧ (Lib.compareBytes a b = 0 ↔ a = b)
  | [], [] => by simp [Lib.compareBytes]
  | [], _ :: _ => by simp [Lib.compareBytes]
  | _ :: _, [] => by simp [Lib.compareBytes]
  | x :: a, y :: b => by
    unfold Lib.compareBytes
    by_cases h1 : x < y
    · have h3 : x ≠ y := fun e => by subst e; exact UInt8.lt_irrefl _ h1
      simp [h1, h3, List.cons_lt_cons_iff]
    · by_cases h2 : y < x
      · have h3 : x ≠ y := fun e => by subst e; exact h1 h2
        simp [h1, h2, h3, List.cons_lt_cons_iff]
      · have h3 : x = y := UInt8.le_antisymm (UInt8.not_lt.1 h2) (UInt8.not_lt.1 h1)
        subst h3
        simp only [h1, if_false, List.cons_lt_cons_iff, false_or, true_and, List.cons.injEq]
        exact cmpB_ltT a b
theorem ltT_cmp (x y : Fin (n + 1)) : ltOf (cfT s n) x y = decide (ltT s x.val y.val) := by
  show decide (cmpT s x.val y.val < 0) = _
  obtain ⟨h1, h2⟩ := cmpB_ltT (rotT s x.val) (rotT s y.val)
  rw [Bool.eq_iff_iff, decide_eq_true_iff, decide_eq_true_iff]
  unfold cmpT ltT
  by_cases h0 : Lib.compareBytes (rotT s x.val) (rotT s y.val) = 0
  · have e := h2.1 h0
    rw [if_neg (by simp [h0])]
    constructor
    · intro h; exact .inr ⟨e, by omega⟩
    · rintro (h | ⟨_, h⟩)
      · rw [e] at h; exact absurd h (List.lt_irrefl _)
      · omega
  · rw [if_pos h0, h1]
    constructor
    · exact .inl
    · rintro (h | ⟨e, _⟩)
      · exact h
      · exact absurd (h2.2 e) h0
theorem swoT : SWO (ltOf (cfT s n)) where
  irrefl x := by rw [ltT_cmp]; exact decide_eq_false (ltT_irrefl _ _)
  trans x y z h1 h2 := by
    rw [ltT_cmp, decide_eq_true_iff] at *
    exact ltT_trans h1 h2
  ntrans x y z h1 h2 := by
    rw [ltT_cmp, decide_eq_false_iff_not] at *
    intro h3
    by_cases h4 : ltT s y.val z.val
    · exact h2 h4
    · by_cases h5 : ltT s z.val y.val
      · exact h1 (ltT_trans h3 h5)
      · have := ltT_tri h4 h5
        rw [this] at h1
        exact h1 h3
theorem totT (x y : Fin (n + 1)) (h1 : ltOf (cfT s n) x y = false) (h2 : ltOf (cfT s n) y x = false) : x = y := by
  rw [ltT_cmp, decide_eq_false_iff_not] at *
  exact Fin.ext (ltT_tri h1 h2)
theorem finT_len : (finT n).length = n := by simp [finT]
theorem finT_val : (finT n).map (fun x => x.val) = List.range n := by
  unfold finT
  rw [List.map_map]
  conv => rhs; rw [← List.map_id (List.range n)]
  apply List.map_congr_left
  intro i hi
  rw [List.mem_range] at hi
  show i % (n + 1) = i
  exact Nat.mod_eq_of_lt (by omega)
theorem finT_enc : (finT n).map (encT n) = ints (idxT n n) := by
  have h := congrArg (List.map fun (k : Nat) => Value.int .i64 (k : Int)) (finT_val n)
  rw [List.map_map] at h
  have e : ints (idxT n n) = (List.range n).map fun (k : Nat) => Value.int .i64 (k : Int) := by
    unfold ints idxT
    rw [List.map_map]
    apply List.map_congr_left
    intro i hi
    rw [List.mem_range] at hi
    show Value.int .i64 (if i < n then (i : Int) else 0) = _
    rw [if_pos hi]
  rw [e, ← h]; rfl
theorem sortT_enc (hn : n = s.length) : ((finT n).mergeSort fun x y => !(ltOf (cfT s n)) y x).map (encT n) = ints (turnI s) := by
  have h1 : ((finT n).mergeSort fun x y => !(ltOf (cfT s n)) y x).map (fun x => x.val) = turnO s := by
    rw [List.map_mergeSort (s := fun x y => decide (¬ ltT s y x)), finT_val, hn]
    · rfl
    · intro a _ b _
      rw [ltT_cmp, Bool.eq_iff_iff]
      simp
  have h := congrArg (List.map fun (k : Nat) => Value.int .i64 (k : Int)) h1
  rw [List.map_map] at h
  have e : ints (turnI s) = (turnO s).map fun (k : Nat) => Value.int .i64 (k : Int) := by
    unfold ints turnI; rw [List.map_map]; rfl
  rw [e, ← h]; rfl
end
theorem below_growT (w : World) (os : Array Obj) : Below w.heap.size w (Go.Sort.grow w os) :=
  ⟨rfl, rfl, rfl, by simp, fun k hk => heap_grow_old _ _ hk⟩
theorem turnSort_any (s : ByteArray) (hs : s.size ≤ 200) (w0 w : World) (B2 B g : Nat) (hB2 : B2 < w.heap.size) (hg2 : B2 ≠ g) (hB : B < w0.heap.size) (hc2 : w.cell? ⟨B2, 0, none⟩ = some (.string (s ++ s))) (hc : w.cell? ⟨B, 0, none⟩ = some (.string s)) (hrow : ArrI w w0.heap.size g s.size (idxT s.size s.size)) (hb : Below w0.heap.size w0 w) :
    Calls Try.prog 12 #[.slice (some ⟨g, 0, none⟩) s.size s.size, .func (.func 13) #[] #[.pointer (some ⟨B2, 0, none⟩), .pointer (some ⟨B, 0, none⟩)]] w fun e w' => e = .returned (.tuple #[]) ∧ ArrI w' w0.heap.size g s.size (turnI (L s)) ∧ w'.cell? ⟨B2, 0, none⟩ = some (.string (s ++ s)) ∧ Below w0.heap.size w0 w' := by
  have hg := hrow.lt
  have hrow' : w.ownsRow w0.heap.size 3 1 (.slice (some ⟨g, 0, none⟩) s.size s.size) s.size ((finT s.size).map (encT s.size)) := by rw [finT_enc]; exact hrow
  obtain ⟨g', cap', hv, _, _, _, _, _, hH⟩ := Lib.holds_of_ownsRow hrow' (by intro h; cases h)
  obtain rfl : g = g' := by cases hv; rfl
  have hcell2 : ∀ m os dk, (sortWorld (encT s.size) w g 0 m dk os).cell? ⟨B2, 0, none⟩ = some (.string (s ++ s)) := fun m os dk => by
    unfold sortWorld
    rw [cell?_grow _ _ _ (by simp; exact hB2), cell?_putRow_other _ _ _ _ _ _ (.inl (show B2 ≠ g from hg2))]
    exact hc2
  have hcmp : CmpLays1 Try.prog 13 #[.pointer (some ⟨B2, 0, none⟩), .pointer (some ⟨B, 0, none⟩)] (encT s.size) (cfT (L s) s.size) g 0 (finT s.size).toArray.size w := by
    intro m os dk hdk x y
    refine (turnCmp_any s B2 B x.val y.val hs (by have := x.isLt; omega) (by have := y.isLt; omega) _ (hcell2 _ _ _) ?_).mono ?_
    · unfold sortWorld
      rw [cell?_grow _ _ _ (by simp; have := hb.size; omega), cell?_putRow_other _ _ _ _ _ _ (.inl (show B ≠ g by omega))]
      exact hc
    · rintro e w' ⟨rfl, q, rfl⟩
      exact ⟨rfl, q, #[], (grow_empty _).symm⟩
  have h := Any.slices_SortFunc_total Try.laysSF45 (encT s.size) (fun _ => rfl) (cfT (L s) s.size) (swoT _ _) 13 #[.pointer (some ⟨B2, 0, none⟩), .pointer (some ⟨B, 0, none⟩)] g 0 s.size (finT s.size).toArray w (enters_of Try.func13 (by kernel_rfl) rfl) hcmp hH hg.2 (by simp [finT_len]; omega) (totT _ _)
  rw [List.size_toArray, finT_len] at h
  refine h.mono ?_
  rintro e w' ⟨rfl, q, os, rfl⟩
  have hl : ((finT s.size).mergeSort fun x y => !(ltOf (cfT (L s) s.size)) y x).length = s.size := by rw [List.length_mergeSort, finT_len]
  have h1 := Lib.ownsRow_putRow (q := q) hrow' hl (Nat.le_refl _)
  rw [List.take_of_length_le (by rw [hl]; exact Nat.le_refl _), sortT_enc _ _ (L_len s).symm] at h1
  have hb1 := Lib.below_putRow (enc := encT s.size) (q := q) (d := ((finT s.size).mergeSort fun x y => !(ltOf (cfT (L s) s.size)) y x).toArray) hb hg.1
  refine ⟨rfl, own_below h1 (below_growT _ _), hcell2 _ _ _, ?_⟩
  exact hb1.trans ((below_growT _ _).mono hb1.size)
theorem own_fresh0 (w : World) (e : TypeId) : (w.alloc (.cells #[] e)).ownsRow w.heap.size e 1 (.slice (some ⟨w.heap.size, 0, none⟩) 0 0) 0 [] :=
  ⟨rfl, .inr ⟨w.heap.size, 0, #[], rfl, Nat.le_refl _, heap_alloc_new w _, Nat.le_refl _, Nat.zero_le _, rfl, rfl⟩⟩
theorem twice_last {s : ByteArray} {i : Nat} (hi : i < s.size) : (L (s ++ s)).getD (i + s.size - 1) 0 = lastT (L s) i := by
  have e : L (s ++ s) = L s ++ L s := L_append s s
  unfold lastT
  rw [e, L_len, List.getD_eq_getElem?_getD, List.getD_eq_getElem?_getD]
  congr 1
  rcases Nat.eq_zero_or_pos i with h | h
  · subst h
    rw [Nat.zero_add, Nat.mod_eq_of_lt (by omega), List.getElem?_append_left (by rw [L_len]; omega)]
  · rw [List.getElem?_append_right (by rw [L_len]; omega), L_len, show i + s.size - 1 = i - 1 + s.size by omega, Nat.add_mod_right, Nat.mod_eq_of_lt (by omega)]
    congr 1; omega
def AtIs (o : List Nat) (k a : Nat) : Prop := (∀ j, j < k → o.getD j 0 = 0 → a = j) ∧ ((∀ j, j < k → o.getD j 0 ≠ 0) → a = 0)
theorem atIs_end {s : List UInt8} {a : Nat} (h : AtIs (turnO s) s.length a) : a = turnAt s := by
  unfold turnAt
  by_cases h0 : s = []
  · rw [if_pos h0]
    exact h.2 fun j hj => by rw [h0] at hj; exact absurd hj (Nat.not_lt_zero _)
  · rw [if_neg h0]
    have hm : 0 ∈ turnO s := (turnO_perm s).mem_iff.2 (List.mem_range.2 (List.length_pos_iff.2 h0))
    have hl := List.idxOf_lt_length_of_mem hm
    refine h.1 _ (by rw [turnO_len] at hl; exact hl) ?_
    rw [List.getD_eq_getElem?_getD, List.getElem?_eq_getElem hl, List.getElem_idxOf]; rfl
theorem turnO_inj {s : List UInt8} {i j : Nat} (hi : i < s.length) (hj : j < s.length) (h : (turnO s).getD i 0 = (turnO s).getD j 0) : i = j := by
  have hn : (turnO s).Nodup := (turnO_perm s).nodup_iff.2 List.nodup_range
  rw [List.getD_eq_getElem?_getD, List.getD_eq_getElem?_getD, List.getElem?_eq_getElem (by rw [turnO_len]; exact hi), List.getElem?_eq_getElem (by rw [turnO_len]; exact hj)] at h
  exact (List.getElem_inj hn).1 h
theorem atIs_hit {s : List UInt8} {k a : Nat} (hk : k < s.length) (h0 : (turnO s).getD k 0 = 0) (_h : AtIs (turnO s) k a) : AtIs (turnO s) (k + 1) k := by
  refine ⟨fun j hj hz => ?_, fun hn => absurd h0 (hn k (Nat.lt_succ_self k))⟩
  exact (turnO_inj (by omega) hk (hz.trans h0.symm)).symm
theorem atIs_miss {o : List Nat} {k a : Nat} (h0 : o.getD k 0 ≠ 0) (h : AtIs o k a) : AtIs o (k + 1) a := by
  refine ⟨fun j hj hz => ?_, fun hn => h.2 fun j hj => hn j (by omega)⟩
  rcases Nat.lt_or_ge j k with h1 | h1
  · exact h.1 j h1 hz
  · obtain rfl : j = k := by omega
    exact absurd hz h0
theorem turnL_snoc {s : List UInt8} {k : Nat} (hk : k < s.length) : (turnL s).take (k + 1) = (turnL s).take k ++ [lastT s ((turnO s).getD k 0)] := by
  rw [List.take_add_one, List.getElem?_eq_getElem (by rw [turnL_len]; exact hk)]
  congr 1
  unfold turnL
  rw [List.getElem_map, List.getD_eq_getElem?_getD, List.getElem?_eq_getElem (by rw [turnO_len]; exact hk)]; rfl
open Go.RowKit Go.Sort Go.Proofs
theorem infoU8T : (Try.prog.info? 5).map (fun i => (i.zero, i.size, i.bytes)) = some (some (.int .u8 0), 1, 1) := by kernel_rfl
set_option maxRecDepth 100000 in
set_option maxHeartbeats 16000000 in
theorem turnPut_any (s : ByteArray) (hs : s.size ≤ 200) (w : World) :
    Calls Try.prog 4 #[.string s] w fun e w' => e = .returned (.tuple #[.string (S (turnL (L s))), .int .i64 (turnAt (L s) : Nat), .int .i64 0]) ∧ Below w.heap.size w w' := by
  obtain ⟨i0, hi0, hz0, hz1, hz2⟩ := info_parts info_int
  obtain ⟨j0, hj0, hy0, hy1, hy2⟩ := info_parts infoU8T
  have HE : Hid (longErr s.size = 0) := by unfold Hid longErr; rw [if_neg (by omega)]
  go_enter Try.func4, Try.ntmps4
  go_wp2_with fail
  refine (wordCheck_any s _).mono ?_
  rintro e w1 ⟨rfl, hb1⟩
  rw [HE.out]
  have hbox := ((Blk.new_ w 9 #[.string s]).below' hb1).cell0
  have hz0' : w.heap.size < w1.heap.size := by have := hb1.size; simp only [World.size_alloc] at this; omega
  have hb1' : Below w.heap.size w w1 := bthen ((Below.refl _ _).alloc (Nat.le_refl _) _) hb1
  clear hb1
  have HBOX := Lib.hid hbox
  go_wp2_with (at_make; go_must (refine wpList_make_full _ rfl _ _ _ rfl w1.heap.size 3 i0 _ 1 Try.underlying37 hi0 hz0 hz1 .i64 .i64 (s.size : Int) (s.size : Int) s.size rfl rfl (by omega) (by omega) (by rw [hz2]; omega) (by unfold maxLen; omega) (Nat.le_refl _) ?_); intro w2 hown2 hg2)
  have hb2 : Below w1.heap.size w1 w2 := (Below.refl _ _).grown hg2 (Nat.le_refl _) (fun _ h => by cases h)
  have hown2 : ArrI w2 w1.heap.size w1.heap.size s.size (List.replicate s.size 0) := by
    rw [made_ints] at hown2; exact hown2
  clear hg2 hbox
  obtain ⟨g, hg⟩ : ∃ g, w1.heap.size = g := ⟨_, rfl⟩
  have hown2 : ArrI w2 w1.heap.size g s.size (idxT s.size 0) := by rw [← hg, idxT_zero]; exact hown2
  rw [hg]
  have HG := Lib.hid hg
  clear hg
  go_loopw [23] (fun iv wr => ∃ i : Nat, i ≤ s.size ∧ iv = .int .i64 (i : Int) ∧ ArrI wr w1.heap.size g s.size (idxT s.size i) ∧ Below w1.heap.size w1 wr) (fun iv _ => s.size - (intOf iv).toNat)
  case atStart => exact ⟨0, Nat.zero_le _, rfl, hown2, hb2⟩
  case round =>
    clear hown2 hb2
    obtain ⟨i, hi, rfl, hrow, hb⟩ := hrel
    have hgl := hrow.lt
    by_cases hlt : i < s.size
    · have g1 : decide ((i : Int) < (s.size : Int)) = true := decide_eq_true (by omega)
      have g1' : decide (i < s.size) = true := decide_eq_true hlt
      have c0 := hrow.at_ (k := i) hlt
      have f0 := hrow.free i
      have hln := hrow.len
      have HN : Hid ((idxT s.size i).set i (i : Int) = idxT s.size (i + 1)) := idxT_set _ _
      have HROW := Lib.hid hrow
      clear hrow
      generalize (idxT s.size i).getD i 0 = u at *
      go_wp2_with fail
      refine ⟨⟨i + 1, by omega, by go_num, ?_, hb.setCell (p := ⟨g, i, none⟩) hgl.1 _⟩, by simp [intOf]; omega⟩
      rw [← HN.out]
      exact HROW.out.set_ i _
    · obtain rfl : i = s.size := by omega
      have g1 : decide ((s.size : Int) < (s.size : Int)) = false := decide_eq_false (by omega)
      have g1' : decide (s.size < s.size) = false := decide_eq_false hlt
      have hbx := (hb.cell (p := ⟨w.heap.size, 0, none⟩) hz0').trans HBOX.out
      have hwr := hb.size
      obtain ⟨wt, hwt⟩ : ∃ wt, wt = wr.alloc (.cells #[.string (s ++ s)] 9) := ⟨_, rfl⟩
      have hbt : Below wr.heap.size wr wt := by rw [hwt]; exact (Below.refl _ _).alloc (Nat.le_refl _) _
      have hbx2 : wt.cell? ⟨wr.heap.size, 0, none⟩ = some (.string (s ++ s)) := by rw [hwt]; exact (Blk.new_ wr 9 #[.string (s ++ s)]).cell0
      have hl2 : wr.heap.size < wt.heap.size := by rw [hwt]; simp
      have hbx1 : wt.cell? ⟨w.heap.size, 0, none⟩ = some (.string s) := (hbt.cell (p := ⟨w.heap.size, 0, none⟩) (by show w.heap.size < wr.heap.size; omega)).trans hbx
      have hrow2 : ArrI wt w1.heap.size g s.size (idxT s.size s.size) := hrow.below hbt
      have hbt1 : Below w1.heap.size w1 wt := hb.trans (hbt.mono hwr)
      have HS := Lib.hid (turnSort_any s hs w1 wt wr.heap.size w.heap.size g hl2 (by omega) hz0' hbx2 hbx1 hrow2 hbt1)
      have hss : (s ++ s).size ≤ 400 := by rw [ByteArray.size_append]; omega
      clear hrow hrow2 hbx2 hbx1 hbt1
      go_wp2_with fail
      rw [← hwt]
      refine HS.out.mono ?_
      rintro e w3 ⟨rfl, hrow3, hc3, hb3⟩
      have hbx3 := (hb3.cell (p := ⟨w.heap.size, 0, none⟩) hz0').trans HBOX.out
      have hs3 := hb3.size
      have hl3 : wr.heap.size < w3.heap.size := World.block_lt_of_cell? _ _ hc3
      have hTz : (s ++ s).size = s.size + s.size := ByteArray.size_append
      have HLST : Hid (∀ i, i < s.size → (L (s ++ s)).getD (i + s.size - 1) 0 = lastT (L s) i) := fun i hi => twice_last hi
      clear hwt HS hl2 hbt hbx
      generalize s ++ s = T at *
      have hTl : s.size + s.size ≤ T.size := by omega
      clear hTz
      generalize wr.heap.size = gT at *
      have hof := own_fresh0 w3 5
      have hb4 : Below w3.heap.size w3 (w3.alloc (.cells #[] 5)) := (Below.refl _ _).alloc (Nat.le_refl _) _
      go_wp2_with fail
      generalize (w3.alloc (.cells #[] 5)) = w4 at *
      have hrg := hrow3.lt
      have HROW := Lib.hid hrow3
      have HC3 := Lib.hid hc3
      have HBX := Lib.hid hbx3
      have HLL := Lib.hid (L_len s)
      clear hrow3 hc3 hbx3
      go_loopw [9, 10, 40] (fun bv av kv wr => ∃ (k a : Nat), k ≤ s.size ∧ kv = .int .i64 (k : Int) ∧ av = .int .i64 (a : Int) ∧ Hid (AtIs (turnO (L s)) k a) ∧ wr.ownsRow w3.heap.size 5 1 bv k (byteCells ((turnL (L s)).take k)) ∧ Below w3.heap.size w3 wr) (fun _ _ kv _ => s.size - (intOf kv).toNat)
      case atStart => exact ⟨0, 0, Nat.zero_le _, rfl, rfl, ⟨fun j hj => absurd hj (Nat.not_lt_zero _), fun _ => rfl⟩, hof, hb4⟩
      case round =>
        clear hof hb4
        obtain ⟨k, a, hk, rfl, rfl, HA, hown, hbr⟩ := hrel
        have hrs := hbr.size
        by_cases hlt2 : k < s.size
        · have g2 : decide ((k : Int) < (s.size : Int)) = true := decide_eq_true (by omega)
          have g2' : decide (k < s.size) = true := decide_eq_true hlt2
          have hkl : k < (L s).length := by rw [HLL.out]; exact hlt2
          have c0 := (HROW.out.below hbr).at_ (k := k) hlt2
          rw [turnI_at _ hkl] at c0
          have hol := turnO_lt hkl
          rw [HLL.out] at hol
          have HSN := Lib.hid (turnL_snoc hkl)
          have HHIT : Hid ((turnO (L s)).getD k 0 = 0 → AtIs (turnO (L s)) (k + 1) k) := fun h => atIs_hit hkl h HA.out
          have HMISS : Hid ((turnO (L s)).getD k 0 ≠ 0 → AtIs (turnO (L s)) (k + 1) a) := fun h => atIs_miss h HA.out
          have hlast := HLST.out _ hol
          have HO := Lib.hid hown
          have cb2 := (hbr.cell (p := ⟨gT, 0, none⟩) hl3).trans HC3.out
          have cb1 := (hbr.cell (p := ⟨w.heap.size, 0, none⟩) (by show w.heap.size < w3.heap.size; omega)).trans HBX.out
          clear HA hown
          generalize (turnO (L s)).getD k 0 = o at *
          have e0 : ((o : Int) + (s.size : Int) - 1) = ((o + s.size - 1 : Nat) : Int) := by omega
          have hix := fun w => run_index_S (P := Try.prog) Try.underlying9 T (o + s.size - 1) (by omega) w
          rw [hlast, ← e0] at hix
          clear hlast e0
          generalize lastT (L s) o = y at *
          have happ : byteCells ((turnL (L s)).take k) ++ [.int .u8 (y.toNat : Int)] = byteCells ((turnL (L s)).take (k + 1)) := by
            rw [HSN.out]; simp [byteCells]
          have HAPP := Lib.hid happ
          clear happ HSN
          by_cases ho : o = 0
          · have HN := Lib.hid (HHIT.out ho)
            have g3 : ((o : Int) == 0) = true := by rw [beq_iff_eq]; omega
            clear HHIT HMISS ho
            go_wp2_with (at_builtin; go_must (refine wpList_appG rfl _ _ _ rfl w3.heap.size 5 j0 _ 1 1 Try.underlying40 hj0 hy0 hy1 hy2 rfl (by omega) _ k (byteCells ((turnL (L s)).take k)) rfl (World.ownsRow.alloc HO.out _) ⟨_, 0, none⟩ 1 1 [.int .u8 (y.toNat : Int)] rfl rfl (cell_one_new _ _ _) (by simp [Value.oneCell']) (by omega) (by omega) (by simp; omega) ?_); intro v6 w6 hown6 hg6 hb6)
            have hB6 : Below w3.heap.size w3 w6 := (hbr.alloc hrs _).trans hb6
            go_roundw
            case rel => exact ⟨k + 1, k, by omega, by go_num, by go_num, HN, by rw [← HAPP.out]; exact hown6, hB6⟩
            case measure => simp [intOf]; omega
          · have HN := Lib.hid (HMISS.out ho)
            have g3 : ((o : Int) == 0) = false := by rw [beq_eq_false_iff_ne]; omega
            clear HHIT HMISS ho
            go_wp2_with (at_builtin; go_must (refine wpList_appG rfl _ _ _ rfl w3.heap.size 5 j0 _ 1 1 Try.underlying40 hj0 hy0 hy1 hy2 rfl (by omega) _ k (byteCells ((turnL (L s)).take k)) rfl (World.ownsRow.alloc HO.out _) ⟨_, 0, none⟩ 1 1 [.int .u8 (y.toNat : Int)] rfl rfl (cell_one_new _ _ _) (by simp [Value.oneCell']) (by omega) (by omega) (by simp; omega) ?_); intro v6 w6 hown6 hg6 hb6)
            have hB6 : Below w3.heap.size w3 w6 := (hbr.alloc hrs _).trans hb6
            go_roundw
            case rel => exact ⟨k + 1, a, by omega, by go_num, by go_num, HN, by rw [← HAPP.out]; exact hown6, hB6⟩
            case measure => simp [intOf]; omega
        · have hke : Hid (k = s.size) := by unfold Hid; omega
          have g2 : decide ((k : Int) < (s.size : Int)) = false := decide_eq_false (by omega)
          have g2' : decide (k < s.size) = false := decide_eq_false hlt2
          have HAT : Hid (a = turnAt (L s)) := atIs_end (by rw [HLL.out, ← hke.out]; exact HA.out)
          have HTK : Hid ((turnL (L s)).take k = turnL (L s)) := List.take_of_length_le (by rw [turnL_len, HLL.out, hke.out]; exact Nat.le_refl _)
          rw [HTK.out] at hown
          obtain ⟨A, c, rfl, hnc, hcm, hrx⟩ := own_form hown
          have hcv := run_bytes_string (P := Try.prog) wr (src := 40) (dst := 9) Try.underlying40 Try.underlying5 Try.underlying9 (c := c) hrx
          clear hown hrx HA
          go_wp2_with fail
          (apply bodyPost_ret; (simp [results, Try.results4, go_sem]; rfl); rfl)
          rw [HAT.out]
          exact ⟨rfl, bthen hb1' (hb3.trans (hbr.mono hs3))⟩
end Go.Proofs.Ytncakjchaniheaa
