/- front.Get, walked. The turns of a word in their order, and how a word is counted among them from behind (plain). turn.Put: the order of the turns, as its function tells it, and the walk. -/
import Derived.Test.YtncakjchaniheaaDoorPk17
import Derived.Test.YtncakjchaniheaaDoorPk01
import Derived.Test.YtncakjchaniheaaDoorSortF
import Derived.Test.YtncakjchaniheaaDoorShelf
import Derived.Test.YtncakjchaniheaaDoorPk16
import Derived.Test.YtncakjchaniheaaDoorPk08
import Derived.Lib.OwnBridge
import Derived.Shelf.SlSortCmp.Xorshift
import Derived.Test.YtncakjchaniheaaDoorPk09
import Derived.Lib.QuietBelow
namespace Go.Proofs.YtncakjchaniheaaDoor
open Go.RowKit
def inB (l : List Int) : Bool := l.all fun k => decide (0 ≤ k ∧ k ≤ 255)
def getE (l : List Int) : Int := if 200 < l.length then 2 else if inB l then 0 else 1
def natsOf (l : List Int) : List Nat := l.map Int.toNat
def getV (l : List Int) : List UInt8 := if getE l = 0 then gets (natsOf l) else []
theorem natsOf_snoc (l : List Int) {k : Nat} (h : k < l.length) : natsOf (l.take (k + 1)) = natsOf (l.take k) ++ [(l.getD k 0).toNat] := by
  unfold natsOf
  rw [List.take_succ_eq_append_getElem h, List.map_append, List.getD_eq_getElem?_getD, List.getElem?_eq_getElem h]; rfl
/-- Where Get stands. -/
structure GetAt (w wr : World) (g k : Nat) (l : List Int) (o : Value) : Prop where
  sh : BB wr g (shelfA (gets (natsOf (l.take k))))
  out : wr.ownsRow (g + 1) 5 1 o k (byteCells (gets (natsOf (l.take k))))
  lt : g < wr.heap.size
  le : w.heap.size ≤ g
  b : Below w.heap.size w wr
theorem GetAt.own5 {w wr w5 : World} {g k : Nat} {l : List Int} {o : Value} (h : GetAt w wr g k l o) (hg5 : wr.grownBy w5 (some g)) : w5.ownsRow (g + 1) 5 1 o k (byteCells (gets (natsOf (l.take k)))) :=
  World.ownsRow.kept h.out hg5 (.inr (fun e => by
    have := (World.ownsRow.lt h.out g e).1
    omega))
theorem GetAt.step {w wr w5 w6 : World} {g k : Nat} {l : List Int} {o v6 : Value} (h : GetAt w wr g k l o) (hg5 : wr.grownBy w5 (some g)) (hB5 : BB w5 g (shelfA (gets (natsOf (l.take (k + 1)))))) (hb6 : Below (g + 1) w5 w6)
    (hown : w6.ownsRow (g + 1) 5 1 v6 (k + 1) (byteCells (gets (natsOf (l.take (k + 1)))))) : GetAt w w6 g (k + 1) l v6 := by
  have h2 := h.lt
  have h4 := hg5.size
  have h5 := hb6.size
  refine ⟨Blk.below hB5 hb6 (by omega), hown, by omega, h.le, ?_⟩
  exact (below_gb h.b hg5 h.le h.b.size).trans (hb6.mono (by have := h.le; omega))
set_option maxRecDepth 100000 in
set_option maxHeartbeats 4000000 in
theorem frontGet_any (l : List Int) (A : Option Addr) (n c : Nat) (w : World) (hr : Rd w w.heap.size 1 A n (ints l)) (hn : n ≤ 9223372036854775807) :
    Calls Tryd.prog 12 #[.slice A n c] w fun e w' => e = .returned (.tuple #[.string (S (getV l)), .int .i64 (getE l)]) ∧ Below w.heap.size w w' := by
  obtain ⟨i0, hi0, hz0, hz1, hz2⟩ := info_parts info_u8'
  have hl := ints_len hr
  by_cases h2 : 200 < n
  · have HE : Hid (getE l = 2) := by unfold Hid getE; rw [if_pos (by omega)]
    have HV : Hid (getV l = []) := by unfold Hid getV; rw [HE.out, if_neg (by decide)]
    have g1 : decide ((200 : Int) < (n : Int)) = true := decide_eq_true (by omega)
    have g1' : decide (200 < n) = true := decide_eq_true h2
    clear h2 hr hl
    go_enter Tryd.func12, Tryd.ntmps12
    go_wp2_with fail
    go_ret2
    rw [HE.out, HV.out]
    exact ⟨rfl, Below.refl _ _⟩
  have g1 : decide ((200 : Int) < (n : Int)) = false := decide_eq_false (by omega)
  have g1' : decide (200 < n) = false := decide_eq_false h2
  have hn2 : n ≤ 200 := by omega
  have HEB : Hid (getE l = if inB l then 0 else 1) := by unfold Hid getE; rw [if_neg (by omega)]
  have HR := Lib.hid hr
  have HL := Lib.hid hl
  clear hr hl h2 hn
  go_enter Tryd.func12, Tryd.ntmps12
  go_wp2_with fail
  refine (frontShelf_any _).mono ?_
  rintro e w1 ⟨g, rfl, hg, hB, hb1⟩
  have hgl := hB.lt
  have HP : Hid (GetAt w w1 g 0 l (.slice none 0 0)) := ⟨hB, ⟨rfl, .inl ⟨rfl, rfl⟩⟩, hgl, hg, hb1⟩
  clear hB hb1 hgl
  go_wp2_with fail
  go_loopw [5, 14] (fun o i wr => ∃ k : Nat, k ≤ n ∧ i = .int .i64 k ∧ (∀ j, j < k → 0 ≤ l.getD j 0 ∧ l.getD j 0 ≤ 255) ∧ GetAt w wr g k l o) (fun _ i _ => n - (intOf i).toNat)
  case atStart => exact ⟨0, Nat.zero_le _, rfl, fun j h => by omega, HP.out⟩
  case round =>
    clear HP
    obtain ⟨k, hk, rfl, hin, hP⟩ := hrel
    have HIN := Lib.hid hin
    clear hin
    by_cases hlt : k < n
    · have g2 : decide ((k : Int) < (n : Int)) = true := decide_eq_true (by omega)
      obtain ⟨ad, u, rfl, hab, hu, hc⟩ := (HR.out.below hP.b).at_ hlt
      rw [ints_getD l k (by rw [HL.out]; exact hlt)] at hu
      obtain rfl := Option.some.inj hu
      clear hu
      have HSN := Lib.hid (natsOf_snoc l (k := k) (by rw [HL.out]; exact hlt))
      have HPA := Lib.hid hP
      clear hP
      by_cases hx : 0 ≤ l.getD k 0 ∧ l.getD k 0 ≤ 255
      · have HIN2 : Hid (∀ j, j < k + 1 → 0 ≤ l.getD j 0 ∧ l.getD j 0 ≤ 255) := fun j hj => by
          by_cases e : j = k
          · subst e; exact hx
          · exact HIN.out j (by omega)
        clear HIN
        generalize l.getD k 0 = x at *
        obtain ⟨m, rfl⟩ : ∃ m : Nat, x = (m : Int) := ⟨x.toNat, by omega⟩
        have hm : m < 256 := by omega
        clear hx
        have g3 : decide ((m : Int) < 0) = false := decide_eq_false (by omega)
        have g4 : decide ((255 : Int) < (m : Int)) = false := decide_eq_false (by omega)
        have g4' : decide (255 < m) = false := decide_eq_false (by omega)
        rw [show ((m : Int)).toNat = m from rfl] at HSN
        have HGF := Lib.hid (gets_front (natsOf (l.take k)) m hm)
        have HGS := Lib.hid (gets_snoc (natsOf (l.take k)) m)
        have HSL := Lib.hid (shelfA_len (gets (natsOf (l.take k))))
        have HTK := Lib.hid (frontTake_any (shelfA (gets (natsOf (l.take k)))) g m wr HPA.out.sh HSL.out hm)
        go_wp2_with fail
        refine (HTK.out).mono ?_
        rintro e w5 ⟨rfl, hB5, hg5⟩
        have HO5 := Lib.hid (HPA.out.own5 hg5)
        have HST5 : Hid (∀ w6 v6, Below (g + 1) w5 w6 → w6.ownsRow (g + 1) 5 1 v6 (k + 1) (byteCells (gets (natsOf (l.take (k + 1))))) → GetAt w w6 g (k + 1) l v6) := fun w6 v6 h1 h2 => HPA.out.step hg5 (by rw [HSN.out, HGF.out]; exact hB5) h1 h2
        have h35 : g + 1 ≤ w5.heap.size := Nat.le_trans HPA.out.lt hg5.size
        have HIN : Hid (byteCells (gets (natsOf (l.take k))) ++ [.int .u8 (((shelfA (gets (natsOf (l.take k)))).getD m 0).toNat : Int)] = byteCells (gets (natsOf (l.take (k + 1))))) := by unfold Hid; rw [HSN.out, HGS.out]; simp [byteCells]
        clear HPA hB5 hg5 HSN HGF HGS HTK HSL
        generalize ((shelfA (gets (natsOf (l.take k)))).getD m 0).toNat = y at *
        go_wp2_with (at_builtin; go_must (refine wpList_appG rfl _ _ _ rfl (g + 1) 5 i0 _ 1 1 Tryd.underlying44 hi0 hz0 hz1 hz2 rfl (by omega) _ k (byteCells (gets (natsOf (l.take k)))) rfl (World.ownsRow.alloc (w := w5) HO5.out _) ⟨w5.heap.size, 0, none⟩ 1 1 [.int .u8 (y : Int)] rfl rfl (cell_one_new _ _ _) (by simp [Value.oneCell']) (by omega) (by omega) (by simp; omega) ?_); intro v6 w6 hown6 hg6 hb6)
        rw [HIN.out] at hown6
        have HPN := Lib.hid (HST5.out w6 v6 (((Below.refl _ _).alloc h35 _).trans hb6) hown6)
        clear hown6 hg6 hb6 HST5 HO5
        go_roundw
        case rel => exact ⟨k + 1, by omega, by go_num, HIN2.out, HPN.out⟩
        case measure => simp [intOf]; omega
      · have hnb : inB l = false := by
          unfold inB; rw [List.all_eq_false]
          refine ⟨l.getD k 0, ?_, by simpa using hx⟩
          rw [List.getD_eq_getElem?_getD, List.getElem?_eq_getElem (by rw [HL.out]; exact hlt)]
          exact List.getElem_mem _
        have HE : Hid (getE l = 1) := by unfold Hid; rw [HEB.out, hnb]; rfl
        have HV : Hid (getV l = []) := by unfold Hid getV; rw [HE.out, if_neg (by decide)]
        have hb := HPA.out.b
        clear hnb HPA HIN HSN
        generalize l.getD k 0 = x at *
        by_cases hx0 : x < 0
        · have g3 : decide (x < 0) = true := decide_eq_true hx0
          clear hx
          go_wp2_with fail
          go_ret2
          rw [HE.out, HV.out]
          exact ⟨rfl, hb⟩
        · have g3 : decide (x < 0) = false := decide_eq_false hx0
          have g4 : decide (255 < x) = true := decide_eq_true (by omega)
          clear hx
          go_wp2_with fail
          go_ret2
          rw [HE.out, HV.out]
          exact ⟨rfl, hb⟩
    · obtain rfl : k = n := by omega
      have g2 : decide ((k : Int) < (k : Int)) = false := by simp
      have hib : inB l = true := by
        unfold inB; rw [List.all_eq_true]
        intro x hx
        obtain ⟨j, hj, rfl⟩ := List.getElem_of_mem hx
        have := HIN.out j (by rw [← HL.out]; exact hj)
        rw [List.getD_eq_getElem?_getD, List.getElem?_eq_getElem hj] at this
        simpa using this
      have HE : Hid (getE l = 0) := by unfold Hid; rw [HEB.out, hib]; rfl
      have HV : Hid (getV l = gets (natsOf l)) := by unfold Hid getV; rw [HE.out, if_pos rfl]
      have hb := hP.b
      have ho := hP.out
      rw [List.take_of_length_le (by rw [HL.out]; exact Nat.le_refl _)] at ho
      have e9 : (gets (natsOf l)).length = k := by rw [gets_len]; unfold natsOf; rw [List.length_map, HL.out]
      obtain ⟨A9, c9, rfl, _, _, hrd⟩ := own_form ho
      have hcv := run_bytes_string (P := Tryd.prog) wr Tryd.underlying44 Tryd.underlying5 Tryd.underlying9 hrd (c := c9)
      change _ = Result.ok (Value.string (S (gets (natsOf l)))) _ at hcv
      clear hP ho hib hrd e9
      go_wp2_with fail
      go_ret2
      rw [HE.out, HV.out]
      exact ⟨rfl, hb⟩
end Go.Proofs.YtncakjchaniheaaDoor
namespace Go.Proofs.YtncakjchaniheaaDoor
theorem leB_cons {x y : UInt8} {a b : List UInt8} : x :: a ≤ y :: b ↔ x < y ∨ (x = y ∧ a ≤ b) := List.cons_le_cons_iff
theorem leB_take : ∀ (m : Nat) (a c : List UInt8), a ≤ c → a.take m ≤ c.take m := by
  intro m
  induction m with
  | zero => intro a c _; simp
  | succ m ih =>
    intro a c h
    match a, c, h with
    | [], c, _ => simp
    | x :: a, [], h =>
      have := List.le_antisymm h (List.nil_le _)
      cases this
    | x :: a, y :: c, h =>
      simp only [List.take_succ_cons]
      rcases leB_cons.1 h with h1 | ⟨h0, h1⟩
      · exact leB_cons.2 (.inl h1)
      · exact leB_cons.2 (.inr ⟨h0, ih a c h1⟩)
/-- The turn that begins at i. -/
def rotT (s : List UInt8) (i : Nat) : List UInt8 := s.drop i ++ s.take i
theorem rotT_len {s : List UInt8} {i : Nat} (h : i ≤ s.length) : (rotT s i).length = s.length := by
  unfold rotT; rw [List.length_append, List.length_drop, List.length_take]; omega
theorem rotT_cyc {s : List UInt8} {i j : Nat} (hi : i < s.length) (hj : j < s.length) : (rotT s i).getD j 0 = s.getD ((i + j) % s.length) 0 := by
  unfold rotT
  rw [List.getD_eq_getElem?_getD, List.getD_eq_getElem?_getD]
  congr 1
  rcases Nat.lt_or_ge (i + j) s.length with h | h
  · rw [Nat.mod_eq_of_lt h, List.getElem?_append_left (by rw [List.length_drop]; omega), List.getElem?_drop]
  · have e : (i + j) % s.length = i + j - s.length := by
      rw [Nat.mod_eq_sub_mod h, Nat.mod_eq_of_lt (by omega)]
    rw [e, List.getElem?_append_right (by rw [List.length_drop]; omega), List.length_drop, List.getElem?_take, if_pos (by omega)]
    congr 1; omega
def ltT (s : List UInt8) (x y : Nat) : Prop := rotT s x < rotT s y ∨ (rotT s x = rotT s y ∧ x < y)
instance (s : List UInt8) (x y : Nat) : Decidable (ltT s x y) := inferInstanceAs (Decidable (_ ∨ _))
theorem ltT_irrefl (s : List UInt8) (x : Nat) : ¬ ltT s x x := by
  rintro (h | ⟨_, h⟩)
  · exact List.lt_irrefl _ h
  · omega
theorem ltT_trans {s : List UInt8} {x y z : Nat} (h1 : ltT s x y) (h2 : ltT s y z) : ltT s x z := by
  rcases h1 with h1 | ⟨e1, h1⟩
  · rcases h2 with h2 | ⟨e2, h2⟩
    · exact .inl (List.lt_trans h1 h2)
    · rw [e2] at h1; exact .inl h1
  · rcases h2 with h2 | ⟨e2, h2⟩
    · rw [← e1] at h2; exact .inl h2
    · exact .inr ⟨e1.trans e2, by omega⟩
theorem ltT_tri {s : List UInt8} {x y : Nat} (h1 : ¬ ltT s x y) (h2 : ¬ ltT s y x) : x = y := by
  have e : rotT s x = rotT s y := by
    refine List.le_antisymm (fun h => h2 (.inl h)) (fun h => h1 (.inl h))
  rcases Nat.lt_trichotomy x y with h | h | h
  · exact absurd (.inr ⟨e, h⟩) h1
  · exact h
  · exact absurd (.inr ⟨e.symm, h⟩) h2
/-- Where the turns begin, in their order. -/
def turnO (s : List UInt8) : List Nat := (List.range s.length).mergeSort fun x y => decide (¬ ltT s y x)
theorem turnO_perm (s : List UInt8) : (turnO s).Perm (List.range s.length) := List.mergeSort_perm _ _
theorem turnO_pw (s : List UInt8) : (turnO s).Pairwise fun x y => ¬ ltT s y x := by
  have h := List.pairwise_mergeSort (le := fun (x y : Nat) => decide (¬ ltT s y x)) (fun a b c h1 h2 => by
    rw [decide_eq_true_iff] at *
    intro h3
    by_cases h4 : ltT s b c
    · exact h1 (ltT_trans h4 h3)
    · have := ltT_tri h4 h2
      subst this
      exact h1 h3) (fun a b => by
    rw [Bool.or_eq_true, decide_eq_true_iff, decide_eq_true_iff]
    by_cases h : ltT s b a
    · right; intro h2; exact ltT_irrefl _ _ (ltT_trans h h2)
    · exact .inl h) (List.range s.length)
  exact h.imp fun h => by rwa [decide_eq_true_iff] at h
theorem turnO_len (s : List UInt8) : (turnO s).length = s.length := by rw [(turnO_perm s).length_eq, List.length_range]
theorem turnO_lt {s : List UInt8} {k : Nat} (h : k < s.length) : (turnO s).getD k 0 < s.length := by
  rw [List.getD_eq_getElem?_getD, List.getElem?_eq_getElem (by rw [turnO_len]; exact h)]
  exact List.mem_range.1 ((turnO_perm s).mem_iff.1 (List.getElem_mem _))
def lastT (s : List UInt8) (i : Nat) : UInt8 := s.getD ((i + s.length - 1) % s.length) 0
/-- The turns' last bytes, in the turns' order; and where the word itself is. -/
def turnL (s : List UInt8) : List UInt8 := (turnO s).map (lastT s)
def turnAt (s : List UInt8) : Nat := if s = [] then 0 else (turnO s).idxOf 0
theorem turnL_len (s : List UInt8) : (turnL s).length = s.length := by rw [turnL, List.length_map, turnO_len]
/- Counting from behind. -/
def lessC (t : List UInt8) (c : UInt8) : Nat := t.countP fun b => decide (b < c)
def stepC (t : List UInt8) (c : UInt8) (lh : Nat × Nat) : Nat × Nat :=
  if lh.1 < lh.2 then (lessC t c + (t.take lh.1).count c, lessC t c + (t.take lh.2).count c) else lh
def countC (t p : List UInt8) : Nat := (p.foldr (stepC t) (0, t.length)).2 - (p.foldr (stepC t) (0, t.length)).1
theorem dc_take {α : Type} {Q : α → Bool} : ∀ {o : List α}, o.Pairwise (fun x y => Q y = true → Q x = true) → o.filter Q = o.take (o.countP Q) := by
  intro o
  induction o with
  | nil => intro _; rfl
  | cons x o ih =>
    intro h
    obtain ⟨h1, h2⟩ := List.pairwise_cons.1 h
    cases hq : Q x with
    | true => rw [List.filter_cons_of_pos hq, List.countP_cons_of_pos hq, List.take_succ_cons, ih h2]
    | false =>
      have hn : ∀ y ∈ o, ¬ Q y = true := fun y hy h3 => by rw [h1 y hy h3] at hq; cases hq
      rw [List.filter_cons_of_neg (by rw [hq]; simp), List.countP_cons_of_neg (by rw [hq]; simp), List.filter_eq_nil_iff.2 hn, List.countP_eq_zero.2 hn, List.take_zero]
theorem next_perm {n : Nat} (h : 0 < n) : ((List.range n).map fun x => (x + 1) % n).Perm (List.range n) := by
  obtain ⟨m, rfl⟩ : ∃ m, n = m + 1 := ⟨n - 1, by omega⟩
  have e : ((List.range (m + 1)).map fun x => (x + 1) % (m + 1)) = (List.range m).map Nat.succ ++ [0] := by
    rw [List.range_succ, List.map_append]
    congr 1
    · apply List.map_congr_left
      intro x hx
      rw [List.mem_range] at hx
      exact Nat.mod_eq_of_lt (by omega)
    · simp
  rw [e, List.range_succ_eq_map]
  exact List.perm_append_comm
theorem count_next {n : Nat} (h : 0 < n) (f : Nat → Bool) : (List.range n).countP f = (List.range n).countP fun x => f ((x + 1) % n) := by
  have := (next_perm h).countP_eq f
  rw [List.countP_map] at this
  exact this.symm
theorem last_next {s : List UInt8} {x : Nat} (h : x < s.length) : lastT s ((x + 1) % s.length) = s.getD x 0 := by
  unfold lastT
  congr 1
  rcases Nat.lt_or_ge (x + 1) s.length with h1 | h1
  · rw [Nat.mod_eq_of_lt h1, show x + 1 + s.length - 1 = x + s.length by omega, Nat.add_mod_right, Nat.mod_eq_of_lt h]
  · have e : x + 1 = s.length := by omega
    rw [e, Nat.mod_self, Nat.zero_add, Nat.mod_eq_of_lt (by omega)]; omega
/-- The first m bytes of the turn at x. -/
def preT (s : List UInt8) (m x : Nat) : List UInt8 := (rotT s x).take m
theorem rotT_getElem? {s : List UInt8} {x j : Nat} (hx : x < s.length) : (rotT s x)[j]? = if j < s.length then some (s.getD ((x + j) % s.length) 0) else none := by
  by_cases h : j < s.length
  · rw [if_pos h, ← rotT_cyc hx h, List.getD_eq_getElem?_getD, List.getElem?_eq_getElem (by rw [rotT_len (Nat.le_of_lt hx)]; exact h)]; rfl
  · rw [if_neg h, List.getElem?_eq_none (by rw [rotT_len (Nat.le_of_lt hx)]; omega)]
theorem preT_succ {s : List UInt8} {m x : Nat} (hx : x < s.length) (hm : m < s.length) : preT s (m + 1) x = s.getD x 0 :: preT s m ((x + 1) % s.length) := by
  have hx1 : (x + 1) % s.length < s.length := Nat.mod_lt _ (by omega)
  apply List.ext_getElem?
  intro j
  unfold preT
  cases j with
  | zero =>
    rw [List.getElem?_take, if_pos (by omega), rotT_getElem? hx, if_pos (by omega), Nat.add_zero, Nat.mod_eq_of_lt hx]; rfl
  | succ j =>
    rw [List.getElem?_cons_succ, List.getElem?_take, List.getElem?_take, rotT_getElem? hx, rotT_getElem? hx1]
    by_cases h : j < m
    · rw [if_pos (by omega), if_pos h, if_pos (by omega), if_pos (by omega), Nat.mod_add_mod]
      congr 2; congr 1; omega
    · rw [if_neg (by omega), if_neg h]
/-- How many turns begin below a word, and how many at most with it. -/
def lowT (s w : List UInt8) : Nat := (List.range s.length).countP fun x => decide (preT s w.length x < w)
def highT (s w : List UInt8) : Nat := (List.range s.length).countP fun x => decide (preT s w.length x ≤ w)
def eqT (s w : List UInt8) : Nat := (List.range s.length).countP fun x => decide (preT s w.length x = w)
theorem high_low (s w : List UInt8) : highT s w = lowT s w + eqT s w := by
  unfold highT lowT eqT
  induction List.range s.length with
  | nil => rfl
  | cons x l ih =>
    rw [List.countP_cons, List.countP_cons, List.countP_cons, ih]
    by_cases h1 : preT s w.length x < w
    · have h2 : preT s w.length x ≤ w := List.le_of_lt h1
      have h3 : preT s w.length x ≠ w := fun e => by rw [e] at h1; exact List.lt_irrefl _ h1
      rw [decide_eq_true h1, decide_eq_true h2, decide_eq_false h3]; simp only [Bool.false_eq_true, if_true, if_false]; omega
    · by_cases h3 : preT s w.length x = w
      · have h2 : preT s w.length x ≤ w := by rw [h3]; exact List.le_refl _
        rw [decide_eq_false h1, decide_eq_true h2, decide_eq_true h3]; simp only [Bool.false_eq_true, if_true, if_false]; omega
      · have h2 : ¬ preT s w.length x ≤ w := fun h2 => h3 (List.le_antisymm h2 h1)
        rw [decide_eq_false h1, decide_eq_false h2, decide_eq_false h3]; simp only [Bool.false_eq_true, if_false]; omega
theorem less_turn {s : List UInt8} (h : 0 < s.length) (c : UInt8) : lessC (turnL s) c = (List.range s.length).countP fun x => decide (s.getD x 0 < c) := by
  unfold lessC turnL
  rw [List.countP_map, (turnO_perm s).countP_eq, count_next h]
  apply List.countP_congr
  intro x hx
  rw [List.mem_range] at hx
  show (decide (lastT s ((x + 1) % s.length) < c) = true ↔ _)
  rw [last_next hx]
theorem take_count {s : List UInt8} (h : 0 < s.length) (c : UInt8) (Q : Nat → Bool) (hQ : (turnO s).Pairwise fun x y => Q y = true → Q x = true) :
    ((turnL s).take ((List.range s.length).countP Q)).count c = (List.range s.length).countP fun x => decide (s.getD x 0 = c) && Q ((x + 1) % s.length) := by
  rw [← (turnO_perm s).countP_eq Q]
  unfold turnL
  rw [← List.map_take, ← dc_take hQ, List.count, List.countP_map, List.countP_filter, (turnO_perm s).countP_eq, count_next h]
  apply List.countP_congr
  intro x hx
  rw [List.mem_range] at hx
  simp only [Function.comp, last_next hx, Bool.and_eq_true, beq_iff_eq, decide_eq_true_iff]
theorem pre_mono {s : List UInt8} {m x y : Nat} (h : ¬ ltT s y x) : preT s m x ≤ preT s m y := by
  refine leB_take m _ _ (fun h2 => h (.inl h2))
theorem low_step {s w : List UInt8} (c : UInt8) (hm : w.length < s.length) : lowT s (c :: w) = lessC (turnL s) c + ((turnL s).take (lowT s w)).count c := by
  have h : 0 < s.length := by omega
  rw [less_turn h]
  unfold lowT
  rw [take_count h c (fun x => decide (preT s w.length x < w)) ((turnO_pw s).imp fun hh h2 => by
    rw [decide_eq_true_iff] at *
    exact List.lt_of_le_of_lt (pre_mono hh) h2)]
  have key : ∀ l : List Nat, (∀ x ∈ l, x < s.length) → l.countP (fun x => decide (preT s (c :: w).length x < c :: w)) = l.countP (fun x => decide (s.getD x 0 < c)) + l.countP (fun x => decide (s.getD x 0 = c) && decide (preT s w.length ((x + 1) % s.length) < w)) := by
    intro l
    induction l with
    | nil => intro _; rfl
    | cons x l ih =>
      intro hl
      rw [List.countP_cons, List.countP_cons, List.countP_cons, ih fun y hy => hl y (List.mem_cons_of_mem _ hy)]
      have e := preT_succ (hl x List.mem_cons_self) hm
      rw [List.length_cons, e]
      generalize s.getD x 0 = b
      generalize preT s w.length ((x + 1) % s.length) = q
      have e2 : (b :: q < c :: w) ↔ (b < c ∨ b = c ∧ q < w) := List.cons_lt_cons_iff
      by_cases h1 : b < c
      · have h2 : b ≠ c := fun e => by subst e; exact UInt8.lt_irrefl _ h1
        rw [decide_eq_true h1, decide_eq_false h2, decide_eq_true (e2.2 (.inl h1))]; simp only [Bool.false_eq_true, Bool.false_and, if_true, if_false]; omega
      · by_cases h2 : b = c
        · by_cases h3 : (q < w)
          · rw [decide_eq_false h1, decide_eq_true h2, decide_eq_true h3, decide_eq_true (e2.2 (.inr ⟨h2, h3⟩))]; simp only [Bool.false_eq_true, Bool.true_and, if_true, if_false]; omega
          · have h4 : ¬ (b :: q < c :: w) := fun h => by
              rcases e2.1 h with h | h
              · exact h1 h
              · exact h3 h.2
            rw [decide_eq_false h1, decide_eq_true h2, decide_eq_false h3, decide_eq_false h4]; simp only [Bool.false_eq_true, Bool.true_and, if_false]; omega
        · have h4 : ¬ (b :: q < c :: w) := fun h => by
            rcases e2.1 h with h | h
            · exact h1 h
            · exact h2 h.1
          rw [decide_eq_false h1, decide_eq_false h2, decide_eq_false h4]; simp only [Bool.false_eq_true, Bool.false_and, if_false]; omega
  exact key _ fun x hx => List.mem_range.1 hx
theorem high_step {s w : List UInt8} (c : UInt8) (hm : w.length < s.length) : highT s (c :: w) = lessC (turnL s) c + ((turnL s).take (highT s w)).count c := by
  have h : 0 < s.length := by omega
  rw [less_turn h]
  unfold highT
  rw [take_count h c (fun x => decide (preT s w.length x ≤ w)) ((turnO_pw s).imp fun hh h2 => by
    rw [decide_eq_true_iff] at *
    exact List.le_trans (pre_mono hh) h2)]
  have key : ∀ l : List Nat, (∀ x ∈ l, x < s.length) → l.countP (fun x => decide (preT s (c :: w).length x ≤ c :: w)) = l.countP (fun x => decide (s.getD x 0 < c)) + l.countP (fun x => decide (s.getD x 0 = c) && decide (preT s w.length ((x + 1) % s.length) ≤ w)) := by
    intro l
    induction l with
    | nil => intro _; rfl
    | cons x l ih =>
      intro hl
      rw [List.countP_cons, List.countP_cons, List.countP_cons, ih fun y hy => hl y (List.mem_cons_of_mem _ hy)]
      have e := preT_succ (hl x List.mem_cons_self) hm
      rw [List.length_cons, e]
      generalize s.getD x 0 = b
      generalize preT s w.length ((x + 1) % s.length) = q
      have e2 : (b :: q ≤ c :: w) ↔ (b < c ∨ b = c ∧ q ≤ w) := leB_cons
      by_cases h1 : b < c
      · have h2 : b ≠ c := fun e => by subst e; exact UInt8.lt_irrefl _ h1
        rw [decide_eq_true h1, decide_eq_false h2, decide_eq_true (e2.2 (.inl h1))]; simp only [Bool.false_eq_true, Bool.false_and, if_true, if_false]; omega
      · by_cases h2 : b = c
        · by_cases h3 : (q ≤ w)
          · rw [decide_eq_false h1, decide_eq_true h2, decide_eq_true h3, decide_eq_true (e2.2 (.inr ⟨h2, h3⟩))]; simp only [Bool.false_eq_true, Bool.true_and, if_true, if_false]; omega
          · have h4 : ¬ (b :: q ≤ c :: w) := fun h => by
              rcases e2.1 h with h | h
              · exact h1 h
              · exact h3 h.2
            rw [decide_eq_false h1, decide_eq_true h2, decide_eq_false h3, decide_eq_false h4]; simp only [Bool.false_eq_true, Bool.true_and, if_false]; omega
        · have h4 : ¬ (b :: q ≤ c :: w) := fun h => by
            rcases e2.1 h with h | h
            · exact h1 h
            · exact h2 h.1
          rw [decide_eq_false h1, decide_eq_false h2, decide_eq_false h4]; simp only [Bool.false_eq_true, Bool.false_and, if_false]; omega
  exact key _ fun x hx => List.mem_range.1 hx
theorem eq_shrink {s w : List UInt8} (c : UInt8) (hm : w.length < s.length) (h0 : eqT s w = 0) : eqT s (c :: w) = 0 := by
  unfold eqT at *
  rw [List.countP_eq_zero] at *
  intro x hx h1
  rw [decide_eq_true_iff] at h1
  rw [List.mem_range] at hx
  rw [List.length_cons, preT_succ hx hm] at h1
  refine h0 ((x + 1) % s.length) (List.mem_range.2 (Nat.mod_lt _ (by omega))) ?_
  rw [decide_eq_true_iff]
  exact (List.cons.inj h1).2
/-- FERRAGINA, MANZINI: counted from behind a word is found as often as turns begin with it. -/
theorem count_turn {s : List UInt8} (p : List UInt8) (hp : p.length ≤ s.length) : countC (turnL s) p = eqT s p := by
  have key : ∀ p : List UInt8, p.length ≤ s.length → (p.foldr (stepC (turnL s)) (0, (turnL s).length) = (lowT s p, highT s p)) ∨ (¬ (p.foldr (stepC (turnL s)) (0, (turnL s).length)).1 < (p.foldr (stepC (turnL s)) (0, (turnL s).length)).2 ∧ eqT s p = 0) := by
    intro p
    induction p with
    | nil =>
      intro _
      left
      have e1 : lowT s [] = 0 := by
        unfold lowT
        rw [List.countP_eq_zero]
        intro x _ h
        rw [decide_eq_true_iff] at h
        exact List.not_lt_nil _ h
      have e2 : highT s [] = s.length := by
        unfold highT
        have : ∀ x ∈ List.range s.length, decide (preT s ([] : List UInt8).length x ≤ []) = true := fun x _ => by
          rw [decide_eq_true_iff]
          show (rotT s x).take 0 ≤ []
          rw [List.take_zero]; exact List.le_refl _
        rw [List.countP_eq_length.2 this, List.length_range]
      rw [e1, e2, turnL_len]; rfl
    | cons c w ih =>
      intro hp
      rw [List.length_cons] at hp
      rw [List.foldr_cons]
      rcases ih (by omega) with h | ⟨h1, h2⟩
      · rw [h]
        unfold stepC
        by_cases hl : lowT s w < highT s w
        · left
          rw [if_pos hl, ← low_step c (by omega), ← high_step c (by omega)]
        · right
          rw [if_neg hl]
          refine ⟨hl, eq_shrink c (by omega) ?_⟩
          have := high_low s w
          omega
      · right
        have e : stepC (turnL s) c (w.foldr (stepC (turnL s)) (0, (turnL s).length)) = w.foldr (stepC (turnL s)) (0, (turnL s).length) := by
          exact if_neg h1
        rw [e]
        exact ⟨h1, eq_shrink c (by omega) h2⟩
  unfold countC
  rcases key p hp with h | ⟨h1, h2⟩
  · rw [h]
    have := high_low s p
    simp only
    omega
  · omega
end Go.Proofs.YtncakjchaniheaaDoor
namespace Go.Proofs.YtncakjchaniheaaDoor
open Go.RowKit Go.Sort Go.Proofs
theorem rot_ext (s : ByteArray) {i : Nat} (hi : i ≤ s.size) : ((s ++ s).extract i (i + s.size)).data.toList = rotT (L s) i := by
  have h := L_extract (s ++ s) i (i + s.size)
  have e : L (s ++ s) = L s ++ L s := L_append s s
  have h2 : L ((s ++ s).extract i (i + s.size)) = rotT (L s) i := by
    rw [h, e, List.drop_append_of_le_length (by rw [L_len]; exact hi), show i + s.size - i = s.size by omega, List.take_append, List.length_drop, L_len]
    unfold rotT
    rw [List.take_of_length_le (by rw [List.length_drop, L_len]; omega), show s.size - (s.size - i) = i by omega]
  exact h2
def cmpT (s : List UInt8) (x y : Nat) : Int := if Lib.compareBytes (rotT s x) (rotT s y) ≠ 0 then Lib.compareBytes (rotT s x) (rotT s y) else (x : Int) - (y : Int)
set_option maxHeartbeats 2000000 in
theorem turnCmp_any (s : ByteArray) (B2 B i k : Nat) (hs : s.size ≤ 200) (hi : i ≤ s.size) (hk : k ≤ s.size) (W : World) (hc2 : W.cell? ⟨B2, 0, none⟩ = some (.string (s ++ s))) (hc : W.cell? ⟨B, 0, none⟩ = some (.string s)) :
    Calls Tryd.prog 16 #[.int .i64 (i : Int), .int .i64 (k : Int), .pointer (some ⟨B2, 0, none⟩), .pointer (some ⟨B, 0, none⟩)] W fun e w' => e = .returned (.int .i64 (cmpT (L s) i k)) ∧ ∃ q, w' = W.drewN q := by
  have hz2 : (s ++ s).size = s.size + s.size := ByteArray.size_append
  have HX := Lib.hid (rot_ext s hi)
  have HY := Lib.hid (rot_ext s hk)
  have HC := fun w => Lib.hid (Tryd.strings_Compare ((s ++ s).extract i (i + s.size)) ((s ++ s).extract k (k + s.size)) w)
  rw [HX.out, HY.out] at HC
  obtain ⟨T, hT⟩ : ∃ T, s ++ s = T := ⟨_, rfl⟩
  rw [hT] at hc2 hz2 HC
  have hz : i + s.size ≤ T.size := by omega
  have hz' : k + s.size ≤ T.size := by omega
  have hTz : T.size ≤ 400 := by omega
  clear hT hz2 HX HY
  have HV : Hid (cmpT (L s) i k = if Lib.compareBytes (rotT (L s) i) (rotT (L s) k) ≠ 0 then Lib.compareBytes (rotT (L s) i) (rotT (L s) k) else (i : Int) - (k : Int)) := rfl
  generalize Lib.compareBytes (rotT (L s) i) (rotT (L s) k) = z at *
  by_cases h0 : z = 0
  · have hv : cmpT (L s) i k = (i : Int) - (k : Int) := by rw [HV.out, if_neg (by simp [h0])]
    have HV2 := Lib.hid hv
    subst h0
    clear HV hv
    go_enter Tryd.func16, Tryd.ntmps16
    go_wp2_with fail
    go_quiet ((go_at_call 17; exact Calls.quiet_of_same (HC _).out))
    go_wp2_with fail
    go_ret
    rw [HV2.out]
    exact ⟨rfl, _, rfl⟩
  · have hv : cmpT (L s) i k = z := by rw [HV.out, if_pos h0]
    have HV2 := Lib.hid hv
    have g1 : (z != (0 : Int)) = true := by rw [bne_iff_ne]; exact h0
    have g2 : (z == (0 : Int)) = false := by rw [beq_eq_false_iff_ne]; exact h0
    clear HV hv h0
    go_enter Tryd.func16, Tryd.ntmps16
    go_wp2_with fail
    go_quiet ((go_at_call 17; exact Calls.quiet_of_same (HC _).out))
    go_wp2_with fail
    go_ret
    rw [HV2.out]
    exact ⟨rfl, _, rfl⟩
open Go.RowKit Go.Sort Go.Proofs
def idxT (n k : Nat) : List Int := (List.range n).map fun j => if j < k then (j : Int) else 0
theorem idxT_zero (n : Nat) : idxT n 0 = List.replicate n 0 := by
  apply List.ext_getElem
  · simp [idxT]
  · intro j h1 h2; simp [idxT]
theorem idxT_set (n k : Nat) : (idxT n k).set k (k : Int) = idxT n (k + 1) := by
  apply List.ext_getElem
  · simp [idxT]
  · intro j h1 h2
    rw [List.getElem_set]
    simp only [idxT, List.getElem_map, List.getElem_range]
    by_cases e : k = j
    · subst e; rw [if_pos rfl, if_pos (by omega)]
    · rw [if_neg e]
      by_cases h3 : j < k
      · rw [if_pos h3, if_pos (by omega)]
      · rw [if_neg h3, if_neg (by omega)]
def turnI (s : List UInt8) : List Int := (turnO s).map fun (k : Nat) => (k : Int)
theorem turnI_at (s : List UInt8) {k : Nat} (h : k < s.length) : (turnI s).getD k 0 = ((turnO s).getD k 0 : Nat) := by
  unfold turnI
  rw [List.getD_eq_getElem?_getD, List.getElem?_map, List.getD_eq_getElem?_getD, List.getElem?_eq_getElem (by rw [turnO_len]; exact h)]; rfl
section
variable (s : List UInt8) (n : Nat)
def finT : List (Fin (n + 1)) := (List.range n).map (Fin.ofNat (n + 1))
def encT (x : Fin (n + 1)) : Value := .int .i64 (x.val : Int)
def cfT (x y : Fin (n + 1)) : Int := cmpT s x.val y.val
theorem cmpB_ltT : ∀ a b : List UInt8, (Lib.compareBytes a b < 0 ↔ a < b) ∧ (Lib.compareBytes a b = 0 ↔ a = b)
  | [], [] => by simp [Lib.compareBytes]
  | [], _ :: _ => by simp [Lib.compareBytes]
  | _ :: _, [] => by simp [Lib.compareBytes]
  | x :: a, y :: b => by
    unfold Lib.compareBytes
    by_cases h1 : x < y
    · have h3 : x ≠ y := fun e => by subst e; exact UInt8.lt_irrefl _ h1
      simp [h1, h3, List.cons_lt_cons_iff]
    · by_cases h2 : y < x
      · have h3 : x ≠ y := fun e => by subst e; exact h1 h2
        simp [h1, h2, h3, List.cons_lt_cons_iff]
      · have h3 : x = y := UInt8.le_antisymm (UInt8.not_lt.1 h2) (UInt8.not_lt.1 h1)
        subst h3
        simp only [h1, if_false, List.cons_lt_cons_iff, false_or, true_and, List.cons.injEq]
        exact cmpB_ltT a b
theorem ltT_cmp (x y : Fin (n + 1)) : ltOf (cfT s n) x y = decide (ltT s x.val y.val) := by
  show decide (cmpT s x.val y.val < 0) = _
  obtain ⟨h1, h2⟩ := cmpB_ltT (rotT s x.val) (rotT s y.val)
  rw [Bool.eq_iff_iff, decide_eq_true_iff, decide_eq_true_iff]
  unfold cmpT ltT
  by_cases h0 : Lib.compareBytes (rotT s x.val) (rotT s y.val) = 0
  · have e := h2.1 h0
    rw [if_neg (by simp [h0])]
    constructor
    · intro h; exact .inr ⟨e, by omega⟩
    · rintro (h | ⟨_, h⟩)
      · rw [e] at h; exact absurd h (List.lt_irrefl _)
      · omega
  · rw [if_pos h0, h1]
    constructor
    · exact .inl
    · rintro (h | ⟨e, _⟩)
      · exact h
      · exact absurd (h2.2 e) h0
theorem swoT : SWO (ltOf (cfT s n)) where
  irrefl x := by rw [ltT_cmp]; exact decide_eq_false (ltT_irrefl _ _)
  trans x y z h1 h2 := by
    rw [ltT_cmp, decide_eq_true_iff] at *
    exact ltT_trans h1 h2
  ntrans x y z h1 h2 := by
    rw [ltT_cmp, decide_eq_false_iff_not] at *
    intro h3
    by_cases h4 : ltT s y.val z.val
    · exact h2 h4
    · by_cases h5 : ltT s z.val y.val
      · exact h1 (ltT_trans h3 h5)
      · have := ltT_tri h4 h5
        rw [this] at h1
        exact h1 h3
theorem totT (x y : Fin (n + 1)) (h1 : ltOf (cfT s n) x y = false) (h2 : ltOf (cfT s n) y x = false) : x = y := by
  rw [ltT_cmp, decide_eq_false_iff_not] at *
  exact Fin.ext (ltT_tri h1 h2)
theorem finT_len : (finT n).length = n := by simp [finT]
theorem finT_val : (finT n).map (fun x => x.val) = List.range n := by
  unfold finT
  rw [List.map_map]
  conv => rhs; rw [← List.map_id (List.range n)]
  apply List.map_congr_left
  intro i hi
  rw [List.mem_range] at hi
  show i % (n + 1) = i
  exact Nat.mod_eq_of_lt (by omega)
theorem finT_enc : (finT n).map (encT n) = ints (idxT n n) := by
  have h := congrArg (List.map fun (k : Nat) => Value.int .i64 (k : Int)) (finT_val n)
  rw [List.map_map] at h
  have e : ints (idxT n n) = (List.range n).map fun (k : Nat) => Value.int .i64 (k : Int) := by
    unfold ints idxT
    rw [List.map_map]
    apply List.map_congr_left
    intro i hi
    rw [List.mem_range] at hi
    show Value.int .i64 (if i < n then (i : Int) else 0) = _
    rw [if_pos hi]
  rw [e, ← h]; rfl
theorem sortT_enc (hn : n = s.length) : ((finT n).mergeSort fun x y => !(ltOf (cfT s n)) y x).map (encT n) = ints (turnI s) := by
  have h1 : ((finT n).mergeSort fun x y => !(ltOf (cfT s n)) y x).map (fun x => x.val) = turnO s := by
    rw [List.map_mergeSort (s := fun x y => decide (¬ ltT s y x)), finT_val, hn]
    · rfl
    · intro a _ b _
      rw [ltT_cmp, Bool.eq_iff_iff]
      simp
  have h := congrArg (List.map fun (k : Nat) => Value.int .i64 (k : Int)) h1
  rw [List.map_map] at h
  have e : ints (turnI s) = (turnO s).map fun (k : Nat) => Value.int .i64 (k : Int) := by
    unfold ints turnI; rw [List.map_map]; rfl
  rw [e, ← h]; rfl
end
theorem below_growT (w : World) (os : Array Obj) : Below w.heap.size w (Go.Sort.grow w os) :=
  ⟨rfl, rfl, rfl, by simp, fun k hk => heap_grow_old _ _ hk⟩
theorem turnSort_any (s : ByteArray) (hs : s.size ≤ 200) (w0 w : World) (B2 B g : Nat) (hB2 : B2 < w.heap.size) (hg2 : B2 ≠ g) (hB : B < w0.heap.size) (hc2 : w.cell? ⟨B2, 0, none⟩ = some (.string (s ++ s))) (hc : w.cell? ⟨B, 0, none⟩ = some (.string s)) (hrow : ArrI w w0.heap.size g s.size (idxT s.size s.size)) (hb : Below w0.heap.size w0 w) :
    Calls Tryd.prog 15 #[.slice (some ⟨g, 0, none⟩) s.size s.size, .func (.func 16) #[] #[.pointer (some ⟨B2, 0, none⟩), .pointer (some ⟨B, 0, none⟩)]] w fun e w' => e = .returned (.tuple #[]) ∧ ArrI w' w0.heap.size g s.size (turnI (L s)) ∧ w'.cell? ⟨B2, 0, none⟩ = some (.string (s ++ s)) ∧ Below w0.heap.size w0 w' := by
  have hg := hrow.lt
  have hrow' : w.ownsRow w0.heap.size 3 1 (.slice (some ⟨g, 0, none⟩) s.size s.size) s.size ((finT s.size).map (encT s.size)) := by rw [finT_enc]; exact hrow
  obtain ⟨g', cap', hv, _, _, _, _, _, hH⟩ := Lib.holds_of_ownsRow hrow' (by intro h; cases h)
  obtain rfl : g = g' := by cases hv; rfl
  have hcell2 : ∀ m os dk, (sortWorld (encT s.size) w g 0 m dk os).cell? ⟨B2, 0, none⟩ = some (.string (s ++ s)) := fun m os dk => by
    unfold sortWorld
    rw [cell?_grow _ _ _ (by simp; exact hB2), cell?_putRow_other _ _ _ _ _ _ (.inl (show B2 ≠ g from hg2))]
    exact hc2
  have hcmp : CmpLays1 Tryd.prog 16 #[.pointer (some ⟨B2, 0, none⟩), .pointer (some ⟨B, 0, none⟩)] (encT s.size) (cfT (L s) s.size) g 0 (finT s.size).toArray.size w := by
    intro m os dk hdk x y
    refine (turnCmp_any s B2 B x.val y.val hs (by have := x.isLt; omega) (by have := y.isLt; omega) _ (hcell2 _ _ _) ?_).mono ?_
    · unfold sortWorld
      rw [cell?_grow _ _ _ (by simp; have := hb.size; omega), cell?_putRow_other _ _ _ _ _ _ (.inl (show B ≠ g by omega))]
      exact hc
    · rintro e w' ⟨rfl, q, rfl⟩
      exact ⟨rfl, q, #[], (grow_empty _).symm⟩
  have h := Any.slices_SortFunc_total Tryd.laysSF45 (encT s.size) (fun _ => rfl) (cfT (L s) s.size) (swoT _ _) 16 #[.pointer (some ⟨B2, 0, none⟩), .pointer (some ⟨B, 0, none⟩)] g 0 s.size (finT s.size).toArray w (enters_of Tryd.func16 (by kernel_rfl) rfl) hcmp hH hg.2 (by simp [finT_len]; omega) (totT _ _)
  rw [List.size_toArray, finT_len] at h
  refine h.mono ?_
  rintro e w' ⟨rfl, q, os, rfl⟩
  have hl : ((finT s.size).mergeSort fun x y => !(ltOf (cfT (L s) s.size)) y x).length = s.size := by rw [List.length_mergeSort, finT_len]
  have h1 := Lib.ownsRow_putRow (q := q) hrow' hl (Nat.le_refl _)
  rw [List.take_of_length_le (by rw [hl]; exact Nat.le_refl _), sortT_enc _ _ (L_len s).symm] at h1
  have hb1 := Lib.below_putRow (enc := encT s.size) (q := q) (d := ((finT s.size).mergeSort fun x y => !(ltOf (cfT (L s) s.size)) y x).toArray) hb hg.1
  refine ⟨rfl, own_below h1 (below_growT _ _), hcell2 _ _ _, ?_⟩
  exact hb1.trans ((below_growT _ _).mono hb1.size)
theorem own_fresh0 (w : World) (e : TypeId) : (w.alloc (.cells #[] e)).ownsRow w.heap.size e 1 (.slice (some ⟨w.heap.size, 0, none⟩) 0 0) 0 [] :=
  ⟨rfl, .inr ⟨w.heap.size, 0, #[], rfl, Nat.le_refl _, heap_alloc_new w _, Nat.le_refl _, Nat.zero_le _, rfl, rfl⟩⟩
theorem twice_last {s : ByteArray} {i : Nat} (hi : i < s.size) : (L (s ++ s)).getD (i + s.size - 1) 0 = lastT (L s) i := by
  have e : L (s ++ s) = L s ++ L s := L_append s s
  unfold lastT
  rw [e, L_len, List.getD_eq_getElem?_getD, List.getD_eq_getElem?_getD]
  congr 1
  rcases Nat.eq_zero_or_pos i with h | h
  · subst h
    rw [Nat.zero_add, Nat.mod_eq_of_lt (by omega), List.getElem?_append_left (by rw [L_len]; omega)]
  · rw [List.getElem?_append_right (by rw [L_len]; omega), L_len, show i + s.size - 1 = i - 1 + s.size by omega, Nat.add_mod_right, Nat.mod_eq_of_lt (by omega)]
    congr 1; omega
def AtIs (o : List Nat) (k a : Nat) : Prop := (∀ j, j < k → o.getD j 0 = 0 → a = j) ∧ ((∀ j, j < k → o.getD j 0 ≠ 0) → a = 0)
theorem atIs_end {s : List UInt8} {a : Nat} (h : AtIs (turnO s) s.length a) : a = turnAt s := by
  unfold turnAt
  by_cases h0 : s = []
  · rw [if_pos h0]
    exact h.2 fun j hj => by rw [h0] at hj; exact absurd hj (Nat.not_lt_zero _)
  · rw [if_neg h0]
    have hm : 0 ∈ turnO s := (turnO_perm s).mem_iff.2 (List.mem_range.2 (List.length_pos_iff.2 h0))
    have hl := List.idxOf_lt_length_of_mem hm
    refine h.1 _ (by rw [turnO_len] at hl; exact hl) ?_
    rw [List.getD_eq_getElem?_getD, List.getElem?_eq_getElem hl, List.getElem_idxOf]; rfl
theorem turnO_inj {s : List UInt8} {i j : Nat} (hi : i < s.length) (hj : j < s.length) (h : (turnO s).getD i 0 = (turnO s).getD j 0) : i = j := by
  have hn : (turnO s).Nodup := (turnO_perm s).nodup_iff.2 List.nodup_range
  rw [List.getD_eq_getElem?_getD, List.getD_eq_getElem?_getD, List.getElem?_eq_getElem (by rw [turnO_len]; exact hi), List.getElem?_eq_getElem (by rw [turnO_len]; exact hj)] at h
  exact (List.getElem_inj hn).1 h
theorem atIs_hit {s : List UInt8} {k a : Nat} (hk : k < s.length) (h0 : (turnO s).getD k 0 = 0) (_h : AtIs (turnO s) k a) : AtIs (turnO s) (k + 1) k := by
  refine ⟨fun j hj hz => ?_, fun hn => absurd h0 (hn k (Nat.lt_succ_self k))⟩
  exact (turnO_inj (by omega) hk (hz.trans h0.symm)).symm
theorem atIs_miss {o : List Nat} {k a : Nat} (h0 : o.getD k 0 ≠ 0) (h : AtIs o k a) : AtIs o (k + 1) a := by
  refine ⟨fun j hj hz => ?_, fun hn => h.2 fun j hj => hn j (by omega)⟩
  rcases Nat.lt_or_ge j k with h1 | h1
  · exact h.1 j h1 hz
  · obtain rfl : j = k := by omega
    exact absurd hz h0
theorem turnL_snoc {s : List UInt8} {k : Nat} (hk : k < s.length) : (turnL s).take (k + 1) = (turnL s).take k ++ [lastT s ((turnO s).getD k 0)] := by
  rw [List.take_add_one, List.getElem?_eq_getElem (by rw [turnL_len]; exact hk)]
  congr 1
  unfold turnL
  rw [List.getElem_map, List.getD_eq_getElem?_getD, List.getElem?_eq_getElem (by rw [turnO_len]; exact hk)]; rfl
open Go.RowKit Go.Sort Go.Proofs
theorem infoU8T : (Tryd.prog.info? 5).map (fun i => (i.zero, i.size, i.bytes)) = some (some (.int .u8 0), 1, 1) := by kernel_rfl
set_option maxRecDepth 100000 in
set_option maxHeartbeats 16000000 in
theorem turnPut_any (s : ByteArray) (hs : s.size ≤ 200) (w : World) :
    Calls Tryd.prog 4 #[.string s] w fun e w' => e = .returned (.tuple #[.string (S (turnL (L s))), .int .i64 (turnAt (L s) : Nat), .int .i64 0]) ∧ Below w.heap.size w w' := by
  obtain ⟨i0, hi0, hz0, hz1, hz2⟩ := info_parts info_int
  obtain ⟨j0, hj0, hy0, hy1, hy2⟩ := info_parts infoU8T
  have HE : Hid (longErr s.size = 0) := by unfold Hid longErr; rw [if_neg (by omega)]
  go_enter Tryd.func4, Tryd.ntmps4
  go_wp2_with fail
  refine (wordCheck_any s _).mono ?_
  rintro e w1 ⟨rfl, hb1⟩
  rw [HE.out]
  have hbox := ((Blk.new_ w 9 #[.string s]).below' hb1).cell0
  have hz0' : w.heap.size < w1.heap.size := by have := hb1.size; simp only [World.size_alloc] at this; omega
  have hb1' : Below w.heap.size w w1 := bthen ((Below.refl _ _).alloc (Nat.le_refl _) _) hb1
  clear hb1
  have HBOX := Lib.hid hbox
  go_wp2_with (at_make; go_must (refine wpList_make_full _ rfl _ _ _ rfl w1.heap.size 3 i0 _ 1 Tryd.underlying25 hi0 hz0 hz1 .i64 .i64 (s.size : Int) (s.size : Int) s.size rfl rfl (by omega) (by omega) (by rw [hz2]; omega) (by unfold maxLen; omega) (Nat.le_refl _) ?_); intro w2 hown2 hg2)
  have hb2 : Below w1.heap.size w1 w2 := (Below.refl _ _).grown hg2 (Nat.le_refl _) (fun _ h => by cases h)
  have hown2 : ArrI w2 w1.heap.size w1.heap.size s.size (List.replicate s.size 0) := by
    rw [made_ints] at hown2; exact hown2
  clear hg2 hbox
  obtain ⟨g, hg⟩ : ∃ g, w1.heap.size = g := ⟨_, rfl⟩
  have hown2 : ArrI w2 w1.heap.size g s.size (idxT s.size 0) := by rw [← hg, idxT_zero]; exact hown2
  rw [hg]
  have HG := Lib.hid hg
  clear hg
  go_loopw [23] (fun iv wr => ∃ i : Nat, i ≤ s.size ∧ iv = .int .i64 (i : Int) ∧ ArrI wr w1.heap.size g s.size (idxT s.size i) ∧ Below w1.heap.size w1 wr) (fun iv _ => s.size - (intOf iv).toNat)
  case atStart => exact ⟨0, Nat.zero_le _, rfl, hown2, hb2⟩
  case round =>
    clear hown2 hb2
    obtain ⟨i, hi, rfl, hrow, hb⟩ := hrel
    have hgl := hrow.lt
    by_cases hlt : i < s.size
    · have g1 : decide ((i : Int) < (s.size : Int)) = true := decide_eq_true (by omega)
      have g1' : decide (i < s.size) = true := decide_eq_true hlt
      have c0 := hrow.at_ (k := i) hlt
      have f0 := hrow.free i
      have hln := hrow.len
      have HN : Hid ((idxT s.size i).set i (i : Int) = idxT s.size (i + 1)) := idxT_set _ _
      have HROW := Lib.hid hrow
      clear hrow
      generalize (idxT s.size i).getD i 0 = u at *
      go_wp2_with fail
      refine ⟨⟨i + 1, by omega, by go_num, ?_, hb.setCell (p := ⟨g, i, none⟩) hgl.1 _⟩, by simp [intOf]; omega⟩
      rw [← HN.out]
      exact HROW.out.set_ i _
    · obtain rfl : i = s.size := by omega
      have g1 : decide ((s.size : Int) < (s.size : Int)) = false := decide_eq_false (by omega)
      have g1' : decide (s.size < s.size) = false := decide_eq_false hlt
      have hbx := (hb.cell (p := ⟨w.heap.size, 0, none⟩) hz0').trans HBOX.out
      have hwr := hb.size
      obtain ⟨wt, hwt⟩ : ∃ wt, wt = wr.alloc (.cells #[.string (s ++ s)] 9) := ⟨_, rfl⟩
      have hbt : Below wr.heap.size wr wt := by rw [hwt]; exact (Below.refl _ _).alloc (Nat.le_refl _) _
      have hbx2 : wt.cell? ⟨wr.heap.size, 0, none⟩ = some (.string (s ++ s)) := by rw [hwt]; exact (Blk.new_ wr 9 #[.string (s ++ s)]).cell0
      have hl2 : wr.heap.size < wt.heap.size := by rw [hwt]; simp
      have hbx1 : wt.cell? ⟨w.heap.size, 0, none⟩ = some (.string s) := (hbt.cell (p := ⟨w.heap.size, 0, none⟩) (by show w.heap.size < wr.heap.size; omega)).trans hbx
      have hrow2 : ArrI wt w1.heap.size g s.size (idxT s.size s.size) := hrow.below hbt
      have hbt1 : Below w1.heap.size w1 wt := hb.trans (hbt.mono hwr)
      have HS := Lib.hid (turnSort_any s hs w1 wt wr.heap.size w.heap.size g hl2 (by omega) hz0' hbx2 hbx1 hrow2 hbt1)
      have hss : (s ++ s).size ≤ 400 := by rw [ByteArray.size_append]; omega
      clear hrow hrow2 hbx2 hbx1 hbt1
      go_wp2_with fail
      rw [← hwt]
      refine HS.out.mono ?_
      rintro e w3 ⟨rfl, hrow3, hc3, hb3⟩
      have hbx3 := (hb3.cell (p := ⟨w.heap.size, 0, none⟩) hz0').trans HBOX.out
      have hs3 := hb3.size
      have hl3 : wr.heap.size < w3.heap.size := World.block_lt_of_cell? _ _ hc3
      have hTz : (s ++ s).size = s.size + s.size := ByteArray.size_append
      have HLST : Hid (∀ i, i < s.size → (L (s ++ s)).getD (i + s.size - 1) 0 = lastT (L s) i) := fun i hi => twice_last hi
      clear hwt HS hl2 hbt hbx
      generalize s ++ s = T at *
      have hTl : s.size + s.size ≤ T.size := by omega
      clear hTz
      generalize wr.heap.size = gT at *
      have hof := own_fresh0 w3 5
      have hb4 : Below w3.heap.size w3 (w3.alloc (.cells #[] 5)) := (Below.refl _ _).alloc (Nat.le_refl _) _
      go_wp2_with fail
      generalize (w3.alloc (.cells #[] 5)) = w4 at *
      have hrg := hrow3.lt
      have HROW := Lib.hid hrow3
      have HC3 := Lib.hid hc3
      have HBX := Lib.hid hbx3
      have HLL := Lib.hid (L_len s)
      clear hrow3 hc3 hbx3
      go_loopw [9, 10, 40] (fun bv av kv wr => ∃ (k a : Nat), k ≤ s.size ∧ kv = .int .i64 (k : Int) ∧ av = .int .i64 (a : Int) ∧ Hid (AtIs (turnO (L s)) k a) ∧ wr.ownsRow w3.heap.size 5 1 bv k (byteCells ((turnL (L s)).take k)) ∧ Below w3.heap.size w3 wr) (fun _ _ kv _ => s.size - (intOf kv).toNat)
      case atStart => exact ⟨0, 0, Nat.zero_le _, rfl, rfl, ⟨fun j hj => absurd hj (Nat.not_lt_zero _), fun _ => rfl⟩, hof, hb4⟩
      case round =>
        clear hof hb4
        obtain ⟨k, a, hk, rfl, rfl, HA, hown, hbr⟩ := hrel
        have hrs := hbr.size
        by_cases hlt2 : k < s.size
        · have g2 : decide ((k : Int) < (s.size : Int)) = true := decide_eq_true (by omega)
          have g2' : decide (k < s.size) = true := decide_eq_true hlt2
          have hkl : k < (L s).length := by rw [HLL.out]; exact hlt2
          have c0 := (HROW.out.below hbr).at_ (k := k) hlt2
          rw [turnI_at _ hkl] at c0
          have hol := turnO_lt hkl
          rw [HLL.out] at hol
          have HSN := Lib.hid (turnL_snoc hkl)
          have HHIT : Hid ((turnO (L s)).getD k 0 = 0 → AtIs (turnO (L s)) (k + 1) k) := fun h => atIs_hit hkl h HA.out
          have HMISS : Hid ((turnO (L s)).getD k 0 ≠ 0 → AtIs (turnO (L s)) (k + 1) a) := fun h => atIs_miss h HA.out
          have hlast := HLST.out _ hol
          have HO := Lib.hid hown
          have cb2 := (hbr.cell (p := ⟨gT, 0, none⟩) hl3).trans HC3.out
          have cb1 := (hbr.cell (p := ⟨w.heap.size, 0, none⟩) (by show w.heap.size < w3.heap.size; omega)).trans HBX.out
          clear HA hown
          generalize (turnO (L s)).getD k 0 = o at *
          have e0 : ((o : Int) + (s.size : Int) - 1) = ((o + s.size - 1 : Nat) : Int) := by omega
          have hix := fun w => run_index_S (P := Tryd.prog) Tryd.underlying9 T (o + s.size - 1) (by omega) w
          rw [hlast, ← e0] at hix
          clear hlast e0
          generalize lastT (L s) o = y at *
          have happ : byteCells ((turnL (L s)).take k) ++ [.int .u8 (y.toNat : Int)] = byteCells ((turnL (L s)).take (k + 1)) := by
            rw [HSN.out]; simp [byteCells]
          have HAPP := Lib.hid happ
          clear happ HSN
          by_cases ho : o = 0
          · have HN := Lib.hid (HHIT.out ho)
            have g3 : ((o : Int) == 0) = true := by rw [beq_iff_eq]; omega
            clear HHIT HMISS ho
            go_wp2_with (at_builtin; go_must (refine wpList_appG rfl _ _ _ rfl w3.heap.size 5 j0 _ 1 1 Tryd.underlying44 hj0 hy0 hy1 hy2 rfl (by omega) _ k (byteCells ((turnL (L s)).take k)) rfl (World.ownsRow.alloc HO.out _) ⟨_, 0, none⟩ 1 1 [.int .u8 (y.toNat : Int)] rfl rfl (cell_one_new _ _ _) (by simp [Value.oneCell']) (by omega) (by omega) (by simp; omega) ?_); intro v6 w6 hown6 hg6 hb6)
            have hB6 : Below w3.heap.size w3 w6 := (hbr.alloc hrs _).trans hb6
            go_roundw
            case rel => exact ⟨k + 1, k, by omega, by go_num, by go_num, HN, by rw [← HAPP.out]; exact hown6, hB6⟩
            case measure => simp [intOf]; omega
          · have HN := Lib.hid (HMISS.out ho)
            have g3 : ((o : Int) == 0) = false := by rw [beq_eq_false_iff_ne]; omega
            clear HHIT HMISS ho
            go_wp2_with (at_builtin; go_must (refine wpList_appG rfl _ _ _ rfl w3.heap.size 5 j0 _ 1 1 Tryd.underlying44 hj0 hy0 hy1 hy2 rfl (by omega) _ k (byteCells ((turnL (L s)).take k)) rfl (World.ownsRow.alloc HO.out _) ⟨_, 0, none⟩ 1 1 [.int .u8 (y.toNat : Int)] rfl rfl (cell_one_new _ _ _) (by simp [Value.oneCell']) (by omega) (by omega) (by simp; omega) ?_); intro v6 w6 hown6 hg6 hb6)
            have hB6 : Below w3.heap.size w3 w6 := (hbr.alloc hrs _).trans hb6
            go_roundw
            case rel => exact ⟨k + 1, a, by omega, by go_num, by go_num, HN, by rw [← HAPP.out]; exact hown6, hB6⟩
            case measure => simp [intOf]; omega
        · have hke : Hid (k = s.size) := by unfold Hid; omega
          have g2 : decide ((k : Int) < (s.size : Int)) = false := decide_eq_false (by omega)
          have g2' : decide (k < s.size) = false := decide_eq_false hlt2
          have HAT : Hid (a = turnAt (L s)) := atIs_end (by rw [HLL.out, ← hke.out]; exact HA.out)
          have HTK : Hid ((turnL (L s)).take k = turnL (L s)) := List.take_of_length_le (by rw [turnL_len, HLL.out, hke.out]; exact Nat.le_refl _)
          rw [HTK.out] at hown
          obtain ⟨A, c, rfl, hnc, hcm, hrx⟩ := own_form hown
          have hcv := run_bytes_string (P := Tryd.prog) wr (src := 44) (dst := 9) Tryd.underlying44 Tryd.underlying5 Tryd.underlying9 (c := c) hrx
          clear hown hrx HA
          go_wp2_with fail
          (apply bodyPost_ret; (simp [results, Tryd.results4, go_sem]; rfl); rfl)
          rw [HAT.out]
          exact ⟨rfl, bthen hb1' (hb3.trans (hbr.mono hs3))⟩
end Go.Proofs.YtncakjchaniheaaDoor
