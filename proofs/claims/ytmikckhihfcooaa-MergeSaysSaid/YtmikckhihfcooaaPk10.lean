/- The stable sort at rows of records: the walk of the library's functions. The stable sort at rows of records, second part: symMerge whole, the insertion sort, the blocks. -/
import Derived.Test.YtmikckhihfcooaaPk08
import Derived.Test.YtmikckhihfcooaaPk09
import Derived.Test.YtmikckhihfcooaaPk04
import Derived.Lib.QuietBelow
namespace Go.Proofs.Ytmikckhihfcooaa
open Go.RowKit
/-- A row of records in its place. -/
structure RowE (w : World) (base : Nat) (ad : Addr) (c N : Nat) (l : List Ed) : Prop where
  own : OwnO w base 30 3 (.slice (some ad) N c) N (edCells l)
  len : l.length = N
theorem RowE.below {w w' : World} {base : Nat} {ad : Addr} {c N : Nat} {l : List Ed} (h : RowE w base ad c N l) (hb : Below w.heap.size w w') : RowE w' base ad c N l := ⟨h.own.below hb, h.len⟩
theorem RowE.drewN {w : World} {base : Nat} {ad : Addr} {c N : Nat} {l : List Ed} (h : RowE w base ad c N l) (k : Nat) : RowE (w.drewN k) base ad c N l := ⟨h.own, h.len⟩
theorem RowE.drew {w : World} {base : Nat} {ad : Addr} {c N : Nat} {l : List Ed} (h : RowE w base ad c N l) : RowE w.drew base ad c N l := ⟨h.own, h.len⟩
theorem cellE_len (x : Ed) : (Ed.cells x).length = 3 := rfl
theorem recE_at {w : World} {base : Nat} {ad : Addr} {c N : Nat} {l : List Ed} (h : RowE w base ad c N l) {j : Nat} {x : Ed} (hx : l[j]? = some x) :
    w.cell? (ad.add (j * 3)) = some (.int .i64 x.at_) ∧ w.cell? ⟨(ad.add (j * 3)).block, (ad.add (j * 3)).off + 1, none⟩ = some (.int .i64 x.del) ∧ w.cell? ⟨(ad.add (j * 3)).block, (ad.add (j * 3)).off + 2, none⟩ = some (.string (S x.ins)) := by
  obtain ⟨A', c', hv, _, _, hr⟩ := h.own.form
  cases hv
  have hj : j < N := by rw [← h.len]; exact (List.getElem?_eq_some_iff.1 hx).1
  obtain ⟨ad', hl, e, _, hc⟩ := Rd.at_rec cellE_len (by omega) hr hj
  cases e
  have he : l[j] = x := (List.getElem?_eq_some_iff.1 hx).2
  rw [he] at hc
  refine ⟨hc 0 _ rfl, ?_, ?_⟩
  · have h1 := hc 1 _ rfl
    rwa [add_one] at h1
  · have h1 := hc 2 _ rfl
    rwa [add_two] at h1
theorem cellsE_set {l : List Ed} {j : Nat} (h : j < l.length) (x : Ed) : (((edCells l).set (j * 3) (.int .i64 x.at_)).set (j * 3 + 1) (.int .i64 x.del)).set (j * 3 + 2) (.string (S x.ins)) = edCells (l.set j x) := by
  induction l generalizing j with
  | nil => simp at h
  | cons y l ih =>
    cases j with
    | zero => rfl
    | succ j =>
      have ih' := ih (j := j) (by simpa using h)
      have hl : (Ed.cells y).length = 3 := rfl
      show (Ed.cells y ++ edCells l |>.set ((j + 1) * 3) (.int .i64 x.at_) |>.set ((j + 1) * 3 + 1) (.int .i64 x.del) |>.set ((j + 1) * 3 + 2) (.string (S x.ins))) = Ed.cells y ++ edCells (l.set j x)
      rw [List.set_append_right _ _ (by rw [hl]; omega), List.set_append_right _ _ (by rw [hl]; omega), List.set_append_right _ _ (by rw [hl]; omega), hl, show (j + 1) * 3 - 3 = j * 3 by omega, show (j + 1) * 3 + 1 - 3 = j * 3 + 1 by omega, show (j + 1) * 3 + 2 - 3 = j * 3 + 2 by omega, ih']
/-- Two exchanged. -/
theorem RowE.two {w w' : World} {base : Nat} {ad : Addr} {c N : Nat} {A B C : List Ed} {x y : Ed} (h : RowE w base ad c N (A ++ x :: (B ++ y :: C))) (h' : OwnO w' base 30 3 (.slice (some ad) N c) N (edCells (A ++ y :: (B ++ x :: C)))) : RowE w' base ad c N (A ++ y :: (B ++ x :: C)) :=
  ⟨h', by have := h.len; simp only [List.length_append, List.length_cons] at this ⊢; exact this⟩
set_option maxRecDepth 100000 in
set_option maxHeartbeats 16000000 in
theorem swapRangeE_any (P X M Y R : List Ed) (hn : X.length = Y.length) (ad : Addr) (c N base a b n : Nat) (cl : Value) (w : World) (h : RowE w base ad c N (P ++ (X ++ (M ++ (Y ++ R))))) (hN : N ≤ 1000000) (ha : a = P.length) (hb : b = P.length + X.length + M.length) (hnn : n = X.length) :
    Calls Try.prog 30 #[.slice (some ad) N c, .int .i64 (a : Int), .int .i64 (b : Int), .int .i64 (n : Int), cl] w fun e w' => e = .returned (.tuple #[]) ∧ RowE w' base ad c N (P ++ (Y ++ (M ++ (X ++ R)))) ∧ w.grownBy w' (some ad.block) := by
  have HSW : Hid (∀ t, t < n → ∃ (x y : Ed) (A B C : List Ed), a + t = A.length ∧ b + t = A.length + 1 + B.length ∧ P ++ ((Y.take t ++ X.drop t) ++ (M ++ ((X.take t ++ Y.drop t) ++ R))) = A ++ x :: (B ++ y :: C) ∧ P ++ ((Y.take (t + 1) ++ X.drop (t + 1)) ++ (M ++ ((X.take (t + 1) ++ Y.drop (t + 1)) ++ R))) = A ++ y :: (B ++ x :: C)) := by
    intro t ht
    have hx : t < X.length := by omega
    have hy : t < Y.length := by omega
    refine ⟨X[t], Y[t], P ++ Y.take t, X.drop (t + 1) ++ (M ++ X.take t), Y.drop (t + 1) ++ R, ?_, ?_, ?_, ?_⟩
    · rw [List.length_append, List.length_take]; omega
    · simp only [List.length_append, List.length_take, List.length_drop]; omega
    · rw [List.drop_eq_getElem_cons hx, List.drop_eq_getElem_cons hy]; simp only [List.append_assoc, List.cons_append]
    · rw [List.take_succ_eq_append_getElem hx, List.take_succ_eq_append_getElem hy]; simp only [List.append_assoc, List.cons_append, List.nil_append]
  have HZ : Hid (n ≤ N ∧ a + n ≤ N ∧ b + n ≤ N ∧ a + n ≤ b) := by
    have := h.len
    simp only [List.length_append] at this
    unfold Hid
    omega
  have HST : Hid (RowE w base ad c N (P ++ ((Y.take 0 ++ X.drop 0) ++ (M ++ ((X.take 0 ++ Y.drop 0) ++ R))))) := h
  have HEN : Hid (P ++ ((Y.take n ++ X.drop n) ++ (M ++ ((X.take n ++ Y.drop n) ++ R))) = P ++ (Y ++ (M ++ (X ++ R)))) := by
    unfold Hid
    rw [List.take_of_length_le (l := Y) (by omega), List.drop_of_length_le (l := X) (by omega), List.take_of_length_le (l := X) (by omega), List.drop_of_length_le (l := Y) (by omega)]; simp
  clear h ha hb hnn
  obtain ⟨z1, z2, z3, z4⟩ := HZ.out
  go_enter Try.func30, Try.ntmps30
  go_wp2_with fail
  go_loopw [10] (fun iv wr => ∃ t : Nat, t ≤ n ∧ iv = .int .i64 (t : Int) ∧ RowE wr base ad c N (P ++ ((Y.take t ++ X.drop t) ++ (M ++ ((X.take t ++ Y.drop t) ++ R)))) ∧ w.grownBy wr (some ad.block)) (fun iv _ => n - (intOf iv).toNat)
  case atStart => exact ⟨0, Nat.zero_le _, rfl, HST.out, gb_refl _ _⟩
  case round =>
    clear HST
    obtain ⟨t, ht, rfl, hrow, hgb⟩ := hrel
    by_cases hlt : t < n
    · have g1 : decide ((t : Int) < (n : Int)) = true := decide_eq_true (by omega)
      have g1' : decide (t < n) = true := decide_eq_true hlt
      obtain ⟨x, y, A, B, C, hA, hB, hl, hl'⟩ := HSW.out t hlt
      rw [hl] at hrow
      have HL' := Lib.hid hl'
      obtain ⟨hxi, hyj, hsw, _⟩ := swap_two A B C x y hA hB
      have hij : a + t ≠ b + t := by omega
      have hi9 : a + t < N := by omega
      have hj9 : b + t < N := by omega
      have HROW := Lib.hid hrow
      have HOWN := Lib.hid hrow.own
      have HSWP := Lib.hid hsw
      obtain ⟨ci0, ci1, ci2⟩ := recE_at HROW.out hxi
      obtain ⟨cj0, cj1, cj2⟩ := recE_at HROW.out hyj
      have HCS : Hid (∀ q : Ed, True) := fun _ => trivial
      have hlen := hrow.len
      have hset := cellsE_set (l := A ++ x :: (B ++ y :: C)) (j := a + t) (by omega) y
      have hset2 := cellsE_set (l := (A ++ x :: (B ++ y :: C)).set (a + t) y) (j := b + t) (by rw [List.length_set]; omega) x
      rw [← hset, hsw] at hset2
      clear hl hl' hA hB hsw hrow hxi hyj hset hlen HSW HEN
      clear HCS
      obtain ⟨s0, f0⟩ := own_setS HOWN.out (j := (a + t) * 3) (by omega) (.int .i64 y.at_)
      obtain ⟨s1, f1⟩ := own_setS s0 (j := (a + t) * 3 + 1) (by omega) (.int .i64 y.del)
      obtain ⟨s2, f2⟩ := own_setS s1 (j := (a + t) * 3 + 2) (by omega) (.string (S y.ins))
      obtain ⟨s3, f3⟩ := own_setS s2 (j := (b + t) * 3) (by omega) (.int .i64 x.at_)
      obtain ⟨s4, f4⟩ := own_setS s3 (j := (b + t) * 3 + 1) (by omega) (.int .i64 x.del)
      obtain ⟨s5, f5⟩ := own_setS s4 (j := (b + t) * 3 + 2) (by omega) (.string (S x.ins))
      have fi0 := (own_setS HOWN.out (j := (a + t) * 3) (by omega) (.int .i64 0)).2
      have fj0 := (own_setS HOWN.out (j := (b + t) * 3) (by omega) (.int .i64 0)).2
      have fi1 := (own_setS HOWN.out (j := (a + t) * 3 + 1) (by omega) (.int .i64 0)).2
      have fj1 := (own_setS HOWN.out (j := (b + t) * 3 + 1) (by omega) (.int .i64 0)).2
      have fi2 := (own_setS HOWN.out (j := (a + t) * 3 + 2) (by omega) (.int .i64 0)).2
      have fj2 := (own_setS HOWN.out (j := (b + t) * 3 + 2) (by omega) (.int .i64 0)).2
      rw [add_one] at fi1
      rw [add_two] at fi2
      rw [add_one] at fj1
      rw [add_two] at fj2
      rw [add_one ad ((a + t) * 3), add_two ad ((a + t) * 3), add_one ad ((b + t) * 3), add_two ad ((b + t) * 3)] at s5
      have hna := own_addrS HOWN.out
      have mi1 : (wr.setCell (ad.add ((a + t) * 3)) (.int .i64 y.at_)).cell? ⟨(ad.add ((a + t) * 3)).block, (ad.add ((a + t) * 3)).off + 1, none⟩ = some (.int .i64 x.del) := ((World.cell?_setCell_other _ _ _ _ (show ((ad.add ((a + t) * 3)) : Addr) ≠ (⟨(ad.add ((a + t) * 3)).block, (ad.add ((a + t) * 3)).off + 1, none⟩ : Addr) by rw [← add_one ad ((a + t) * 3)]; exact hna _ _ (by omega))).trans ci1)
      have mi2 : ((wr.setCell (ad.add ((a + t) * 3)) (.int .i64 y.at_)).setCell ⟨(ad.add ((a + t) * 3)).block, (ad.add ((a + t) * 3)).off + 1, none⟩ (.int .i64 y.del)).cell? ⟨(ad.add ((a + t) * 3)).block, (ad.add ((a + t) * 3)).off + 2, none⟩ = some (.string (S x.ins)) := ((World.cell?_setCell_other _ _ _ _ (show (⟨(ad.add ((a + t) * 3)).block, (ad.add ((a + t) * 3)).off + 1, none⟩ : Addr) ≠ (⟨(ad.add ((a + t) * 3)).block, (ad.add ((a + t) * 3)).off + 2, none⟩ : Addr) by rw [← add_one ad ((a + t) * 3), ← add_two ad ((a + t) * 3)]; exact hna _ _ (by omega))).trans ((World.cell?_setCell_other _ _ _ _ (show ((ad.add ((a + t) * 3)) : Addr) ≠ (⟨(ad.add ((a + t) * 3)).block, (ad.add ((a + t) * 3)).off + 2, none⟩ : Addr) by rw [← add_two ad ((a + t) * 3)]; exact hna _ _ (by omega))).trans ci2))
      have pj0 : (((wr.setCell (ad.add ((a + t) * 3)) (.int .i64 y.at_)).setCell ⟨(ad.add ((a + t) * 3)).block, (ad.add ((a + t) * 3)).off + 1, none⟩ (.int .i64 y.del)).setCell ⟨(ad.add ((a + t) * 3)).block, (ad.add ((a + t) * 3)).off + 2, none⟩ (.string (S y.ins))).cell? (ad.add ((b + t) * 3)) = some (.int .i64 y.at_) := ((World.cell?_setCell_other _ _ _ _ (show (⟨(ad.add ((a + t) * 3)).block, (ad.add ((a + t) * 3)).off + 2, none⟩ : Addr) ≠ ((ad.add ((b + t) * 3)) : Addr) by rw [← add_two ad ((a + t) * 3)]; exact hna _ _ (by omega))).trans ((World.cell?_setCell_other _ _ _ _ (show (⟨(ad.add ((a + t) * 3)).block, (ad.add ((a + t) * 3)).off + 1, none⟩ : Addr) ≠ ((ad.add ((b + t) * 3)) : Addr) by rw [← add_one ad ((a + t) * 3)]; exact hna _ _ (by omega))).trans ((World.cell?_setCell_other _ _ _ _ (show ((ad.add ((a + t) * 3)) : Addr) ≠ ((ad.add ((b + t) * 3)) : Addr) by exact hna _ _ (by omega))).trans cj0)))
      have pj1 : (((wr.setCell (ad.add ((a + t) * 3)) (.int .i64 y.at_)).setCell ⟨(ad.add ((a + t) * 3)).block, (ad.add ((a + t) * 3)).off + 1, none⟩ (.int .i64 y.del)).setCell ⟨(ad.add ((a + t) * 3)).block, (ad.add ((a + t) * 3)).off + 2, none⟩ (.string (S y.ins))).cell? ⟨(ad.add ((b + t) * 3)).block, (ad.add ((b + t) * 3)).off + 1, none⟩ = some (.int .i64 y.del) := ((World.cell?_setCell_other _ _ _ _ (show (⟨(ad.add ((a + t) * 3)).block, (ad.add ((a + t) * 3)).off + 2, none⟩ : Addr) ≠ (⟨(ad.add ((b + t) * 3)).block, (ad.add ((b + t) * 3)).off + 1, none⟩ : Addr) by rw [← add_two ad ((a + t) * 3), ← add_one ad ((b + t) * 3)]; exact hna _ _ (by omega))).trans ((World.cell?_setCell_other _ _ _ _ (show (⟨(ad.add ((a + t) * 3)).block, (ad.add ((a + t) * 3)).off + 1, none⟩ : Addr) ≠ (⟨(ad.add ((b + t) * 3)).block, (ad.add ((b + t) * 3)).off + 1, none⟩ : Addr) by rw [← add_one ad ((a + t) * 3), ← add_one ad ((b + t) * 3)]; exact hna _ _ (by omega))).trans ((World.cell?_setCell_other _ _ _ _ (show ((ad.add ((a + t) * 3)) : Addr) ≠ (⟨(ad.add ((b + t) * 3)).block, (ad.add ((b + t) * 3)).off + 1, none⟩ : Addr) by rw [← add_one ad ((b + t) * 3)]; exact hna _ _ (by omega))).trans cj1)))
      have pj2 : (((wr.setCell (ad.add ((a + t) * 3)) (.int .i64 y.at_)).setCell ⟨(ad.add ((a + t) * 3)).block, (ad.add ((a + t) * 3)).off + 1, none⟩ (.int .i64 y.del)).setCell ⟨(ad.add ((a + t) * 3)).block, (ad.add ((a + t) * 3)).off + 2, none⟩ (.string (S y.ins))).cell? ⟨(ad.add ((b + t) * 3)).block, (ad.add ((b + t) * 3)).off + 2, none⟩ = some (.string (S y.ins)) := ((World.cell?_setCell_other _ _ _ _ (show (⟨(ad.add ((a + t) * 3)).block, (ad.add ((a + t) * 3)).off + 2, none⟩ : Addr) ≠ (⟨(ad.add ((b + t) * 3)).block, (ad.add ((b + t) * 3)).off + 2, none⟩ : Addr) by rw [← add_two ad ((a + t) * 3), ← add_two ad ((b + t) * 3)]; exact hna _ _ (by omega))).trans ((World.cell?_setCell_other _ _ _ _ (show (⟨(ad.add ((a + t) * 3)).block, (ad.add ((a + t) * 3)).off + 1, none⟩ : Addr) ≠ (⟨(ad.add ((b + t) * 3)).block, (ad.add ((b + t) * 3)).off + 2, none⟩ : Addr) by rw [← add_one ad ((a + t) * 3), ← add_two ad ((b + t) * 3)]; exact hna _ _ (by omega))).trans ((World.cell?_setCell_other _ _ _ _ (show ((ad.add ((a + t) * 3)) : Addr) ≠ (⟨(ad.add ((b + t) * 3)).block, (ad.add ((b + t) * 3)).off + 2, none⟩ : Addr) by rw [← add_two ad ((b + t) * 3)]; exact hna _ _ (by omega))).trans cj2)))
      have mj1 : ((((wr.setCell (ad.add ((a + t) * 3)) (.int .i64 y.at_)).setCell ⟨(ad.add ((a + t) * 3)).block, (ad.add ((a + t) * 3)).off + 1, none⟩ (.int .i64 y.del)).setCell ⟨(ad.add ((a + t) * 3)).block, (ad.add ((a + t) * 3)).off + 2, none⟩ (.string (S y.ins))).setCell (ad.add ((b + t) * 3)) (.int .i64 x.at_)).cell? ⟨(ad.add ((b + t) * 3)).block, (ad.add ((b + t) * 3)).off + 1, none⟩ = some (.int .i64 y.del) := ((World.cell?_setCell_other _ _ _ _ (show ((ad.add ((b + t) * 3)) : Addr) ≠ (⟨(ad.add ((b + t) * 3)).block, (ad.add ((b + t) * 3)).off + 1, none⟩ : Addr) by rw [← add_one ad ((b + t) * 3)]; exact hna _ _ (by omega))).trans ((World.cell?_setCell_other _ _ _ _ (show (⟨(ad.add ((a + t) * 3)).block, (ad.add ((a + t) * 3)).off + 2, none⟩ : Addr) ≠ (⟨(ad.add ((b + t) * 3)).block, (ad.add ((b + t) * 3)).off + 1, none⟩ : Addr) by rw [← add_two ad ((a + t) * 3), ← add_one ad ((b + t) * 3)]; exact hna _ _ (by omega))).trans ((World.cell?_setCell_other _ _ _ _ (show (⟨(ad.add ((a + t) * 3)).block, (ad.add ((a + t) * 3)).off + 1, none⟩ : Addr) ≠ (⟨(ad.add ((b + t) * 3)).block, (ad.add ((b + t) * 3)).off + 1, none⟩ : Addr) by rw [← add_one ad ((a + t) * 3), ← add_one ad ((b + t) * 3)]; exact hna _ _ (by omega))).trans ((World.cell?_setCell_other _ _ _ _ (show ((ad.add ((a + t) * 3)) : Addr) ≠ (⟨(ad.add ((b + t) * 3)).block, (ad.add ((b + t) * 3)).off + 1, none⟩ : Addr) by rw [← add_one ad ((b + t) * 3)]; exact hna _ _ (by omega))).trans cj1))))
      have mj2 : (((((wr.setCell (ad.add ((a + t) * 3)) (.int .i64 y.at_)).setCell ⟨(ad.add ((a + t) * 3)).block, (ad.add ((a + t) * 3)).off + 1, none⟩ (.int .i64 y.del)).setCell ⟨(ad.add ((a + t) * 3)).block, (ad.add ((a + t) * 3)).off + 2, none⟩ (.string (S y.ins))).setCell (ad.add ((b + t) * 3)) (.int .i64 x.at_)).setCell ⟨(ad.add ((b + t) * 3)).block, (ad.add ((b + t) * 3)).off + 1, none⟩ (.int .i64 x.del)).cell? ⟨(ad.add ((b + t) * 3)).block, (ad.add ((b + t) * 3)).off + 2, none⟩ = some (.string (S y.ins)) := ((World.cell?_setCell_other _ _ _ _ (show (⟨(ad.add ((b + t) * 3)).block, (ad.add ((b + t) * 3)).off + 1, none⟩ : Addr) ≠ (⟨(ad.add ((b + t) * 3)).block, (ad.add ((b + t) * 3)).off + 2, none⟩ : Addr) by rw [← add_one ad ((b + t) * 3), ← add_two ad ((b + t) * 3)]; exact hna _ _ (by omega))).trans ((World.cell?_setCell_other _ _ _ _ (show ((ad.add ((b + t) * 3)) : Addr) ≠ (⟨(ad.add ((b + t) * 3)).block, (ad.add ((b + t) * 3)).off + 2, none⟩ : Addr) by rw [← add_two ad ((b + t) * 3)]; exact hna _ _ (by omega))).trans ((World.cell?_setCell_other _ _ _ _ (show (⟨(ad.add ((a + t) * 3)).block, (ad.add ((a + t) * 3)).off + 2, none⟩ : Addr) ≠ (⟨(ad.add ((b + t) * 3)).block, (ad.add ((b + t) * 3)).off + 2, none⟩ : Addr) by rw [← add_two ad ((a + t) * 3), ← add_two ad ((b + t) * 3)]; exact hna _ _ (by omega))).trans ((World.cell?_setCell_other _ _ _ _ (show (⟨(ad.add ((a + t) * 3)).block, (ad.add ((a + t) * 3)).off + 1, none⟩ : Addr) ≠ (⟨(ad.add ((b + t) * 3)).block, (ad.add ((b + t) * 3)).off + 2, none⟩ : Addr) by rw [← add_one ad ((a + t) * 3), ← add_two ad ((b + t) * 3)]; exact hna _ _ (by omega))).trans ((World.cell?_setCell_other _ _ _ _ (show ((ad.add ((a + t) * 3)) : Addr) ≠ (⟨(ad.add ((b + t) * 3)).block, (ad.add ((b + t) * 3)).off + 2, none⟩ : Addr) by rw [← add_two ad ((b + t) * 3)]; exact hna _ _ (by omega))).trans cj2)))))
      obtain ⟨W9, hW9⟩ : ∃ W9, W9 = ((((((wr.setCell (ad.add ((a + t) * 3)) (.int .i64 y.at_)).setCell ⟨(ad.add ((a + t) * 3)).block, (ad.add ((a + t) * 3)).off + 1, none⟩ (.int .i64 y.del)).setCell ⟨(ad.add ((a + t) * 3)).block, (ad.add ((a + t) * 3)).off + 2, none⟩ (.string (S y.ins))).setCell (ad.add ((b + t) * 3)) (.int .i64 x.at_)).setCell ⟨(ad.add ((b + t) * 3)).block, (ad.add ((b + t) * 3)).off + 1, none⟩ (.int .i64 x.del)).setCell ⟨(ad.add ((b + t) * 3)).block, (ad.add ((b + t) * 3)).off + 2, none⟩ (.string (S x.ins))) := ⟨_, rfl⟩
      rw [← hW9] at s5
      have hg9 : wr.grownBy W9 (some ad.block) := by
        rw [hW9]
        refine gb_at (gb_at (gb_at (gb_at (gb_at (gb_at (gb_refl _ _) _ _ ?_) _ _ ?_) _ _ ?_) _ _ ?_) _ _ ?_) _ _ ?_
        all_goals exact blk_add _ _
      have HW9 := Lib.hid hW9
      clear hW9
      have HS9 := Lib.hid s5
      clear s0 s1 s2 s3 s4 s5 hna
      clear f0 f1 f2 f3 f4 f5
      have k0 : wr.cell? (ad.add ((b + t) * 3)) = some (.int .i64 y.at_) ∧ wr.cell? ⟨(ad.add ((b + t) * 3)).block, (ad.add ((b + t) * 3)).off + 1, none⟩ = some (.int .i64 y.del) ∧ wr.cell? ⟨(ad.add ((b + t) * 3)).block, (ad.add ((b + t) * 3)).off + 2, none⟩ = some (.string (S y.ins)) := ⟨cj0, cj1, cj2⟩
      have HK0 := Lib.hid k0; clear k0
      have kj : (((wr.setCell (ad.add ((a + t) * 3)) (.int .i64 y.at_)).setCell ⟨(ad.add ((a + t) * 3)).block, (ad.add ((a + t) * 3)).off + 1, none⟩ (.int .i64 y.del)).setCell ⟨(ad.add ((a + t) * 3)).block, (ad.add ((a + t) * 3)).off + 2, none⟩ (.string (S y.ins))).cell? (ad.add ((b + t) * 3)) = some (.int .i64 y.at_) ∧ (((wr.setCell (ad.add ((a + t) * 3)) (.int .i64 y.at_)).setCell ⟨(ad.add ((a + t) * 3)).block, (ad.add ((a + t) * 3)).off + 1, none⟩ (.int .i64 y.del)).setCell ⟨(ad.add ((a + t) * 3)).block, (ad.add ((a + t) * 3)).off + 2, none⟩ (.string (S y.ins))).cell? ⟨(ad.add ((b + t) * 3)).block, (ad.add ((b + t) * 3)).off + 1, none⟩ = some (.int .i64 y.del) ∧ (((wr.setCell (ad.add ((a + t) * 3)) (.int .i64 y.at_)).setCell ⟨(ad.add ((a + t) * 3)).block, (ad.add ((a + t) * 3)).off + 1, none⟩ (.int .i64 y.del)).setCell ⟨(ad.add ((a + t) * 3)).block, (ad.add ((a + t) * 3)).off + 2, none⟩ (.string (S y.ins))).cell? ⟨(ad.add ((b + t) * 3)).block, (ad.add ((b + t) * 3)).off + 2, none⟩ = some (.string (S y.ins)) := ⟨pj0, pj1, pj2⟩
      have HKJ := Lib.hid kj; clear kj
      go_wp2_with fail
      obtain ⟨F1, hFd⟩ : ∃ F : World → Prop, F = fun w' => w'.cell? (ad.add ((b + t) * 3)) = some (.int .i64 y.at_) ∧ w'.cell? ⟨(ad.add ((b + t) * 3)).block, (ad.add ((b + t) * 3)).off + 1, none⟩ = some (.int .i64 y.del) ∧ w'.cell? ⟨(ad.add ((b + t) * 3)).block, (ad.add ((b + t) * 3)).off + 2, none⟩ = some (.string (S y.ins)) := ⟨_, rfl⟩
      have HF1 := Lib.hid hFd
      clear hFd
      have hcell10 : ∀ p' : Wof F1, p'.w.cell? (ad.add ((b + t) * 3)) = some (.int .i64 y.at_) := fun ⟨x, hx⟩ => by rw [HF1.out] at hx; exact hx.1
      have hcell11 : ∀ p' : Wof F1, p'.w.cell? ⟨(ad.add ((b + t) * 3)).block, (ad.add ((b + t) * 3)).off + 1, none⟩ = some (.int .i64 y.del) := fun ⟨x, hx⟩ => by rw [HF1.out] at hx; exact hx.2.1
      have hcell12 : ∀ p' : Wof F1, p'.w.cell? ⟨(ad.add ((b + t) * 3)).block, (ad.add ((b + t) * 3)).off + 2, none⟩ = some (.string (S y.ins)) := fun ⟨x, hx⟩ => by rw [HF1.out] at hx; exact hx.2.2
      refine wp_region_schedT (.op 0 true (.op 1 true (.op 2 true (.op 3 true (.op 4 true (.op 5 true (.op 6 true (.op 7 true (.op 8 true (.op 9 true (.op 10 true (.op 11 true (.op 12 true (.op 13 true (.op 14 true (.op 15 true (.op 16 true (.op 17 true (.op 18 true (.op 19 false (.op 20 true (.op 21 false .nil)))))))))))))))))))))) 22 22 [23] F1 (by kernel_rfl) (by kernel_rfl) (by kernel_rfl) rfl (fun _ _ _ _ _ h => h) (by kernel_rfl) (by rw [HF1.out]; exact HK0.out) (by rw [HF1.out]; exact fun h => h) ?_
      intro hne1
      simp only [opersT, opsAt, List.getElem?_toArray, List.getElem?_cons_succ, List.getElem?_cons_zero]
      repeat (first | (refine wpT_free rfl ?_; intro K hK; go_big_quiet_op; go_big_quiet_on) | (refine wpT_wantS _ rfl rfl rfl ?_; intro K hK; go_big_quiet_op; go_big_quiet_on) | (refine wpT_skipS _ rfl rfl rfl rfl ?_; simp only [Act.put, List.setIfInBounds_toArray, List.set_cons_zero, List.set_cons_succ]) | (refine wpT_skipU _ rfl rfl rfl ?_; simp only [Act.put, List.setIfInBounds_toArray, List.set_cons_zero, List.set_cons_succ]))
      refine wpT_other ?_
      go_wp2_with fail
      refine sched_back (by rw [HF1.out]; exact HK0.out) ?_
      repeat (first | (refine wpT_free rfl ?_; intro K hK; go_big_quiet_op; go_big_quiet_on) | (refine wpT_wantS _ rfl rfl rfl ?_; intro K hK; go_big_quiet_op; go_big_quiet_on) | (refine wpT_skipS _ rfl rfl rfl rfl ?_; simp only [Act.put, List.setIfInBounds_toArray, List.set_cons_zero, List.set_cons_succ]) | (refine wpT_skipU _ rfl rfl rfl ?_; simp only [Act.put, List.setIfInBounds_toArray, List.set_cons_zero, List.set_cons_succ]))
      refine wpT_other ?_
      go_wp2_with fail
      refine sched_back (by rw [HF1.out]; exact HKJ.out) ?_
      repeat (first | (refine wpT_free rfl ?_; intro K hK; go_big_quiet_op; go_big_quiet_on) | (refine wpT_wantS _ rfl rfl rfl ?_; intro K hK; go_big_quiet_op; go_big_quiet_on) | (refine wpT_skipS _ rfl rfl rfl rfl ?_; simp only [Act.put, List.setIfInBounds_toArray, List.set_cons_zero, List.set_cons_succ]) | (refine wpT_skipU _ rfl rfl rfl ?_; simp only [Act.put, List.setIfInBounds_toArray, List.set_cons_zero, List.set_cons_succ]))
      refine wpT_nil ?_
      refine wpTail_cons ?_
      go_wp2_with fail
      refine tail_back ?_
      refine wpTail_cons ?_
      go_wp2_with fail
      refine tail_back ?_
      refine wpTail_nil ?_
      clear mi1 mi2 pj0 pj1 pj2 mj1 mj2 HKJ HK0
      clear fi0 fj0 fi1 fj1 fi2 fj2
      rw [hset2] at HS9
      have HN9 := Lib.hid (HROW.out.two HS9.out)
      rw [Hid, ← HL'.out] at HN9
      have HN9 := Lib.hid HN9
      have hgF := gb_trans hgb hg9
      clear hset2 HL' HROW HOWN HSWP HS9 hgb hg9
      go_wp2_with fail
      rw [← HW9.out]
      exact ⟨⟨t + 1, by omega, by go_num, HN9.out.drew, gb_drew hgF⟩, by simp [intOf]; omega⟩
    · obtain rfl : t = n := by omega
      have g1 : decide ((t : Int) < (t : Int)) = false := decide_eq_false (by omega)
      have g1' : decide (t < t) = false := decide_eq_false hlt
      rw [HEN.out] at hrow
      have HR9 := Lib.hid hrow
      clear hrow HSW HEN
      go_wp2_with fail
      go_end0
      exact ⟨rfl, HR9.out, hgb⟩
set_option maxRecDepth 100000 in
set_option maxHeartbeats 8000000 in
theorem rotateE_any (A u v C : List Ed) (ad : Addr) (c N base a m b : Nat) (cl : Value) (w : World) (h : RowE w base ad c N (A ++ (u ++ (v ++ C)))) (hN : N ≤ 1000000) (ha : a = A.length) (hm : m = a + u.length) (hb : b = m + v.length) (hu : 0 < u.length) (hv : 0 < v.length) :
    Calls Try.prog 29 #[.slice (some ad) N c, .int .i64 (a : Int), .int .i64 (m : Int), .int .i64 (b : Int), cl] w fun e w' => e = .returned (.tuple #[]) ∧ RowE w' base ad c N (A ++ (v ++ (u ++ C))) ∧ w.grownBy w' (some ad.block) := by
  obtain ⟨j0, hj0⟩ : ∃ j0, j0 = v.length := ⟨_, rfl⟩
  obtain ⟨i0, hi0⟩ : ∃ i0, i0 = u.length := ⟨_, rfl⟩
  have e1 : (m : Int) - (a : Int) = (i0 : Int) := by omega
  have e2 : (b : Int) - (m : Int) = (j0 : Int) := by omega
  have HE := Lib.hid (And.intro e1 e2)
  have HH := Lib.hid (And.intro ha (And.intro hm (And.intro hi0 hj0)))
  have HROW := Lib.hid h
  have hbN : b ≤ N := by
    have := h.len
    simp only [List.length_append] at this
    omega
  have hmb : m ≤ b := by omega
  have ham : a ≤ m := by omega
  have hi1 : 0 < i0 := by omega
  have hj1 : 0 < j0 := by omega
  have him : i0 ≤ m := by omega
  have hjm : m + j0 ≤ N := by omega
  clear h ha hm hb hu hv e1 e2 hi0 hj0
  go_enter Try.func29, Try.ntmps29
  go_wp2_with fail
  rw [HE.out.1, HE.out.2]
  go_loopw [10, 11] (fun iv jv wr => ∃ (i j : Nat) (P X Y R : List Ed), iv = .int .i64 (i : Int) ∧ jv = .int .i64 (j : Int) ∧ 0 < i ∧ 0 < j ∧ i ≤ m ∧ m + j ≤ N ∧ Hid (X.length = i ∧ Y.length = j ∧ P.length + i = m) ∧ RowE wr base ad c N (P ++ (X ++ (Y ++ R))) ∧ Hid (P ++ (Y ++ (X ++ R)) = A ++ (v ++ (u ++ C))) ∧ w.grownBy wr (some ad.block)) (fun iv jv _ => (intOf iv).toNat + (intOf jv).toNat)
  case atStart => exact ⟨i0, j0, A, u, v, C, rfl, rfl, hi1, hj1, him, hjm, ⟨HH.out.2.2.1.symm, HH.out.2.2.2.symm, by have := HH.out; omega⟩, HROW.out, rfl, gb_refl _ _⟩
  case round =>
    clear HROW HH HE
    obtain ⟨i, j, P, X, Y, R, rfl, rfl, hi1, hj1, him, hjm, HXY, hrow, HT, hgb⟩ := hrel
    have HROW := Lib.hid hrow
    clear hrow
    have e3 : (m : Int) - (i : Int) = ((m - i : Nat) : Int) := by omega
    rcases Nat.lt_trichotomy i j with hlt | heq | hgt
    · have g1 : ((i : Int) != (j : Int)) = true := by rw [bne_iff_ne]; omega
      have g1' : (i != j) = true := by rw [bne_iff_ne]; omega
      have g2 : decide ((j : Int) < (i : Int)) = false := decide_eq_false (by omega)
      have g2' : decide (j < i) = false := decide_eq_false (by omega)
      have e4 : (m : Int) + (j : Int) - (i : Int) = ((m + j - i : Nat) : Int) := by omega
      have e5 : (j : Int) - (i : Int) = ((j - i : Nat) : Int) := by omega
      obtain ⟨h1, h2, h3⟩ := HXY.out
      have eY : Y.take (j - i) ++ Y.drop (j - i) = Y := List.take_append_drop _ _
      have hr2 := HROW.out
      rw [← eY, List.append_assoc] at hr2
      have HS := Lib.hid (swapRangeE_any P X (Y.take (j - i)) (Y.drop (j - i)) R (by rw [List.length_drop]; omega) ad c N base (m - i) (m + j - i) i cl wr hr2 hN (by omega) (by rw [List.length_take]; omega) h1.symm)
      have HT3 : Hid (P ++ (Y.take (j - i) ++ (Y.drop (j - i) ++ (X ++ R))) = A ++ (v ++ (u ++ C))) := by
        rw [Hid, ← HT.out, ← List.append_assoc (Y.take (j - i)), eY]
      have HXY2 : Hid ((Y.drop (j - i)).length = i ∧ (Y.take (j - i)).length = j - i ∧ P.length + i = m) := by
        refine ⟨?_, ?_, h3⟩
        · rw [List.length_drop]; omega
        · rw [List.length_take]; omega
      clear h1 h2 h3 eY hr2 HXY HT HROW
      have HE3 := Lib.hid (And.intro e3 (And.intro e4 e5))
      clear e3 e4 e5
      go_wp2_with fail
      rw [HE3.out.1, HE3.out.2.1]
      refine HS.out.mono ?_
      rintro e w5 ⟨rfl, hrow5, hg5⟩
      have HR5 := Lib.hid hrow5
      have hgF := gb_trans hgb hg5
      clear HS hrow5 hg5 hgb
      go_wp2_with fail
      go_roundw
      case rel => exact ⟨i, j - i, P, Y.drop (j - i), Y.take (j - i), X ++ R, rfl, by rw [HE3.out.2.2], by omega, by omega, by omega, by omega, HXY2, HR5.out, HT3, hgF⟩
      case measure => simp [intOf]; omega
    · subst heq
      have g1 : ((i : Int) != (i : Int)) = false := bne_self_eq_false' _
      have g1' : (i != i) = false := bne_self_eq_false' _
      obtain ⟨h1, h2, h3⟩ := HXY.out
      have hr2 := HROW.out
      rw [show X ++ (Y ++ R) = X ++ ([] ++ (Y ++ R)) from rfl] at hr2
      have HS := Lib.hid (swapRangeE_any P X [] Y R (by omega) ad c N base (m - i) m i cl wr hr2 hN (by omega) (by simp; omega) h1.symm)
      clear h1 h2 h3 hr2 HXY HROW
      have HE3 := Lib.hid e3
      clear e3
      go_wp2_with fail
      rw [HE3.out]
      refine HS.out.mono ?_
      rintro e w5 ⟨rfl, hrow5, hg5⟩
      rw [List.nil_append, HT.out] at hrow5
      have HR5 := Lib.hid hrow5
      have hgF := gb_trans hgb hg5
      clear HS hrow5 hg5 hgb
      go_wp2_with fail
      go_end0
      exact ⟨rfl, HR5.out, hgF⟩
    · have g1 : ((i : Int) != (j : Int)) = true := by rw [bne_iff_ne]; omega
      have g1' : (i != j) = true := by rw [bne_iff_ne]; omega
      have g2 : decide ((j : Int) < (i : Int)) = true := decide_eq_true (by omega)
      have g2' : decide (j < i) = true := decide_eq_true (by omega)
      have e5 : (i : Int) - (j : Int) = ((i - j : Nat) : Int) := by omega
      obtain ⟨h1, h2, h3⟩ := HXY.out
      have eX : X.take j ++ X.drop j = X := List.take_append_drop _ _
      have hr2 := HROW.out
      rw [← eX, List.append_assoc] at hr2
      have HS := Lib.hid (swapRangeE_any P (X.take j) (X.drop j) Y R (by rw [List.length_take]; omega) ad c N base (m - i) m j cl wr hr2 hN (by omega) (by rw [List.length_take, List.length_drop]; omega) (by rw [List.length_take]; omega))
      have HT2 : Hid ((P ++ Y) ++ (X.drop j ++ (X.take j ++ R)) = P ++ (Y ++ (X.drop j ++ (X.take j ++ R)))) := by unfold Hid; simp
      have HT3 : Hid ((P ++ Y) ++ (X.take j ++ (X.drop j ++ R)) = A ++ (v ++ (u ++ C))) := by
        rw [Hid, ← HT.out, ← List.append_assoc (X.take j), eX, List.append_assoc]
      have HXY2 : Hid ((X.drop j).length = i - j ∧ (X.take j).length = j ∧ (P ++ Y).length + (i - j) = m) := by
        refine ⟨?_, ?_, ?_⟩
        · rw [List.length_drop]; omega
        · rw [List.length_take]; omega
        · rw [List.length_append]; omega
      clear h1 h2 h3 eX hr2 HXY HT HROW
      have HE3 := Lib.hid (And.intro e3 e5)
      clear e3 e5
      go_wp2_with fail
      rw [HE3.out.1]
      refine HS.out.mono ?_
      rintro e w5 ⟨rfl, hrow5, hg5⟩
      rw [← HT2.out] at hrow5
      have HR5 := Lib.hid hrow5
      have hgF := gb_trans hgb hg5
      clear HS hrow5 hg5 hgb
      go_wp2_with fail
      go_roundw
      case rel => exact ⟨i - j, j, P ++ Y, X.drop j, X.take j, R, by rw [HE3.out.2], rfl, by omega, by omega, by omega, by omega, HXY2, HR5.out, HT3, hgF⟩
      case measure => simp [intOf]; omega
/-- What the sort compares. -/
def cvE (x y : Ed) : Int := x.at_ - y.at_
def leE (x y : Ed) : Bool := !decide (cvE y x < 0)
theorem leE_iff {x y : Ed} : leE x y = true ↔ ¬ cvE y x < 0 := by unfold leE; simp
theorem leE_not {x y : Ed} : leE x y = false ↔ cvE y x < 0 := by unfold leE; simp
def QE (x : Ed) : Prop := 0 ≤ x.at_ ∧ x.at_ ≤ 1000000
theorem tpE : Tp leE where
  trans a b c h1 h2 := by
    rw [leE_iff] at *
    unfold cvE at *
    omega
  total a b := by
    rw [Bool.or_eq_true, leE_iff, leE_iff]
    unfold cvE
    omega
theorem cmpE_any (x y : Ed) (hx : QE x) (hy : QE y) (w : World) :
    Calls Try.prog 19 #[.agg #[.int .i64 x.at_, .int .i64 x.del, .string (S x.ins)], .agg #[.int .i64 y.at_, .int .i64 y.del, .string (S y.ins)]] w fun e w' => e = .returned (.int .i64 (cvE x y)) ∧ Below w.heap.size w w' := by
  obtain ⟨hx0, hx1⟩ := hx
  obtain ⟨hy0, hy1⟩ := hy
  go_enter Try.func19, Try.ntmps19
  go_wp2_with fail
  go_ret
  exact ⟨rfl, (by repeat (first | exact Below.refl _ _ | assumption | refine Below.alloc ?_ (by first | exact Nat.le_refl _ | assumption | omega | (simp <;> omega)) _ | refine Below.setCell ?_ (by first | exact Nat.le_refl _ | assumption | omega | (simp <;> omega)) _ | refine Below.drew ?_ | refine below_drewN ?_ _))⟩
set_option maxRecDepth 100000 in
set_option maxHeartbeats 16000000 in
theorem symLE_any (A v C : List Ed) (x : Ed) (ad : Addr) (c N base a m b : Nat) (w : World) (h : RowE w base ad c N (A ++ ([x] ++ (v ++ C)))) (hN : N ≤ 1000000) (ha : a = A.length) (hm : m = a + 1) (hb : b = m + v.length) (hv : 0 < v.length) (sv : Srt leE v) (hq : ∀ y ∈ A ++ ([x] ++ (v ++ C)), QE y) :
    Calls Try.prog 28 #[.slice (some ad) N c, .int .i64 (a : Int), .int .i64 (m : Int), .int .i64 (b : Int), .func (.func 19) #[] #[]] w fun e w' => e = .returned (.tuple #[]) ∧ RowE w' base ad c N (A ++ ([x].merge v leE ++ C)) ∧ w.grownBy w' (some ad.block) := by
  have hlen := h.len
  have hbN : b ≤ N := by simp only [List.length_append, List.length_cons, List.length_nil] at hlen; omega
  have hmb : m < b := by omega
  have ham : a < m := by omega
  have ham1 : m ≤ a + 1 := by omega
  have hxa : (A ++ ([x] ++ (v ++ C)))[a]? = some x := by rw [ha]; simp
  have hvk : ∀ k, m ≤ k → k < b → (A ++ ([x] ++ (v ++ C)))[k]? = v[k - m]? := fun k h1 h2 => by
    rw [List.getElem?_append_right (by omega), List.getElem?_append_right (by simp only [List.length_cons, List.length_nil]; omega), List.getElem?_append_left (by simp only [List.length_cons, List.length_nil]; omega)]
    congr 1
    simp only [List.length_cons, List.length_nil]; omega
  have HVK := Lib.hid hvk
  have HXA := Lib.hid hxa
  have HQ := Lib.hid hq
  have HH := Lib.hid (And.intro ha (And.intro hm hb))
  have HSV := Lib.hid sv
  have HROW := Lib.hid h
  have g0 : ((m : Int) - (a : Int) == 1) = true := by rw [beq_iff_eq]; omega
  obtain ⟨l, hl⟩ : ∃ l, l = A ++ ([x] ++ (v ++ C)) := ⟨_, rfl⟩
  rw [Hid, ← hl] at HROW HXA HVK HQ
  have HROW := Lib.hid HROW; have HXA := Lib.hid HXA; have HVK := Lib.hid HVK; have HQ := Lib.hid HQ
  have HL := Lib.hid hl
  clear h hlen ha hm hb hv sv hq hxa hvk hl
  go_enter Try.func28, Try.ntmps28
  go_wp2_with fail
  go_loopw [10, 11] (fun iv jv wr => ∃ i j : Nat, iv = .int .i64 (i : Int) ∧ jv = .int .i64 (j : Int) ∧ m ≤ i ∧ i ≤ j ∧ j ≤ b ∧ RowE wr base ad c N l ∧ Hid ((∀ y, m < i → l[i - 1]? = some y → leE x y = false) ∧ (∀ y, j < b → l[j]? = some y → leE x y = true)) ∧ w.grownBy wr (some ad.block)) (fun iv jv _ => (intOf jv).toNat - (intOf iv).toNat)
  case atStart => exact ⟨m, b, rfl, rfl, Nat.le_refl _, by omega, Nat.le_refl _, HROW.out, ⟨fun _ h => absurd h (by omega), fun _ h => absurd h (by omega)⟩, gb_refl _ _⟩
  case round =>
    clear HROW
    obtain ⟨i, j, rfl, rfl, hmi, hij, hjb, hrow, HB, hgb⟩ := hrel
    by_cases hlt : i < j
    · obtain ⟨q, hq⟩ : ∃ q, q = (i + j) / 2 := ⟨_, rfl⟩
      have hq1 : i ≤ q := by omega
      have hq2 : q < j := by omega
      have e9 : ((i : Int) + (j : Int)) / 2 = (q : Int) := by omega
      have HE9 := Lib.hid e9
      obtain ⟨y, hy⟩ : ∃ y, l[q]? = some y := ⟨_, List.getElem?_eq_getElem (by have := hrow.len; omega)⟩
      have HY := Lib.hid hy
      clear hq e9
      go_wp2_with fail
      rw [HE9.out]
      obtain ⟨ci0, ci1, ci2⟩ := recE_at hrow hy
      have ci0r := cell_regrown ci0
      have ci1r := cell_regrown ci1
      have ci2r := cell_regrown ci2
      obtain ⟨cj0, cj1, cj2⟩ := recE_at hrow HXA.out
      have cj0r := cell_regrown cj0
      have cj1r := cell_regrown cj1
      have cj2r := cell_regrown cj2
      have HC := Lib.hid (cmpE_any y x (HQ.out y (List.mem_of_getElem? hy)) (HQ.out x (List.mem_of_getElem? HXA.out)))
      have HR := Lib.hid hrow
      clear hrow hy
      by_cases hc : cvE y x < 0
      · have g3 : decide (cvE y x < 0) = true := decide_eq_true hc
        refine wp_region_quiet_below (by kernel_rfl) (by kernel_rfl) ?_
        repeat (go_big_quiet_step ((go_at_call 19; exact Calls.regrown_of (HC.out _))))
        refine wpQuiet_nil ?_
        intro w5 hb50
        have hb5 := below_of_regrown hb50
        clear hb50
        go_wp2_with fail
        go_roundw
        case rel => exact ⟨q + 1, j, by go_num, rfl, by omega, by omega, hjb, HR.out.below hb5, ⟨fun z _ hz => by rw [show q + 1 - 1 = q by omega, HY.out] at hz; cases hz; exact leE_not.2 hc, HB.out.2⟩, gb_below hgb hb5⟩
        case measure => simp [intOf]; omega
      · have g3 : decide (cvE y x < 0) = false := decide_eq_false hc
        refine wp_region_quiet_below (by kernel_rfl) (by kernel_rfl) ?_
        repeat (go_big_quiet_step ((go_at_call 19; exact Calls.regrown_of (HC.out _))))
        refine wpQuiet_nil ?_
        intro w5 hb50
        have hb5 := below_of_regrown hb50
        clear hb50
        go_wp2_with fail
        go_roundw
        case rel => exact ⟨i, q, rfl, rfl, hmi, hq1, by omega, HR.out.below hb5, ⟨HB.out.1, fun z _ hz => by rw [HY.out] at hz; cases hz; exact leE_iff.2 hc⟩, gb_below hgb hb5⟩
        case measure => simp [intOf]; omega
    · obtain rfl : i = j := by omega
      have g1 : decide ((i : Int) < (i : Int)) = false := decide_eq_false (by omega)
      have g1' : decide (i < i) = false := decide_eq_false hlt
      obtain ⟨h1, h2, h3⟩ := HH.out
      obtain ⟨v1, hv1⟩ : ∃ v1, v1 = v.take (i - m) := ⟨_, rfl⟩
      obtain ⟨v2, hv2⟩ : ∃ v2, v2 = v.drop (i - m) := ⟨_, rfl⟩
      have ev : v = v1 ++ v2 := by rw [hv1, hv2, List.take_append_drop]
      have hl1 : v1.length = i - m := by rw [hv1, List.length_take]; omega
      have HM : Hid ([x].merge v leE = v1 ++ x :: v2) := by
        unfold Hid
        rw [ev]
        refine merge_one_l tpE (by rw [← ev]; exact HSV.out) (fun y hy => ?_) (fun y hy => ?_)
        · rw [hv2, List.head?_drop] at hy
          have h4 := (List.getElem?_eq_some_iff.1 hy).1
          exact HB.out.2 y (by omega) (by rw [HVK.out i hmi (by omega)]; exact hy)
        · rcases Nat.eq_or_lt_of_le hmi with h4 | h4
          · rw [hv1, ← h4, Nat.sub_self, List.take_zero] at hy; cases hy
          · rw [hv1, List.getLast?_eq_getElem?, List.length_take, Nat.min_eq_left (by omega), List.getElem?_take, if_pos (by omega)] at hy
            refine HB.out.1 y h4 ?_
            rw [HVK.out (i - 1) (by omega) (by omega), ← hy]
            congr 1; omega
      have HR0 : Hid (RowE wr base ad c N (A ++ (v1.take 0 ++ (x :: (v1.drop 0 ++ (v2 ++ C)))))) := by
        have e : A ++ (v1.take 0 ++ (x :: (v1.drop 0 ++ (v2 ++ C)))) = l := by rw [HL.out, ev]; simp
        rw [Hid, e]; exact hrow
      have HEV := Lib.hid (And.intro h1 (And.intro h2 hl1))
      clear HB h1 h2 h3 hv1 hv2 ev hl1 hrow HVK HXA HQ HSV HL HH
      have hi1 : a + 1 ≤ i := by omega
      go_wp2_with fail
      go_loopw [13] (fun kv wr => ∃ t k : Nat, kv = .int .i64 (k : Int) ∧ Hid (k = a + t) ∧ a ≤ k ∧ k + 1 ≤ i ∧ RowE wr base ad c N (A ++ (v1.take t ++ (x :: (v1.drop t ++ (v2 ++ C))))) ∧ w.grownBy wr (some ad.block)) (fun kv _ => i - (intOf kv).toNat)
      case atStart => exact ⟨0, a, rfl, rfl, Nat.le_refl _, hi1, HR0.out, hgb⟩
      case round =>
        clear HR0 hgb
        obtain ⟨t, k, rfl, hkt, hak, hki, hrow, hgb⟩ := hrel
        by_cases hk2 : k + 1 < i
        · have g4 : decide ((k : Int) < (i : Int) - 1) = true := decide_eq_true (by omega)
          obtain ⟨h1, h2, h3⟩ := HEV.out
          have ht : t < v1.length := by have := hkt.out; omega
          have hk1 : k < N := by omega
          have hk3 : k + 1 < N := by omega
          have hd : v1.drop t = v1[t] :: v1.drop (t + 1) := List.drop_eq_getElem_cons ht
          have hlist : A ++ (v1.take t ++ (x :: (v1.drop t ++ (v2 ++ C)))) = (A ++ v1.take t) ++ x :: ([] ++ v1[t] :: (v1.drop (t + 1) ++ (v2 ++ C))) := by rw [hd]; simp only [List.append_assoc, List.cons_append, List.nil_append]
          have hlist2 : A ++ (v1.take (t + 1) ++ (x :: (v1.drop (t + 1) ++ (v2 ++ C)))) = (A ++ v1.take t) ++ v1[t] :: ([] ++ x :: (v1.drop (t + 1) ++ (v2 ++ C))) := by rw [List.take_succ_eq_append_getElem ht]; simp only [List.append_assoc, List.cons_append, List.nil_append]
          have hA9 : k = (A ++ v1.take t).length := by rw [List.length_append, List.length_take]; have := hkt.out; omega
          have hB9 : k + 1 = (A ++ v1.take t).length + 1 + ([] : List Ed).length := by rw [← hA9]; rfl
          have HLI := Lib.hid hlist2
          rw [hlist] at hrow
          clear hlist hlist2 hd
          generalize v1[t] = y at *
          generalize A ++ v1.take t = A9 at *
          generalize ([] : List Ed) = B9 at *
          generalize hC9 : v1.drop (t + 1) ++ (v2 ++ C) = C9 at *
          have HC9 := Lib.hid hC9
          clear h1 h2 h3 ht hC9
          obtain ⟨hxi, hyj, hsw, hsw2⟩ := swap_two A9 B9 C9 x y hA9 hB9
          have HROW := Lib.hid hrow
          have HOWN := Lib.hid hrow.own
          obtain ⟨ci0, ci1, ci2⟩ := recE_at HROW.out hxi
          obtain ⟨cj0, cj1, cj2⟩ := recE_at HROW.out hyj
          have hlen := hrow.len
          have hset := cellsE_set (l := A9 ++ x :: (B9 ++ y :: C9)) (j := k) (by omega) y
          have hset2 := cellsE_set (l := (A9 ++ x :: (B9 ++ y :: C9)).set k y) (j := (k + 1)) (by rw [List.length_set]; omega) x
          rw [← hset, hsw] at hset2
          have HSET := Lib.hid hset2
          clear hA9 hB9 hsw hsw2 hrow hxi hyj hset hset2 hlen
          obtain ⟨s0, f0⟩ := own_setS HOWN.out (j := k * 3) (by omega) (.int .i64 y.at_)
          obtain ⟨s1, f1⟩ := own_setS s0 (j := k * 3 + 1) (by omega) (.int .i64 y.del)
          obtain ⟨s2, f2⟩ := own_setS s1 (j := k * 3 + 2) (by omega) (.string (S y.ins))
          obtain ⟨s3, f3⟩ := own_setS s2 (j := (k + 1) * 3) (by omega) (.int .i64 x.at_)
          obtain ⟨s4, f4⟩ := own_setS s3 (j := (k + 1) * 3 + 1) (by omega) (.int .i64 x.del)
          obtain ⟨s5, f5⟩ := own_setS s4 (j := (k + 1) * 3 + 2) (by omega) (.string (S x.ins))
          have fi0 := (own_setS HOWN.out (j := k * 3) (by omega) (.int .i64 0)).2
          have fj0 := (own_setS HOWN.out (j := (k + 1) * 3) (by omega) (.int .i64 0)).2
          have fi1 := (own_setS HOWN.out (j := k * 3 + 1) (by omega) (.int .i64 0)).2
          have fj1 := (own_setS HOWN.out (j := (k + 1) * 3 + 1) (by omega) (.int .i64 0)).2
          have fi2 := (own_setS HOWN.out (j := k * 3 + 2) (by omega) (.int .i64 0)).2
          have fj2 := (own_setS HOWN.out (j := (k + 1) * 3 + 2) (by omega) (.int .i64 0)).2
          rw [add_one] at fi1
          rw [add_two] at fi2
          rw [add_one] at fj1
          rw [add_two] at fj2
          rw [add_one ad (k * 3), add_two ad (k * 3), add_one ad ((k + 1) * 3), add_two ad ((k + 1) * 3)] at s5
          have hna := own_addrS HOWN.out
          have mi1 : (wr.setCell (ad.add (k * 3)) (.int .i64 y.at_)).cell? ⟨(ad.add (k * 3)).block, (ad.add (k * 3)).off + 1, none⟩ = some (.int .i64 x.del) := ((World.cell?_setCell_other _ _ _ _ (show ((ad.add (k * 3)) : Addr) ≠ (⟨(ad.add (k * 3)).block, (ad.add (k * 3)).off + 1, none⟩ : Addr) by rw [← add_one ad (k * 3)]; exact hna _ _ (by omega))).trans ci1)
          have mi2 : ((wr.setCell (ad.add (k * 3)) (.int .i64 y.at_)).setCell ⟨(ad.add (k * 3)).block, (ad.add (k * 3)).off + 1, none⟩ (.int .i64 y.del)).cell? ⟨(ad.add (k * 3)).block, (ad.add (k * 3)).off + 2, none⟩ = some (.string (S x.ins)) := ((World.cell?_setCell_other _ _ _ _ (show (⟨(ad.add (k * 3)).block, (ad.add (k * 3)).off + 1, none⟩ : Addr) ≠ (⟨(ad.add (k * 3)).block, (ad.add (k * 3)).off + 2, none⟩ : Addr) by rw [← add_one ad (k * 3), ← add_two ad (k * 3)]; exact hna _ _ (by omega))).trans ((World.cell?_setCell_other _ _ _ _ (show ((ad.add (k * 3)) : Addr) ≠ (⟨(ad.add (k * 3)).block, (ad.add (k * 3)).off + 2, none⟩ : Addr) by rw [← add_two ad (k * 3)]; exact hna _ _ (by omega))).trans ci2))
          have pj0 : (((wr.setCell (ad.add (k * 3)) (.int .i64 y.at_)).setCell ⟨(ad.add (k * 3)).block, (ad.add (k * 3)).off + 1, none⟩ (.int .i64 y.del)).setCell ⟨(ad.add (k * 3)).block, (ad.add (k * 3)).off + 2, none⟩ (.string (S y.ins))).cell? (ad.add ((k + 1) * 3)) = some (.int .i64 y.at_) := ((World.cell?_setCell_other _ _ _ _ (show (⟨(ad.add (k * 3)).block, (ad.add (k * 3)).off + 2, none⟩ : Addr) ≠ ((ad.add ((k + 1) * 3)) : Addr) by rw [← add_two ad (k * 3)]; exact hna _ _ (by omega))).trans ((World.cell?_setCell_other _ _ _ _ (show (⟨(ad.add (k * 3)).block, (ad.add (k * 3)).off + 1, none⟩ : Addr) ≠ ((ad.add ((k + 1) * 3)) : Addr) by rw [← add_one ad (k * 3)]; exact hna _ _ (by omega))).trans ((World.cell?_setCell_other _ _ _ _ (show ((ad.add (k * 3)) : Addr) ≠ ((ad.add ((k + 1) * 3)) : Addr) by exact hna _ _ (by omega))).trans cj0)))
          have pj1 : (((wr.setCell (ad.add (k * 3)) (.int .i64 y.at_)).setCell ⟨(ad.add (k * 3)).block, (ad.add (k * 3)).off + 1, none⟩ (.int .i64 y.del)).setCell ⟨(ad.add (k * 3)).block, (ad.add (k * 3)).off + 2, none⟩ (.string (S y.ins))).cell? ⟨(ad.add ((k + 1) * 3)).block, (ad.add ((k + 1) * 3)).off + 1, none⟩ = some (.int .i64 y.del) := ((World.cell?_setCell_other _ _ _ _ (show (⟨(ad.add (k * 3)).block, (ad.add (k * 3)).off + 2, none⟩ : Addr) ≠ (⟨(ad.add ((k + 1) * 3)).block, (ad.add ((k + 1) * 3)).off + 1, none⟩ : Addr) by rw [← add_two ad (k * 3), ← add_one ad ((k + 1) * 3)]; exact hna _ _ (by omega))).trans ((World.cell?_setCell_other _ _ _ _ (show (⟨(ad.add (k * 3)).block, (ad.add (k * 3)).off + 1, none⟩ : Addr) ≠ (⟨(ad.add ((k + 1) * 3)).block, (ad.add ((k + 1) * 3)).off + 1, none⟩ : Addr) by rw [← add_one ad (k * 3), ← add_one ad ((k + 1) * 3)]; exact hna _ _ (by omega))).trans ((World.cell?_setCell_other _ _ _ _ (show ((ad.add (k * 3)) : Addr) ≠ (⟨(ad.add ((k + 1) * 3)).block, (ad.add ((k + 1) * 3)).off + 1, none⟩ : Addr) by rw [← add_one ad ((k + 1) * 3)]; exact hna _ _ (by omega))).trans cj1)))
          have pj2 : (((wr.setCell (ad.add (k * 3)) (.int .i64 y.at_)).setCell ⟨(ad.add (k * 3)).block, (ad.add (k * 3)).off + 1, none⟩ (.int .i64 y.del)).setCell ⟨(ad.add (k * 3)).block, (ad.add (k * 3)).off + 2, none⟩ (.string (S y.ins))).cell? ⟨(ad.add ((k + 1) * 3)).block, (ad.add ((k + 1) * 3)).off + 2, none⟩ = some (.string (S y.ins)) := ((World.cell?_setCell_other _ _ _ _ (show (⟨(ad.add (k * 3)).block, (ad.add (k * 3)).off + 2, none⟩ : Addr) ≠ (⟨(ad.add ((k + 1) * 3)).block, (ad.add ((k + 1) * 3)).off + 2, none⟩ : Addr) by rw [← add_two ad (k * 3), ← add_two ad ((k + 1) * 3)]; exact hna _ _ (by omega))).trans ((World.cell?_setCell_other _ _ _ _ (show (⟨(ad.add (k * 3)).block, (ad.add (k * 3)).off + 1, none⟩ : Addr) ≠ (⟨(ad.add ((k + 1) * 3)).block, (ad.add ((k + 1) * 3)).off + 2, none⟩ : Addr) by rw [← add_one ad (k * 3), ← add_two ad ((k + 1) * 3)]; exact hna _ _ (by omega))).trans ((World.cell?_setCell_other _ _ _ _ (show ((ad.add (k * 3)) : Addr) ≠ (⟨(ad.add ((k + 1) * 3)).block, (ad.add ((k + 1) * 3)).off + 2, none⟩ : Addr) by rw [← add_two ad ((k + 1) * 3)]; exact hna _ _ (by omega))).trans cj2)))
          have mj1 : ((((wr.setCell (ad.add (k * 3)) (.int .i64 y.at_)).setCell ⟨(ad.add (k * 3)).block, (ad.add (k * 3)).off + 1, none⟩ (.int .i64 y.del)).setCell ⟨(ad.add (k * 3)).block, (ad.add (k * 3)).off + 2, none⟩ (.string (S y.ins))).setCell (ad.add ((k + 1) * 3)) (.int .i64 x.at_)).cell? ⟨(ad.add ((k + 1) * 3)).block, (ad.add ((k + 1) * 3)).off + 1, none⟩ = some (.int .i64 y.del) := ((World.cell?_setCell_other _ _ _ _ (show ((ad.add ((k + 1) * 3)) : Addr) ≠ (⟨(ad.add ((k + 1) * 3)).block, (ad.add ((k + 1) * 3)).off + 1, none⟩ : Addr) by rw [← add_one ad ((k + 1) * 3)]; exact hna _ _ (by omega))).trans ((World.cell?_setCell_other _ _ _ _ (show (⟨(ad.add (k * 3)).block, (ad.add (k * 3)).off + 2, none⟩ : Addr) ≠ (⟨(ad.add ((k + 1) * 3)).block, (ad.add ((k + 1) * 3)).off + 1, none⟩ : Addr) by rw [← add_two ad (k * 3), ← add_one ad ((k + 1) * 3)]; exact hna _ _ (by omega))).trans ((World.cell?_setCell_other _ _ _ _ (show (⟨(ad.add (k * 3)).block, (ad.add (k * 3)).off + 1, none⟩ : Addr) ≠ (⟨(ad.add ((k + 1) * 3)).block, (ad.add ((k + 1) * 3)).off + 1, none⟩ : Addr) by rw [← add_one ad (k * 3), ← add_one ad ((k + 1) * 3)]; exact hna _ _ (by omega))).trans ((World.cell?_setCell_other _ _ _ _ (show ((ad.add (k * 3)) : Addr) ≠ (⟨(ad.add ((k + 1) * 3)).block, (ad.add ((k + 1) * 3)).off + 1, none⟩ : Addr) by rw [← add_one ad ((k + 1) * 3)]; exact hna _ _ (by omega))).trans cj1))))
          have mj2 : (((((wr.setCell (ad.add (k * 3)) (.int .i64 y.at_)).setCell ⟨(ad.add (k * 3)).block, (ad.add (k * 3)).off + 1, none⟩ (.int .i64 y.del)).setCell ⟨(ad.add (k * 3)).block, (ad.add (k * 3)).off + 2, none⟩ (.string (S y.ins))).setCell (ad.add ((k + 1) * 3)) (.int .i64 x.at_)).setCell ⟨(ad.add ((k + 1) * 3)).block, (ad.add ((k + 1) * 3)).off + 1, none⟩ (.int .i64 x.del)).cell? ⟨(ad.add ((k + 1) * 3)).block, (ad.add ((k + 1) * 3)).off + 2, none⟩ = some (.string (S y.ins)) := ((World.cell?_setCell_other _ _ _ _ (show (⟨(ad.add ((k + 1) * 3)).block, (ad.add ((k + 1) * 3)).off + 1, none⟩ : Addr) ≠ (⟨(ad.add ((k + 1) * 3)).block, (ad.add ((k + 1) * 3)).off + 2, none⟩ : Addr) by rw [← add_one ad ((k + 1) * 3), ← add_two ad ((k + 1) * 3)]; exact hna _ _ (by omega))).trans ((World.cell?_setCell_other _ _ _ _ (show ((ad.add ((k + 1) * 3)) : Addr) ≠ (⟨(ad.add ((k + 1) * 3)).block, (ad.add ((k + 1) * 3)).off + 2, none⟩ : Addr) by rw [← add_two ad ((k + 1) * 3)]; exact hna _ _ (by omega))).trans ((World.cell?_setCell_other _ _ _ _ (show (⟨(ad.add (k * 3)).block, (ad.add (k * 3)).off + 2, none⟩ : Addr) ≠ (⟨(ad.add ((k + 1) * 3)).block, (ad.add ((k + 1) * 3)).off + 2, none⟩ : Addr) by rw [← add_two ad (k * 3), ← add_two ad ((k + 1) * 3)]; exact hna _ _ (by omega))).trans ((World.cell?_setCell_other _ _ _ _ (show (⟨(ad.add (k * 3)).block, (ad.add (k * 3)).off + 1, none⟩ : Addr) ≠ (⟨(ad.add ((k + 1) * 3)).block, (ad.add ((k + 1) * 3)).off + 2, none⟩ : Addr) by rw [← add_one ad (k * 3), ← add_two ad ((k + 1) * 3)]; exact hna _ _ (by omega))).trans ((World.cell?_setCell_other _ _ _ _ (show ((ad.add (k * 3)) : Addr) ≠ (⟨(ad.add ((k + 1) * 3)).block, (ad.add ((k + 1) * 3)).off + 2, none⟩ : Addr) by rw [← add_two ad ((k + 1) * 3)]; exact hna _ _ (by omega))).trans cj2)))))
          obtain ⟨W9, hW9⟩ : ∃ W9, W9 = ((((((wr.setCell (ad.add (k * 3)) (.int .i64 y.at_)).setCell ⟨(ad.add (k * 3)).block, (ad.add (k * 3)).off + 1, none⟩ (.int .i64 y.del)).setCell ⟨(ad.add (k * 3)).block, (ad.add (k * 3)).off + 2, none⟩ (.string (S y.ins))).setCell (ad.add ((k + 1) * 3)) (.int .i64 x.at_)).setCell ⟨(ad.add ((k + 1) * 3)).block, (ad.add ((k + 1) * 3)).off + 1, none⟩ (.int .i64 x.del)).setCell ⟨(ad.add ((k + 1) * 3)).block, (ad.add ((k + 1) * 3)).off + 2, none⟩ (.string (S x.ins))) := ⟨_, rfl⟩
          rw [← hW9] at s5
          have hg9 : wr.grownBy W9 (some ad.block) := by
            rw [hW9]
            refine gb_at (gb_at (gb_at (gb_at (gb_at (gb_at (gb_refl _ _) _ _ ?_) _ _ ?_) _ _ ?_) _ _ ?_) _ _ ?_) _ _ ?_
            all_goals exact blk_add _ _
          have HW9 := Lib.hid hW9
          clear hW9
          have HS9 := Lib.hid s5
          clear s0 s1 s2 s3 s4 s5 hna
          clear f0 f1 f2 f3 f4 f5
          have k0 : wr.cell? (ad.add ((k + 1) * 3)) = some (.int .i64 y.at_) ∧ wr.cell? ⟨(ad.add ((k + 1) * 3)).block, (ad.add ((k + 1) * 3)).off + 1, none⟩ = some (.int .i64 y.del) ∧ wr.cell? ⟨(ad.add ((k + 1) * 3)).block, (ad.add ((k + 1) * 3)).off + 2, none⟩ = some (.string (S y.ins)) := ⟨cj0, cj1, cj2⟩
          have HK0 := Lib.hid k0; clear k0
          have kj : (((wr.setCell (ad.add (k * 3)) (.int .i64 y.at_)).setCell ⟨(ad.add (k * 3)).block, (ad.add (k * 3)).off + 1, none⟩ (.int .i64 y.del)).setCell ⟨(ad.add (k * 3)).block, (ad.add (k * 3)).off + 2, none⟩ (.string (S y.ins))).cell? (ad.add ((k + 1) * 3)) = some (.int .i64 y.at_) ∧ (((wr.setCell (ad.add (k * 3)) (.int .i64 y.at_)).setCell ⟨(ad.add (k * 3)).block, (ad.add (k * 3)).off + 1, none⟩ (.int .i64 y.del)).setCell ⟨(ad.add (k * 3)).block, (ad.add (k * 3)).off + 2, none⟩ (.string (S y.ins))).cell? ⟨(ad.add ((k + 1) * 3)).block, (ad.add ((k + 1) * 3)).off + 1, none⟩ = some (.int .i64 y.del) ∧ (((wr.setCell (ad.add (k * 3)) (.int .i64 y.at_)).setCell ⟨(ad.add (k * 3)).block, (ad.add (k * 3)).off + 1, none⟩ (.int .i64 y.del)).setCell ⟨(ad.add (k * 3)).block, (ad.add (k * 3)).off + 2, none⟩ (.string (S y.ins))).cell? ⟨(ad.add ((k + 1) * 3)).block, (ad.add ((k + 1) * 3)).off + 2, none⟩ = some (.string (S y.ins)) := ⟨pj0, pj1, pj2⟩
          have HKJ := Lib.hid kj; clear kj
          go_wp2_with fail
          obtain ⟨F1, hFd⟩ : ∃ F : World → Prop, F = fun w' => w'.cell? (ad.add ((k + 1) * 3)) = some (.int .i64 y.at_) ∧ w'.cell? ⟨(ad.add ((k + 1) * 3)).block, (ad.add ((k + 1) * 3)).off + 1, none⟩ = some (.int .i64 y.del) ∧ w'.cell? ⟨(ad.add ((k + 1) * 3)).block, (ad.add ((k + 1) * 3)).off + 2, none⟩ = some (.string (S y.ins)) := ⟨_, rfl⟩
          have HF1 := Lib.hid hFd
          clear hFd
          have hcell10 : ∀ p' : Wof F1, p'.w.cell? (ad.add ((k + 1) * 3)) = some (.int .i64 y.at_) := fun ⟨x, hx⟩ => by rw [HF1.out] at hx; exact hx.1
          have hcell11 : ∀ p' : Wof F1, p'.w.cell? ⟨(ad.add ((k + 1) * 3)).block, (ad.add ((k + 1) * 3)).off + 1, none⟩ = some (.int .i64 y.del) := fun ⟨x, hx⟩ => by rw [HF1.out] at hx; exact hx.2.1
          have hcell12 : ∀ p' : Wof F1, p'.w.cell? ⟨(ad.add ((k + 1) * 3)).block, (ad.add ((k + 1) * 3)).off + 2, none⟩ = some (.string (S y.ins)) := fun ⟨x, hx⟩ => by rw [HF1.out] at hx; exact hx.2.2
          refine wp_region_schedT (.op 0 true (.op 1 true (.op 2 true (.op 3 true (.op 4 true (.op 5 true (.op 6 true (.op 7 true (.op 8 true (.op 9 true (.op 10 true (.op 11 true (.op 12 true (.op 13 false (.op 14 true (.op 15 false .nil)))))))))))))))) 16 16 [17] F1 (by kernel_rfl) (by kernel_rfl) (by kernel_rfl) rfl (fun _ _ _ _ _ h => h) (by kernel_rfl) (by rw [HF1.out]; exact HK0.out) (by rw [HF1.out]; exact fun h => h) ?_
          intro hne1
          simp only [opersT, opsAt, List.getElem?_toArray, List.getElem?_cons_succ, List.getElem?_cons_zero]
          repeat (first | (refine wpT_free rfl ?_; intro K hK; go_big_quiet_op; go_big_quiet_on) | (refine wpT_wantS _ rfl rfl rfl ?_; intro K hK; go_big_quiet_op; go_big_quiet_on) | (refine wpT_skipS _ rfl rfl rfl rfl ?_; simp only [Act.put, List.setIfInBounds_toArray, List.set_cons_zero, List.set_cons_succ]) | (refine wpT_skipU _ rfl rfl rfl ?_; simp only [Act.put, List.setIfInBounds_toArray, List.set_cons_zero, List.set_cons_succ]))
          refine wpT_other ?_
          go_wp2_with fail
          refine sched_back (by rw [HF1.out]; exact HK0.out) ?_
          repeat (first | (refine wpT_free rfl ?_; intro K hK; go_big_quiet_op; go_big_quiet_on) | (refine wpT_wantS _ rfl rfl rfl ?_; intro K hK; go_big_quiet_op; go_big_quiet_on) | (refine wpT_skipS _ rfl rfl rfl rfl ?_; simp only [Act.put, List.setIfInBounds_toArray, List.set_cons_zero, List.set_cons_succ]) | (refine wpT_skipU _ rfl rfl rfl ?_; simp only [Act.put, List.setIfInBounds_toArray, List.set_cons_zero, List.set_cons_succ]))
          refine wpT_other ?_
          go_wp2_with fail
          refine sched_back (by rw [HF1.out]; exact HKJ.out) ?_
          repeat (first | (refine wpT_free rfl ?_; intro K hK; go_big_quiet_op; go_big_quiet_on) | (refine wpT_wantS _ rfl rfl rfl ?_; intro K hK; go_big_quiet_op; go_big_quiet_on) | (refine wpT_skipS _ rfl rfl rfl rfl ?_; simp only [Act.put, List.setIfInBounds_toArray, List.set_cons_zero, List.set_cons_succ]) | (refine wpT_skipU _ rfl rfl rfl ?_; simp only [Act.put, List.setIfInBounds_toArray, List.set_cons_zero, List.set_cons_succ]))
          refine wpT_nil ?_
          refine wpTail_cons ?_
          go_wp2_with fail
          refine tail_back ?_
          refine wpTail_cons ?_
          go_wp2_with fail
          refine tail_back ?_
          refine wpTail_nil ?_
          clear mi1 mi2 pj0 pj1 pj2 mj1 mj2 HKJ HK0
          clear fi0 fj0 fi1 fj1 fi2 fj2
          rw [HSET.out] at HS9
          have HN9 := Lib.hid (HROW.out.two HS9.out)
          clear HSET HROW HOWN HS9
          rw [Hid, ← HLI.out, ← HC9.out] at HN9
          have HN9 := Lib.hid HN9
          have hgF := gb_trans hgb hg9
          clear HLI HC9 hgb hg9
          go_wp2_with fail
          rw [← HW9.out]
          exact ⟨⟨t + 1, k + 1, by go_num, by rw [Hid, hkt.out]; omega, by omega, by omega, HN9.out.drew, gb_drew hgF⟩, by simp [intOf]; omega⟩
        · have g4 : decide ((k : Int) < (i : Int) - 1) = false := decide_eq_false (by omega)
          obtain ⟨h1, h2, h3⟩ := HEV.out
          have ht : v1.length ≤ t := by have := hkt.out; omega
          rw [List.take_of_length_le ht, List.drop_of_length_le ht, List.nil_append] at hrow
          have HF : Hid (A ++ (v1 ++ x :: (v2 ++ C)) = A ++ ([x].merge v leE ++ C)) := by rw [Hid, HM.out]; simp only [List.append_assoc, List.cons_append]
          rw [HF.out] at hrow
          have HR9 := Lib.hid hrow
          clear hrow h1 h2 h3 ht HF HM HEV
          go_wp2_with fail
          (try simp only [Exit.inBlock, Exit.then]); refine bodyPost_ret (results_none rfl _ _ _) rfl ?_
          exact ⟨rfl, HR9.out, hgb⟩
set_option maxRecDepth 100000 in
set_option maxHeartbeats 16000000 in
theorem symRE_any (A u C : List Ed) (y : Ed) (ad : Addr) (c N base a m b : Nat) (w : World) (h : RowE w base ad c N (A ++ (u ++ ([y] ++ C)))) (hN : N ≤ 1000000) (ha : a = A.length) (hm : m = a + u.length) (hb : b = m + 1) (hu : 1 < u.length) (su : Srt leE u) (hq : ∀ z ∈ A ++ (u ++ ([y] ++ C)), QE z) :
    Calls Try.prog 28 #[.slice (some ad) N c, .int .i64 (a : Int), .int .i64 (m : Int), .int .i64 (b : Int), .func (.func 19) #[] #[]] w fun e w' => e = .returned (.tuple #[]) ∧ RowE w' base ad c N (A ++ (u.merge [y] leE ++ C)) ∧ w.grownBy w' (some ad.block) := by
  have hlen := h.len
  have hbN : b ≤ N := by simp only [List.length_append, List.length_cons, List.length_nil] at hlen; omega
  have hmb : m < b := by omega
  have ham : a < m := by omega
  have hxm : (A ++ (u ++ ([y] ++ C)))[m]? = some y := by
    rw [List.getElem?_append_right (by omega), List.getElem?_append_right (by omega), show m - A.length - u.length = 0 by omega]; rfl
  have huk : ∀ k, a ≤ k → k < m → (A ++ (u ++ ([y] ++ C)))[k]? = u[k - a]? := fun k h1 h2 => by
    rw [List.getElem?_append_right (by omega), List.getElem?_append_left (by omega)]
    congr 1; omega
  have HUK := Lib.hid huk
  have HXM := Lib.hid hxm
  have HQ := Lib.hid hq
  have HH := Lib.hid (And.intro ha hm)
  have HSU := Lib.hid su
  have HROW := Lib.hid h
  have g0 : ((m : Int) - (a : Int) == 1) = false := by rw [beq_eq_false_iff_ne]; omega
  have g00 : ((b : Int) - (m : Int) == 1) = true := by rw [beq_iff_eq]; omega
  obtain ⟨l, hl⟩ : ∃ l, l = A ++ (u ++ ([y] ++ C)) := ⟨_, rfl⟩
  rw [Hid, ← hl] at HROW HXM HUK HQ
  have HROW := Lib.hid HROW; have HXM := Lib.hid HXM; have HUK := Lib.hid HUK; have HQ := Lib.hid HQ
  have HL := Lib.hid hl
  clear h hlen ha hm hb hu su hq hxm huk hl
  go_enter Try.func28, Try.ntmps28
  go_wp2_with fail
  go_loopw [14, 15] (fun iv jv wr => ∃ i j : Nat, iv = .int .i64 (i : Int) ∧ jv = .int .i64 (j : Int) ∧ a ≤ i ∧ i ≤ j ∧ j ≤ m ∧ RowE wr base ad c N l ∧ Hid ((∀ z, a < i → l[i - 1]? = some z → leE z y = true) ∧ (∀ z, j < m → l[j]? = some z → leE z y = false)) ∧ w.grownBy wr (some ad.block)) (fun iv jv _ => (intOf jv).toNat - (intOf iv).toNat)
  case atStart => exact ⟨a, m, rfl, rfl, Nat.le_refl _, by omega, Nat.le_refl _, HROW.out, ⟨fun _ h => absurd h (by omega), fun _ h => absurd h (by omega)⟩, gb_refl _ _⟩
  case round =>
    clear HROW
    obtain ⟨i, j, rfl, rfl, hai, hij, hjm, hrow, HB, hgb⟩ := hrel
    by_cases hlt : i < j
    · obtain ⟨q, hq⟩ : ∃ q, q = (i + j) / 2 := ⟨_, rfl⟩
      have hq1 : i ≤ q := by omega
      have hq2 : q < j := by omega
      have e9 : ((i : Int) + (j : Int)) / 2 = (q : Int) := by omega
      have HE9 := Lib.hid e9
      obtain ⟨z, hz⟩ : ∃ z, l[q]? = some z := ⟨_, List.getElem?_eq_getElem (by have := hrow.len; omega)⟩
      have HY := Lib.hid hz
      clear hq e9
      go_wp2_with fail
      rw [HE9.out]
      obtain ⟨ci0, ci1, ci2⟩ := recE_at hrow HXM.out
      have ci0r := cell_regrown ci0
      have ci1r := cell_regrown ci1
      have ci2r := cell_regrown ci2
      obtain ⟨cj0, cj1, cj2⟩ := recE_at hrow hz
      have cj0r := cell_regrown cj0
      have cj1r := cell_regrown cj1
      have cj2r := cell_regrown cj2
      have HC := Lib.hid (cmpE_any y z (HQ.out y (List.mem_of_getElem? HXM.out)) (HQ.out z (List.mem_of_getElem? hz)))
      have HR := Lib.hid hrow
      clear hrow hz
      by_cases hc : cvE y z < 0
      · have g3 : decide (cvE y z < 0) = true := decide_eq_true hc
        refine wp_region_quiet_below (by kernel_rfl) (by kernel_rfl) ?_
        repeat (go_big_quiet_step ((go_at_call 19; exact Calls.regrown_of (HC.out _))))
        refine wpQuiet_nil ?_
        intro w5 hb50
        have hb5 := below_of_regrown hb50
        clear hb50
        go_wp2_with fail
        go_roundw
        case rel => exact ⟨i, q, rfl, rfl, hai, hq1, by omega, HR.out.below hb5, ⟨HB.out.1, fun z' _ hz => by rw [HY.out] at hz; cases hz; exact leE_not.2 hc⟩, gb_below hgb hb5⟩
        case measure => simp [intOf]; omega
      · have g3 : decide (cvE y z < 0) = false := decide_eq_false hc
        refine wp_region_quiet_below (by kernel_rfl) (by kernel_rfl) ?_
        repeat (go_big_quiet_step ((go_at_call 19; exact Calls.regrown_of (HC.out _))))
        refine wpQuiet_nil ?_
        intro w5 hb50
        have hb5 := below_of_regrown hb50
        clear hb50
        go_wp2_with fail
        go_roundw
        case rel => exact ⟨q + 1, j, by go_num, rfl, by omega, by omega, hjm, HR.out.below hb5, ⟨fun z' _ hz => by rw [show q + 1 - 1 = q by omega, HY.out] at hz; cases hz; exact leE_iff.2 hc, HB.out.2⟩, gb_below hgb hb5⟩
        case measure => simp [intOf]; omega
    · obtain rfl : i = j := by omega
      have g1 : decide ((i : Int) < (i : Int)) = false := decide_eq_false (by omega)
      have g1' : decide (i < i) = false := decide_eq_false hlt
      obtain ⟨h1, h2⟩ := HH.out
      obtain ⟨u1, hu1⟩ : ∃ u1, u1 = u.take (i - a) := ⟨_, rfl⟩
      obtain ⟨u2, hu2⟩ : ∃ u2, u2 = u.drop (i - a) := ⟨_, rfl⟩
      have eu : u = u1 ++ u2 := by rw [hu1, hu2, List.take_append_drop]
      have hl1 : u1.length = i - a := by rw [hu1, List.length_take]; omega
      have hl2 : u2.length = m - i := by rw [hu2, List.length_drop]; omega
      have HM : Hid (u.merge [y] leE = u1 ++ y :: u2) := by
        unfold Hid
        rw [eu]
        refine merge_one_r tpE (by rw [← eu]; exact HSU.out) (fun z hz => ?_) (fun z hz => ?_)
        · rcases Nat.eq_or_lt_of_le hai with h4 | h4
          · rw [hu1, ← h4, Nat.sub_self, List.take_zero] at hz; cases hz
          · rw [hu1, List.getLast?_eq_getElem?, List.length_take, Nat.min_eq_left (by omega), List.getElem?_take, if_pos (by omega)] at hz
            refine HB.out.1 z h4 ?_
            rw [HUK.out (i - 1) (by omega) (by omega), ← hz]
            congr 1; omega
        · rw [hu2, List.head?_drop] at hz
          have h4 := (List.getElem?_eq_some_iff.1 hz).1
          exact HB.out.2 z (by omega) (by rw [HUK.out i hai (by omega)]; exact hz)
      have HR0 : Hid (RowE wr base ad c N (A ++ (u1 ++ (u2.take (m - i) ++ (y :: (u2.drop (m - i) ++ C)))))) := by
        have e : A ++ (u1 ++ (u2.take (m - i) ++ (y :: (u2.drop (m - i) ++ C)))) = l := by
          rw [HL.out, eu, List.take_of_length_le (by omega), List.drop_of_length_le (by omega)]; simp
        rw [Hid, e]; exact hrow
      have HEV := Lib.hid (And.intro h1 (And.intro hl1 hl2))
      clear HB h1 h2 hu1 hu2 eu hl1 hl2 hrow HUK HXM HQ HSU HL HH
      go_wp2_with fail
      go_loopw [17] (fun kv wr => ∃ r k : Nat, kv = .int .i64 (k : Int) ∧ Hid (k = i + r) ∧ i ≤ k ∧ k ≤ m ∧ RowE wr base ad c N (A ++ (u1 ++ (u2.take r ++ (y :: (u2.drop r ++ C))))) ∧ w.grownBy wr (some ad.block)) (fun kv _ => (intOf kv).toNat)
      case atStart => exact ⟨m - i, m, rfl, by unfold Hid; omega, hjm, Nat.le_refl _, HR0.out, hgb⟩
      case round =>
        clear HR0 hgb
        obtain ⟨r, k, rfl, hkr, hik, hkm, hrow, hgb⟩ := hrel
        by_cases hk2 : i < k
        · obtain ⟨κ, rfl⟩ : ∃ κ, k = κ + 1 := ⟨k - 1, by omega⟩
          obtain ⟨r, rfl⟩ : ∃ q, r = q + 1 := ⟨r - 1, by have := hkr.out; omega⟩
          have g4 : decide ((i : Int) < (κ : Int) + 1) = true := decide_eq_true (by omega)
          have g4' : decide (i < κ + 1) = true := decide_eq_true (by omega)
          obtain ⟨h1, h2, h3⟩ := HEV.out
          have hr : r < u2.length := by have := hkr.out; omega
          have hk1 : κ < N := by omega
          have hk3 : κ + 1 < N := by omega
          have hd : u2.drop r = u2[r] :: u2.drop (r + 1) := List.drop_eq_getElem_cons hr
          have hlist : A ++ (u1 ++ (u2.take (r + 1) ++ (y :: (u2.drop (r + 1) ++ C)))) = (A ++ (u1 ++ u2.take r)) ++ u2[r] :: ([] ++ y :: (u2.drop (r + 1) ++ C)) := by rw [List.take_succ_eq_append_getElem hr]; simp only [List.append_assoc, List.cons_append, List.nil_append]
          have hlist2 : A ++ (u1 ++ (u2.take r ++ (y :: (u2.drop r ++ C)))) = (A ++ (u1 ++ u2.take r)) ++ y :: ([] ++ u2[r] :: (u2.drop (r + 1) ++ C)) := by rw [hd]; simp only [List.append_assoc, List.cons_append, List.nil_append]
          have hA9 : κ = (A ++ (u1 ++ u2.take r)).length := by simp only [List.length_append, List.length_take]; have := hkr.out; omega
          have hB9 : κ + 1 = (A ++ (u1 ++ u2.take r)).length + 1 + ([] : List Ed).length := by rw [← hA9]; rfl
          have HLI := Lib.hid hlist2
          rw [hlist] at hrow
          clear hlist hlist2 hd
          generalize u2[r] = x at *
          generalize A ++ (u1 ++ u2.take r) = A9 at *
          generalize ([] : List Ed) = B9 at *
          generalize u2.drop (r + 1) ++ C = C9 at *
          clear h1 h2 h3 hr
          obtain ⟨hxi, hyj, hsw, hsw2⟩ := swap_two A9 B9 C9 x y hA9 hB9
          have HROW := Lib.hid hrow
          have HOWN := Lib.hid hrow.own
          obtain ⟨ci0, ci1, ci2⟩ := recE_at HROW.out hyj
          obtain ⟨cj0, cj1, cj2⟩ := recE_at HROW.out hxi
          have hlen := hrow.len
          have hset := cellsE_set (l := A9 ++ x :: (B9 ++ y :: C9)) (j := (κ + 1)) (by omega) x
          have hset2 := cellsE_set (l := (A9 ++ x :: (B9 ++ y :: C9)).set (κ + 1) x) (j := κ) (by rw [List.length_set]; omega) y
          rw [← hset, hsw2] at hset2
          have HSET := Lib.hid hset2
          clear hA9 hB9 hsw hsw2 hrow hxi hyj hset hset2 hlen
          obtain ⟨s0, f0⟩ := own_setS HOWN.out (j := (κ + 1) * 3) (by omega) (.int .i64 x.at_)
          obtain ⟨s1, f1⟩ := own_setS s0 (j := (κ + 1) * 3 + 1) (by omega) (.int .i64 x.del)
          obtain ⟨s2, f2⟩ := own_setS s1 (j := (κ + 1) * 3 + 2) (by omega) (.string (S x.ins))
          obtain ⟨s3, f3⟩ := own_setS s2 (j := κ * 3) (by omega) (.int .i64 y.at_)
          obtain ⟨s4, f4⟩ := own_setS s3 (j := κ * 3 + 1) (by omega) (.int .i64 y.del)
          obtain ⟨s5, f5⟩ := own_setS s4 (j := κ * 3 + 2) (by omega) (.string (S y.ins))
          have fi0 := (own_setS HOWN.out (j := (κ + 1) * 3) (by omega) (.int .i64 0)).2
          have fj0 := (own_setS HOWN.out (j := κ * 3) (by omega) (.int .i64 0)).2
          have fi1 := (own_setS HOWN.out (j := (κ + 1) * 3 + 1) (by omega) (.int .i64 0)).2
          have fj1 := (own_setS HOWN.out (j := κ * 3 + 1) (by omega) (.int .i64 0)).2
          have fi2 := (own_setS HOWN.out (j := (κ + 1) * 3 + 2) (by omega) (.int .i64 0)).2
          have fj2 := (own_setS HOWN.out (j := κ * 3 + 2) (by omega) (.int .i64 0)).2
          rw [add_one] at fi1
          rw [add_two] at fi2
          rw [add_one] at fj1
          rw [add_two] at fj2
          rw [add_one ad ((κ + 1) * 3), add_two ad ((κ + 1) * 3), add_one ad (κ * 3), add_two ad (κ * 3)] at s5
          have hna := own_addrS HOWN.out
          have mi1 : (wr.setCell (ad.add ((κ + 1) * 3)) (.int .i64 x.at_)).cell? ⟨(ad.add ((κ + 1) * 3)).block, (ad.add ((κ + 1) * 3)).off + 1, none⟩ = some (.int .i64 y.del) := ((World.cell?_setCell_other _ _ _ _ (show ((ad.add ((κ + 1) * 3)) : Addr) ≠ (⟨(ad.add ((κ + 1) * 3)).block, (ad.add ((κ + 1) * 3)).off + 1, none⟩ : Addr) by rw [← add_one ad ((κ + 1) * 3)]; exact hna _ _ (by omega))).trans ci1)
          have mi2 : ((wr.setCell (ad.add ((κ + 1) * 3)) (.int .i64 x.at_)).setCell ⟨(ad.add ((κ + 1) * 3)).block, (ad.add ((κ + 1) * 3)).off + 1, none⟩ (.int .i64 x.del)).cell? ⟨(ad.add ((κ + 1) * 3)).block, (ad.add ((κ + 1) * 3)).off + 2, none⟩ = some (.string (S y.ins)) := ((World.cell?_setCell_other _ _ _ _ (show (⟨(ad.add ((κ + 1) * 3)).block, (ad.add ((κ + 1) * 3)).off + 1, none⟩ : Addr) ≠ (⟨(ad.add ((κ + 1) * 3)).block, (ad.add ((κ + 1) * 3)).off + 2, none⟩ : Addr) by rw [← add_one ad ((κ + 1) * 3), ← add_two ad ((κ + 1) * 3)]; exact hna _ _ (by omega))).trans ((World.cell?_setCell_other _ _ _ _ (show ((ad.add ((κ + 1) * 3)) : Addr) ≠ (⟨(ad.add ((κ + 1) * 3)).block, (ad.add ((κ + 1) * 3)).off + 2, none⟩ : Addr) by rw [← add_two ad ((κ + 1) * 3)]; exact hna _ _ (by omega))).trans ci2))
          have pj0 : (((wr.setCell (ad.add ((κ + 1) * 3)) (.int .i64 x.at_)).setCell ⟨(ad.add ((κ + 1) * 3)).block, (ad.add ((κ + 1) * 3)).off + 1, none⟩ (.int .i64 x.del)).setCell ⟨(ad.add ((κ + 1) * 3)).block, (ad.add ((κ + 1) * 3)).off + 2, none⟩ (.string (S x.ins))).cell? (ad.add (κ * 3)) = some (.int .i64 x.at_) := ((World.cell?_setCell_other _ _ _ _ (show (⟨(ad.add ((κ + 1) * 3)).block, (ad.add ((κ + 1) * 3)).off + 2, none⟩ : Addr) ≠ ((ad.add (κ * 3)) : Addr) by rw [← add_two ad ((κ + 1) * 3)]; exact hna _ _ (by omega))).trans ((World.cell?_setCell_other _ _ _ _ (show (⟨(ad.add ((κ + 1) * 3)).block, (ad.add ((κ + 1) * 3)).off + 1, none⟩ : Addr) ≠ ((ad.add (κ * 3)) : Addr) by rw [← add_one ad ((κ + 1) * 3)]; exact hna _ _ (by omega))).trans ((World.cell?_setCell_other _ _ _ _ (show ((ad.add ((κ + 1) * 3)) : Addr) ≠ ((ad.add (κ * 3)) : Addr) by exact hna _ _ (by omega))).trans cj0)))
          have pj1 : (((wr.setCell (ad.add ((κ + 1) * 3)) (.int .i64 x.at_)).setCell ⟨(ad.add ((κ + 1) * 3)).block, (ad.add ((κ + 1) * 3)).off + 1, none⟩ (.int .i64 x.del)).setCell ⟨(ad.add ((κ + 1) * 3)).block, (ad.add ((κ + 1) * 3)).off + 2, none⟩ (.string (S x.ins))).cell? ⟨(ad.add (κ * 3)).block, (ad.add (κ * 3)).off + 1, none⟩ = some (.int .i64 x.del) := ((World.cell?_setCell_other _ _ _ _ (show (⟨(ad.add ((κ + 1) * 3)).block, (ad.add ((κ + 1) * 3)).off + 2, none⟩ : Addr) ≠ (⟨(ad.add (κ * 3)).block, (ad.add (κ * 3)).off + 1, none⟩ : Addr) by rw [← add_two ad ((κ + 1) * 3), ← add_one ad (κ * 3)]; exact hna _ _ (by omega))).trans ((World.cell?_setCell_other _ _ _ _ (show (⟨(ad.add ((κ + 1) * 3)).block, (ad.add ((κ + 1) * 3)).off + 1, none⟩ : Addr) ≠ (⟨(ad.add (κ * 3)).block, (ad.add (κ * 3)).off + 1, none⟩ : Addr) by rw [← add_one ad ((κ + 1) * 3), ← add_one ad (κ * 3)]; exact hna _ _ (by omega))).trans ((World.cell?_setCell_other _ _ _ _ (show ((ad.add ((κ + 1) * 3)) : Addr) ≠ (⟨(ad.add (κ * 3)).block, (ad.add (κ * 3)).off + 1, none⟩ : Addr) by rw [← add_one ad (κ * 3)]; exact hna _ _ (by omega))).trans cj1)))
          have pj2 : (((wr.setCell (ad.add ((κ + 1) * 3)) (.int .i64 x.at_)).setCell ⟨(ad.add ((κ + 1) * 3)).block, (ad.add ((κ + 1) * 3)).off + 1, none⟩ (.int .i64 x.del)).setCell ⟨(ad.add ((κ + 1) * 3)).block, (ad.add ((κ + 1) * 3)).off + 2, none⟩ (.string (S x.ins))).cell? ⟨(ad.add (κ * 3)).block, (ad.add (κ * 3)).off + 2, none⟩ = some (.string (S x.ins)) := ((World.cell?_setCell_other _ _ _ _ (show (⟨(ad.add ((κ + 1) * 3)).block, (ad.add ((κ + 1) * 3)).off + 2, none⟩ : Addr) ≠ (⟨(ad.add (κ * 3)).block, (ad.add (κ * 3)).off + 2, none⟩ : Addr) by rw [← add_two ad ((κ + 1) * 3), ← add_two ad (κ * 3)]; exact hna _ _ (by omega))).trans ((World.cell?_setCell_other _ _ _ _ (show (⟨(ad.add ((κ + 1) * 3)).block, (ad.add ((κ + 1) * 3)).off + 1, none⟩ : Addr) ≠ (⟨(ad.add (κ * 3)).block, (ad.add (κ * 3)).off + 2, none⟩ : Addr) by rw [← add_one ad ((κ + 1) * 3), ← add_two ad (κ * 3)]; exact hna _ _ (by omega))).trans ((World.cell?_setCell_other _ _ _ _ (show ((ad.add ((κ + 1) * 3)) : Addr) ≠ (⟨(ad.add (κ * 3)).block, (ad.add (κ * 3)).off + 2, none⟩ : Addr) by rw [← add_two ad (κ * 3)]; exact hna _ _ (by omega))).trans cj2)))
          have mj1 : ((((wr.setCell (ad.add ((κ + 1) * 3)) (.int .i64 x.at_)).setCell ⟨(ad.add ((κ + 1) * 3)).block, (ad.add ((κ + 1) * 3)).off + 1, none⟩ (.int .i64 x.del)).setCell ⟨(ad.add ((κ + 1) * 3)).block, (ad.add ((κ + 1) * 3)).off + 2, none⟩ (.string (S x.ins))).setCell (ad.add (κ * 3)) (.int .i64 y.at_)).cell? ⟨(ad.add (κ * 3)).block, (ad.add (κ * 3)).off + 1, none⟩ = some (.int .i64 x.del) := ((World.cell?_setCell_other _ _ _ _ (show ((ad.add (κ * 3)) : Addr) ≠ (⟨(ad.add (κ * 3)).block, (ad.add (κ * 3)).off + 1, none⟩ : Addr) by rw [← add_one ad (κ * 3)]; exact hna _ _ (by omega))).trans ((World.cell?_setCell_other _ _ _ _ (show (⟨(ad.add ((κ + 1) * 3)).block, (ad.add ((κ + 1) * 3)).off + 2, none⟩ : Addr) ≠ (⟨(ad.add (κ * 3)).block, (ad.add (κ * 3)).off + 1, none⟩ : Addr) by rw [← add_two ad ((κ + 1) * 3), ← add_one ad (κ * 3)]; exact hna _ _ (by omega))).trans ((World.cell?_setCell_other _ _ _ _ (show (⟨(ad.add ((κ + 1) * 3)).block, (ad.add ((κ + 1) * 3)).off + 1, none⟩ : Addr) ≠ (⟨(ad.add (κ * 3)).block, (ad.add (κ * 3)).off + 1, none⟩ : Addr) by rw [← add_one ad ((κ + 1) * 3), ← add_one ad (κ * 3)]; exact hna _ _ (by omega))).trans ((World.cell?_setCell_other _ _ _ _ (show ((ad.add ((κ + 1) * 3)) : Addr) ≠ (⟨(ad.add (κ * 3)).block, (ad.add (κ * 3)).off + 1, none⟩ : Addr) by rw [← add_one ad (κ * 3)]; exact hna _ _ (by omega))).trans cj1))))
          have mj2 : (((((wr.setCell (ad.add ((κ + 1) * 3)) (.int .i64 x.at_)).setCell ⟨(ad.add ((κ + 1) * 3)).block, (ad.add ((κ + 1) * 3)).off + 1, none⟩ (.int .i64 x.del)).setCell ⟨(ad.add ((κ + 1) * 3)).block, (ad.add ((κ + 1) * 3)).off + 2, none⟩ (.string (S x.ins))).setCell (ad.add (κ * 3)) (.int .i64 y.at_)).setCell ⟨(ad.add (κ * 3)).block, (ad.add (κ * 3)).off + 1, none⟩ (.int .i64 y.del)).cell? ⟨(ad.add (κ * 3)).block, (ad.add (κ * 3)).off + 2, none⟩ = some (.string (S x.ins)) := ((World.cell?_setCell_other _ _ _ _ (show (⟨(ad.add (κ * 3)).block, (ad.add (κ * 3)).off + 1, none⟩ : Addr) ≠ (⟨(ad.add (κ * 3)).block, (ad.add (κ * 3)).off + 2, none⟩ : Addr) by rw [← add_one ad (κ * 3), ← add_two ad (κ * 3)]; exact hna _ _ (by omega))).trans ((World.cell?_setCell_other _ _ _ _ (show ((ad.add (κ * 3)) : Addr) ≠ (⟨(ad.add (κ * 3)).block, (ad.add (κ * 3)).off + 2, none⟩ : Addr) by rw [← add_two ad (κ * 3)]; exact hna _ _ (by omega))).trans ((World.cell?_setCell_other _ _ _ _ (show (⟨(ad.add ((κ + 1) * 3)).block, (ad.add ((κ + 1) * 3)).off + 2, none⟩ : Addr) ≠ (⟨(ad.add (κ * 3)).block, (ad.add (κ * 3)).off + 2, none⟩ : Addr) by rw [← add_two ad ((κ + 1) * 3), ← add_two ad (κ * 3)]; exact hna _ _ (by omega))).trans ((World.cell?_setCell_other _ _ _ _ (show (⟨(ad.add ((κ + 1) * 3)).block, (ad.add ((κ + 1) * 3)).off + 1, none⟩ : Addr) ≠ (⟨(ad.add (κ * 3)).block, (ad.add (κ * 3)).off + 2, none⟩ : Addr) by rw [← add_one ad ((κ + 1) * 3), ← add_two ad (κ * 3)]; exact hna _ _ (by omega))).trans ((World.cell?_setCell_other _ _ _ _ (show ((ad.add ((κ + 1) * 3)) : Addr) ≠ (⟨(ad.add (κ * 3)).block, (ad.add (κ * 3)).off + 2, none⟩ : Addr) by rw [← add_two ad (κ * 3)]; exact hna _ _ (by omega))).trans cj2)))))
          obtain ⟨W9, hW9⟩ : ∃ W9, W9 = ((((((wr.setCell (ad.add ((κ + 1) * 3)) (.int .i64 x.at_)).setCell ⟨(ad.add ((κ + 1) * 3)).block, (ad.add ((κ + 1) * 3)).off + 1, none⟩ (.int .i64 x.del)).setCell ⟨(ad.add ((κ + 1) * 3)).block, (ad.add ((κ + 1) * 3)).off + 2, none⟩ (.string (S x.ins))).setCell (ad.add (κ * 3)) (.int .i64 y.at_)).setCell ⟨(ad.add (κ * 3)).block, (ad.add (κ * 3)).off + 1, none⟩ (.int .i64 y.del)).setCell ⟨(ad.add (κ * 3)).block, (ad.add (κ * 3)).off + 2, none⟩ (.string (S y.ins))) := ⟨_, rfl⟩
          rw [← hW9] at s5
          have hg9 : wr.grownBy W9 (some ad.block) := by
            rw [hW9]
            refine gb_at (gb_at (gb_at (gb_at (gb_at (gb_at (gb_refl _ _) _ _ ?_) _ _ ?_) _ _ ?_) _ _ ?_) _ _ ?_) _ _ ?_
            all_goals exact blk_add _ _
          have HW9 := Lib.hid hW9
          clear hW9
          have HS9 := Lib.hid s5
          clear s0 s1 s2 s3 s4 s5 hna
          clear f0 f1 f2 f3 f4 f5
          have k0 : wr.cell? (ad.add (κ * 3)) = some (.int .i64 x.at_) ∧ wr.cell? ⟨(ad.add (κ * 3)).block, (ad.add (κ * 3)).off + 1, none⟩ = some (.int .i64 x.del) ∧ wr.cell? ⟨(ad.add (κ * 3)).block, (ad.add (κ * 3)).off + 2, none⟩ = some (.string (S x.ins)) := ⟨cj0, cj1, cj2⟩
          have HK0 := Lib.hid k0; clear k0
          have kj : (((wr.setCell (ad.add ((κ + 1) * 3)) (.int .i64 x.at_)).setCell ⟨(ad.add ((κ + 1) * 3)).block, (ad.add ((κ + 1) * 3)).off + 1, none⟩ (.int .i64 x.del)).setCell ⟨(ad.add ((κ + 1) * 3)).block, (ad.add ((κ + 1) * 3)).off + 2, none⟩ (.string (S x.ins))).cell? (ad.add (κ * 3)) = some (.int .i64 x.at_) ∧ (((wr.setCell (ad.add ((κ + 1) * 3)) (.int .i64 x.at_)).setCell ⟨(ad.add ((κ + 1) * 3)).block, (ad.add ((κ + 1) * 3)).off + 1, none⟩ (.int .i64 x.del)).setCell ⟨(ad.add ((κ + 1) * 3)).block, (ad.add ((κ + 1) * 3)).off + 2, none⟩ (.string (S x.ins))).cell? ⟨(ad.add (κ * 3)).block, (ad.add (κ * 3)).off + 1, none⟩ = some (.int .i64 x.del) ∧ (((wr.setCell (ad.add ((κ + 1) * 3)) (.int .i64 x.at_)).setCell ⟨(ad.add ((κ + 1) * 3)).block, (ad.add ((κ + 1) * 3)).off + 1, none⟩ (.int .i64 x.del)).setCell ⟨(ad.add ((κ + 1) * 3)).block, (ad.add ((κ + 1) * 3)).off + 2, none⟩ (.string (S x.ins))).cell? ⟨(ad.add (κ * 3)).block, (ad.add (κ * 3)).off + 2, none⟩ = some (.string (S x.ins)) := ⟨pj0, pj1, pj2⟩
          have HKJ := Lib.hid kj; clear kj
          go_wp2_with fail
          obtain ⟨F1, hFd⟩ : ∃ F : World → Prop, F = fun w' => w'.cell? (ad.add (κ * 3)) = some (.int .i64 x.at_) ∧ w'.cell? ⟨(ad.add (κ * 3)).block, (ad.add (κ * 3)).off + 1, none⟩ = some (.int .i64 x.del) ∧ w'.cell? ⟨(ad.add (κ * 3)).block, (ad.add (κ * 3)).off + 2, none⟩ = some (.string (S x.ins)) := ⟨_, rfl⟩
          have HF1 := Lib.hid hFd
          clear hFd
          have hcell10 : ∀ p' : Wof F1, p'.w.cell? (ad.add (κ * 3)) = some (.int .i64 x.at_) := fun ⟨x, hx⟩ => by rw [HF1.out] at hx; exact hx.1
          have hcell11 : ∀ p' : Wof F1, p'.w.cell? ⟨(ad.add (κ * 3)).block, (ad.add (κ * 3)).off + 1, none⟩ = some (.int .i64 x.del) := fun ⟨x, hx⟩ => by rw [HF1.out] at hx; exact hx.2.1
          have hcell12 : ∀ p' : Wof F1, p'.w.cell? ⟨(ad.add (κ * 3)).block, (ad.add (κ * 3)).off + 2, none⟩ = some (.string (S x.ins)) := fun ⟨x, hx⟩ => by rw [HF1.out] at hx; exact hx.2.2
          refine wp_region_schedT (.op 0 true (.op 1 true (.op 2 true (.op 3 true (.op 4 true (.op 5 true (.op 6 true (.op 7 true (.op 8 true (.op 9 true (.op 10 true (.op 11 true (.op 12 true (.op 13 false (.op 14 true (.op 15 false .nil)))))))))))))))) 16 16 [17] F1 (by kernel_rfl) (by kernel_rfl) (by kernel_rfl) rfl (fun _ _ _ _ _ h => h) (by kernel_rfl) (by rw [HF1.out]; exact HK0.out) (by rw [HF1.out]; exact fun h => h) ?_
          intro hne1
          simp only [opersT, opsAt, List.getElem?_toArray, List.getElem?_cons_succ, List.getElem?_cons_zero]
          repeat (first | (refine wpT_free rfl ?_; intro K hK; go_big_quiet_op; go_big_quiet_on) | (refine wpT_wantS _ rfl rfl rfl ?_; intro K hK; go_big_quiet_op; go_big_quiet_on) | (refine wpT_skipS _ rfl rfl rfl rfl ?_; simp only [Act.put, List.setIfInBounds_toArray, List.set_cons_zero, List.set_cons_succ]) | (refine wpT_skipU _ rfl rfl rfl ?_; simp only [Act.put, List.setIfInBounds_toArray, List.set_cons_zero, List.set_cons_succ]))
          refine wpT_other ?_
          go_wp2_with fail
          refine sched_back (by rw [HF1.out]; exact HK0.out) ?_
          repeat (first | (refine wpT_free rfl ?_; intro K hK; go_big_quiet_op; go_big_quiet_on) | (refine wpT_wantS _ rfl rfl rfl ?_; intro K hK; go_big_quiet_op; go_big_quiet_on) | (refine wpT_skipS _ rfl rfl rfl rfl ?_; simp only [Act.put, List.setIfInBounds_toArray, List.set_cons_zero, List.set_cons_succ]) | (refine wpT_skipU _ rfl rfl rfl ?_; simp only [Act.put, List.setIfInBounds_toArray, List.set_cons_zero, List.set_cons_succ]))
          refine wpT_other ?_
          go_wp2_with fail
          refine sched_back (by rw [HF1.out]; exact HKJ.out) ?_
          repeat (first | (refine wpT_free rfl ?_; intro K hK; go_big_quiet_op; go_big_quiet_on) | (refine wpT_wantS _ rfl rfl rfl ?_; intro K hK; go_big_quiet_op; go_big_quiet_on) | (refine wpT_skipS _ rfl rfl rfl rfl ?_; simp only [Act.put, List.setIfInBounds_toArray, List.set_cons_zero, List.set_cons_succ]) | (refine wpT_skipU _ rfl rfl rfl ?_; simp only [Act.put, List.setIfInBounds_toArray, List.set_cons_zero, List.set_cons_succ]))
          refine wpT_nil ?_
          refine wpTail_cons ?_
          go_wp2_with fail
          refine tail_back ?_
          refine wpTail_cons ?_
          go_wp2_with fail
          refine tail_back ?_
          refine wpTail_nil ?_
          clear mi1 mi2 pj0 pj1 pj2 mj1 mj2 HKJ HK0
          clear fi0 fj0 fi1 fj1 fi2 fj2
          rw [HSET.out] at HS9
          have HN9 := Lib.hid (HROW.out.two HS9.out)
          clear HSET HROW HOWN HS9
          rw [Hid, ← HLI.out] at HN9
          have HN9 := Lib.hid HN9
          have hgF := gb_trans hgb hg9
          clear HLI hgb hg9
          go_wp2_with fail
          rw [← HW9.out]
          exact ⟨⟨r, κ, by go_num, by have := hkr.out; unfold Hid; omega, by omega, by omega, HN9.out.drew, gb_drew hgF⟩, by simp [intOf]⟩
        · have g4 : decide ((i : Int) < (k : Int)) = false := decide_eq_false (by omega)
          have g4' : decide (i < k) = false := decide_eq_false (by omega)
          have hr : r = 0 := by have := hkr.out; omega
          subst hr
          rw [List.take_zero, List.drop_zero, List.nil_append] at hrow
          have HF : Hid (A ++ (u1 ++ y :: (u2 ++ C)) = A ++ (u.merge [y] leE ++ C)) := by rw [Hid, HM.out]; simp only [List.append_assoc, List.cons_append]
          rw [HF.out] at hrow
          have HR9 := Lib.hid hrow
          clear hrow HF HM HEV
          go_wp2_with fail
          (try simp only [Exit.inBlock, Exit.then]); refine bodyPost_ret (results_none rfl _ _ _) rfl ?_
          exact ⟨rfl, HR9.out, hgb⟩
end Go.Proofs.Ytmikckhihfcooaa
namespace Go.Proofs.Ytmikckhihfcooaa
open Go.RowKit
/-- What symMerge does, at rows of up to f. -/
def SymE (f : Nat) : Prop := ∀ (A u v C : List Ed) (ad : Addr) (c N base a m b : Nat) (w : World), RowE w base ad c N (A ++ (u ++ (v ++ C))) → N ≤ 1000000 → a = A.length → m = a + u.length → b = m + v.length → 0 < u.length → 0 < v.length → Srt leE u → Srt leE v → (∀ z ∈ A ++ (u ++ (v ++ C)), QE z) → u.length + v.length ≤ f →
    Calls Try.prog 28 #[.slice (some ad) N c, .int .i64 (a : Int), .int .i64 (m : Int), .int .i64 (b : Int), .func (.func 19) #[] #[]] w fun e w' => e = .returned (.tuple #[]) ∧ RowE w' base ad c N (A ++ (u.merge v leE ++ C)) ∧ w.grownBy w' (some ad.block)
set_option maxRecDepth 100000 in
set_option maxHeartbeats 16000000 in
theorem symME_any (f : Nat) (ih : SymE f) (A u v C : List Ed) (ad : Addr) (c N base a m b : Nat) (w : World) (h : RowE w base ad c N (A ++ (u ++ (v ++ C)))) (hN : N ≤ 1000000) (ha : a = A.length) (hm : m = a + u.length) (hb : b = m + v.length) (hu : 1 < u.length) (hv : 1 < v.length) (su : Srt leE u) (sv : Srt leE v) (hq : ∀ z ∈ A ++ (u ++ (v ++ C)), QE z) (hf : u.length + v.length ≤ f + 1) :
    Calls Try.prog 28 #[.slice (some ad) N c, .int .i64 (a : Int), .int .i64 (m : Int), .int .i64 (b : Int), .func (.func 19) #[] #[]] w fun e w' => e = .returned (.tuple #[]) ∧ RowE w' base ad c N (A ++ (u.merge v leE ++ C)) ∧ w.grownBy w' (some ad.block) := by
  have hlen := h.len
  have hbN : b ≤ N := by simp only [List.length_append] at hlen; omega
  have hmb : m + 1 < b := by omega
  have ham : a + 1 < m := by omega
  have HQ := Lib.hid hq
  have HH := Lib.hid (And.intro ha (And.intro hm (And.intro hb hf)))
  have HS := Lib.hid (And.intro su sv)
  have HROW := Lib.hid h
  have g0 : ((m : Int) - (a : Int) == 1) = false := by rw [beq_eq_false_iff_ne]; omega
  have g00 : ((b : Int) - (m : Int) == 1) = false := by rw [beq_eq_false_iff_ne]; omega
  obtain ⟨l, hl⟩ : ∃ l, l = A ++ (u ++ (v ++ C)) := ⟨_, rfl⟩
  rw [Hid, ← hl] at HROW HQ
  have HROW := Lib.hid HROW; have HQ := Lib.hid HQ
  have HL := Lib.hid hl
  have HIH := Lib.hid ih
  obtain ⟨mid, hmid⟩ : ∃ mid, mid = (a + b) / 2 := ⟨_, rfl⟩
  obtain ⟨nn, hnn⟩ : ∃ nn, nn = mid + m := ⟨_, rfl⟩
  obtain ⟨pp, hpp⟩ : ∃ pp, pp + 1 = nn := ⟨nn - 1, by omega⟩
  obtain ⟨lo, hlo⟩ : ∃ lo, lo = if mid < m then nn - b else a := ⟨_, rfl⟩
  obtain ⟨hi, hhi⟩ : ∃ hi, hi = if mid < m then mid else m := ⟨_, rfl⟩
  have hlohi : lo ≤ hi ∧ a ≤ lo ∧ hi ≤ m ∧ hi ≤ mid ∧ nn ≤ lo + b ∧ (lo = a ∨ lo + b = nn) ∧ (hi = m ∨ hi = mid) := by
    rw [hlo, hhi]
    by_cases hc : mid < m
    · rw [if_pos hc, if_pos hc]; omega
    · rw [if_neg hc, if_neg hc]; omega
  obtain ⟨k1, k2, k3, k4, k5, k6, k7⟩ := hlohi
  have hmid1 : a < mid := by omega
  have hmid2 : mid < b := by omega
  have e9 : ((a : Int) + (b : Int)) / 2 = (mid : Int) := by omega
  have e10 : (mid : Int) + (m : Int) = (nn : Int) := by omega
  have e11 : (nn : Int) - 1 = (pp : Int) := by omega
  have HNN := Lib.hid (And.intro hnn (And.intro hpp hmid))
  have HK := Lib.hid (And.intro k6 k7)
  have hnb : nn ≤ N + N := by omega
  have hE : Hid (((a : Int) + (b : Int)) / 2 = (mid : Int) ∧ (mid : Int) + (m : Int) = (nn : Int) ∧ (nn : Int) - 1 = (pp : Int)) := ⟨e9, e10, e11⟩
  have hpn : pp < nn := by omega
  have hnp : nn ≤ pp + 1 := by omega
  have hLH : Hid ((mid < m → (nn : Int) - (b : Int) = (lo : Int) ∧ hi = mid) ∧ (¬ mid < m → lo = a ∧ hi = m)) := by
    refine ⟨fun hc => ?_, fun hc => ?_⟩
    · rw [hlo, hhi, if_pos hc, if_pos hc]; omega
    · rw [hlo, hhi, if_neg hc, if_neg hc]; exact ⟨rfl, rfl⟩
  have hmn : m ≤ nn := by omega
  have hmidn : mid ≤ nn := by omega
  clear h hlen ha hm hb hu hv su sv hq hl ih hf hmid hnn hpp hlo hhi k6 k7 e9 e10 e11
  go_enter Try.func28, Try.ntmps28
  go_upto_if 140 with (fail)
  rw [hE.out.1, hE.out.2.1]
  go_cut [20, 21] (fun sv rv wx => sv = .int .i64 (lo : Int) ∧ rv = .int .i64 (hi : Int) ∧ wx = w)
  case first =>
    by_cases hc : mid < m
    · obtain ⟨q1, q2⟩ := hLH.out.1 hc
      have g2 : decide ((mid : Int) < (m : Int)) = true := decide_eq_true (by omega)
      have g2' : decide (mid < m) = true := decide_eq_true hc
      have HQ1 := Lib.hid q1
      have HQ2 := Lib.hid q2
      clear q1 q2 hLH hE
      go_wp2_with fail
      go_meet
      exact ⟨by rw [HQ1.out], by rw [HQ2.out], rfl⟩
    · obtain ⟨q1, q2⟩ := hLH.out.2 hc
      have g2 : decide ((mid : Int) < (m : Int)) = false := decide_eq_false (by omega)
      have g2' : decide (mid < m) = false := decide_eq_false hc
      have HQ1 := Lib.hid q1
      have HQ2 := Lib.hid q2
      clear q1 q2 hLH hE
      go_wp2_with fail
      go_meet
      exact ⟨by rw [HQ1.out], by rw [HQ2.out], rfl⟩
  case rest =>
  obtain ⟨rfl, rfl, hwx⟩ := hcut
  clear hLH
  go_wp2_with fail
  rw [hE.out.2.2]
  clear hE
  have HWX := Lib.hid hwx
  clear hwx
  go_loopw [20, 21] (fun iv jv wr => ∃ i j : Nat, iv = .int .i64 (i : Int) ∧ jv = .int .i64 (j : Int) ∧ lo ≤ i ∧ i ≤ j ∧ j ≤ hi ∧ RowE wr base ad c N l ∧ Hid ((∀ x y, lo < i → l[i - 1]? = some x → l[nn - i]? = some y → leE x y = true) ∧ (∀ x y, j < hi → l[j]? = some x → l[pp - j]? = some y → leE x y = false)) ∧ w.grownBy wr (some ad.block)) (fun iv jv _ => (intOf jv).toNat - (intOf iv).toNat)
  case atStart => exact ⟨lo, hi, rfl, rfl, Nat.le_refl _, k1, Nat.le_refl _, HROW.out, ⟨fun _ _ h => absurd h (by omega), fun _ _ h => absurd h (by omega)⟩, gb_refl _ _⟩
  case round =>
    clear HROW HWX
    obtain ⟨i, j, rfl, rfl, hli, hij, hjh, hrow, HB, hgb⟩ := hrel
    by_cases hlt : i < j
    · obtain ⟨q, hq⟩ : ∃ q, q = (i + j) / 2 := ⟨_, rfl⟩
      obtain ⟨z, hz⟩ : ∃ z, z + q = pp := ⟨pp - q, by omega⟩
      have hq1 : i ≤ q := by omega
      have hq2 : q < j := by omega
      have hzN : z < N := by omega
      have hqN : q < N := by omega
      have e9 : ((i : Int) + (j : Int)) / 2 = (q : Int) := by omega
      have e5 : (pp : Int) - (q : Int) = (z : Int) := by omega
      have HE9 := Lib.hid e9
      have HZ : Hid (pp - q = z ∧ nn - (q + 1) = z) := by unfold Hid; omega
      obtain ⟨x, hx⟩ : ∃ x, l[q]? = some x := ⟨_, List.getElem?_eq_getElem (by have := hrow.len; omega)⟩
      obtain ⟨y, hy⟩ : ∃ y, l[z]? = some y := ⟨_, List.getElem?_eq_getElem (by have := hrow.len; omega)⟩
      have HY := Lib.hid hy
      have HX := Lib.hid hx
      clear hq e9 hz
      go_wp2_with fail
      rw [HE9.out]
      obtain ⟨ci0, ci1, ci2⟩ := recE_at hrow hy
      have ci0r := cell_regrown ci0
      have ci1r := cell_regrown ci1
      have ci2r := cell_regrown ci2
      obtain ⟨cj0, cj1, cj2⟩ := recE_at hrow hx
      have cj0r := cell_regrown cj0
      have cj1r := cell_regrown cj1
      have cj2r := cell_regrown cj2
      have HC := Lib.hid (cmpE_any y x (HQ.out y (List.mem_of_getElem? hy)) (HQ.out x (List.mem_of_getElem? hx)))
      have HR := Lib.hid hrow
      clear hrow hy hx
      by_cases hc : cvE y x < 0
      · have g3 : decide (cvE y x < 0) = true := decide_eq_true hc
        refine wp_region_quiet_below (by kernel_rfl) (by kernel_rfl) ?_
        repeat (go_big_quiet_step ((go_at_call 19; exact Calls.regrown_of (HC.out _))))
        refine wpQuiet_nil ?_
        intro w5 hb50
        have hb5 := below_of_regrown hb50
        clear hb50
        clear e5
        go_wp2_with fail
        go_roundw
        case rel => exact ⟨i, q, rfl, rfl, hli, hq1, by omega, HR.out.below hb5, ⟨HB.out.1, fun x' y' _ hx hy => by rw [HX.out] at hx; rw [HZ.out.1, HY.out] at hy; cases hx; cases hy; exact leE_not.2 hc⟩, gb_below hgb hb5⟩
        case measure => simp [intOf]; omega
      · have g3 : decide (cvE y x < 0) = false := decide_eq_false hc
        refine wp_region_quiet_below (by kernel_rfl) (by kernel_rfl) ?_
        repeat (go_big_quiet_step ((go_at_call 19; exact Calls.regrown_of (HC.out _))))
        refine wpQuiet_nil ?_
        intro w5 hb50
        have hb5 := below_of_regrown hb50
        clear hb50
        clear e5
        go_wp2_with fail
        go_roundw
        case rel => exact ⟨q + 1, j, by go_num, rfl, by omega, by omega, hjh, HR.out.below hb5, ⟨fun x' y' _ hx hy => by rw [show q + 1 - 1 = q by omega, HX.out] at hx; rw [HZ.out.2, HY.out] at hy; cases hx; cases hy; exact leE_iff.2 hc, HB.out.2⟩, gb_below hgb hb5⟩
        case measure => simp [intOf]; omega
    · obtain rfl : i = j := by omega
      have g1 : decide ((i : Int) < (i : Int)) = false := decide_eq_false (by omega)
      have g1' : decide (i < i) = false := decide_eq_false hlt
      obtain ⟨h1, h2, h3, h4⟩ := HH.out
      obtain ⟨n1, n2, n3⟩ := HNN.out
      obtain ⟨en, hen⟩ : ∃ en, en + i = nn := ⟨nn - i, by omega⟩
      have he1 : m ≤ en := by omega
      have he2 : en ≤ b := by omega
      have hai : a ≤ i := by omega
      have him : i ≤ m := by omega
      have hime : i ≤ mid := by omega
      have hmide : mid ≤ en := by omega
      have hrow0 := hrow
      rw [HL.out] at hrow0
      obtain ⟨u1, u2, v1, v2, eu, ev, l1, l2, s1, s2, s3, s4, hmg⟩ := sym_plain (le := leE) tpE (P := A) (u := u) (v := v) (C := C) h1 h2 h3 HS.out.1 HS.out.2 hai him he1 he2 (fun x y ha hb hx hy => by
        rw [← HL.out] at hx hy
        refine HB.out.1 x y (by have := HK.out; omega) hx ?_
        rw [show nn - i = en by omega]; exact hy) (fun x y ha hb hx hy => by
        rw [← HL.out] at hx hy
        refine HB.out.2 x y (by have := HK.out; omega) hx ?_
        rw [show pp - i = en - 1 by omega]; exact hy)
      have l3 : u2.length = m - i := by have := congrArg List.length eu; rw [List.length_append] at this; omega
      have l4 : v2.length = b - en := by have := congrArg List.length ev; rw [List.length_append] at this; omega
      have hq0 := HQ.out
      rw [HL.out] at hq0
      have hrow1 : RowE wr base ad c N (A ++ (u1 ++ (u2 ++ (v1 ++ (v2 ++ C))))) := by
        have e : A ++ (u ++ (v ++ C)) = A ++ (u1 ++ (u2 ++ (v1 ++ (v2 ++ C)))) := by rw [eu, ev]; simp only [List.append_assoc]
        rw [← e]; exact hrow0
      have hq1 : ∀ z ∈ A ++ (u1 ++ (u2 ++ (v1 ++ (v2 ++ C)))), QE z := by
        have e : A ++ (u ++ (v ++ C)) = A ++ (u1 ++ (u2 ++ (v1 ++ (v2 ++ C)))) := by rw [eu, ev]; simp only [List.append_assoc]
        rw [← e]; exact hq0
      have e6 : (nn : Int) - (i : Int) = (en : Int) := by omega
      have HE6 := Lib.hid e6
      have HR1 := Lib.hid hrow1
      have HQ1 := Lib.hid hq1
      have HLN := Lib.hid (And.intro h1 (And.intro l1 (And.intro l2 (And.intro l3 l4))))
      have HMG := Lib.hid hmg
      have HSS := Lib.hid (And.intro s1 (And.intro s2 (And.intro s3 s4)))
      have hsum : u.length + v.length = u1.length + u2.length + v1.length + v2.length := by rw [eu, ev, List.length_append, List.length_append]; omega
      have HSUM := Lib.hid (And.intro h4 hsum)
      have HMID : Hid (mid + m = en + i) := by unfold Hid; omega
      clear HB hrow hrow0 hrow1 hq0 hq1 h1 h2 h3 h4 n1 n2 n3 l1 l2 l3 l4 s1 s2 s3 s4 hmg hsum eu ev hen HS HQ HH HL HNN HK k1 k2 k3 k4 k5 hli hjh
      have HQM : Hid (∀ z, z ∈ A ∨ z ∈ u1 ∨ z ∈ u2 ∨ z ∈ v1 ∨ z ∈ v2 ∨ z ∈ C → QE z) := fun z hz => HQ1.out z (by
        simp only [List.mem_append]
        exact hz)
      have HR1' : Hid (RowE wr base ad c N ((A ++ u1) ++ (u2 ++ (v1 ++ (v2 ++ C))))) := by rw [Hid, List.append_assoc]; exact HR1.out
      clear HQ1 HR1 HE6
      by_cases h5 : i < m
      · have g5 : decide ((i : Int) < (m : Int)) = true := decide_eq_true (by omega)
        have g5' : decide (i < m) = true := decide_eq_true h5
        by_cases h6 : m < en
        · have g6 : decide ((m : Int) < (en : Int)) = true := decide_eq_true (by omega)
          have g6' : decide (m < en) = true := decide_eq_true h6
          by_cases h7 : a < i
          · have g7 : decide ((a : Int) < (i : Int)) = true := decide_eq_true (by omega)
            have g7' : decide (a < i) = true := decide_eq_true h7
            by_cases h8 : i < mid
            · have g8 : decide ((i : Int) < (mid : Int)) = true := decide_eq_true (by omega)
              have g8' : decide (i < mid) = true := decide_eq_true h8
              by_cases h9 : mid < en
              · have g9 : decide ((mid : Int) < (en : Int)) = true := decide_eq_true (by omega)
                have g9' : decide (mid < en) = true := decide_eq_true h9
                by_cases h10 : en < b
                · have g10 : decide ((en : Int) < (b : Int)) = true := decide_eq_true (by omega)
                  have g10' : decide (en < b) = true := decide_eq_true h10
                  obtain ⟨h1, l1, l2, l3, l4⟩ := HLN.out
                  obtain ⟨s1, s2, s3, s4⟩ := HSS.out
                  have hme := HMID.out
                  have hsm := HSUM.out
                  have HC1 := Lib.hid (rotateE_any (A ++ u1) u2 v1 (v2 ++ C) ad c N base i m en (.func (.func 19) #[] #[]) wr HR1'.out hN (by rw [List.length_append]; omega) (by omega) (by omega) (by omega) (by omega))
                  have HA2 := Lib.hid (fun (W : World) (hW : RowE W base ad c N ((A ++ u1) ++ (v1 ++ (u2 ++ (v2 ++ C))))) => (show RowE W base ad c N (A ++ (u1 ++ (v1 ++ (u2 ++ (v2 ++ C))))) by rw [← List.append_assoc]; exact hW))
                  have HC2 := Lib.hid (fun (W : World) (hW : RowE W base ad c N (A ++ (u1 ++ (v1 ++ (u2 ++ (v2 ++ C)))))) => HIH.out A u1 v1 (u2 ++ (v2 ++ C)) ad c N base a i mid W hW hN h1 (by omega) (by omega) (by omega) (by omega) s1 s3 (fun z hz => HQM.out z (by simp only [List.mem_append] at hz; rcases hz with h | h | h | h | h | h <;> simp [h])) (by omega))
                  have HA3 := Lib.hid (fun (W : World) (hW : RowE W base ad c N (A ++ (u1.merge v1 leE ++ (u2 ++ (v2 ++ C))))) => (show RowE W base ad c N ((A ++ u1.merge v1 leE) ++ (u2 ++ (v2 ++ C))) by rw [List.append_assoc]; exact hW))
                  have HC3 := Lib.hid (fun (W : World) (hW : RowE W base ad c N ((A ++ u1.merge v1 leE) ++ (u2 ++ (v2 ++ C)))) => HIH.out (A ++ u1.merge v1 leE) u2 v2 C ad c N base mid en b W hW hN (by rw [List.length_append, merge_len]; omega) (by omega) (by omega) (by omega) (by omega) s2 s4 (fun z hz => HQM.out z (by simp only [List.mem_append, mem_merge'] at hz; rcases hz with (h | h | h) | h | h | h <;> simp [h])) (by omega))
                  have HFN := Lib.hid (fun (W : World) (hW : RowE W base ad c N ((A ++ u1.merge v1 leE) ++ (u2.merge v2 leE ++ C))) => (show RowE W base ad c N (A ++ (u.merge v leE ++ C)) by rw [HMG.out, List.append_assoc]; rw [List.append_assoc] at hW; exact hW))
                  clear h1 l1 l2 l3 l4 s1 s2 s3 s4 hme hsm HLN HSS HMID HSUM HQM HMG HR1' HIH
                  go_wp2_with fail
                  refine HC1.out.mono ?_
                  rintro e w2 ⟨rfl, hr2, hg2⟩
                  have HR2 := Lib.hid hr2
                  have hgb := gb_trans hgb hg2
                  clear hr2 hg2
                  go_wp2_with fail
                  have HR3 := Lib.hid (HA2.out _ HR2.out)
                  refine (HC2.out _ HR3.out).mono ?_
                  rintro e w3 ⟨rfl, hr3, hg3⟩
                  have HR4 := Lib.hid hr3
                  have hgb := gb_trans hgb hg3
                  clear hr3 hg3
                  go_wp2_with fail
                  have HR5 := Lib.hid (HA3.out _ HR4.out)
                  refine (HC3.out _ HR5.out).mono ?_
                  rintro e w4 ⟨rfl, hr4, hg4⟩
                  have HR6 := Lib.hid hr4
                  have hgb := gb_trans hgb hg4
                  clear hr4 hg4
                  go_wp2_with fail
                  go_end0
                  exact ⟨rfl, HFN.out _ HR6.out, hgb⟩
                · have g10 : decide ((en : Int) < (b : Int)) = false := decide_eq_false (by omega)
                  have g10' : decide (en < b) = false := decide_eq_false h10
                  obtain ⟨h1, l1, l2, l3, l4⟩ := HLN.out
                  obtain ⟨s1, s2, s3, s4⟩ := HSS.out
                  have hme := HMID.out
                  have hsm := HSUM.out
                  have HC1 := Lib.hid (rotateE_any (A ++ u1) u2 v1 (v2 ++ C) ad c N base i m en (.func (.func 19) #[] #[]) wr HR1'.out hN (by rw [List.length_append]; omega) (by omega) (by omega) (by omega) (by omega))
                  have HA2 := Lib.hid (fun (W : World) (hW : RowE W base ad c N ((A ++ u1) ++ (v1 ++ (u2 ++ (v2 ++ C))))) => (show RowE W base ad c N (A ++ (u1 ++ (v1 ++ (u2 ++ (v2 ++ C))))) by rw [← List.append_assoc]; exact hW))
                  have HC2 := Lib.hid (fun (W : World) (hW : RowE W base ad c N (A ++ (u1 ++ (v1 ++ (u2 ++ (v2 ++ C)))))) => HIH.out A u1 v1 (u2 ++ (v2 ++ C)) ad c N base a i mid W hW hN h1 (by omega) (by omega) (by omega) (by omega) s1 s3 (fun z hz => HQM.out z (by simp only [List.mem_append] at hz; rcases hz with h | h | h | h | h | h <;> simp [h])) (by omega))
                  have HA3 := Lib.hid (fun (W : World) (hW : RowE W base ad c N (A ++ (u1.merge v1 leE ++ (u2 ++ (v2 ++ C))))) => (show RowE W base ad c N ((A ++ u1.merge v1 leE) ++ (u2 ++ (v2 ++ C))) by rw [List.append_assoc]; exact hW))
                  have HC3 := Lib.hid (fun (W : World) (hW : RowE W base ad c N ((A ++ u1.merge v1 leE) ++ (u2 ++ (v2 ++ C)))) => (show RowE W base ad c N ((A ++ u1.merge v1 leE) ++ (u2.merge v2 leE ++ C)) by
                    have e : v2 = [] := List.eq_nil_of_length_eq_zero (by omega)
                    rw [e] at hW ⊢
                    rw [List.merge_right]
                    exact hW))
                  have HFN := Lib.hid (fun (W : World) (hW : RowE W base ad c N ((A ++ u1.merge v1 leE) ++ (u2.merge v2 leE ++ C))) => (show RowE W base ad c N (A ++ (u.merge v leE ++ C)) by rw [HMG.out, List.append_assoc]; rw [List.append_assoc] at hW; exact hW))
                  clear h1 l1 l2 l3 l4 s1 s2 s3 s4 hme hsm HLN HSS HMID HSUM HQM HMG HR1' HIH
                  go_wp2_with fail
                  refine HC1.out.mono ?_
                  rintro e w2 ⟨rfl, hr2, hg2⟩
                  have HR2 := Lib.hid hr2
                  have hgb := gb_trans hgb hg2
                  clear hr2 hg2
                  go_wp2_with fail
                  have HR3 := Lib.hid (HA2.out _ HR2.out)
                  refine (HC2.out _ HR3.out).mono ?_
                  rintro e w3 ⟨rfl, hr3, hg3⟩
                  have HR4 := Lib.hid hr3
                  have hgb := gb_trans hgb hg3
                  clear hr3 hg3
                  go_wp2_with fail
                  have HR5 := Lib.hid (HA3.out _ HR4.out)
                  have HR6 := Lib.hid (HC3.out _ HR5.out)
                  go_end0
                  exact ⟨rfl, HFN.out _ HR6.out, hgb⟩
              · have g9 : decide ((mid : Int) < (en : Int)) = false := decide_eq_false (by omega)
                have g9' : decide (mid < en) = false := decide_eq_false h9
                obtain ⟨h1, l1, l2, l3, l4⟩ := HLN.out
                obtain ⟨s1, s2, s3, s4⟩ := HSS.out
                have hme := HMID.out
                have hsm := HSUM.out
                have HC1 := Lib.hid (rotateE_any (A ++ u1) u2 v1 (v2 ++ C) ad c N base i m en (.func (.func 19) #[] #[]) wr HR1'.out hN (by rw [List.length_append]; omega) (by omega) (by omega) (by omega) (by omega))
                have HA2 := Lib.hid (fun (W : World) (hW : RowE W base ad c N ((A ++ u1) ++ (v1 ++ (u2 ++ (v2 ++ C))))) => (show RowE W base ad c N (A ++ (u1 ++ (v1 ++ (u2 ++ (v2 ++ C))))) by rw [← List.append_assoc]; exact hW))
                have HC2 := Lib.hid (fun (W : World) (hW : RowE W base ad c N (A ++ (u1 ++ (v1 ++ (u2 ++ (v2 ++ C)))))) => HIH.out A u1 v1 (u2 ++ (v2 ++ C)) ad c N base a i mid W hW hN h1 (by omega) (by omega) (by omega) (by omega) s1 s3 (fun z hz => HQM.out z (by simp only [List.mem_append] at hz; rcases hz with h | h | h | h | h | h <;> simp [h])) (by omega))
                have HA3 := Lib.hid (fun (W : World) (hW : RowE W base ad c N (A ++ (u1.merge v1 leE ++ (u2 ++ (v2 ++ C))))) => (show RowE W base ad c N ((A ++ u1.merge v1 leE) ++ (u2 ++ (v2 ++ C))) by rw [List.append_assoc]; exact hW))
                have HC3 := Lib.hid (fun (W : World) (hW : RowE W base ad c N ((A ++ u1.merge v1 leE) ++ (u2 ++ (v2 ++ C)))) => (show RowE W base ad c N ((A ++ u1.merge v1 leE) ++ (u2.merge v2 leE ++ C)) by
                  have e : u2 = [] := List.eq_nil_of_length_eq_zero (by omega)
                  rw [e] at hW ⊢
                  rw [List.nil_merge]
                  exact hW))
                have HFN := Lib.hid (fun (W : World) (hW : RowE W base ad c N ((A ++ u1.merge v1 leE) ++ (u2.merge v2 leE ++ C))) => (show RowE W base ad c N (A ++ (u.merge v leE ++ C)) by rw [HMG.out, List.append_assoc]; rw [List.append_assoc] at hW; exact hW))
                clear h1 l1 l2 l3 l4 s1 s2 s3 s4 hme hsm HLN HSS HMID HSUM HQM HMG HR1' HIH
                go_wp2_with fail
                refine HC1.out.mono ?_
                rintro e w2 ⟨rfl, hr2, hg2⟩
                have HR2 := Lib.hid hr2
                have hgb := gb_trans hgb hg2
                clear hr2 hg2
                go_wp2_with fail
                have HR3 := Lib.hid (HA2.out _ HR2.out)
                refine (HC2.out _ HR3.out).mono ?_
                rintro e w3 ⟨rfl, hr3, hg3⟩
                have HR4 := Lib.hid hr3
                have hgb := gb_trans hgb hg3
                clear hr3 hg3
                go_wp2_with fail
                have HR5 := Lib.hid (HA3.out _ HR4.out)
                have HR6 := Lib.hid (HC3.out _ HR5.out)
                go_end0
                exact ⟨rfl, HFN.out _ HR6.out, hgb⟩
            · have g8 : decide ((i : Int) < (mid : Int)) = false := decide_eq_false (by omega)
              have g8' : decide (i < mid) = false := decide_eq_false h8
              by_cases h9 : mid < en
              · have g9 : decide ((mid : Int) < (en : Int)) = true := decide_eq_true (by omega)
                have g9' : decide (mid < en) = true := decide_eq_true h9
                by_cases h10 : en < b
                · have g10 : decide ((en : Int) < (b : Int)) = true := decide_eq_true (by omega)
                  have g10' : decide (en < b) = true := decide_eq_true h10
                  obtain ⟨h1, l1, l2, l3, l4⟩ := HLN.out
                  obtain ⟨s1, s2, s3, s4⟩ := HSS.out
                  have hme := HMID.out
                  have hsm := HSUM.out
                  have HC1 := Lib.hid (rotateE_any (A ++ u1) u2 v1 (v2 ++ C) ad c N base i m en (.func (.func 19) #[] #[]) wr HR1'.out hN (by rw [List.length_append]; omega) (by omega) (by omega) (by omega) (by omega))
                  have HA2 := Lib.hid (fun (W : World) (hW : RowE W base ad c N ((A ++ u1) ++ (v1 ++ (u2 ++ (v2 ++ C))))) => (show RowE W base ad c N (A ++ (u1 ++ (v1 ++ (u2 ++ (v2 ++ C))))) by rw [← List.append_assoc]; exact hW))
                  have HC2 := Lib.hid (fun (W : World) (hW : RowE W base ad c N (A ++ (u1 ++ (v1 ++ (u2 ++ (v2 ++ C)))))) => (show RowE W base ad c N (A ++ (u1.merge v1 leE ++ (u2 ++ (v2 ++ C)))) by
                    have e : v1 = [] := List.eq_nil_of_length_eq_zero (by omega)
                    rw [e] at hW ⊢
                    rw [List.merge_right]
                    exact hW))
                  have HA3 := Lib.hid (fun (W : World) (hW : RowE W base ad c N (A ++ (u1.merge v1 leE ++ (u2 ++ (v2 ++ C))))) => (show RowE W base ad c N ((A ++ u1.merge v1 leE) ++ (u2 ++ (v2 ++ C))) by rw [List.append_assoc]; exact hW))
                  have HC3 := Lib.hid (fun (W : World) (hW : RowE W base ad c N ((A ++ u1.merge v1 leE) ++ (u2 ++ (v2 ++ C)))) => HIH.out (A ++ u1.merge v1 leE) u2 v2 C ad c N base mid en b W hW hN (by rw [List.length_append, merge_len]; omega) (by omega) (by omega) (by omega) (by omega) s2 s4 (fun z hz => HQM.out z (by simp only [List.mem_append, mem_merge'] at hz; rcases hz with (h | h | h) | h | h | h <;> simp [h])) (by omega))
                  have HFN := Lib.hid (fun (W : World) (hW : RowE W base ad c N ((A ++ u1.merge v1 leE) ++ (u2.merge v2 leE ++ C))) => (show RowE W base ad c N (A ++ (u.merge v leE ++ C)) by rw [HMG.out, List.append_assoc]; rw [List.append_assoc] at hW; exact hW))
                  clear h1 l1 l2 l3 l4 s1 s2 s3 s4 hme hsm HLN HSS HMID HSUM HQM HMG HR1' HIH
                  go_wp2_with fail
                  refine HC1.out.mono ?_
                  rintro e w2 ⟨rfl, hr2, hg2⟩
                  have HR2 := Lib.hid hr2
                  have hgb := gb_trans hgb hg2
                  clear hr2 hg2
                  go_wp2_with fail
                  have HR3 := Lib.hid (HA2.out _ HR2.out)
                  have HR4 := Lib.hid (HC2.out _ HR3.out)
                  have HR5 := Lib.hid (HA3.out _ HR4.out)
                  refine (HC3.out _ HR5.out).mono ?_
                  rintro e w4 ⟨rfl, hr4, hg4⟩
                  have HR6 := Lib.hid hr4
                  have hgb := gb_trans hgb hg4
                  clear hr4 hg4
                  go_wp2_with fail
                  go_end0
                  exact ⟨rfl, HFN.out _ HR6.out, hgb⟩
                · have g10 : decide ((en : Int) < (b : Int)) = false := decide_eq_false (by omega)
                  have g10' : decide (en < b) = false := decide_eq_false h10
                  obtain ⟨h1, l1, l2, l3, l4⟩ := HLN.out
                  obtain ⟨s1, s2, s3, s4⟩ := HSS.out
                  have hme := HMID.out
                  have hsm := HSUM.out
                  have HC1 := Lib.hid (rotateE_any (A ++ u1) u2 v1 (v2 ++ C) ad c N base i m en (.func (.func 19) #[] #[]) wr HR1'.out hN (by rw [List.length_append]; omega) (by omega) (by omega) (by omega) (by omega))
                  have HA2 := Lib.hid (fun (W : World) (hW : RowE W base ad c N ((A ++ u1) ++ (v1 ++ (u2 ++ (v2 ++ C))))) => (show RowE W base ad c N (A ++ (u1 ++ (v1 ++ (u2 ++ (v2 ++ C))))) by rw [← List.append_assoc]; exact hW))
                  have HC2 := Lib.hid (fun (W : World) (hW : RowE W base ad c N (A ++ (u1 ++ (v1 ++ (u2 ++ (v2 ++ C)))))) => (show RowE W base ad c N (A ++ (u1.merge v1 leE ++ (u2 ++ (v2 ++ C)))) by
                    have e : v1 = [] := List.eq_nil_of_length_eq_zero (by omega)
                    rw [e] at hW ⊢
                    rw [List.merge_right]
                    exact hW))
                  have HA3 := Lib.hid (fun (W : World) (hW : RowE W base ad c N (A ++ (u1.merge v1 leE ++ (u2 ++ (v2 ++ C))))) => (show RowE W base ad c N ((A ++ u1.merge v1 leE) ++ (u2 ++ (v2 ++ C))) by rw [List.append_assoc]; exact hW))
                  have HC3 := Lib.hid (fun (W : World) (hW : RowE W base ad c N ((A ++ u1.merge v1 leE) ++ (u2 ++ (v2 ++ C)))) => (show RowE W base ad c N ((A ++ u1.merge v1 leE) ++ (u2.merge v2 leE ++ C)) by
                    have e : v2 = [] := List.eq_nil_of_length_eq_zero (by omega)
                    rw [e] at hW ⊢
                    rw [List.merge_right]
                    exact hW))
                  have HFN := Lib.hid (fun (W : World) (hW : RowE W base ad c N ((A ++ u1.merge v1 leE) ++ (u2.merge v2 leE ++ C))) => (show RowE W base ad c N (A ++ (u.merge v leE ++ C)) by rw [HMG.out, List.append_assoc]; rw [List.append_assoc] at hW; exact hW))
                  clear h1 l1 l2 l3 l4 s1 s2 s3 s4 hme hsm HLN HSS HMID HSUM HQM HMG HR1' HIH
                  go_wp2_with fail
                  refine HC1.out.mono ?_
                  rintro e w2 ⟨rfl, hr2, hg2⟩
                  have HR2 := Lib.hid hr2
                  have hgb := gb_trans hgb hg2
                  clear hr2 hg2
                  go_wp2_with fail
                  have HR3 := Lib.hid (HA2.out _ HR2.out)
                  have HR4 := Lib.hid (HC2.out _ HR3.out)
                  have HR5 := Lib.hid (HA3.out _ HR4.out)
                  have HR6 := Lib.hid (HC3.out _ HR5.out)
                  go_end0
                  exact ⟨rfl, HFN.out _ HR6.out, hgb⟩
              · have g9 : decide ((mid : Int) < (en : Int)) = false := decide_eq_false (by omega)
                have g9' : decide (mid < en) = false := decide_eq_false h9
                obtain ⟨h1, l1, l2, l3, l4⟩ := HLN.out
                obtain ⟨s1, s2, s3, s4⟩ := HSS.out
                have hme := HMID.out
                have hsm := HSUM.out
                have HC1 := Lib.hid (rotateE_any (A ++ u1) u2 v1 (v2 ++ C) ad c N base i m en (.func (.func 19) #[] #[]) wr HR1'.out hN (by rw [List.length_append]; omega) (by omega) (by omega) (by omega) (by omega))
                have HA2 := Lib.hid (fun (W : World) (hW : RowE W base ad c N ((A ++ u1) ++ (v1 ++ (u2 ++ (v2 ++ C))))) => (show RowE W base ad c N (A ++ (u1 ++ (v1 ++ (u2 ++ (v2 ++ C))))) by rw [← List.append_assoc]; exact hW))
                have HC2 := Lib.hid (fun (W : World) (hW : RowE W base ad c N (A ++ (u1 ++ (v1 ++ (u2 ++ (v2 ++ C)))))) => (show RowE W base ad c N (A ++ (u1.merge v1 leE ++ (u2 ++ (v2 ++ C)))) by
                  have e : v1 = [] := List.eq_nil_of_length_eq_zero (by omega)
                  rw [e] at hW ⊢
                  rw [List.merge_right]
                  exact hW))
                have HA3 := Lib.hid (fun (W : World) (hW : RowE W base ad c N (A ++ (u1.merge v1 leE ++ (u2 ++ (v2 ++ C))))) => (show RowE W base ad c N ((A ++ u1.merge v1 leE) ++ (u2 ++ (v2 ++ C))) by rw [List.append_assoc]; exact hW))
                have HC3 := Lib.hid (fun (W : World) (hW : RowE W base ad c N ((A ++ u1.merge v1 leE) ++ (u2 ++ (v2 ++ C)))) => (show RowE W base ad c N ((A ++ u1.merge v1 leE) ++ (u2.merge v2 leE ++ C)) by
                  have e : u2 = [] := List.eq_nil_of_length_eq_zero (by omega)
                  rw [e] at hW ⊢
                  rw [List.nil_merge]
                  exact hW))
                have HFN := Lib.hid (fun (W : World) (hW : RowE W base ad c N ((A ++ u1.merge v1 leE) ++ (u2.merge v2 leE ++ C))) => (show RowE W base ad c N (A ++ (u.merge v leE ++ C)) by rw [HMG.out, List.append_assoc]; rw [List.append_assoc] at hW; exact hW))
                clear h1 l1 l2 l3 l4 s1 s2 s3 s4 hme hsm HLN HSS HMID HSUM HQM HMG HR1' HIH
                go_wp2_with fail
                refine HC1.out.mono ?_
                rintro e w2 ⟨rfl, hr2, hg2⟩
                have HR2 := Lib.hid hr2
                have hgb := gb_trans hgb hg2
                clear hr2 hg2
                go_wp2_with fail
                have HR3 := Lib.hid (HA2.out _ HR2.out)
                have HR4 := Lib.hid (HC2.out _ HR3.out)
                have HR5 := Lib.hid (HA3.out _ HR4.out)
                have HR6 := Lib.hid (HC3.out _ HR5.out)
                go_end0
                exact ⟨rfl, HFN.out _ HR6.out, hgb⟩
          · have g7 : decide ((a : Int) < (i : Int)) = false := decide_eq_false (by omega)
            have g7' : decide (a < i) = false := decide_eq_false h7
            by_cases h9 : mid < en
            · have g9 : decide ((mid : Int) < (en : Int)) = true := decide_eq_true (by omega)
              have g9' : decide (mid < en) = true := decide_eq_true h9
              by_cases h10 : en < b
              · have g10 : decide ((en : Int) < (b : Int)) = true := decide_eq_true (by omega)
                have g10' : decide (en < b) = true := decide_eq_true h10
                obtain ⟨h1, l1, l2, l3, l4⟩ := HLN.out
                obtain ⟨s1, s2, s3, s4⟩ := HSS.out
                have hme := HMID.out
                have hsm := HSUM.out
                have HC1 := Lib.hid (rotateE_any (A ++ u1) u2 v1 (v2 ++ C) ad c N base i m en (.func (.func 19) #[] #[]) wr HR1'.out hN (by rw [List.length_append]; omega) (by omega) (by omega) (by omega) (by omega))
                have HA2 := Lib.hid (fun (W : World) (hW : RowE W base ad c N ((A ++ u1) ++ (v1 ++ (u2 ++ (v2 ++ C))))) => (show RowE W base ad c N (A ++ (u1 ++ (v1 ++ (u2 ++ (v2 ++ C))))) by rw [← List.append_assoc]; exact hW))
                have HC2 := Lib.hid (fun (W : World) (hW : RowE W base ad c N (A ++ (u1 ++ (v1 ++ (u2 ++ (v2 ++ C)))))) => (show RowE W base ad c N (A ++ (u1.merge v1 leE ++ (u2 ++ (v2 ++ C)))) by
                  have e : u1 = [] := List.eq_nil_of_length_eq_zero (by omega)
                  rw [e] at hW ⊢
                  rw [List.nil_merge]
                  exact hW))
                have HA3 := Lib.hid (fun (W : World) (hW : RowE W base ad c N (A ++ (u1.merge v1 leE ++ (u2 ++ (v2 ++ C))))) => (show RowE W base ad c N ((A ++ u1.merge v1 leE) ++ (u2 ++ (v2 ++ C))) by rw [List.append_assoc]; exact hW))
                have HC3 := Lib.hid (fun (W : World) (hW : RowE W base ad c N ((A ++ u1.merge v1 leE) ++ (u2 ++ (v2 ++ C)))) => HIH.out (A ++ u1.merge v1 leE) u2 v2 C ad c N base mid en b W hW hN (by rw [List.length_append, merge_len]; omega) (by omega) (by omega) (by omega) (by omega) s2 s4 (fun z hz => HQM.out z (by simp only [List.mem_append, mem_merge'] at hz; rcases hz with (h | h | h) | h | h | h <;> simp [h])) (by omega))
                have HFN := Lib.hid (fun (W : World) (hW : RowE W base ad c N ((A ++ u1.merge v1 leE) ++ (u2.merge v2 leE ++ C))) => (show RowE W base ad c N (A ++ (u.merge v leE ++ C)) by rw [HMG.out, List.append_assoc]; rw [List.append_assoc] at hW; exact hW))
                clear h1 l1 l2 l3 l4 s1 s2 s3 s4 hme hsm HLN HSS HMID HSUM HQM HMG HR1' HIH
                go_wp2_with fail
                refine HC1.out.mono ?_
                rintro e w2 ⟨rfl, hr2, hg2⟩
                have HR2 := Lib.hid hr2
                have hgb := gb_trans hgb hg2
                clear hr2 hg2
                go_wp2_with fail
                have HR3 := Lib.hid (HA2.out _ HR2.out)
                have HR4 := Lib.hid (HC2.out _ HR3.out)
                have HR5 := Lib.hid (HA3.out _ HR4.out)
                refine (HC3.out _ HR5.out).mono ?_
                rintro e w4 ⟨rfl, hr4, hg4⟩
                have HR6 := Lib.hid hr4
                have hgb := gb_trans hgb hg4
                clear hr4 hg4
                go_wp2_with fail
                go_end0
                exact ⟨rfl, HFN.out _ HR6.out, hgb⟩
              · have g10 : decide ((en : Int) < (b : Int)) = false := decide_eq_false (by omega)
                have g10' : decide (en < b) = false := decide_eq_false h10
                obtain ⟨h1, l1, l2, l3, l4⟩ := HLN.out
                obtain ⟨s1, s2, s3, s4⟩ := HSS.out
                have hme := HMID.out
                have hsm := HSUM.out
                have HC1 := Lib.hid (rotateE_any (A ++ u1) u2 v1 (v2 ++ C) ad c N base i m en (.func (.func 19) #[] #[]) wr HR1'.out hN (by rw [List.length_append]; omega) (by omega) (by omega) (by omega) (by omega))
                have HA2 := Lib.hid (fun (W : World) (hW : RowE W base ad c N ((A ++ u1) ++ (v1 ++ (u2 ++ (v2 ++ C))))) => (show RowE W base ad c N (A ++ (u1 ++ (v1 ++ (u2 ++ (v2 ++ C))))) by rw [← List.append_assoc]; exact hW))
                have HC2 := Lib.hid (fun (W : World) (hW : RowE W base ad c N (A ++ (u1 ++ (v1 ++ (u2 ++ (v2 ++ C)))))) => (show RowE W base ad c N (A ++ (u1.merge v1 leE ++ (u2 ++ (v2 ++ C)))) by
                  have e : u1 = [] := List.eq_nil_of_length_eq_zero (by omega)
                  rw [e] at hW ⊢
                  rw [List.nil_merge]
                  exact hW))
                have HA3 := Lib.hid (fun (W : World) (hW : RowE W base ad c N (A ++ (u1.merge v1 leE ++ (u2 ++ (v2 ++ C))))) => (show RowE W base ad c N ((A ++ u1.merge v1 leE) ++ (u2 ++ (v2 ++ C))) by rw [List.append_assoc]; exact hW))
                have HC3 := Lib.hid (fun (W : World) (hW : RowE W base ad c N ((A ++ u1.merge v1 leE) ++ (u2 ++ (v2 ++ C)))) => (show RowE W base ad c N ((A ++ u1.merge v1 leE) ++ (u2.merge v2 leE ++ C)) by
                  have e : v2 = [] := List.eq_nil_of_length_eq_zero (by omega)
                  rw [e] at hW ⊢
                  rw [List.merge_right]
                  exact hW))
                have HFN := Lib.hid (fun (W : World) (hW : RowE W base ad c N ((A ++ u1.merge v1 leE) ++ (u2.merge v2 leE ++ C))) => (show RowE W base ad c N (A ++ (u.merge v leE ++ C)) by rw [HMG.out, List.append_assoc]; rw [List.append_assoc] at hW; exact hW))
                clear h1 l1 l2 l3 l4 s1 s2 s3 s4 hme hsm HLN HSS HMID HSUM HQM HMG HR1' HIH
                go_wp2_with fail
                refine HC1.out.mono ?_
                rintro e w2 ⟨rfl, hr2, hg2⟩
                have HR2 := Lib.hid hr2
                have hgb := gb_trans hgb hg2
                clear hr2 hg2
                go_wp2_with fail
                have HR3 := Lib.hid (HA2.out _ HR2.out)
                have HR4 := Lib.hid (HC2.out _ HR3.out)
                have HR5 := Lib.hid (HA3.out _ HR4.out)
                have HR6 := Lib.hid (HC3.out _ HR5.out)
                go_end0
                exact ⟨rfl, HFN.out _ HR6.out, hgb⟩
            · have g9 : decide ((mid : Int) < (en : Int)) = false := decide_eq_false (by omega)
              have g9' : decide (mid < en) = false := decide_eq_false h9
              obtain ⟨h1, l1, l2, l3, l4⟩ := HLN.out
              obtain ⟨s1, s2, s3, s4⟩ := HSS.out
              have hme := HMID.out
              have hsm := HSUM.out
              have HC1 := Lib.hid (rotateE_any (A ++ u1) u2 v1 (v2 ++ C) ad c N base i m en (.func (.func 19) #[] #[]) wr HR1'.out hN (by rw [List.length_append]; omega) (by omega) (by omega) (by omega) (by omega))
              have HA2 := Lib.hid (fun (W : World) (hW : RowE W base ad c N ((A ++ u1) ++ (v1 ++ (u2 ++ (v2 ++ C))))) => (show RowE W base ad c N (A ++ (u1 ++ (v1 ++ (u2 ++ (v2 ++ C))))) by rw [← List.append_assoc]; exact hW))
              have HC2 := Lib.hid (fun (W : World) (hW : RowE W base ad c N (A ++ (u1 ++ (v1 ++ (u2 ++ (v2 ++ C)))))) => (show RowE W base ad c N (A ++ (u1.merge v1 leE ++ (u2 ++ (v2 ++ C)))) by
                have e : u1 = [] := List.eq_nil_of_length_eq_zero (by omega)
                rw [e] at hW ⊢
                rw [List.nil_merge]
                exact hW))
              have HA3 := Lib.hid (fun (W : World) (hW : RowE W base ad c N (A ++ (u1.merge v1 leE ++ (u2 ++ (v2 ++ C))))) => (show RowE W base ad c N ((A ++ u1.merge v1 leE) ++ (u2 ++ (v2 ++ C))) by rw [List.append_assoc]; exact hW))
              have HC3 := Lib.hid (fun (W : World) (hW : RowE W base ad c N ((A ++ u1.merge v1 leE) ++ (u2 ++ (v2 ++ C)))) => (show RowE W base ad c N ((A ++ u1.merge v1 leE) ++ (u2.merge v2 leE ++ C)) by
                have e : u2 = [] := List.eq_nil_of_length_eq_zero (by omega)
                rw [e] at hW ⊢
                rw [List.nil_merge]
                exact hW))
              have HFN := Lib.hid (fun (W : World) (hW : RowE W base ad c N ((A ++ u1.merge v1 leE) ++ (u2.merge v2 leE ++ C))) => (show RowE W base ad c N (A ++ (u.merge v leE ++ C)) by rw [HMG.out, List.append_assoc]; rw [List.append_assoc] at hW; exact hW))
              clear h1 l1 l2 l3 l4 s1 s2 s3 s4 hme hsm HLN HSS HMID HSUM HQM HMG HR1' HIH
              go_wp2_with fail
              refine HC1.out.mono ?_
              rintro e w2 ⟨rfl, hr2, hg2⟩
              have HR2 := Lib.hid hr2
              have hgb := gb_trans hgb hg2
              clear hr2 hg2
              go_wp2_with fail
              have HR3 := Lib.hid (HA2.out _ HR2.out)
              have HR4 := Lib.hid (HC2.out _ HR3.out)
              have HR5 := Lib.hid (HA3.out _ HR4.out)
              have HR6 := Lib.hid (HC3.out _ HR5.out)
              go_end0
              exact ⟨rfl, HFN.out _ HR6.out, hgb⟩
        · have g6 : decide ((m : Int) < (en : Int)) = false := decide_eq_false (by omega)
          have g6' : decide (m < en) = false := decide_eq_false h6
          by_cases h7 : a < i
          · have g7 : decide ((a : Int) < (i : Int)) = true := decide_eq_true (by omega)
            have g7' : decide (a < i) = true := decide_eq_true h7
            by_cases h8 : i < mid
            · have g8 : decide ((i : Int) < (mid : Int)) = true := decide_eq_true (by omega)
              have g8' : decide (i < mid) = true := decide_eq_true h8
              by_cases h9 : mid < en
              · have g9 : decide ((mid : Int) < (en : Int)) = true := decide_eq_true (by omega)
                have g9' : decide (mid < en) = true := decide_eq_true h9
                by_cases h10 : en < b
                · have g10 : decide ((en : Int) < (b : Int)) = true := decide_eq_true (by omega)
                  have g10' : decide (en < b) = true := decide_eq_true h10
                  obtain ⟨h1, l1, l2, l3, l4⟩ := HLN.out
                  obtain ⟨s1, s2, s3, s4⟩ := HSS.out
                  have hme := HMID.out
                  have hsm := HSUM.out
                  have HR2 : Hid (RowE wr base ad c N ((A ++ u1) ++ (v1 ++ (u2 ++ (v2 ++ C))))) := by
                    have e : v1 = [] := List.eq_nil_of_length_eq_zero (by omega)
                    have h9 := HR1'.out
                    rw [e] at h9 ⊢
                    exact h9
                  have HA2 := Lib.hid (fun (W : World) (hW : RowE W base ad c N ((A ++ u1) ++ (v1 ++ (u2 ++ (v2 ++ C))))) => (show RowE W base ad c N (A ++ (u1 ++ (v1 ++ (u2 ++ (v2 ++ C))))) by rw [← List.append_assoc]; exact hW))
                  have HC2 := Lib.hid (fun (W : World) (hW : RowE W base ad c N (A ++ (u1 ++ (v1 ++ (u2 ++ (v2 ++ C)))))) => HIH.out A u1 v1 (u2 ++ (v2 ++ C)) ad c N base a i mid W hW hN h1 (by omega) (by omega) (by omega) (by omega) s1 s3 (fun z hz => HQM.out z (by simp only [List.mem_append] at hz; rcases hz with h | h | h | h | h | h <;> simp [h])) (by omega))
                  have HA3 := Lib.hid (fun (W : World) (hW : RowE W base ad c N (A ++ (u1.merge v1 leE ++ (u2 ++ (v2 ++ C))))) => (show RowE W base ad c N ((A ++ u1.merge v1 leE) ++ (u2 ++ (v2 ++ C))) by rw [List.append_assoc]; exact hW))
                  have HC3 := Lib.hid (fun (W : World) (hW : RowE W base ad c N ((A ++ u1.merge v1 leE) ++ (u2 ++ (v2 ++ C)))) => HIH.out (A ++ u1.merge v1 leE) u2 v2 C ad c N base mid en b W hW hN (by rw [List.length_append, merge_len]; omega) (by omega) (by omega) (by omega) (by omega) s2 s4 (fun z hz => HQM.out z (by simp only [List.mem_append, mem_merge'] at hz; rcases hz with (h | h | h) | h | h | h <;> simp [h])) (by omega))
                  have HFN := Lib.hid (fun (W : World) (hW : RowE W base ad c N ((A ++ u1.merge v1 leE) ++ (u2.merge v2 leE ++ C))) => (show RowE W base ad c N (A ++ (u.merge v leE ++ C)) by rw [HMG.out, List.append_assoc]; rw [List.append_assoc] at hW; exact hW))
                  clear h1 l1 l2 l3 l4 s1 s2 s3 s4 hme hsm HLN HSS HMID HSUM HQM HMG HR1' HIH
                  go_wp2_with fail
                  have HR3 := Lib.hid (HA2.out _ HR2.out)
                  refine (HC2.out _ HR3.out).mono ?_
                  rintro e w3 ⟨rfl, hr3, hg3⟩
                  have HR4 := Lib.hid hr3
                  have hgb := gb_trans hgb hg3
                  clear hr3 hg3
                  go_wp2_with fail
                  have HR5 := Lib.hid (HA3.out _ HR4.out)
                  refine (HC3.out _ HR5.out).mono ?_
                  rintro e w4 ⟨rfl, hr4, hg4⟩
                  have HR6 := Lib.hid hr4
                  have hgb := gb_trans hgb hg4
                  clear hr4 hg4
                  go_wp2_with fail
                  go_end0
                  exact ⟨rfl, HFN.out _ HR6.out, hgb⟩
                · have g10 : decide ((en : Int) < (b : Int)) = false := decide_eq_false (by omega)
                  have g10' : decide (en < b) = false := decide_eq_false h10
                  obtain ⟨h1, l1, l2, l3, l4⟩ := HLN.out
                  obtain ⟨s1, s2, s3, s4⟩ := HSS.out
                  have hme := HMID.out
                  have hsm := HSUM.out
                  have HR2 : Hid (RowE wr base ad c N ((A ++ u1) ++ (v1 ++ (u2 ++ (v2 ++ C))))) := by
                    have e : v1 = [] := List.eq_nil_of_length_eq_zero (by omega)
                    have h9 := HR1'.out
                    rw [e] at h9 ⊢
                    exact h9
                  have HA2 := Lib.hid (fun (W : World) (hW : RowE W base ad c N ((A ++ u1) ++ (v1 ++ (u2 ++ (v2 ++ C))))) => (show RowE W base ad c N (A ++ (u1 ++ (v1 ++ (u2 ++ (v2 ++ C))))) by rw [← List.append_assoc]; exact hW))
                  have HC2 := Lib.hid (fun (W : World) (hW : RowE W base ad c N (A ++ (u1 ++ (v1 ++ (u2 ++ (v2 ++ C)))))) => HIH.out A u1 v1 (u2 ++ (v2 ++ C)) ad c N base a i mid W hW hN h1 (by omega) (by omega) (by omega) (by omega) s1 s3 (fun z hz => HQM.out z (by simp only [List.mem_append] at hz; rcases hz with h | h | h | h | h | h <;> simp [h])) (by omega))
                  have HA3 := Lib.hid (fun (W : World) (hW : RowE W base ad c N (A ++ (u1.merge v1 leE ++ (u2 ++ (v2 ++ C))))) => (show RowE W base ad c N ((A ++ u1.merge v1 leE) ++ (u2 ++ (v2 ++ C))) by rw [List.append_assoc]; exact hW))
                  have HC3 := Lib.hid (fun (W : World) (hW : RowE W base ad c N ((A ++ u1.merge v1 leE) ++ (u2 ++ (v2 ++ C)))) => (show RowE W base ad c N ((A ++ u1.merge v1 leE) ++ (u2.merge v2 leE ++ C)) by
                    have e : v2 = [] := List.eq_nil_of_length_eq_zero (by omega)
                    rw [e] at hW ⊢
                    rw [List.merge_right]
                    exact hW))
                  have HFN := Lib.hid (fun (W : World) (hW : RowE W base ad c N ((A ++ u1.merge v1 leE) ++ (u2.merge v2 leE ++ C))) => (show RowE W base ad c N (A ++ (u.merge v leE ++ C)) by rw [HMG.out, List.append_assoc]; rw [List.append_assoc] at hW; exact hW))
                  clear h1 l1 l2 l3 l4 s1 s2 s3 s4 hme hsm HLN HSS HMID HSUM HQM HMG HR1' HIH
                  go_wp2_with fail
                  have HR3 := Lib.hid (HA2.out _ HR2.out)
                  refine (HC2.out _ HR3.out).mono ?_
                  rintro e w3 ⟨rfl, hr3, hg3⟩
                  have HR4 := Lib.hid hr3
                  have hgb := gb_trans hgb hg3
                  clear hr3 hg3
                  go_wp2_with fail
                  have HR5 := Lib.hid (HA3.out _ HR4.out)
                  have HR6 := Lib.hid (HC3.out _ HR5.out)
                  go_end0
                  exact ⟨rfl, HFN.out _ HR6.out, hgb⟩
              · have g9 : decide ((mid : Int) < (en : Int)) = false := decide_eq_false (by omega)
                have g9' : decide (mid < en) = false := decide_eq_false h9
                obtain ⟨h1, l1, l2, l3, l4⟩ := HLN.out
                obtain ⟨s1, s2, s3, s4⟩ := HSS.out
                have hme := HMID.out
                have hsm := HSUM.out
                have HR2 : Hid (RowE wr base ad c N ((A ++ u1) ++ (v1 ++ (u2 ++ (v2 ++ C))))) := by
                  have e : v1 = [] := List.eq_nil_of_length_eq_zero (by omega)
                  have h9 := HR1'.out
                  rw [e] at h9 ⊢
                  exact h9
                have HA2 := Lib.hid (fun (W : World) (hW : RowE W base ad c N ((A ++ u1) ++ (v1 ++ (u2 ++ (v2 ++ C))))) => (show RowE W base ad c N (A ++ (u1 ++ (v1 ++ (u2 ++ (v2 ++ C))))) by rw [← List.append_assoc]; exact hW))
                have HC2 := Lib.hid (fun (W : World) (hW : RowE W base ad c N (A ++ (u1 ++ (v1 ++ (u2 ++ (v2 ++ C)))))) => HIH.out A u1 v1 (u2 ++ (v2 ++ C)) ad c N base a i mid W hW hN h1 (by omega) (by omega) (by omega) (by omega) s1 s3 (fun z hz => HQM.out z (by simp only [List.mem_append] at hz; rcases hz with h | h | h | h | h | h <;> simp [h])) (by omega))
                have HA3 := Lib.hid (fun (W : World) (hW : RowE W base ad c N (A ++ (u1.merge v1 leE ++ (u2 ++ (v2 ++ C))))) => (show RowE W base ad c N ((A ++ u1.merge v1 leE) ++ (u2 ++ (v2 ++ C))) by rw [List.append_assoc]; exact hW))
                have HC3 := Lib.hid (fun (W : World) (hW : RowE W base ad c N ((A ++ u1.merge v1 leE) ++ (u2 ++ (v2 ++ C)))) => (show RowE W base ad c N ((A ++ u1.merge v1 leE) ++ (u2.merge v2 leE ++ C)) by
                  have e : u2 = [] := List.eq_nil_of_length_eq_zero (by omega)
                  rw [e] at hW ⊢
                  rw [List.nil_merge]
                  exact hW))
                have HFN := Lib.hid (fun (W : World) (hW : RowE W base ad c N ((A ++ u1.merge v1 leE) ++ (u2.merge v2 leE ++ C))) => (show RowE W base ad c N (A ++ (u.merge v leE ++ C)) by rw [HMG.out, List.append_assoc]; rw [List.append_assoc] at hW; exact hW))
                clear h1 l1 l2 l3 l4 s1 s2 s3 s4 hme hsm HLN HSS HMID HSUM HQM HMG HR1' HIH
                go_wp2_with fail
                have HR3 := Lib.hid (HA2.out _ HR2.out)
                refine (HC2.out _ HR3.out).mono ?_
                rintro e w3 ⟨rfl, hr3, hg3⟩
                have HR4 := Lib.hid hr3
                have hgb := gb_trans hgb hg3
                clear hr3 hg3
                go_wp2_with fail
                have HR5 := Lib.hid (HA3.out _ HR4.out)
                have HR6 := Lib.hid (HC3.out _ HR5.out)
                go_end0
                exact ⟨rfl, HFN.out _ HR6.out, hgb⟩
            · have g8 : decide ((i : Int) < (mid : Int)) = false := decide_eq_false (by omega)
              have g8' : decide (i < mid) = false := decide_eq_false h8
              by_cases h9 : mid < en
              · have g9 : decide ((mid : Int) < (en : Int)) = true := decide_eq_true (by omega)
                have g9' : decide (mid < en) = true := decide_eq_true h9
                by_cases h10 : en < b
                · have g10 : decide ((en : Int) < (b : Int)) = true := decide_eq_true (by omega)
                  have g10' : decide (en < b) = true := decide_eq_true h10
                  obtain ⟨h1, l1, l2, l3, l4⟩ := HLN.out
                  obtain ⟨s1, s2, s3, s4⟩ := HSS.out
                  have hme := HMID.out
                  have hsm := HSUM.out
                  have HR2 : Hid (RowE wr base ad c N ((A ++ u1) ++ (v1 ++ (u2 ++ (v2 ++ C))))) := by
                    have e : v1 = [] := List.eq_nil_of_length_eq_zero (by omega)
                    have h9 := HR1'.out
                    rw [e] at h9 ⊢
                    exact h9
                  have HA2 := Lib.hid (fun (W : World) (hW : RowE W base ad c N ((A ++ u1) ++ (v1 ++ (u2 ++ (v2 ++ C))))) => (show RowE W base ad c N (A ++ (u1 ++ (v1 ++ (u2 ++ (v2 ++ C))))) by rw [← List.append_assoc]; exact hW))
                  have HC2 := Lib.hid (fun (W : World) (hW : RowE W base ad c N (A ++ (u1 ++ (v1 ++ (u2 ++ (v2 ++ C)))))) => (show RowE W base ad c N (A ++ (u1.merge v1 leE ++ (u2 ++ (v2 ++ C)))) by
                    have e : v1 = [] := List.eq_nil_of_length_eq_zero (by omega)
                    rw [e] at hW ⊢
                    rw [List.merge_right]
                    exact hW))
                  have HA3 := Lib.hid (fun (W : World) (hW : RowE W base ad c N (A ++ (u1.merge v1 leE ++ (u2 ++ (v2 ++ C))))) => (show RowE W base ad c N ((A ++ u1.merge v1 leE) ++ (u2 ++ (v2 ++ C))) by rw [List.append_assoc]; exact hW))
                  have HC3 := Lib.hid (fun (W : World) (hW : RowE W base ad c N ((A ++ u1.merge v1 leE) ++ (u2 ++ (v2 ++ C)))) => HIH.out (A ++ u1.merge v1 leE) u2 v2 C ad c N base mid en b W hW hN (by rw [List.length_append, merge_len]; omega) (by omega) (by omega) (by omega) (by omega) s2 s4 (fun z hz => HQM.out z (by simp only [List.mem_append, mem_merge'] at hz; rcases hz with (h | h | h) | h | h | h <;> simp [h])) (by omega))
                  have HFN := Lib.hid (fun (W : World) (hW : RowE W base ad c N ((A ++ u1.merge v1 leE) ++ (u2.merge v2 leE ++ C))) => (show RowE W base ad c N (A ++ (u.merge v leE ++ C)) by rw [HMG.out, List.append_assoc]; rw [List.append_assoc] at hW; exact hW))
                  clear h1 l1 l2 l3 l4 s1 s2 s3 s4 hme hsm HLN HSS HMID HSUM HQM HMG HR1' HIH
                  go_wp2_with fail
                  have HR3 := Lib.hid (HA2.out _ HR2.out)
                  have HR4 := Lib.hid (HC2.out _ HR3.out)
                  have HR5 := Lib.hid (HA3.out _ HR4.out)
                  refine (HC3.out _ HR5.out).mono ?_
                  rintro e w4 ⟨rfl, hr4, hg4⟩
                  have HR6 := Lib.hid hr4
                  have hgb := gb_trans hgb hg4
                  clear hr4 hg4
                  go_wp2_with fail
                  go_end0
                  exact ⟨rfl, HFN.out _ HR6.out, hgb⟩
                · have g10 : decide ((en : Int) < (b : Int)) = false := decide_eq_false (by omega)
                  have g10' : decide (en < b) = false := decide_eq_false h10
                  obtain ⟨h1, l1, l2, l3, l4⟩ := HLN.out
                  obtain ⟨s1, s2, s3, s4⟩ := HSS.out
                  have hme := HMID.out
                  have hsm := HSUM.out
                  have HR2 : Hid (RowE wr base ad c N ((A ++ u1) ++ (v1 ++ (u2 ++ (v2 ++ C))))) := by
                    have e : v1 = [] := List.eq_nil_of_length_eq_zero (by omega)
                    have h9 := HR1'.out
                    rw [e] at h9 ⊢
                    exact h9
                  have HA2 := Lib.hid (fun (W : World) (hW : RowE W base ad c N ((A ++ u1) ++ (v1 ++ (u2 ++ (v2 ++ C))))) => (show RowE W base ad c N (A ++ (u1 ++ (v1 ++ (u2 ++ (v2 ++ C))))) by rw [← List.append_assoc]; exact hW))
                  have HC2 := Lib.hid (fun (W : World) (hW : RowE W base ad c N (A ++ (u1 ++ (v1 ++ (u2 ++ (v2 ++ C)))))) => (show RowE W base ad c N (A ++ (u1.merge v1 leE ++ (u2 ++ (v2 ++ C)))) by
                    have e : v1 = [] := List.eq_nil_of_length_eq_zero (by omega)
                    rw [e] at hW ⊢
                    rw [List.merge_right]
                    exact hW))
                  have HA3 := Lib.hid (fun (W : World) (hW : RowE W base ad c N (A ++ (u1.merge v1 leE ++ (u2 ++ (v2 ++ C))))) => (show RowE W base ad c N ((A ++ u1.merge v1 leE) ++ (u2 ++ (v2 ++ C))) by rw [List.append_assoc]; exact hW))
                  have HC3 := Lib.hid (fun (W : World) (hW : RowE W base ad c N ((A ++ u1.merge v1 leE) ++ (u2 ++ (v2 ++ C)))) => (show RowE W base ad c N ((A ++ u1.merge v1 leE) ++ (u2.merge v2 leE ++ C)) by
                    have e : v2 = [] := List.eq_nil_of_length_eq_zero (by omega)
                    rw [e] at hW ⊢
                    rw [List.merge_right]
                    exact hW))
                  have HFN := Lib.hid (fun (W : World) (hW : RowE W base ad c N ((A ++ u1.merge v1 leE) ++ (u2.merge v2 leE ++ C))) => (show RowE W base ad c N (A ++ (u.merge v leE ++ C)) by rw [HMG.out, List.append_assoc]; rw [List.append_assoc] at hW; exact hW))
                  clear h1 l1 l2 l3 l4 s1 s2 s3 s4 hme hsm HLN HSS HMID HSUM HQM HMG HR1' HIH
                  go_wp2_with fail
                  have HR3 := Lib.hid (HA2.out _ HR2.out)
                  have HR4 := Lib.hid (HC2.out _ HR3.out)
                  have HR5 := Lib.hid (HA3.out _ HR4.out)
                  have HR6 := Lib.hid (HC3.out _ HR5.out)
                  go_end0
                  exact ⟨rfl, HFN.out _ HR6.out, hgb⟩
              · have g9 : decide ((mid : Int) < (en : Int)) = false := decide_eq_false (by omega)
                have g9' : decide (mid < en) = false := decide_eq_false h9
                obtain ⟨h1, l1, l2, l3, l4⟩ := HLN.out
                obtain ⟨s1, s2, s3, s4⟩ := HSS.out
                have hme := HMID.out
                have hsm := HSUM.out
                have HR2 : Hid (RowE wr base ad c N ((A ++ u1) ++ (v1 ++ (u2 ++ (v2 ++ C))))) := by
                  have e : v1 = [] := List.eq_nil_of_length_eq_zero (by omega)
                  have h9 := HR1'.out
                  rw [e] at h9 ⊢
                  exact h9
                have HA2 := Lib.hid (fun (W : World) (hW : RowE W base ad c N ((A ++ u1) ++ (v1 ++ (u2 ++ (v2 ++ C))))) => (show RowE W base ad c N (A ++ (u1 ++ (v1 ++ (u2 ++ (v2 ++ C))))) by rw [← List.append_assoc]; exact hW))
                have HC2 := Lib.hid (fun (W : World) (hW : RowE W base ad c N (A ++ (u1 ++ (v1 ++ (u2 ++ (v2 ++ C)))))) => (show RowE W base ad c N (A ++ (u1.merge v1 leE ++ (u2 ++ (v2 ++ C)))) by
                  have e : v1 = [] := List.eq_nil_of_length_eq_zero (by omega)
                  rw [e] at hW ⊢
                  rw [List.merge_right]
                  exact hW))
                have HA3 := Lib.hid (fun (W : World) (hW : RowE W base ad c N (A ++ (u1.merge v1 leE ++ (u2 ++ (v2 ++ C))))) => (show RowE W base ad c N ((A ++ u1.merge v1 leE) ++ (u2 ++ (v2 ++ C))) by rw [List.append_assoc]; exact hW))
                have HC3 := Lib.hid (fun (W : World) (hW : RowE W base ad c N ((A ++ u1.merge v1 leE) ++ (u2 ++ (v2 ++ C)))) => (show RowE W base ad c N ((A ++ u1.merge v1 leE) ++ (u2.merge v2 leE ++ C)) by
                  have e : u2 = [] := List.eq_nil_of_length_eq_zero (by omega)
                  rw [e] at hW ⊢
                  rw [List.nil_merge]
                  exact hW))
                have HFN := Lib.hid (fun (W : World) (hW : RowE W base ad c N ((A ++ u1.merge v1 leE) ++ (u2.merge v2 leE ++ C))) => (show RowE W base ad c N (A ++ (u.merge v leE ++ C)) by rw [HMG.out, List.append_assoc]; rw [List.append_assoc] at hW; exact hW))
                clear h1 l1 l2 l3 l4 s1 s2 s3 s4 hme hsm HLN HSS HMID HSUM HQM HMG HR1' HIH
                go_wp2_with fail
                have HR3 := Lib.hid (HA2.out _ HR2.out)
                have HR4 := Lib.hid (HC2.out _ HR3.out)
                have HR5 := Lib.hid (HA3.out _ HR4.out)
                have HR6 := Lib.hid (HC3.out _ HR5.out)
                go_end0
                exact ⟨rfl, HFN.out _ HR6.out, hgb⟩
          · have g7 : decide ((a : Int) < (i : Int)) = false := decide_eq_false (by omega)
            have g7' : decide (a < i) = false := decide_eq_false h7
            by_cases h9 : mid < en
            · have g9 : decide ((mid : Int) < (en : Int)) = true := decide_eq_true (by omega)
              have g9' : decide (mid < en) = true := decide_eq_true h9
              by_cases h10 : en < b
              · have g10 : decide ((en : Int) < (b : Int)) = true := decide_eq_true (by omega)
                have g10' : decide (en < b) = true := decide_eq_true h10
                obtain ⟨h1, l1, l2, l3, l4⟩ := HLN.out
                obtain ⟨s1, s2, s3, s4⟩ := HSS.out
                have hme := HMID.out
                have hsm := HSUM.out
                have HR2 : Hid (RowE wr base ad c N ((A ++ u1) ++ (v1 ++ (u2 ++ (v2 ++ C))))) := by
                  have e : v1 = [] := List.eq_nil_of_length_eq_zero (by omega)
                  have h9 := HR1'.out
                  rw [e] at h9 ⊢
                  exact h9
                have HA2 := Lib.hid (fun (W : World) (hW : RowE W base ad c N ((A ++ u1) ++ (v1 ++ (u2 ++ (v2 ++ C))))) => (show RowE W base ad c N (A ++ (u1 ++ (v1 ++ (u2 ++ (v2 ++ C))))) by rw [← List.append_assoc]; exact hW))
                have HC2 := Lib.hid (fun (W : World) (hW : RowE W base ad c N (A ++ (u1 ++ (v1 ++ (u2 ++ (v2 ++ C)))))) => (show RowE W base ad c N (A ++ (u1.merge v1 leE ++ (u2 ++ (v2 ++ C)))) by
                  have e : u1 = [] := List.eq_nil_of_length_eq_zero (by omega)
                  rw [e] at hW ⊢
                  rw [List.nil_merge]
                  exact hW))
                have HA3 := Lib.hid (fun (W : World) (hW : RowE W base ad c N (A ++ (u1.merge v1 leE ++ (u2 ++ (v2 ++ C))))) => (show RowE W base ad c N ((A ++ u1.merge v1 leE) ++ (u2 ++ (v2 ++ C))) by rw [List.append_assoc]; exact hW))
                have HC3 := Lib.hid (fun (W : World) (hW : RowE W base ad c N ((A ++ u1.merge v1 leE) ++ (u2 ++ (v2 ++ C)))) => HIH.out (A ++ u1.merge v1 leE) u2 v2 C ad c N base mid en b W hW hN (by rw [List.length_append, merge_len]; omega) (by omega) (by omega) (by omega) (by omega) s2 s4 (fun z hz => HQM.out z (by simp only [List.mem_append, mem_merge'] at hz; rcases hz with (h | h | h) | h | h | h <;> simp [h])) (by omega))
                have HFN := Lib.hid (fun (W : World) (hW : RowE W base ad c N ((A ++ u1.merge v1 leE) ++ (u2.merge v2 leE ++ C))) => (show RowE W base ad c N (A ++ (u.merge v leE ++ C)) by rw [HMG.out, List.append_assoc]; rw [List.append_assoc] at hW; exact hW))
                clear h1 l1 l2 l3 l4 s1 s2 s3 s4 hme hsm HLN HSS HMID HSUM HQM HMG HR1' HIH
                go_wp2_with fail
                have HR3 := Lib.hid (HA2.out _ HR2.out)
                have HR4 := Lib.hid (HC2.out _ HR3.out)
                have HR5 := Lib.hid (HA3.out _ HR4.out)
                refine (HC3.out _ HR5.out).mono ?_
                rintro e w4 ⟨rfl, hr4, hg4⟩
                have HR6 := Lib.hid hr4
                have hgb := gb_trans hgb hg4
                clear hr4 hg4
                go_wp2_with fail
                go_end0
                exact ⟨rfl, HFN.out _ HR6.out, hgb⟩
              · have g10 : decide ((en : Int) < (b : Int)) = false := decide_eq_false (by omega)
                have g10' : decide (en < b) = false := decide_eq_false h10
                obtain ⟨h1, l1, l2, l3, l4⟩ := HLN.out
                obtain ⟨s1, s2, s3, s4⟩ := HSS.out
                have hme := HMID.out
                have hsm := HSUM.out
                have HR2 : Hid (RowE wr base ad c N ((A ++ u1) ++ (v1 ++ (u2 ++ (v2 ++ C))))) := by
                  have e : v1 = [] := List.eq_nil_of_length_eq_zero (by omega)
                  have h9 := HR1'.out
                  rw [e] at h9 ⊢
                  exact h9
                have HA2 := Lib.hid (fun (W : World) (hW : RowE W base ad c N ((A ++ u1) ++ (v1 ++ (u2 ++ (v2 ++ C))))) => (show RowE W base ad c N (A ++ (u1 ++ (v1 ++ (u2 ++ (v2 ++ C))))) by rw [← List.append_assoc]; exact hW))
                have HC2 := Lib.hid (fun (W : World) (hW : RowE W base ad c N (A ++ (u1 ++ (v1 ++ (u2 ++ (v2 ++ C)))))) => (show RowE W base ad c N (A ++ (u1.merge v1 leE ++ (u2 ++ (v2 ++ C)))) by
                  have e : u1 = [] := List.eq_nil_of_length_eq_zero (by omega)
                  rw [e] at hW ⊢
                  rw [List.nil_merge]
                  exact hW))
                have HA3 := Lib.hid (fun (W : World) (hW : RowE W base ad c N (A ++ (u1.merge v1 leE ++ (u2 ++ (v2 ++ C))))) => (show RowE W base ad c N ((A ++ u1.merge v1 leE) ++ (u2 ++ (v2 ++ C))) by rw [List.append_assoc]; exact hW))
                have HC3 := Lib.hid (fun (W : World) (hW : RowE W base ad c N ((A ++ u1.merge v1 leE) ++ (u2 ++ (v2 ++ C)))) => (show RowE W base ad c N ((A ++ u1.merge v1 leE) ++ (u2.merge v2 leE ++ C)) by
                  have e : v2 = [] := List.eq_nil_of_length_eq_zero (by omega)
                  rw [e] at hW ⊢
                  rw [List.merge_right]
                  exact hW))
                have HFN := Lib.hid (fun (W : World) (hW : RowE W base ad c N ((A ++ u1.merge v1 leE) ++ (u2.merge v2 leE ++ C))) => (show RowE W base ad c N (A ++ (u.merge v leE ++ C)) by rw [HMG.out, List.append_assoc]; rw [List.append_assoc] at hW; exact hW))
                clear h1 l1 l2 l3 l4 s1 s2 s3 s4 hme hsm HLN HSS HMID HSUM HQM HMG HR1' HIH
                go_wp2_with fail
                have HR3 := Lib.hid (HA2.out _ HR2.out)
                have HR4 := Lib.hid (HC2.out _ HR3.out)
                have HR5 := Lib.hid (HA3.out _ HR4.out)
                have HR6 := Lib.hid (HC3.out _ HR5.out)
                go_end0
                exact ⟨rfl, HFN.out _ HR6.out, hgb⟩
            · have g9 : decide ((mid : Int) < (en : Int)) = false := decide_eq_false (by omega)
              have g9' : decide (mid < en) = false := decide_eq_false h9
              obtain ⟨h1, l1, l2, l3, l4⟩ := HLN.out
              obtain ⟨s1, s2, s3, s4⟩ := HSS.out
              have hme := HMID.out
              have hsm := HSUM.out
              have HR2 : Hid (RowE wr base ad c N ((A ++ u1) ++ (v1 ++ (u2 ++ (v2 ++ C))))) := by
                have e : v1 = [] := List.eq_nil_of_length_eq_zero (by omega)
                have h9 := HR1'.out
                rw [e] at h9 ⊢
                exact h9
              have HA2 := Lib.hid (fun (W : World) (hW : RowE W base ad c N ((A ++ u1) ++ (v1 ++ (u2 ++ (v2 ++ C))))) => (show RowE W base ad c N (A ++ (u1 ++ (v1 ++ (u2 ++ (v2 ++ C))))) by rw [← List.append_assoc]; exact hW))
              have HC2 := Lib.hid (fun (W : World) (hW : RowE W base ad c N (A ++ (u1 ++ (v1 ++ (u2 ++ (v2 ++ C)))))) => (show RowE W base ad c N (A ++ (u1.merge v1 leE ++ (u2 ++ (v2 ++ C)))) by
                have e : u1 = [] := List.eq_nil_of_length_eq_zero (by omega)
                rw [e] at hW ⊢
                rw [List.nil_merge]
                exact hW))
              have HA3 := Lib.hid (fun (W : World) (hW : RowE W base ad c N (A ++ (u1.merge v1 leE ++ (u2 ++ (v2 ++ C))))) => (show RowE W base ad c N ((A ++ u1.merge v1 leE) ++ (u2 ++ (v2 ++ C))) by rw [List.append_assoc]; exact hW))
              have HC3 := Lib.hid (fun (W : World) (hW : RowE W base ad c N ((A ++ u1.merge v1 leE) ++ (u2 ++ (v2 ++ C)))) => (show RowE W base ad c N ((A ++ u1.merge v1 leE) ++ (u2.merge v2 leE ++ C)) by
                have e : u2 = [] := List.eq_nil_of_length_eq_zero (by omega)
                rw [e] at hW ⊢
                rw [List.nil_merge]
                exact hW))
              have HFN := Lib.hid (fun (W : World) (hW : RowE W base ad c N ((A ++ u1.merge v1 leE) ++ (u2.merge v2 leE ++ C))) => (show RowE W base ad c N (A ++ (u.merge v leE ++ C)) by rw [HMG.out, List.append_assoc]; rw [List.append_assoc] at hW; exact hW))
              clear h1 l1 l2 l3 l4 s1 s2 s3 s4 hme hsm HLN HSS HMID HSUM HQM HMG HR1' HIH
              go_wp2_with fail
              have HR3 := Lib.hid (HA2.out _ HR2.out)
              have HR4 := Lib.hid (HC2.out _ HR3.out)
              have HR5 := Lib.hid (HA3.out _ HR4.out)
              have HR6 := Lib.hid (HC3.out _ HR5.out)
              go_end0
              exact ⟨rfl, HFN.out _ HR6.out, hgb⟩
      · have g5 : decide ((i : Int) < (m : Int)) = false := decide_eq_false (by omega)
        have g5' : decide (i < m) = false := decide_eq_false h5
        by_cases h7 : a < i
        · have g7 : decide ((a : Int) < (i : Int)) = true := decide_eq_true (by omega)
          have g7' : decide (a < i) = true := decide_eq_true h7
          by_cases h8 : i < mid
          · have g8 : decide ((i : Int) < (mid : Int)) = true := decide_eq_true (by omega)
            have g8' : decide (i < mid) = true := decide_eq_true h8
            by_cases h9 : mid < en
            · have g9 : decide ((mid : Int) < (en : Int)) = true := decide_eq_true (by omega)
              have g9' : decide (mid < en) = true := decide_eq_true h9
              by_cases h10 : en < b
              · have g10 : decide ((en : Int) < (b : Int)) = true := decide_eq_true (by omega)
                have g10' : decide (en < b) = true := decide_eq_true h10
                obtain ⟨h1, l1, l2, l3, l4⟩ := HLN.out
                obtain ⟨s1, s2, s3, s4⟩ := HSS.out
                have hme := HMID.out
                have hsm := HSUM.out
                have HR2 : Hid (RowE wr base ad c N ((A ++ u1) ++ (v1 ++ (u2 ++ (v2 ++ C))))) := by
                  have e : u2 = [] := List.eq_nil_of_length_eq_zero (by omega)
                  have h9 := HR1'.out
                  rw [e] at h9 ⊢
                  exact h9
                have HA2 := Lib.hid (fun (W : World) (hW : RowE W base ad c N ((A ++ u1) ++ (v1 ++ (u2 ++ (v2 ++ C))))) => (show RowE W base ad c N (A ++ (u1 ++ (v1 ++ (u2 ++ (v2 ++ C))))) by rw [← List.append_assoc]; exact hW))
                have HC2 := Lib.hid (fun (W : World) (hW : RowE W base ad c N (A ++ (u1 ++ (v1 ++ (u2 ++ (v2 ++ C)))))) => HIH.out A u1 v1 (u2 ++ (v2 ++ C)) ad c N base a i mid W hW hN h1 (by omega) (by omega) (by omega) (by omega) s1 s3 (fun z hz => HQM.out z (by simp only [List.mem_append] at hz; rcases hz with h | h | h | h | h | h <;> simp [h])) (by omega))
                have HA3 := Lib.hid (fun (W : World) (hW : RowE W base ad c N (A ++ (u1.merge v1 leE ++ (u2 ++ (v2 ++ C))))) => (show RowE W base ad c N ((A ++ u1.merge v1 leE) ++ (u2 ++ (v2 ++ C))) by rw [List.append_assoc]; exact hW))
                have HC3 := Lib.hid (fun (W : World) (hW : RowE W base ad c N ((A ++ u1.merge v1 leE) ++ (u2 ++ (v2 ++ C)))) => HIH.out (A ++ u1.merge v1 leE) u2 v2 C ad c N base mid en b W hW hN (by rw [List.length_append, merge_len]; omega) (by omega) (by omega) (by omega) (by omega) s2 s4 (fun z hz => HQM.out z (by simp only [List.mem_append, mem_merge'] at hz; rcases hz with (h | h | h) | h | h | h <;> simp [h])) (by omega))
                have HFN := Lib.hid (fun (W : World) (hW : RowE W base ad c N ((A ++ u1.merge v1 leE) ++ (u2.merge v2 leE ++ C))) => (show RowE W base ad c N (A ++ (u.merge v leE ++ C)) by rw [HMG.out, List.append_assoc]; rw [List.append_assoc] at hW; exact hW))
                clear h1 l1 l2 l3 l4 s1 s2 s3 s4 hme hsm HLN HSS HMID HSUM HQM HMG HR1' HIH
                go_wp2_with fail
                have HR3 := Lib.hid (HA2.out _ HR2.out)
                refine (HC2.out _ HR3.out).mono ?_
                rintro e w3 ⟨rfl, hr3, hg3⟩
                have HR4 := Lib.hid hr3
                have hgb := gb_trans hgb hg3
                clear hr3 hg3
                go_wp2_with fail
                have HR5 := Lib.hid (HA3.out _ HR4.out)
                refine (HC3.out _ HR5.out).mono ?_
                rintro e w4 ⟨rfl, hr4, hg4⟩
                have HR6 := Lib.hid hr4
                have hgb := gb_trans hgb hg4
                clear hr4 hg4
                go_wp2_with fail
                go_end0
                exact ⟨rfl, HFN.out _ HR6.out, hgb⟩
              · have g10 : decide ((en : Int) < (b : Int)) = false := decide_eq_false (by omega)
                have g10' : decide (en < b) = false := decide_eq_false h10
                obtain ⟨h1, l1, l2, l3, l4⟩ := HLN.out
                obtain ⟨s1, s2, s3, s4⟩ := HSS.out
                have hme := HMID.out
                have hsm := HSUM.out
                have HR2 : Hid (RowE wr base ad c N ((A ++ u1) ++ (v1 ++ (u2 ++ (v2 ++ C))))) := by
                  have e : u2 = [] := List.eq_nil_of_length_eq_zero (by omega)
                  have h9 := HR1'.out
                  rw [e] at h9 ⊢
                  exact h9
                have HA2 := Lib.hid (fun (W : World) (hW : RowE W base ad c N ((A ++ u1) ++ (v1 ++ (u2 ++ (v2 ++ C))))) => (show RowE W base ad c N (A ++ (u1 ++ (v1 ++ (u2 ++ (v2 ++ C))))) by rw [← List.append_assoc]; exact hW))
                have HC2 := Lib.hid (fun (W : World) (hW : RowE W base ad c N (A ++ (u1 ++ (v1 ++ (u2 ++ (v2 ++ C)))))) => HIH.out A u1 v1 (u2 ++ (v2 ++ C)) ad c N base a i mid W hW hN h1 (by omega) (by omega) (by omega) (by omega) s1 s3 (fun z hz => HQM.out z (by simp only [List.mem_append] at hz; rcases hz with h | h | h | h | h | h <;> simp [h])) (by omega))
                have HA3 := Lib.hid (fun (W : World) (hW : RowE W base ad c N (A ++ (u1.merge v1 leE ++ (u2 ++ (v2 ++ C))))) => (show RowE W base ad c N ((A ++ u1.merge v1 leE) ++ (u2 ++ (v2 ++ C))) by rw [List.append_assoc]; exact hW))
                have HC3 := Lib.hid (fun (W : World) (hW : RowE W base ad c N ((A ++ u1.merge v1 leE) ++ (u2 ++ (v2 ++ C)))) => (show RowE W base ad c N ((A ++ u1.merge v1 leE) ++ (u2.merge v2 leE ++ C)) by
                  have e : v2 = [] := List.eq_nil_of_length_eq_zero (by omega)
                  rw [e] at hW ⊢
                  rw [List.merge_right]
                  exact hW))
                have HFN := Lib.hid (fun (W : World) (hW : RowE W base ad c N ((A ++ u1.merge v1 leE) ++ (u2.merge v2 leE ++ C))) => (show RowE W base ad c N (A ++ (u.merge v leE ++ C)) by rw [HMG.out, List.append_assoc]; rw [List.append_assoc] at hW; exact hW))
                clear h1 l1 l2 l3 l4 s1 s2 s3 s4 hme hsm HLN HSS HMID HSUM HQM HMG HR1' HIH
                go_wp2_with fail
                have HR3 := Lib.hid (HA2.out _ HR2.out)
                refine (HC2.out _ HR3.out).mono ?_
                rintro e w3 ⟨rfl, hr3, hg3⟩
                have HR4 := Lib.hid hr3
                have hgb := gb_trans hgb hg3
                clear hr3 hg3
                go_wp2_with fail
                have HR5 := Lib.hid (HA3.out _ HR4.out)
                have HR6 := Lib.hid (HC3.out _ HR5.out)
                go_end0
                exact ⟨rfl, HFN.out _ HR6.out, hgb⟩
            · have g9 : decide ((mid : Int) < (en : Int)) = false := decide_eq_false (by omega)
              have g9' : decide (mid < en) = false := decide_eq_false h9
              obtain ⟨h1, l1, l2, l3, l4⟩ := HLN.out
              obtain ⟨s1, s2, s3, s4⟩ := HSS.out
              have hme := HMID.out
              have hsm := HSUM.out
              have HR2 : Hid (RowE wr base ad c N ((A ++ u1) ++ (v1 ++ (u2 ++ (v2 ++ C))))) := by
                have e : u2 = [] := List.eq_nil_of_length_eq_zero (by omega)
                have h9 := HR1'.out
                rw [e] at h9 ⊢
                exact h9
              have HA2 := Lib.hid (fun (W : World) (hW : RowE W base ad c N ((A ++ u1) ++ (v1 ++ (u2 ++ (v2 ++ C))))) => (show RowE W base ad c N (A ++ (u1 ++ (v1 ++ (u2 ++ (v2 ++ C))))) by rw [← List.append_assoc]; exact hW))
              have HC2 := Lib.hid (fun (W : World) (hW : RowE W base ad c N (A ++ (u1 ++ (v1 ++ (u2 ++ (v2 ++ C)))))) => HIH.out A u1 v1 (u2 ++ (v2 ++ C)) ad c N base a i mid W hW hN h1 (by omega) (by omega) (by omega) (by omega) s1 s3 (fun z hz => HQM.out z (by simp only [List.mem_append] at hz; rcases hz with h | h | h | h | h | h <;> simp [h])) (by omega))
              have HA3 := Lib.hid (fun (W : World) (hW : RowE W base ad c N (A ++ (u1.merge v1 leE ++ (u2 ++ (v2 ++ C))))) => (show RowE W base ad c N ((A ++ u1.merge v1 leE) ++ (u2 ++ (v2 ++ C))) by rw [List.append_assoc]; exact hW))
              have HC3 := Lib.hid (fun (W : World) (hW : RowE W base ad c N ((A ++ u1.merge v1 leE) ++ (u2 ++ (v2 ++ C)))) => (show RowE W base ad c N ((A ++ u1.merge v1 leE) ++ (u2.merge v2 leE ++ C)) by
                have e : u2 = [] := List.eq_nil_of_length_eq_zero (by omega)
                rw [e] at hW ⊢
                rw [List.nil_merge]
                exact hW))
              have HFN := Lib.hid (fun (W : World) (hW : RowE W base ad c N ((A ++ u1.merge v1 leE) ++ (u2.merge v2 leE ++ C))) => (show RowE W base ad c N (A ++ (u.merge v leE ++ C)) by rw [HMG.out, List.append_assoc]; rw [List.append_assoc] at hW; exact hW))
              clear h1 l1 l2 l3 l4 s1 s2 s3 s4 hme hsm HLN HSS HMID HSUM HQM HMG HR1' HIH
              go_wp2_with fail
              have HR3 := Lib.hid (HA2.out _ HR2.out)
              refine (HC2.out _ HR3.out).mono ?_
              rintro e w3 ⟨rfl, hr3, hg3⟩
              have HR4 := Lib.hid hr3
              have hgb := gb_trans hgb hg3
              clear hr3 hg3
              go_wp2_with fail
              have HR5 := Lib.hid (HA3.out _ HR4.out)
              have HR6 := Lib.hid (HC3.out _ HR5.out)
              go_end0
              exact ⟨rfl, HFN.out _ HR6.out, hgb⟩
          · have g8 : decide ((i : Int) < (mid : Int)) = false := decide_eq_false (by omega)
            have g8' : decide (i < mid) = false := decide_eq_false h8
            by_cases h9 : mid < en
            · have g9 : decide ((mid : Int) < (en : Int)) = true := decide_eq_true (by omega)
              have g9' : decide (mid < en) = true := decide_eq_true h9
              by_cases h10 : en < b
              · have g10 : decide ((en : Int) < (b : Int)) = true := decide_eq_true (by omega)
                have g10' : decide (en < b) = true := decide_eq_true h10
                obtain ⟨h1, l1, l2, l3, l4⟩ := HLN.out
                obtain ⟨s1, s2, s3, s4⟩ := HSS.out
                have hme := HMID.out
                have hsm := HSUM.out
                have HR2 : Hid (RowE wr base ad c N ((A ++ u1) ++ (v1 ++ (u2 ++ (v2 ++ C))))) := by
                  have e : u2 = [] := List.eq_nil_of_length_eq_zero (by omega)
                  have h9 := HR1'.out
                  rw [e] at h9 ⊢
                  exact h9
                have HA2 := Lib.hid (fun (W : World) (hW : RowE W base ad c N ((A ++ u1) ++ (v1 ++ (u2 ++ (v2 ++ C))))) => (show RowE W base ad c N (A ++ (u1 ++ (v1 ++ (u2 ++ (v2 ++ C))))) by rw [← List.append_assoc]; exact hW))
                have HC2 := Lib.hid (fun (W : World) (hW : RowE W base ad c N (A ++ (u1 ++ (v1 ++ (u2 ++ (v2 ++ C)))))) => (show RowE W base ad c N (A ++ (u1.merge v1 leE ++ (u2 ++ (v2 ++ C)))) by
                  have e : v1 = [] := List.eq_nil_of_length_eq_zero (by omega)
                  rw [e] at hW ⊢
                  rw [List.merge_right]
                  exact hW))
                have HA3 := Lib.hid (fun (W : World) (hW : RowE W base ad c N (A ++ (u1.merge v1 leE ++ (u2 ++ (v2 ++ C))))) => (show RowE W base ad c N ((A ++ u1.merge v1 leE) ++ (u2 ++ (v2 ++ C))) by rw [List.append_assoc]; exact hW))
                have HC3 := Lib.hid (fun (W : World) (hW : RowE W base ad c N ((A ++ u1.merge v1 leE) ++ (u2 ++ (v2 ++ C)))) => HIH.out (A ++ u1.merge v1 leE) u2 v2 C ad c N base mid en b W hW hN (by rw [List.length_append, merge_len]; omega) (by omega) (by omega) (by omega) (by omega) s2 s4 (fun z hz => HQM.out z (by simp only [List.mem_append, mem_merge'] at hz; rcases hz with (h | h | h) | h | h | h <;> simp [h])) (by omega))
                have HFN := Lib.hid (fun (W : World) (hW : RowE W base ad c N ((A ++ u1.merge v1 leE) ++ (u2.merge v2 leE ++ C))) => (show RowE W base ad c N (A ++ (u.merge v leE ++ C)) by rw [HMG.out, List.append_assoc]; rw [List.append_assoc] at hW; exact hW))
                clear h1 l1 l2 l3 l4 s1 s2 s3 s4 hme hsm HLN HSS HMID HSUM HQM HMG HR1' HIH
                go_wp2_with fail
                have HR3 := Lib.hid (HA2.out _ HR2.out)
                have HR4 := Lib.hid (HC2.out _ HR3.out)
                have HR5 := Lib.hid (HA3.out _ HR4.out)
                refine (HC3.out _ HR5.out).mono ?_
                rintro e w4 ⟨rfl, hr4, hg4⟩
                have HR6 := Lib.hid hr4
                have hgb := gb_trans hgb hg4
                clear hr4 hg4
                go_wp2_with fail
                go_end0
                exact ⟨rfl, HFN.out _ HR6.out, hgb⟩
              · have g10 : decide ((en : Int) < (b : Int)) = false := decide_eq_false (by omega)
                have g10' : decide (en < b) = false := decide_eq_false h10
                obtain ⟨h1, l1, l2, l3, l4⟩ := HLN.out
                obtain ⟨s1, s2, s3, s4⟩ := HSS.out
                have hme := HMID.out
                have hsm := HSUM.out
                have HR2 : Hid (RowE wr base ad c N ((A ++ u1) ++ (v1 ++ (u2 ++ (v2 ++ C))))) := by
                  have e : u2 = [] := List.eq_nil_of_length_eq_zero (by omega)
                  have h9 := HR1'.out
                  rw [e] at h9 ⊢
                  exact h9
                have HA2 := Lib.hid (fun (W : World) (hW : RowE W base ad c N ((A ++ u1) ++ (v1 ++ (u2 ++ (v2 ++ C))))) => (show RowE W base ad c N (A ++ (u1 ++ (v1 ++ (u2 ++ (v2 ++ C))))) by rw [← List.append_assoc]; exact hW))
                have HC2 := Lib.hid (fun (W : World) (hW : RowE W base ad c N (A ++ (u1 ++ (v1 ++ (u2 ++ (v2 ++ C)))))) => (show RowE W base ad c N (A ++ (u1.merge v1 leE ++ (u2 ++ (v2 ++ C)))) by
                  have e : v1 = [] := List.eq_nil_of_length_eq_zero (by omega)
                  rw [e] at hW ⊢
                  rw [List.merge_right]
                  exact hW))
                have HA3 := Lib.hid (fun (W : World) (hW : RowE W base ad c N (A ++ (u1.merge v1 leE ++ (u2 ++ (v2 ++ C))))) => (show RowE W base ad c N ((A ++ u1.merge v1 leE) ++ (u2 ++ (v2 ++ C))) by rw [List.append_assoc]; exact hW))
                have HC3 := Lib.hid (fun (W : World) (hW : RowE W base ad c N ((A ++ u1.merge v1 leE) ++ (u2 ++ (v2 ++ C)))) => (show RowE W base ad c N ((A ++ u1.merge v1 leE) ++ (u2.merge v2 leE ++ C)) by
                  have e : v2 = [] := List.eq_nil_of_length_eq_zero (by omega)
                  rw [e] at hW ⊢
                  rw [List.merge_right]
                  exact hW))
                have HFN := Lib.hid (fun (W : World) (hW : RowE W base ad c N ((A ++ u1.merge v1 leE) ++ (u2.merge v2 leE ++ C))) => (show RowE W base ad c N (A ++ (u.merge v leE ++ C)) by rw [HMG.out, List.append_assoc]; rw [List.append_assoc] at hW; exact hW))
                clear h1 l1 l2 l3 l4 s1 s2 s3 s4 hme hsm HLN HSS HMID HSUM HQM HMG HR1' HIH
                go_wp2_with fail
                have HR3 := Lib.hid (HA2.out _ HR2.out)
                have HR4 := Lib.hid (HC2.out _ HR3.out)
                have HR5 := Lib.hid (HA3.out _ HR4.out)
                have HR6 := Lib.hid (HC3.out _ HR5.out)
                go_end0
                exact ⟨rfl, HFN.out _ HR6.out, hgb⟩
            · have g9 : decide ((mid : Int) < (en : Int)) = false := decide_eq_false (by omega)
              have g9' : decide (mid < en) = false := decide_eq_false h9
              obtain ⟨h1, l1, l2, l3, l4⟩ := HLN.out
              obtain ⟨s1, s2, s3, s4⟩ := HSS.out
              have hme := HMID.out
              have hsm := HSUM.out
              have HR2 : Hid (RowE wr base ad c N ((A ++ u1) ++ (v1 ++ (u2 ++ (v2 ++ C))))) := by
                have e : u2 = [] := List.eq_nil_of_length_eq_zero (by omega)
                have h9 := HR1'.out
                rw [e] at h9 ⊢
                exact h9
              have HA2 := Lib.hid (fun (W : World) (hW : RowE W base ad c N ((A ++ u1) ++ (v1 ++ (u2 ++ (v2 ++ C))))) => (show RowE W base ad c N (A ++ (u1 ++ (v1 ++ (u2 ++ (v2 ++ C))))) by rw [← List.append_assoc]; exact hW))
              have HC2 := Lib.hid (fun (W : World) (hW : RowE W base ad c N (A ++ (u1 ++ (v1 ++ (u2 ++ (v2 ++ C)))))) => (show RowE W base ad c N (A ++ (u1.merge v1 leE ++ (u2 ++ (v2 ++ C)))) by
                have e : v1 = [] := List.eq_nil_of_length_eq_zero (by omega)
                rw [e] at hW ⊢
                rw [List.merge_right]
                exact hW))
              have HA3 := Lib.hid (fun (W : World) (hW : RowE W base ad c N (A ++ (u1.merge v1 leE ++ (u2 ++ (v2 ++ C))))) => (show RowE W base ad c N ((A ++ u1.merge v1 leE) ++ (u2 ++ (v2 ++ C))) by rw [List.append_assoc]; exact hW))
              have HC3 := Lib.hid (fun (W : World) (hW : RowE W base ad c N ((A ++ u1.merge v1 leE) ++ (u2 ++ (v2 ++ C)))) => (show RowE W base ad c N ((A ++ u1.merge v1 leE) ++ (u2.merge v2 leE ++ C)) by
                have e : u2 = [] := List.eq_nil_of_length_eq_zero (by omega)
                rw [e] at hW ⊢
                rw [List.nil_merge]
                exact hW))
              have HFN := Lib.hid (fun (W : World) (hW : RowE W base ad c N ((A ++ u1.merge v1 leE) ++ (u2.merge v2 leE ++ C))) => (show RowE W base ad c N (A ++ (u.merge v leE ++ C)) by rw [HMG.out, List.append_assoc]; rw [List.append_assoc] at hW; exact hW))
              clear h1 l1 l2 l3 l4 s1 s2 s3 s4 hme hsm HLN HSS HMID HSUM HQM HMG HR1' HIH
              go_wp2_with fail
              have HR3 := Lib.hid (HA2.out _ HR2.out)
              have HR4 := Lib.hid (HC2.out _ HR3.out)
              have HR5 := Lib.hid (HA3.out _ HR4.out)
              have HR6 := Lib.hid (HC3.out _ HR5.out)
              go_end0
              exact ⟨rfl, HFN.out _ HR6.out, hgb⟩
        · have g7 : decide ((a : Int) < (i : Int)) = false := decide_eq_false (by omega)
          have g7' : decide (a < i) = false := decide_eq_false h7
          by_cases h9 : mid < en
          · have g9 : decide ((mid : Int) < (en : Int)) = true := decide_eq_true (by omega)
            have g9' : decide (mid < en) = true := decide_eq_true h9
            by_cases h10 : en < b
            · have g10 : decide ((en : Int) < (b : Int)) = true := decide_eq_true (by omega)
              have g10' : decide (en < b) = true := decide_eq_true h10
              obtain ⟨h1, l1, l2, l3, l4⟩ := HLN.out
              obtain ⟨s1, s2, s3, s4⟩ := HSS.out
              have hme := HMID.out
              have hsm := HSUM.out
              have HR2 : Hid (RowE wr base ad c N ((A ++ u1) ++ (v1 ++ (u2 ++ (v2 ++ C))))) := by
                have e : u2 = [] := List.eq_nil_of_length_eq_zero (by omega)
                have h9 := HR1'.out
                rw [e] at h9 ⊢
                exact h9
              have HA2 := Lib.hid (fun (W : World) (hW : RowE W base ad c N ((A ++ u1) ++ (v1 ++ (u2 ++ (v2 ++ C))))) => (show RowE W base ad c N (A ++ (u1 ++ (v1 ++ (u2 ++ (v2 ++ C))))) by rw [← List.append_assoc]; exact hW))
              have HC2 := Lib.hid (fun (W : World) (hW : RowE W base ad c N (A ++ (u1 ++ (v1 ++ (u2 ++ (v2 ++ C)))))) => (show RowE W base ad c N (A ++ (u1.merge v1 leE ++ (u2 ++ (v2 ++ C)))) by
                have e : u1 = [] := List.eq_nil_of_length_eq_zero (by omega)
                rw [e] at hW ⊢
                rw [List.nil_merge]
                exact hW))
              have HA3 := Lib.hid (fun (W : World) (hW : RowE W base ad c N (A ++ (u1.merge v1 leE ++ (u2 ++ (v2 ++ C))))) => (show RowE W base ad c N ((A ++ u1.merge v1 leE) ++ (u2 ++ (v2 ++ C))) by rw [List.append_assoc]; exact hW))
              have HC3 := Lib.hid (fun (W : World) (hW : RowE W base ad c N ((A ++ u1.merge v1 leE) ++ (u2 ++ (v2 ++ C)))) => HIH.out (A ++ u1.merge v1 leE) u2 v2 C ad c N base mid en b W hW hN (by rw [List.length_append, merge_len]; omega) (by omega) (by omega) (by omega) (by omega) s2 s4 (fun z hz => HQM.out z (by simp only [List.mem_append, mem_merge'] at hz; rcases hz with (h | h | h) | h | h | h <;> simp [h])) (by omega))
              have HFN := Lib.hid (fun (W : World) (hW : RowE W base ad c N ((A ++ u1.merge v1 leE) ++ (u2.merge v2 leE ++ C))) => (show RowE W base ad c N (A ++ (u.merge v leE ++ C)) by rw [HMG.out, List.append_assoc]; rw [List.append_assoc] at hW; exact hW))
              clear h1 l1 l2 l3 l4 s1 s2 s3 s4 hme hsm HLN HSS HMID HSUM HQM HMG HR1' HIH
              go_wp2_with fail
              have HR3 := Lib.hid (HA2.out _ HR2.out)
              have HR4 := Lib.hid (HC2.out _ HR3.out)
              have HR5 := Lib.hid (HA3.out _ HR4.out)
              refine (HC3.out _ HR5.out).mono ?_
              rintro e w4 ⟨rfl, hr4, hg4⟩
              have HR6 := Lib.hid hr4
              have hgb := gb_trans hgb hg4
              clear hr4 hg4
              go_wp2_with fail
              go_end0
              exact ⟨rfl, HFN.out _ HR6.out, hgb⟩
            · have g10 : decide ((en : Int) < (b : Int)) = false := decide_eq_false (by omega)
              have g10' : decide (en < b) = false := decide_eq_false h10
              obtain ⟨h1, l1, l2, l3, l4⟩ := HLN.out
              obtain ⟨s1, s2, s3, s4⟩ := HSS.out
              have hme := HMID.out
              have hsm := HSUM.out
              have HR2 : Hid (RowE wr base ad c N ((A ++ u1) ++ (v1 ++ (u2 ++ (v2 ++ C))))) := by
                have e : u2 = [] := List.eq_nil_of_length_eq_zero (by omega)
                have h9 := HR1'.out
                rw [e] at h9 ⊢
                exact h9
              have HA2 := Lib.hid (fun (W : World) (hW : RowE W base ad c N ((A ++ u1) ++ (v1 ++ (u2 ++ (v2 ++ C))))) => (show RowE W base ad c N (A ++ (u1 ++ (v1 ++ (u2 ++ (v2 ++ C))))) by rw [← List.append_assoc]; exact hW))
              have HC2 := Lib.hid (fun (W : World) (hW : RowE W base ad c N (A ++ (u1 ++ (v1 ++ (u2 ++ (v2 ++ C)))))) => (show RowE W base ad c N (A ++ (u1.merge v1 leE ++ (u2 ++ (v2 ++ C)))) by
                have e : u1 = [] := List.eq_nil_of_length_eq_zero (by omega)
                rw [e] at hW ⊢
                rw [List.nil_merge]
                exact hW))
              have HA3 := Lib.hid (fun (W : World) (hW : RowE W base ad c N (A ++ (u1.merge v1 leE ++ (u2 ++ (v2 ++ C))))) => (show RowE W base ad c N ((A ++ u1.merge v1 leE) ++ (u2 ++ (v2 ++ C))) by rw [List.append_assoc]; exact hW))
              have HC3 := Lib.hid (fun (W : World) (hW : RowE W base ad c N ((A ++ u1.merge v1 leE) ++ (u2 ++ (v2 ++ C)))) => (show RowE W base ad c N ((A ++ u1.merge v1 leE) ++ (u2.merge v2 leE ++ C)) by
                have e : v2 = [] := List.eq_nil_of_length_eq_zero (by omega)
                rw [e] at hW ⊢
                rw [List.merge_right]
                exact hW))
              have HFN := Lib.hid (fun (W : World) (hW : RowE W base ad c N ((A ++ u1.merge v1 leE) ++ (u2.merge v2 leE ++ C))) => (show RowE W base ad c N (A ++ (u.merge v leE ++ C)) by rw [HMG.out, List.append_assoc]; rw [List.append_assoc] at hW; exact hW))
              clear h1 l1 l2 l3 l4 s1 s2 s3 s4 hme hsm HLN HSS HMID HSUM HQM HMG HR1' HIH
              go_wp2_with fail
              have HR3 := Lib.hid (HA2.out _ HR2.out)
              have HR4 := Lib.hid (HC2.out _ HR3.out)
              have HR5 := Lib.hid (HA3.out _ HR4.out)
              have HR6 := Lib.hid (HC3.out _ HR5.out)
              go_end0
              exact ⟨rfl, HFN.out _ HR6.out, hgb⟩
          · have g9 : decide ((mid : Int) < (en : Int)) = false := decide_eq_false (by omega)
            have g9' : decide (mid < en) = false := decide_eq_false h9
            obtain ⟨h1, l1, l2, l3, l4⟩ := HLN.out
            obtain ⟨s1, s2, s3, s4⟩ := HSS.out
            have hme := HMID.out
            have hsm := HSUM.out
            have HR2 : Hid (RowE wr base ad c N ((A ++ u1) ++ (v1 ++ (u2 ++ (v2 ++ C))))) := by
              have e : u2 = [] := List.eq_nil_of_length_eq_zero (by omega)
              have h9 := HR1'.out
              rw [e] at h9 ⊢
              exact h9
            have HA2 := Lib.hid (fun (W : World) (hW : RowE W base ad c N ((A ++ u1) ++ (v1 ++ (u2 ++ (v2 ++ C))))) => (show RowE W base ad c N (A ++ (u1 ++ (v1 ++ (u2 ++ (v2 ++ C))))) by rw [← List.append_assoc]; exact hW))
            have HC2 := Lib.hid (fun (W : World) (hW : RowE W base ad c N (A ++ (u1 ++ (v1 ++ (u2 ++ (v2 ++ C)))))) => (show RowE W base ad c N (A ++ (u1.merge v1 leE ++ (u2 ++ (v2 ++ C)))) by
              have e : u1 = [] := List.eq_nil_of_length_eq_zero (by omega)
              rw [e] at hW ⊢
              rw [List.nil_merge]
              exact hW))
            have HA3 := Lib.hid (fun (W : World) (hW : RowE W base ad c N (A ++ (u1.merge v1 leE ++ (u2 ++ (v2 ++ C))))) => (show RowE W base ad c N ((A ++ u1.merge v1 leE) ++ (u2 ++ (v2 ++ C))) by rw [List.append_assoc]; exact hW))
            have HC3 := Lib.hid (fun (W : World) (hW : RowE W base ad c N ((A ++ u1.merge v1 leE) ++ (u2 ++ (v2 ++ C)))) => (show RowE W base ad c N ((A ++ u1.merge v1 leE) ++ (u2.merge v2 leE ++ C)) by
              have e : u2 = [] := List.eq_nil_of_length_eq_zero (by omega)
              rw [e] at hW ⊢
              rw [List.nil_merge]
              exact hW))
            have HFN := Lib.hid (fun (W : World) (hW : RowE W base ad c N ((A ++ u1.merge v1 leE) ++ (u2.merge v2 leE ++ C))) => (show RowE W base ad c N (A ++ (u.merge v leE ++ C)) by rw [HMG.out, List.append_assoc]; rw [List.append_assoc] at hW; exact hW))
            clear h1 l1 l2 l3 l4 s1 s2 s3 s4 hme hsm HLN HSS HMID HSUM HQM HMG HR1' HIH
            go_wp2_with fail
            have HR3 := Lib.hid (HA2.out _ HR2.out)
            have HR4 := Lib.hid (HC2.out _ HR3.out)
            have HR5 := Lib.hid (HA3.out _ HR4.out)
            have HR6 := Lib.hid (HC3.out _ HR5.out)
            go_end0
            exact ⟨rfl, HFN.out _ HR6.out, hgb⟩
theorem symMergeE_any : ∀ f, SymE f
  | 0 => fun A u v C ad c N base a m b w h hN ha hm hb hu hv su sv hq hf => absurd hf (by omega)
  | f + 1 => fun A u v C ad c N base a m b w h hN ha hm hb hu hv su sv hq hf => by
    by_cases h1 : u.length = 1
    · obtain ⟨x, rfl⟩ := List.length_eq_one_iff.1 h1
      exact symLE_any A v C x ad c N base a m b w h hN ha (by simpa using hm) hb hv sv hq
    · by_cases h2 : v.length = 1
      · obtain ⟨y, rfl⟩ := List.length_eq_one_iff.1 h2
        exact symRE_any A u C y ad c N base a m b w h hN ha hm (by simpa using hb) (by omega) su hq
      · exact symME_any f (symMergeE_any f) A u v C ad c N base a m b w h hN ha hm hb (by omega) (by omega) su sv hq hf
end Go.Proofs.Ytmikckhihfcooaa
