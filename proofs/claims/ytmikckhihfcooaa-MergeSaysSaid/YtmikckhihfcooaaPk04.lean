/- Two scripts that do not touch, made one; and what the operations come to (plain). edit.Check, the reference's EditsErr and Grows. merge.clash, merge.Check. -/
import Derived.Test.YtmikckhihfcooaaPk02
import Derived.Test.YtmikckhihfcooaaPk03
namespace Go.Proofs.Ytmikckhihfcooaa
/-- Two scripts as one. -/
def mergeB : List Ed → List Ed → List Ed
  | [], b => b
  | x :: a, [] => x :: a
  | x :: a, y :: b => if x.at_ < y.at_ then x :: mergeB a (y :: b) else if y.at_ < x.at_ then y :: mergeB (x :: a) b else x :: mergeB a b
termination_by a b => a.length + b.length
theorem mergeB_nil (a : List Ed) : mergeB a [] = a := by cases a <;> simp [mergeB]
theorem mergeB_len : ∀ (a b : List Ed), (mergeB a b).length ≤ a.length + b.length
  | [], b => by simp [mergeB]
  | x :: a, [] => by simp [mergeB]
  | x :: a, y :: b => by
    unfold mergeB
    split
    · have := mergeB_len a (y :: b)
      simp only [List.length_cons] at this ⊢; omega
    · split
      · have := mergeB_len (x :: a) b
        simp only [List.length_cons] at this ⊢; omega
      · have := mergeB_len a b
        simp only [List.length_cons] at this ⊢; omega
termination_by a b => a.length + b.length
theorem mergeB_mem : ∀ (a b : List Ed) (z : Ed), z ∈ mergeB a b → z ∈ a ∨ z ∈ b
  | [], b, z => by simp [mergeB]
  | x :: a, [], z => by simp [mergeB]
  | x :: a, y :: b, z => by
    unfold mergeB
    split
    · intro h
      rcases List.mem_cons.1 h with rfl | h
      · exact .inl List.mem_cons_self
      · rcases mergeB_mem a (y :: b) z h with h | h
        · exact .inl (List.mem_cons_of_mem _ h)
        · exact .inr h
    · split
      · intro h
        rcases List.mem_cons.1 h with rfl | h
        · exact .inr List.mem_cons_self
        · rcases mergeB_mem (x :: a) b z h with h | h
          · exact .inl h
          · exact .inr (List.mem_cons_of_mem _ h)
      · intro h
        rcases List.mem_cons.1 h with rfl | h
        · exact .inl List.mem_cons_self
        · rcases mergeB_mem a b z h with h | h
          · exact .inl (List.mem_cons_of_mem _ h)
          · exact .inr (List.mem_cons_of_mem _ h)
termination_by a b => a.length + b.length
/-- Do two edits lie over each other, or beside each other, without being one? -/
def clashE (x y : Ed) : Prop := x ≠ y ∧ x.at_ ≤ y.at_ + y.del ∧ y.at_ ≤ x.at_ + x.del
instance (x y : Ed) : Decidable (clashE x y) := by unfold clashE; infer_instance
/-- Edits, the first one first: apart, and right. -/
def Asc (l : List Ed) : Prop := l.Pairwise (fun z w => z.at_ + z.del < w.at_) ∧ ∀ z ∈ l, 0 ≤ z.at_ ∧ 0 ≤ z.del
theorem Asc.tail {x : Ed} {l : List Ed} (h : Asc (x :: l)) : Asc l ∧ (∀ z ∈ l, x.at_ + x.del < z.at_) ∧ 0 ≤ x.at_ ∧ 0 ≤ x.del := by
  obtain ⟨h1, h2⟩ := h
  obtain ⟨h3, h4⟩ := List.pairwise_cons.1 h1
  exact ⟨⟨h4, fun z hz => h2 z (List.mem_cons_of_mem _ hz)⟩, h3, h2 x List.mem_cons_self⟩
theorem Asc.desc {l : List Ed} (h : Asc l) : Desc l.reverse := ⟨List.pairwise_reverse.2 h.1, fun z hz => h.2 z (List.mem_reverse.1 hz)⟩
theorem Chain.asc {n : Int} {p : Option Int} {l : List Ed} (h : Chain n p l) : Asc l := by
  induction h with
  | nil p => exact ⟨List.Pairwise.nil, fun z hz => by cases hz⟩
  | cons p x r h0 h ih =>
    obtain ⟨h1, h2, _⟩ := edOne_zero h0
    refine ⟨List.pairwise_cons.2 ⟨fun z hz => (h.mem z hz).2.2.2.2.2 _ rfl, ih.1⟩, fun z hz => ?_⟩
    rcases List.mem_cons.1 hz with rfl | hz
    · exact ⟨h1, h2⟩
    · exact ih.2 z hz
theorem MrgR.under {ra rb rm : List Ed} (h : MrgR ra rb rm) {x : Ed} : (∀ z ∈ ra, x.at_ + x.del < z.at_) → (∀ z ∈ rb, x.at_ + x.del < z.at_) → MrgR (ra ++ [x]) rb (rm ++ [x]) ∧ MrgR ra (rb ++ [x]) (rm ++ [x]) := by
  induction h with
  | nil =>
    intro _ _
    exact ⟨.left (fun z hz => by cases hz) .nil, .right (fun z hz => by cases hz) .nil⟩
  | @left y a b m hy _ ih =>
    intro ha hb
    obtain ⟨i1, i2⟩ := ih (fun z hz => ha z (List.mem_cons_of_mem _ hz)) hb
    refine ⟨.left hy i1, .left (fun z hz => ?_) i2⟩
    rcases List.mem_append.1 hz with hz | hz
    · exact hy z hz
    · rw [List.mem_singleton.1 hz]; exact ha y List.mem_cons_self
  | @right y a b m hy _ ih =>
    intro ha hb
    obtain ⟨i1, i2⟩ := ih ha (fun z hz => hb z (List.mem_cons_of_mem _ hz))
    refine ⟨.right (fun z hz => ?_) i1, .right hy i2⟩
    rcases List.mem_append.1 hz with hz | hz
    · exact hy z hz
    · rw [List.mem_singleton.1 hz]; exact hb y List.mem_cons_self
theorem MrgR.nil_left : ∀ b : List Ed, MrgR [] b b
  | [] => .nil
  | _ :: b => .right (fun z hz => by cases hz) (MrgR.nil_left b)
theorem MrgR.nil_right : ∀ b : List Ed, MrgR b [] b
  | [] => .nil
  | _ :: b => .left (fun z hz => by cases hz) (MrgR.nil_right b)
theorem mergeB_mrg : ∀ (a b : List Ed), Asc a → Asc b → (∀ x ∈ a, ∀ y ∈ b, x.at_ + x.del < y.at_ ∨ y.at_ + y.del < x.at_) → MrgR a.reverse b.reverse (mergeB a b).reverse
  | [], b, _, _, _ => by
    rw [show mergeB [] b = b by simp [mergeB], List.reverse_nil]
    exact MrgR.nil_left _
  | x :: a, [], _, _, _ => by
    rw [mergeB_nil, List.reverse_nil]
    exact MrgR.nil_right _
  | x :: a, y :: b, ha, hb, hab => by
    obtain ⟨a1, a2, a3, a4⟩ := ha.tail
    obtain ⟨b1, b2, b3, b4⟩ := hb.tail
    have hxy := hab x List.mem_cons_self y List.mem_cons_self
    unfold mergeB
    by_cases h : x.at_ < y.at_
    · rw [if_pos h, show (x :: a).reverse = a.reverse ++ [x] from List.reverse_cons, show (x :: mergeB a (y :: b)).reverse = (mergeB a (y :: b)).reverse ++ [x] from List.reverse_cons]
      refine ((mergeB_mrg a (y :: b) a1 hb fun u hu v hv => hab u (List.mem_cons_of_mem _ hu) v hv).under (fun z hz => a2 z (List.mem_reverse.1 hz)) fun z hz => ?_).1
      rcases List.mem_cons.1 (List.mem_reverse.1 hz) with rfl | hz
      · omega
      · have := b2 z hz; omega
    · rw [if_neg h]
      have h2 : y.at_ < x.at_ := by omega
      rw [if_pos h2, show (y :: b).reverse = b.reverse ++ [y] from List.reverse_cons, show (y :: mergeB (x :: a) b).reverse = (mergeB (x :: a) b).reverse ++ [y] from List.reverse_cons]
      refine ((mergeB_mrg (x :: a) b ha b1 fun u hu v hv => hab u hu v (List.mem_cons_of_mem _ hv)).under (fun z hz => ?_) fun z hz => b2 z (List.mem_reverse.1 hz)).2
      rcases List.mem_cons.1 (List.mem_reverse.1 hz) with rfl | hz
      · omega
      · have := a2 z hz; omega
termination_by a b => a.length + b.length
theorem doB_L (s : ByteArray) (x : Op) : L (doB s x) = doL (L s) x := by
  unfold doB doL
  split
  · rw [L_append, L_append, L_extract, L_extract, List.drop_zero, Nat.sub_zero, List.take_of_length_le (l := List.drop _ _) (by rw [List.length_drop, L_len]; exact Nat.le_refl _)]; rfl
  · split
    · rw [L_append, L_extract, L_extract, List.drop_zero, Nat.sub_zero, List.take_of_length_le (l := List.drop _ _) (by rw [List.length_drop, L_len]; exact Nat.le_refl _)]
    · rfl
theorem szs_take_le (l : List Op) (k : Nat) : szs (l.take k) ≤ l.length := by
  have h1 := (szs_bd (l.take k)).2
  rw [List.length_take] at h1
  omega
/-- A row of operations that a text of n bytes may take, one by one. -/
structure GoOk (n : Int) (l : List Op) : Prop where
  ok : okL n l
  n0 : 0 ≤ n
  hi : ∀ k, k ≤ l.length → n + szs (l.take k) ≤ 200
theorem GoOk.head {n : Int} {x : Op} {l : List Op} (h : GoOk n (x :: l)) : opErr n x = 0 ∧ GoOk (n + opSz x) l := by
  have h0 := h.hi 0 (Nat.zero_le _)
  have h1 := h.hi 1 (by simp)
  simp only [List.take_zero, szs, List.take_succ_cons] at h0 h1
  obtain ⟨v, r⟩ := h.ok
  have hn := vld_grow v h.n0
  refine ⟨?_, ⟨r, hn, fun k hk => ?_⟩⟩
  · have := h.n0
    unfold vld at v
    unfold opErr
    unfold opSz at h1
    rw [if_neg (by omega)]
    rcases v with ⟨e, v1, v2⟩ | ⟨e, v1, v2, v3⟩ | ⟨e, v1, v2⟩
    · rw [if_pos e, if_neg (by omega), if_neg (by rw [if_pos e] at h1; omega)]
    · rw [if_neg (by omega), if_pos e, if_neg (by omega), if_pos v3]
    · rw [if_neg (by omega), if_neg (by omega), if_pos e, if_pos v1, if_pos v2]
  · have := h.hi (k + 1) (by simpa using hk)
    rw [List.take_succ_cons] at this
    simp only [szs] at this
    omega
theorem allRoom {n : Int} {a b : List Op} (h : allErr n a b = 0) (h0 : 0 ≤ n) (h1 : n ≤ 200) : okL n a ∧ okL n b ∧ n + szs a + a.length + b.length ≤ 200 ∧ n + szs b + a.length + b.length ≤ 200 ∧ a.length ≤ 30 ∧ b.length ≤ 30 := by
  unfold allErr at h
  by_cases h3 : 30 < a.length ∨ 30 < b.length
  · rw [if_pos h3] at h; omega
  · rw [if_neg h3] at h
    by_cases hc : chk a.length b.length n a = 0
    · rw [if_pos hc] at h
      obtain ⟨a1, a2, a3⟩ := chk_ok hc
      obtain ⟨b1, b2, b3⟩ := chk_ok h
      have ra : n + szs a + a.length + b.length ≤ 200 := by
        rcases Nat.eq_zero_or_pos a.length with e | e
        · have : a = [] := List.eq_nil_of_length_eq_zero e
          subst this
          simp only [szs] at a2 ⊢
          exact wrap_room (by omega) (by omega) (by omega) (by simp) (by omega) (by omega) a2
        · obtain ⟨c1, c2, c3⟩ := a3 e
          exact wrap_room c2 c3 (by omega) (by omega) (by omega) (by omega) a2
      have rb : n + szs b + a.length + b.length ≤ 200 := by
        rcases Nat.eq_zero_or_pos b.length with e | e
        · have : b = [] := List.eq_nil_of_length_eq_zero e
          subst this
          simp only [szs] at b2 ⊢
          exact wrap_room (by omega) (by omega) (by omega) (by omega) (by omega) (by simp) b2
        · obtain ⟨c1, c2, c3⟩ := b3 e
          exact wrap_room c2 c3 (by omega) (by omega) (by omega) (by omega) b2
      exact ⟨a1, b1, ra, rb, by omega, by omega⟩
    · rw [if_neg hc] at h; exact absurd h hc
theorem go_both {n : Int} {a b c : List Op} (hr : n + szs a + a.length + b.length ≤ 200) (h0 : 0 ≤ n) (ha : okL n a) (hc : okL (n + szs a) c) (hl : c.length = b.length) : GoOk n (a ++ c) where
  ok := okL_append.2 ⟨ha, hc⟩
  n0 := h0
  hi := by
    intro k hk
    rw [List.take_append, szs_append]
    have h1 := szs_take_le c (k - a.length)
    rcases Nat.lt_or_ge k a.length with h | h
    · rw [show k - a.length = 0 by omega, List.take_zero]
      simp only [szs]
      have := room (lb := (b.length : Int)) hr k (by omega)
      omega
    · rw [List.take_of_length_le (l := a) h]
      have := (szs_bd a).1
      omega
/-- What the law says. -/
theorem meet_law {s : List UInt8} {a b : List Ed} (ha : Asc a) (hb : Asc b) (la : ∀ z ∈ a, z.at_ + z.del ≤ s.length) (lb : ∀ z ∈ b, z.at_ + z.del ≤ s.length)
    (hab : ∀ x ∈ a, ∀ y ∈ b, x.at_ + x.del < y.at_ ∨ y.at_ + y.del < x.at_) (h200 : s.length ≤ 200) (hall : allErr s.length (opsL a) (opsL b) = 0) :
    doAll s (opsL a ++ runL true (opsL a) (opsL b)) = doAll s (opsL (mergeB a b)) ∧ doAll s (opsL b ++ runO true (opsL a) (opsL b)) = doAll s (opsL (mergeB a b)) ∧
      GoOk s.length (opsL a ++ runL true (opsL a) (opsL b)) ∧ GoOk s.length (opsL b ++ runO true (opsL a) (opsL b)) := by
  obtain ⟨h1, h2⟩ := meetR (f := true) (mergeB_mrg a b ha hb hab) ha.desc hb.desc s (fun z hz => la z (List.mem_reverse.1 hz)) (fun z hz => lb z (List.mem_reverse.1 hz))
  obtain ⟨oa, ob, ra, rb, _, _⟩ := allRoom hall (by omega) (by omega)
  have k1 := run_ok true oa ob (by omega) (opsL a).length (Nat.le_refl _)
  rw [List.take_length] at k1
  have k2 := run_ok false ob oa (by omega) (opsL b).length (Nat.le_refl _)
  rw [List.take_length] at k2
  obtain ⟨e1, e2⟩ := run_swap true (opsL a) (opsL b)
  have e3 : runL false (opsL b) (opsL a) = runO true (opsL a) (opsL b) := e2
  rw [e3] at k2
  refine ⟨h1, h2, go_both (b := opsL b) ra (by omega) oa k1 (runL_length _ _ _), go_both (b := opsL a) (by omega) (by omega) ob k2 (runO_length _ _ _)⟩
end Go.Proofs.Ytmikckhihfcooaa
namespace Go.Proofs.Ytmikckhihfcooaa
open Go.RowKit
def Ed.cells (x : Ed) : List Value := [.int .i64 x.at_, .int .i64 x.del, .string (S x.ins)]
def edCells (l : List Ed) : List Value := l.flatMap Ed.cells
theorem flat_len {α : Type} {ec : α → List Value} {m : Nat} (hec : ∀ x, (ec x).length = m) (l : List α) : (l.flatMap ec).length = l.length * m := by
  induction l with
  | nil => simp
  | cons a l ih => rw [List.flatMap_cons, List.length_append, ih, hec, List.length_cons, Nat.add_mul, Nat.one_mul, Nat.add_comm]
theorem flat_get {α : Type} {ec : α → List Value} {m : Nat} (hec : ∀ x, (ec x).length = m) (l : List α) (k : Nat) (hk : k < l.length) (j : Nat) (hj : j < m) : (l.flatMap ec)[k * m + j]? = (ec (l[k]'hk))[j]? := by
  induction l generalizing k with
  | nil => simp at hk
  | cons a l ih =>
    rw [List.flatMap_cons]
    cases k with
    | zero => rw [List.getElem?_append_left (by rw [hec]; omega)]; simp
    | succ k =>
      have := ih k (by simpa using hk)
      rw [List.getElem?_append_right (by rw [hec, Nat.add_mul]; omega), hec, List.getElem_cons_succ, ← this, Nat.add_mul]
      congr 1; omega
/-- A record of a slice that reads. -/
theorem Rd.at_rec {α : Type} {ec : α → List Value} {m : Nat} (hec : ∀ x, (ec x).length = m) (hm : 0 < m) {w : World} {B n : Nat} {A : Option Addr} {l : List α} (h : Rd w B m A n (l.flatMap ec)) {k : Nat} (hk : k < n) :
    ∃ ad, ∃ hl : k < l.length, A = some ad ∧ ad.block < B ∧ ∀ j u, (ec l[k])[j]? = some u → w.cell? (ad.add (k * m + j)) = some u := by
  have hl : l.length = n := by
    have := h.1
    rw [flat_len hec] at this
    exact Nat.eq_of_mul_eq_mul_right hm this
  obtain ⟨ad, e, hb, hc⟩ := h.2 (by omega)
  refine ⟨ad, by omega, e, hb, fun j u hu => ?_⟩
  have hj : j < m := by rw [← hec (l[k]'(by omega))]; exact (List.getElem?_eq_some_iff.1 hu).1
  exact hc _ _ (by rw [flat_get hec l k (by omega) j hj]; exact hu)
theorem Rd.rec_len {α : Type} {ec : α → List Value} {m : Nat} (hec : ∀ x, (ec x).length = m) (hm : 0 < m) {w : World} {B n : Nat} {A : Option Addr} {l : List α} (h : Rd w B m A n (l.flatMap ec)) : l.length = n := by
  have := h.1
  rw [flat_len hec] at this
  exact Nat.eq_of_mul_eq_mul_right hm this
theorem ed_len (x : Ed) : x.cells.length = 3 := rfl
theorem Rd.at_ed {w : World} {B n : Nat} {A : Option Addr} {l : List Ed} (h : Rd w B 3 A n (edCells l)) {k : Nat} (hk : k < n) :
    ∃ ad, ∃ hl : k < l.length, A = some ad ∧ ad.block < B ∧ w.cell? (ad.add (k * 3)) = some (.int .i64 l[k].at_) ∧ w.cell? ⟨(ad.add (k * 3)).block, (ad.add (k * 3)).off + 1, none⟩ = some (.int .i64 l[k].del) ∧
      w.cell? ⟨(ad.add (k * 3)).block, (ad.add (k * 3)).off + 2, none⟩ = some (.string (S l[k].ins)) := by
  obtain ⟨ad, hl, e, hb, hc⟩ := Rd.at_rec ed_len (by omega) h hk
  refine ⟨ad, hl, e, hb, hc 0 _ rfl, ?_, ?_⟩
  · have h1 := hc 1 _ rfl
    rwa [← add_add] at h1
  · have h1 := hc 2 _ rfl
    rwa [← add_add] at h1
theorem isEmpty_size (l : List UInt8) : (S l).toList.isEmpty = decide (l.length = 0) := by
  have : (S l).toList = l := ByteArray.toList_eq _
  rw [this]; cases l <;> simp
/-- As the checks ask it. -/
def edAt (n : Int) (k : Nat) (e : Int) (x : Ed) : Int :=
  if x.at_ < 0 ∨ x.del < 0 ∨ n < x.at_ ∨ n < x.at_ + x.del then 1 else if 40 < x.ins.length then 2 else if x.del = 0 ∧ x.ins.length = 0 then 5 else if 0 < k ∧ x.at_ ≤ e then 6 else 0
/-- Where the loop of the checks stands. -/
structure EdAt (n : Int) (l : List Ed) (k : Nat) (e : Int) : Prop where
  le : k ≤ l.length
  e0 : 0 ≤ e
  e1 : e ≤ n
  go : edGo n none n l = edGo n (lastEnd (l.take k)) (n + grows (l.take k)) (l.drop k)
  last : lastEnd (l.take k) = if k = 0 then none else some e
  lo : -(200 * k : Int) ≤ grows (l.take k)
  hi : grows (l.take k) ≤ 40 * k
  chain : ∀ x ∈ l.take k, 0 ≤ x.del ∧ x.del ≤ 200 ∧ x.ins.length ≤ 40
theorem edAt_eq {n : Int} {l : List Ed} {k : Nat} {e : Int} (h : EdAt n l k e) (x : Ed) : edOne n (lastEnd (l.take k)) x = edAt n k e x := by
  unfold edOne edAt
  rw [h.last]
  have : (∃ e_1, (if k = 0 then none else some e) = some e_1 ∧ x.at_ ≤ e_1) ↔ (0 < k ∧ x.at_ ≤ e) := by
    by_cases hk : k = 0
    · simp [hk]
    · rw [if_neg hk]
      constructor
      · rintro ⟨_, h1, h2⟩; cases h1; exact ⟨by omega, h2⟩
      · rintro ⟨_, h2⟩; exact ⟨_, rfl, h2⟩
  simp only [this]
theorem EdAt.start {n : Int} (h : 0 ≤ n) (l : List Ed) : EdAt n l 0 0 := ⟨Nat.zero_le _, Int.le_refl _, h, by simp [lastEnd, grows], by simp [lastEnd], by simp [grows], by simp [grows], by simp⟩
theorem EdAt.step {n : Int} {l : List Ed} {k : Nat} {e : Int} (h : EdAt n l k e) (hn : n ≤ 200) (hk : k < l.length) (h0 : edAt n k e l[k] = 0) : EdAt n l (k + 1) (l[k].at_ + l[k].del) ∧ grows (l.take (k + 1)) = grows (l.take k) + (l[k].ins.length - l[k].del) := by
  have hg : grows (l.take (k + 1)) = grows (l.take k) + (l[k].ins.length - l[k].del) := by
    rw [List.take_succ_eq_append_getElem hk, grows_append]; simp [grows]
  have h1 := edAt_eq h l[k]
  rw [h0] at h1
  obtain ⟨a, b, c, d, f, _⟩ := edOne_zero h1
  have hlo := h.lo
  have hhi := h.hi
  refine ⟨⟨hk, by omega, d, edGo_take n l k hk h.go h1, ?_, by rw [hg]; omega, by rw [hg]; omega, ?_⟩, hg⟩
  · rw [lastEnd_take l k hk, if_neg (by omega)]
  · intro x hx
    rw [List.take_succ_eq_append_getElem hk] at hx
    rcases List.mem_append.1 hx with hx | hx
    · exact h.chain x hx
    · simp only [List.mem_singleton] at hx; subst hx; omega
theorem EdAt.bad {n : Int} {l : List Ed} {k : Nat} {e : Int} (h : EdAt n l k e) (hn0 : 0 ≤ n) (hn : n ≤ 200) (hl : l.length ≤ 20) (hk : k < l.length) {c : Int} (hc : edAt n k e l[k] = c) (hc0 : c ≠ 0) : edErr n l = c := by
  have h1 := edAt_eq h l[k]
  unfold edErr
  rw [if_neg (by omega), if_neg (by omega), edGo_bad n l k hk h.go (by rw [h1, hc]; exact hc0), h1, hc]
theorem EdAt.fin {n : Int} {l : List Ed} {k : Nat} {e : Int} (h : EdAt n l k e) (hn0 : 0 ≤ n) (hn : n ≤ 200) (hl : l.length ≤ 20) (hk : ¬ k < l.length) : edErr n l = if 200 < n + grows (l.take k) then 11 else 0 := by
  obtain rfl : k = l.length := by have := h.le; omega
  unfold edErr
  rw [if_neg (by omega), if_neg (by omega), edGo_end n l h.go, List.take_length]
set_option maxRecDepth 100000 in
set_option maxHeartbeats 2000000 in
theorem edCheck_any (n : Int) (l : List Ed) (A : Option Addr) (m c B : Nat) (w : World) (hr : Rd w B 3 A m (edCells l)) (hB : B ≤ w.heap.size) (hm : m ≤ 9223372036854775807) :
    Calls Try.prog 12 #[.int .i64 n, .slice A m c] w fun e w' => e = .returned (.int .i64 (edErr n l)) ∧ Below w.heap.size w w' := by
  have hlen := Rd.rec_len ed_len (by omega) hr
  by_cases hn : n < 0 ∨ 200 < n
  · have HE : Hid (edErr n l = 1) := by unfold Hid edErr; rw [if_pos hn]
    have HN := Lib.hid hn; clear hn hr
    go_enter Try.func12, Try.ntmps12
    go_wp2
    all_goals first
      | (go_ret; exact ⟨ret_int HE.out.symm, Below.refl _ _⟩)
      | (exfalso; have := HN.out; omega)
  have hn0 : 0 ≤ n := by omega
  have hn1 : n ≤ 200 := by omega
  have HN := Lib.hid hn; clear hn
  by_cases h20 : 20 < m
  · have HE : Hid (edErr n l = 2) := by unfold Hid edErr; rw [if_neg HN.out, if_pos (by omega)]
    clear hr
    go_enter Try.func12, Try.ntmps12
    go_wp2
    go_ret
    exact ⟨ret_int HE.out.symm, Below.refl _ _⟩
  have HR := Lib.hid hr; clear hr
  have HL := Lib.hid hlen; clear hlen
  go_enter Try.func12, Try.ntmps12
  go_wp2
  go_loopw [5, 6, 21] (fun e s i wr => ∃ (k : Nat) (e' : Int), EdAt n l k e' ∧ i = .int .i64 k ∧ e = .int .i64 e' ∧ s = .int .i64 (n + grows (l.take k)) ∧ Below w.heap.size w wr)
    (fun _ _ i _ => m - (intOf i).toNat)
  case atStart => exact ⟨0, 0, EdAt.start hn0 l, rfl, rfl, by simp [grows], Below.refl _ _⟩
  case round =>
    obtain ⟨k, e', HA, rfl, rfl, rfl, hb⟩ := hrel
    have hk := HA.le
    rw [HL.out] at hk
    have hbs := hb.size
    have he0 := HA.e0
    have he1 := HA.e1
    have glo := HA.lo
    have ghi := HA.hi
    by_cases hlt : k < m
    · obtain ⟨ad, hl, rfl, hab, c0, c1, c2⟩ := (HR.out.below (hb.mono hB)).at_ed hlt
      have HSt : Hid (edAt n k e' l[k] = 0 → EdAt n l (k + 1) (l[k].at_ + l[k].del) ∧ grows (l.take (k + 1)) = grows (l.take k) + (l[k].ins.length - l[k].del)) := HA.step hn1 hl
      have HBd : Hid (∀ c, edAt n k e' l[k] = c → c ≠ 0 → edErr n l = c) := fun c => HA.bad hn0 hn1 (by rw [HL.out]; omega) hl
      have hz : (S l[k].ins).size = l[k].ins.length := S_size _
      have HZ := Lib.hid hz; clear hz
      generalize l[k] = x at *
      generalize grows (l.take k) = g at *
      obtain ⟨xa, xd, xi⟩ := x
      simp only at c0 c1 c2 HSt HBd HZ
      clear HA
      have HZ1 : Hid ((S xi).toList.isEmpty = decide (xi.length = 0)) := isEmpty_size xi
      go_wp2
      all_goals first
        | (go_ret
           refine ⟨ret_int (HBd.out _ ?_ (by decide)).symm, (by repeat (first | exact Below.refl _ _ | assumption | refine Below.alloc ?_ (by first | exact Nat.le_refl _ | assumption | omega | (simp <;> omega)) _ | refine Below.setCell ?_ (by first | exact Nat.le_refl _ | assumption | omega | (simp <;> omega)) _ | refine Below.drew ?_ | refine below_drewN ?_ _))⟩
           go_light
           have hz := HZ.out; have hz1 := HZ1.out
           clear HBd HSt HZ HZ1
           unfold edAt
           grind)
        | (go_roundw
           case rel =>
             go_light
             have hz := HZ.out; have hz1 := HZ1.out
             have h0 : edAt n k e' ⟨xa, xd, xi⟩ = 0 := by
               clear HBd HSt HZ HZ1
               unfold edAt
               grind
             obtain ⟨h1, h2⟩ := HSt.out h0
             exact ⟨k + 1, _, h1, by go_num, by first | rfl | (congr 1; omega), by rw [h2, hz]; congr 1; omega, (by repeat (first | exact Below.refl _ _ | assumption | refine Below.alloc ?_ (by first | exact Nat.le_refl _ | assumption | omega | (simp <;> omega)) _ | refine Below.setCell ?_ (by first | exact Nat.le_refl _ | assumption | omega | (simp <;> omega)) _ | refine Below.drew ?_ | refine below_drewN ?_ _))⟩
           case measure => simp [intOf]; omega)
    · have HF := Lib.hid (HA.fin hn0 hn1 (by rw [HL.out]; omega) (by rw [HL.out]; omega))
      clear HA
      go_wp2
      all_goals go_ret
      all_goals refine ⟨ret_int ?_, hb⟩
      all_goals (rw [HF.out]; split <;> first | rfl | omega)
end Go.Proofs.Ytmikckhihfcooaa
namespace Go.Proofs.Ytmikckhihfcooaa
open Go.RowKit
set_option maxRecDepth 100000 in
set_option maxHeartbeats 2000000 in
theorem clash_any (x y : Ed) (hx : 0 ≤ x.at_ ∧ x.at_ ≤ 200 ∧ 0 ≤ x.del ∧ x.del ≤ 200) (hy : 0 ≤ y.at_ ∧ y.at_ ≤ 200 ∧ 0 ≤ y.del ∧ y.del ≤ 200) (w : World) :
    Calls Try.prog 11 #[.agg #[.int .i64 x.at_, .int .i64 x.del, .string (S x.ins)], .agg #[.int .i64 y.at_, .int .i64 y.del, .string (S y.ins)]] w fun e w' => e = .returned (.bool (decide (clashE x y))) ∧ Below w.heap.size w w' := by
  obtain ⟨xa, xd, xi⟩ := x
  obtain ⟨ya, yd, yi⟩ := y
  simp only at hx hy ⊢
  have HR : Hid ((decide (clashE ⟨xa, xd, xi⟩ ⟨ya, yd, yi⟩) = true) ↔ (¬ (xa = ya ∧ xd = yd ∧ (S xi).toList = (S yi).toList) ∧ xa ≤ ya + yd ∧ ya ≤ xa + xd)) := by
    rw [Hid, decide_eq_true_iff, ByteArray.toList_eq, ByteArray.toList_eq]
    unfold clashE
    rw [ne_eq, Ed.mk.injEq]
    exact Iff.rfl
  generalize decide (clashE ⟨xa, xd, xi⟩ ⟨ya, yd, yi⟩) = r at *
  generalize S xi = X at *
  generalize S yi = Y at *
  go_enter Try.func11, Try.ntmps11
  go_wp2_with fail
  all_goals go_ret
  all_goals refine ⟨ret_bool ?_, (by repeat (first | exact Below.refl _ _ | assumption | refine Below.alloc ?_ (by first | exact Nat.le_refl _ | assumption | omega | (simp <;> omega)) _ | refine Below.setCell ?_ (by first | exact Nat.le_refl _ | assumption | omega | (simp <;> omega)) _ | refine Below.drew ?_ | refine below_drewN ?_ _))⟩
  all_goals rw [Bool.eq_iff_iff, HR.out]
  all_goals grind
theorem mergeCheck_any (n : Int) (a b : List Ed) (A A2 : Option Addr) (m c m2 c2 B : Nat) (w : World) (hr : Rd w B 3 A m (edCells a)) (hr2 : Rd w B 3 A2 m2 (edCells b)) (hB : B ≤ w.heap.size) (hm : m ≤ 9223372036854775807) (hm2 : m2 ≤ 9223372036854775807) :
    Calls Try.prog 7 #[.int .i64 n, .slice A m c, .slice A2 m2 c2] w fun e w' => e = .returned (.int .i64 (if edErr n a = 0 then edErr n b else edErr n a)) ∧ Below w.heap.size w w' := by
  have HA := Lib.hid (edCheck_any n a A m c B w hr hB hm)
  have HBb : Hid (∀ W, Below w.heap.size w W → Calls Try.prog 12 #[.int .i64 n, .slice A2 m2 c2] W fun e w' => e = .returned (.int .i64 (edErr n b)) ∧ Below W.heap.size W w') := fun W hW => edCheck_any n b A2 m2 c2 B W (hr2.below (hW.mono hB)) (Nat.le_trans hB hW.size) hm2
  clear hr hr2
  by_cases h : edErr n a = 0
  · rw [if_pos h]
    rw [h] at HA
    generalize edErr n b = eb at *
    clear h
    go_enter Try.func7, Try.ntmps7
    go_wp2_with fail
    refine HA.out.mono ?_
    rintro e w1 ⟨rfl, hb1⟩
    go_wp2_with fail
    refine (HBb.out w1 hb1).mono ?_
    rintro e w2 ⟨rfl, hb2⟩
    go_wp2_with fail
    go_ret
    exact ⟨rfl, bthen hb1 hb2⟩
  · rw [if_neg h]
    have g1 : (edErr n a != 0) = true := by rw [bne_iff_ne]; exact h
    generalize edErr n a = ea at *
    clear h
    go_enter Try.func7, Try.ntmps7
    go_wp2_with fail
    refine HA.out.mono ?_
    rintro e w1 ⟨rfl, hb1⟩
    go_wp2_with fail
    go_ret
    exact ⟨rfl, hb1⟩
end Go.Proofs.Ytmikckhihfcooaa
