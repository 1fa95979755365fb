/- Two scripts that do not touch, made one; and what the operations come to (plain). -/
import Derived.Test.YtllcmmpepchieaaMet1
import Derived.Test.YtllcmmpepchieaaShiftD
namespace Go.Proofs.Ytllcmmpepchieaa
/-- Two scripts as one. -/
def mergeB : List Ed → List Ed → List Ed
  | [], b => b
  | x :: a, [] => x :: a
  | x :: a, y :: b => if x.at_ < y.at_ then x :: mergeB a (y :: b) else if y.at_ < x.at_ then y :: mergeB (x :: a) b else x :: mergeB a b
termination_by a b => a.length + b.length
theorem mergeB_nil (a : List Ed) : mergeB a [] = a := by cases a <;> simp [mergeB]
theorem mergeB_len : ∀ (a b : List Ed), (mergeB a b).length ≤ a.length + b.length
  | [], b => by simp [mergeB]
  | x :: a, [] => by simp [mergeB]
  | x :: a, y :: b => by
    unfold mergeB
    split
    · have := mergeB_len a (y :: b)
      simp only [List.length_cons] at this ⊢; omega
    · split
      · have := mergeB_len (x :: a) b
        simp only [List.length_cons] at this ⊢; omega
      · have := mergeB_len a b
        simp only [List.length_cons] at this ⊢; omega
termination_by a b => a.length + b.length
theorem mergeB_mem : ∀ (a b : List Ed) (z : Ed), z ∈ mergeB a b → z ∈ a ∨ z ∈ b
  | [], b, z => by simp [mergeB]
  | x :: a, [], z => by simp [mergeB]
  | x :: a, y :: b, z => by
    unfold mergeB
    split
    · intro h
      rcases List.mem_cons.1 h with rfl | h
      · exact .inl List.mem_cons_self
      · rcases mergeB_mem a (y :: b) z h with h | h
        · exact .inl (List.mem_cons_of_mem _ h)
        · exact .inr h
    · split
      · intro h
        rcases List.mem_cons.1 h with rfl | h
        · exact .inr List.mem_cons_self
        · rcases mergeB_mem (x :: a) b z h with h | h
          · exact .inl h
          · exact .inr (List.mem_cons_of_mem _ h)
      · intro h
        rcases List.mem_cons.1 h with rfl | h
        · exact .inl List.mem_cons_self
        · rcases mergeB_mem a b z h with h | h
          · exact .inl (List.mem_cons_of_mem _ h)
          · exact .inr (List.mem_cons_of_mem _ h)
termination_by a b => a.length + b.length
/-- Do two edits lie over each other, or beside each other, without being one? -/
def clashE (x y : Ed) : Prop := x ≠ y ∧ x.at_ ≤ y.at_ + y.del ∧ y.at_ ≤ x.at_ + x.del
instance (x y : Ed) : Decidable (clashE x y) := by unfold clashE; infer_instance
/-- Edits, the first one first: apart, and right. -/
def Asc (l : List Ed) : Prop := l.Pairwise (fun z w => z.at_ + z.del < w.at_) ∧ ∀ z ∈ l, 0 ≤ z.at_ ∧ 0 ≤ z.del
theorem Asc.tail {x : Ed} {l : List Ed} (h : Asc (x :: l)) : Asc l ∧ (∀ z ∈ l, x.at_ + x.del < z.at_) ∧ 0 ≤ x.at_ ∧ 0 ≤ x.del := by
  obtain ⟨h1, h2⟩ := h
  obtain ⟨h3, h4⟩ := List.pairwise_cons.1 h1
  exact ⟨⟨h4, fun z hz => h2 z (List.mem_cons_of_mem _ hz)⟩, h3, h2 x List.mem_cons_self⟩
theorem Asc.desc {l : List Ed} (h : Asc l) : Desc l.reverse := ⟨List.pairwise_reverse.2 h.1, fun z hz => h.2 z (List.mem_reverse.1 hz)⟩
theorem Chain.asc {n : Int} {p : Option Int} {l : List Ed} (h : Chain n p l) : Asc l := by
  induction h with
  | nil p => exact ⟨List.Pairwise.nil, fun z hz => by cases hz⟩
  | cons p x r h0 h ih =>
    obtain ⟨h1, h2, _⟩ := edOne_zero h0
    refine ⟨List.pairwise_cons.2 ⟨fun z hz => (h.mem z hz).2.2.2.2.2 _ rfl, ih.1⟩, fun z hz => ?_⟩
    rcases List.mem_cons.1 hz with rfl | hz
    · exact ⟨h1, h2⟩
    · exact ih.2 z hz
theorem MrgR.under {ra rb rm : List Ed} (h : MrgR ra rb rm) {x : Ed} : (∀ z ∈ ra, x.at_ + x.del < z.at_) → (∀ z ∈ rb, x.at_ + x.del < z.at_) → MrgR (ra ++ [x]) rb (rm ++ [x]) ∧ MrgR ra (rb ++ [x]) (rm ++ [x]) := by
  induction h with
  | nil =>
    intro _ _
    exact ⟨.left (fun z hz => by cases hz) .nil, .right (fun z hz => by cases hz) .nil⟩
  | @left y a b m hy _ ih =>
    intro ha hb
    obtain ⟨i1, i2⟩ := ih (fun z hz => ha z (List.mem_cons_of_mem _ hz)) hb
    refine ⟨.left hy i1, .left (fun z hz => ?_) i2⟩
    rcases List.mem_append.1 hz with hz | hz
    · exact hy z hz
    · rw [List.mem_singleton.1 hz]; exact ha y List.mem_cons_self
  | @right y a b m hy _ ih =>
    intro ha hb
    obtain ⟨i1, i2⟩ := ih ha (fun z hz => hb z (List.mem_cons_of_mem _ hz))
    refine ⟨.right (fun z hz => ?_) i1, .right hy i2⟩
    rcases List.mem_append.1 hz with hz | hz
    · exact hy z hz
    · rw [List.mem_singleton.1 hz]; exact hb y List.mem_cons_self
theorem MrgR.nil_left : ∀ b : List Ed, MrgR [] b b
  | [] => .nil
  | _ :: b => .right (fun z hz => by cases hz) (MrgR.nil_left b)
theorem MrgR.nil_right : ∀ b : List Ed, MrgR b [] b
  | [] => .nil
  | _ :: b => .left (fun z hz => by cases hz) (MrgR.nil_right b)
theorem mergeB_mrg : ∀ (a b : List Ed), Asc a → Asc b → (∀ x ∈ a, ∀ y ∈ b, x.at_ + x.del < y.at_ ∨ y.at_ + y.del < x.at_) → MrgR a.reverse b.reverse (mergeB a b).reverse
  | [], b, _, _, _ => by
    rw [show mergeB [] b = b by simp [mergeB], List.reverse_nil]
    exact MrgR.nil_left _
  | x :: a, [], _, _, _ => by
    rw [mergeB_nil, List.reverse_nil]
    exact MrgR.nil_right _
  | x :: a, y :: b, ha, hb, hab => by
    obtain ⟨a1, a2, a3, a4⟩ := ha.tail
    obtain ⟨b1, b2, b3, b4⟩ := hb.tail
    have hxy := hab x List.mem_cons_self y List.mem_cons_self
    unfold mergeB
    by_cases h : x.at_ < y.at_
    · rw [if_pos h, show (x :: a).reverse = a.reverse ++ [x] from List.reverse_cons, show (x :: mergeB a (y :: b)).reverse = (mergeB a (y :: b)).reverse ++ [x] from List.reverse_cons]
      refine ((mergeB_mrg a (y :: b) a1 hb fun u hu v hv => hab u (List.mem_cons_of_mem _ hu) v hv).under (fun z hz => a2 z (List.mem_reverse.1 hz)) fun z hz => ?_).1
      rcases List.mem_cons.1 (List.mem_reverse.1 hz) with rfl | hz
      · omega
      · have := b2 z hz; omega
    · rw [if_neg h]
      have h2 : y.at_ < x.at_ := by omega
      rw [if_pos h2, show (y :: b).reverse = b.reverse ++ [y] from List.reverse_cons, show (y :: mergeB (x :: a) b).reverse = (mergeB (x :: a) b).reverse ++ [y] from List.reverse_cons]
      refine ((mergeB_mrg (x :: a) b ha b1 fun u hu v hv => hab u hu v (List.mem_cons_of_mem _ hv)).under (fun z hz => ?_) fun z hz => b2 z (List.mem_reverse.1 hz)).2
      rcases List.mem_cons.1 (List.mem_reverse.1 hz) with rfl | hz
      · omega
      · have := a2 z hz; omega
termination_by a b => a.length + b.length
theorem doB_L (s : ByteArray) (x : Op) : L (doB s x) = doL (L s) x := by
  unfold doB doL
  split
  · rw [L_append, L_append, L_extract, L_extract, List.drop_zero, Nat.sub_zero, List.take_of_length_le (l := List.drop _ _) (by rw [List.length_drop, L_len]; exact Nat.le_refl _)]; rfl
  · split
    · rw [L_append, L_extract, L_extract, List.drop_zero, Nat.sub_zero, List.take_of_length_le (l := List.drop _ _) (by rw [List.length_drop, L_len]; exact Nat.le_refl _)]
    · rfl
theorem szs_take_le (l : List Op) (k : Nat) : szs (l.take k) ≤ l.length := by
  have h1 := (szs_bd (l.take k)).2
  rw [List.length_take] at h1
  omega
/-- A row of operations that a text of n bytes may take, one by one. -/
structure GoOk (n : Int) (l : List Op) : Prop where
  ok : okL n l
  n0 : 0 ≤ n
  hi : ∀ k, k ≤ l.length → n + szs (l.take k) ≤ 200
theorem GoOk.head {n : Int} {x : Op} {l : List Op} (h : GoOk n (x :: l)) : opErr n x = 0 ∧ GoOk (n + opSz x) l := by
  have h0 := h.hi 0 (Nat.zero_le _)
  have h1 := h.hi 1 (by simp)
  simp only [List.take_zero, szs, List.take_succ_cons] at h0 h1
  obtain ⟨v, r⟩ := h.ok
  have hn := vld_grow v h.n0
  refine ⟨?_, ⟨r, hn, fun k hk => ?_⟩⟩
  · have := h.n0
    unfold vld at v
    unfold opErr
    unfold opSz at h1
    rw [if_neg (by omega)]
    rcases v with ⟨e, v1, v2⟩ | ⟨e, v1, v2, v3⟩ | ⟨e, v1, v2⟩
    · rw [if_pos e, if_neg (by omega), if_neg (by rw [if_pos e] at h1; omega)]
    · rw [if_neg (by omega), if_pos e, if_neg (by omega), if_pos v3]
    · rw [if_neg (by omega), if_neg (by omega), if_pos e, if_pos v1, if_pos v2]
  · have := h.hi (k + 1) (by simpa using hk)
    rw [List.take_succ_cons] at this
    simp only [szs] at this
    omega
theorem allRoom {n : Int} {a b : List Op} (h : allErr n a b = 0) (h0 : 0 ≤ n) (h1 : n ≤ 200) : okL n a ∧ okL n b ∧ n + szs a + a.length + b.length ≤ 200 ∧ n + szs b + a.length + b.length ≤ 200 ∧ a.length ≤ 30 ∧ b.length ≤ 30 := by
  unfold allErr at h
  by_cases h3 : 30 < a.length ∨ 30 < b.length
  · rw [if_pos h3] at h; omega
  · rw [if_neg h3] at h
    by_cases hc : chk a.length b.length n a = 0
    · rw [if_pos hc] at h
      obtain ⟨a1, a2, a3⟩ := chk_ok hc
      obtain ⟨b1, b2, b3⟩ := chk_ok h
      have ra : n + szs a + a.length + b.length ≤ 200 := by
        rcases Nat.eq_zero_or_pos a.length with e | e
        · have : a = [] := List.eq_nil_of_length_eq_zero e
          subst this
          simp only [szs] at a2 ⊢
          exact wrap_room (by omega) (by omega) (by omega) (by simp) (by omega) (by omega) a2
        · obtain ⟨c1, c2, c3⟩ := a3 e
          exact wrap_room c2 c3 (by omega) (by omega) (by omega) (by omega) a2
      have rb : n + szs b + a.length + b.length ≤ 200 := by
        rcases Nat.eq_zero_or_pos b.length with e | e
        · have : b = [] := List.eq_nil_of_length_eq_zero e
          subst this
          simp only [szs] at b2 ⊢
          exact wrap_room (by omega) (by omega) (by omega) (by omega) (by omega) (by simp) b2
        · obtain ⟨c1, c2, c3⟩ := b3 e
          exact wrap_room c2 c3 (by omega) (by omega) (by omega) (by omega) b2
      exact ⟨a1, b1, ra, rb, by omega, by omega⟩
    · rw [if_neg hc] at h; exact absurd h hc
theorem go_both {n : Int} {a b c : List Op} (hr : n + szs a + a.length + b.length ≤ 200) (h0 : 0 ≤ n) (ha : okL n a) (hc : okL (n + szs a) c) (hl : c.length = b.length) : GoOk n (a ++ c) where
  ok := okL_append.2 ⟨ha, hc⟩
  n0 := h0
  hi := by
    intro k hk
    rw [List.take_append, szs_append]
    have h1 := szs_take_le c (k - a.length)
    rcases Nat.lt_or_ge k a.length with h | h
    · rw [show k - a.length = 0 by omega, List.take_zero]
      simp only [szs]
      have := room (lb := (b.length : Int)) hr k (by omega)
      omega
    · rw [List.take_of_length_le (l := a) h]
      have := (szs_bd a).1
      omega
/-- What the law says. -/
theorem meet_law {s : List UInt8} {a b : List Ed} (ha : Asc a) (hb : Asc b) (la : ∀ z ∈ a, z.at_ + z.del ≤ s.length) (lb : ∀ z ∈ b, z.at_ + z.del ≤ s.length)
    (hab : ∀ x ∈ a, ∀ y ∈ b, x.at_ + x.del < y.at_ ∨ y.at_ + y.del < x.at_) (h200 : s.length ≤ 200) (hall : allErr s.length (opsL a) (opsL b) = 0) :
    doAll s (opsL a ++ runL true (opsL a) (opsL b)) = doAll s (opsL (mergeB a b)) ∧ doAll s (opsL b ++ runO true (opsL a) (opsL b)) = doAll s (opsL (mergeB a b)) ∧
      GoOk s.length (opsL a ++ runL true (opsL a) (opsL b)) ∧ GoOk s.length (opsL b ++ runO true (opsL a) (opsL b)) := by
  obtain ⟨h1, h2⟩ := meetR (f := true) (mergeB_mrg a b ha hb hab) ha.desc hb.desc s (fun z hz => la z (List.mem_reverse.1 hz)) (fun z hz => lb z (List.mem_reverse.1 hz))
  obtain ⟨oa, ob, ra, rb, _, _⟩ := allRoom hall (by omega) (by omega)
  have k1 := run_ok true oa ob (by omega) (opsL a).length (Nat.le_refl _)
  rw [List.take_length] at k1
  have k2 := run_ok false ob oa (by omega) (opsL b).length (Nat.le_refl _)
  rw [List.take_length] at k2
  obtain ⟨e1, e2⟩ := run_swap true (opsL a) (opsL b)
  have e3 : runL false (opsL b) (opsL a) = runO true (opsL a) (opsL b) := e2
  rw [e3] at k2
  refine ⟨h1, h2, go_both (b := opsL b) ra (by omega) oa k1 (runL_length _ _ _), go_both (b := opsL a) (by omega) (by omega) ob k2 (runO_length _ _ _)⟩
end Go.Proofs.Ytllcmmpepchieaa
