/- 'append' to a row of the call's own: where the new row lies; rows that begin inside their block. A region that draws its order, whose last operation waits for all others: the walk along a schedule; what the schedule's loads lean on need not hold behind that last operation. No program in sight. An editor of a text: its steps as plain functions; where it lies. -/
import Derived.Test.YtplgghjdidmcfaaGreatDoorPk08
import Derived.Maps.AppendAt
import Derived.Test.YtplgghjdidmcfaaGreatDoorPk03
import Derived.Test.YtplgghjdidmcfaaGreatDoorPk13
import Derived.Test.YtplgghjdidmcfaaGreatDoorPk05
namespace Go.Proofs.YtplgghjdidmcfaaGreatDoor
open Go.RowKit
/-- As wpList_appG, and it is told where the new row lies. -/
theorem wpList_appN {P : Program} {w : World} {ops : Array Oper} {rest : List Oper} {o : Oper} {a : Act} {Q : Exit → Act → World → Prop} (hgd : o.guard = none) (s x : Operand) (t : TypeId)
    (ho : o.op = .call { callee := .builtin .append, args := #[s, x], argTypes := #[t, t] })
    (base : Nat) (e : TypeId) (i : TypeInfo) (z : Value) (size bytes : Nat) (ht : P.underlying t = some (.slice e)) (hi : P.info? e = some i) (hz : i.zero = some z)
    (hsize : i.size = size) (hby : i.bytes = bytes) (hzs : z.cells.size = size) (hsz : 0 < size)
    (v : Value) (n : Nat) (xs : List Value) (hs : a.eval s = v) (hown : w.ownsRow base e size v n xs)
    (ad : Addr) (m c : Nat) (news : List Value) (hx : a.eval x = .slice (some ad) m c) (hl : news.length = m * size) (hnews : ∀ j u, news[j]? = some u → w.cell? (ad.add j) = some u) (h1 : ∀ u ∈ news, u.oneCell' = true)
    (hbytes : (n + m) * bytes ≤ 140737488355328) (hb0 : 0 < bytes) (hbase : base ≤ w.heap.size)
    (h : ∀ v' w', w'.ownsRow base e size v' (n + m) (xs ++ news) → w.grownBy w' v.ownBlock → Below base w w' → (v'.ownBlock = v.ownBlock ∨ v'.ownBlock = some w.heap.size) → wpList P ops Q rest (a.put o.dst v') w') : wpList P ops Q (o :: rest) a w :=
  wpList_plain hgd fun _ hK => by
    obtain ⟨v', w', hr, h2, h3, _, h5⟩ := run_append_own_at (P := P) w base t o.type e i z size bytes ht hi hz hsize hby hzs hsz v n xs hown ad m c news hl hnews h1
      (by have := Nat.le_mul_of_pos_right (n + m) hb0; unfold maxLen; omega) hbytes hbase
    unfold Oper.wp execOp
    simp only [ho, resolve, invoke, builtin, Sem.run_bind, Sem.run_pure, Result.andThen_ok, List.map_toArray, List.map_cons, List.map_nil, hs, hx, hr]
    exact hK _ _ (h v' w' h2 h3 ((Below.refl base w).grown h3 hbase (fun k hk => (hown.lt k hk).1)) h5)
/-- Rows in unlike blocks. -/
def Apart (v v' : Value) : Prop := v.ownBlock = none ∨ v.ownBlock ≠ v'.ownBlock
theorem Apart.none_left (v : Value) : Apart (.slice none 0 0) v := .inl rfl
theorem Apart.symm {v v' : Value} (h : Apart v v') (hn : v'.ownBlock = none ∨ v.ownBlock ≠ none) : Apart v' v := by
  rcases h with h | h
  · rcases hn with h' | h'
    · exact .inl h'
    · exact absurd h h'
  · exact .inr (fun e => h e.symm)
theorem Apart.comm {v v' : Value} (h : Apart v v') : Apart v' v := by
  by_cases h' : v'.ownBlock = none
  · exact .inl h'
  · rcases h with h | h
    · exact .inr (fun e => h' (e.trans h))
    · exact .inr (fun e => h e.symm)
section
variable {w w' : World} {base base' : Nat} {e e' : TypeId} {size size' : Nat} {v v' u : Value} {n n' : Nat} {xs xs' : List Value}
/-- The row beside one that has been appended to. -/
theorem own_apart (h : w.ownsRow base e size v n xs) (ha : Apart v u) (hg : w.grownBy w' u.ownBlock) : w'.ownsRow base e size v n xs := h.kept hg ha
theorem apart_new (h : w.ownsRow base e size v n xs) (ha : Apart v u) (hu : v'.ownBlock = u.ownBlock ∨ v'.ownBlock = some w.heap.size) : Apart v v' := by
  rcases hu with hu | hu
  · rcases ha with ha | ha
    · exact .inl ha
    · exact .inr (by rw [hu]; exact ha)
  · cases hv : v.ownBlock with
    | none => exact .inl hv
    | some g =>
      refine .inr ?_
      rw [hv, hu]
      intro e
      have := (h.lt g hv).2
      simp only [Option.some.injEq] at e
      omega
end
/-- A row that begins at some place of its block. -/
def OwnO (w : World) (base : Nat) (e : TypeId) (size : Nat) (v : Value) (n : Nat) (xs : List Value) : Prop :=
  xs.length = n * size ∧ ((v = .slice none 0 0 ∧ n = 0) ∨ ∃ g o cap cur, v = .slice (some ⟨g, o, none⟩) n cap ∧ base ≤ g ∧ w.heap[g]? = some (.cells cur e (0, 0)) ∧ n ≤ cap ∧ cap ≤ maxLen ∧ o + cap * size ≤ cur.size ∧ (cur.toList.drop o).take (n * size) = xs)
section
variable {w w' : World} {base : Nat} {e : TypeId} {size : Nat} {v : Value} {n : Nat} {xs : List Value}
theorem OwnO.nil_ : OwnO w base e size (.slice none 0 0) 0 [] := ⟨by simp, .inl ⟨rfl, rfl⟩⟩
theorem OwnO.of_own (h : w.ownsRow base e size v n xs) : OwnO w base e size v n xs := by
  refine ⟨h.1, ?_⟩
  rcases h.2 with h | ⟨g, cap, cur, h1, h2, h3, h4, h5, h6, h7⟩
  · exact .inl h
  · exact .inr ⟨g, 0, cap, cur, h1, h2, h3, h4, h5, by omega, by simpa using h7⟩
theorem OwnO.lt (h : OwnO w base e size v n xs) : ∀ k, v.ownBlock = some k → base ≤ k ∧ k < w.heap.size := by
  intro k hk
  rcases h.2 with ⟨rfl, _⟩ | ⟨g, o, cap, cur, rfl, hb, hg, _⟩
  · simp [Value.ownBlock] at hk
  · simp [Value.ownBlock] at hk
    subst hk
    exact ⟨hb, (Array.getElem?_eq_some_iff.1 hg).1⟩
theorem OwnO.kept {row : Option Nat} (h : OwnO w base e size v n xs) (hg : w.grownBy w' row) (hne : v.ownBlock = none ∨ v.ownBlock ≠ row) : OwnO w' base e size v n xs := by
  refine ⟨h.1, ?_⟩
  rcases h.2 with hn | ⟨g, o, cap, cur, rfl, hb, hgg, rest⟩
  · exact .inl hn
  · refine .inr ⟨g, o, cap, cur, rfl, hb, ?_, rest⟩
    rw [hg.block g (Array.getElem?_eq_some_iff.1 hgg).1 (by simpa [Value.ownBlock] using hne)]
    exact hgg
theorem OwnO.below (h : OwnO w base e size v n xs) (hb : Below w.heap.size w w') : OwnO w' base e size v n xs := h.kept (gb_of_below hb none) (by cases hv : v.ownBlock <;> simp)
theorem OwnO.ne_blk {g : Nat} {t : TypeId} {cs : Array Value} (h : OwnO w base e size v n xs) (hg : Blk w g t cs) (hne : e ≠ t) : v.ownBlock = none ∨ v.ownBlock ≠ some g := by
  rcases h.2 with ⟨rfl, _⟩ | ⟨g', o, cap, cur, rfl, _, hh, _⟩
  · exact .inl rfl
  · refine .inr fun he => ?_
    simp only [Value.ownBlock, Option.some.injEq] at he
    subst he
    unfold Blk at hg
    rw [hh] at hg
    injection hg with hg
    injection hg with _ ht
    exact hne ht
theorem OwnO.form (h : OwnO w base e size v n xs) : ∃ A c, v = .slice A n c ∧ n ≤ c ∧ c ≤ maxLen ∧ Rd w w.heap.size size A n xs := by
  have h0 := h
  rcases h.2 with ⟨rfl, rfl⟩ | ⟨g, o, cap, cur, rfl, h2, h3, h4, h5, h6, h7⟩
  · have hx : xs = [] := List.eq_nil_of_length_eq_zero (by have := h.1; omega)
    subst hx
    exact ⟨none, 0, rfl, Nat.le_refl _, Nat.zero_le _, Rd.nil_⟩
  · refine ⟨_, cap, rfl, h4, h5, h.1, fun _ => ⟨_, rfl, (Array.getElem?_eq_some_iff.1 h3).1, fun j u hu => ?_⟩⟩
    have hadd : (⟨g, o, none⟩ : Addr).add j = ⟨g, o + j, none⟩ := by unfold Addr.add; split <;> simp_all
    rw [hadd, cell_of_row w g (o + j) cur e (0, 0) h3]
    rw [← h7] at hu
    have hj : j < n * size := by
      have := (List.getElem?_eq_some_iff.1 hu).1
      rw [List.length_take] at this; omega
    rw [List.getElem?_take_of_lt hj, List.getElem?_drop] at hu
    simpa using hu
/-- [:k]. -/
theorem OwnO.front (h : OwnO w base e size v n xs) (A : Option Addr) (c k : Nat) (hv : v = .slice A n c) (hk : k ≤ n) (hA : A ≠ none) : OwnO w base e size (.slice A k c) k (xs.take (k * size)) := by
  subst hv
  refine ⟨by rw [List.length_take, h.1]; exact Nat.min_eq_left (Nat.mul_le_mul_right _ hk), ?_⟩
  rcases h.2 with ⟨h1, _⟩ | ⟨g, o, cap, cur, h1, h2, h3, h4, h5, h6, h7⟩
  · injection h1 with h1; exact absurd h1 hA
  · injection h1 with h1 h1' h1''
    subst h1; subst h1''
    refine .inr ⟨g, o, c, cur, rfl, h2, h3, by omega, h5, h6, ?_⟩
    rw [← h7, List.take_take, Nat.min_eq_left (Nat.mul_le_mul_right _ hk)]
/-- [k:]. -/
theorem OwnO.behind (h : OwnO w base e size v n xs) (A : Option Addr) (c k : Nat) (hv : v = .slice A n c) (hk : k ≤ n) (hA : A ≠ none) : OwnO w base e size (.slice (if c = k then A else A.map (·.add (k * size))) (n - k) (c - k)) (n - k) (xs.drop (k * size)) := by
  subst hv
  refine ⟨by rw [List.length_drop, h.1, Nat.sub_mul], ?_⟩
  rcases h.2 with ⟨h1, _⟩ | ⟨g, o, cap, cur, h1, h2, h3, h4, h5, h6, h7⟩
  · injection h1 with h1; exact absurd h1 hA
  · injection h1 with h1 h1' h1''
    subst h1; subst h1''
    by_cases hc : c = k
    · rw [if_pos hc]
      have hn0 : n - k = 0 := by omega
      rw [hn0, show c - k = 0 by omega]
      refine .inr ⟨g, o, 0, cur, rfl, h2, h3, Nat.le_refl _, Nat.zero_le _, by omega, ?_⟩
      rw [List.drop_of_length_le (l := xs) (by rw [h.1]; exact Nat.mul_le_mul_right _ (by omega))]; simp
    · rw [if_neg hc]
      have hadd : (⟨g, o, none⟩ : Addr).add (k * size) = ⟨g, o + k * size, none⟩ := by unfold Addr.add; split <;> simp_all
      have hck : k * size + (c - k) * size = c * size := by rw [← Nat.add_mul]; congr 1; omega
      refine .inr ⟨g, o + k * size, c - k, cur, by rw [Option.map_some, hadd], h2, h3, by omega, by omega, by omega, ?_⟩
      rw [← h7, List.drop_take, List.drop_drop, Nat.sub_mul]
theorem run_append_O {P : Program} (t ty : TypeId) (i : TypeInfo) (z : Value) (bytes : Nat) (ht : P.underlying t = some (.slice e)) (hi : P.info? e = some i) (hz : i.zero = some z)
    (hsize : i.size = size) (hby : i.bytes = bytes) (hzs : z.cells.size = size) (hsz : 0 < size) (hown : OwnO w base e size v n xs)
    (a : Addr) (m c : Nat) (news : List Value) (hl : news.length = m * size) (hnews : ∀ j u, news[j]? = some u → w.cell? (a.add j) = some u) (h1 : ∀ u ∈ news, u.oneCell' = true)
    (h63 : n + m ≤ maxLen) (hbytes : (n + m) * bytes ≤ 140737488355328) (hbase : base ≤ w.heap.size) :
    ∃ v' w', (Builtin.append_ #[t, t] ty #[v, .slice (some a) m c]).run P w = .ok v' w' ∧ OwnO w' base e size v' (n + m) (xs ++ news) ∧ w.grownBy w' v.ownBlock ∧
      (v'.ownBlock = v.ownBlock ∨ v'.ownBlock = some w.heap.size) := by
  rcases hown.2 with ⟨rfl, rfl⟩ | ⟨g, o, cap, cur, rfl, hbg, hg, hnc, hcm, hcs, htake⟩
  · have hx : xs = [] := List.eq_nil_of_length_eq_zero (by simpa using hown.1)
    subst hx
    obtain ⟨v', w', h1, h2, h3, _, h5⟩ := run_append_own_at (P := P) w base t ty e i z size bytes ht hi hz hsize hby hzs hsz (.slice none 0 0) 0 [] (World.ownsRow_nil _ _ _ _) a m c news hl hnews h1 h63 hbytes hbase
    exact ⟨v', w', h1, OwnO.of_own h2, h3, h5⟩
  · subst hsize
    subst hby
    have hsmall : n + m ≤ 9223372036854775807 := by simp only [maxLen] at h63; omega
    have hlen : (xs ++ news).length = (n + m) * i.size := by rw [List.length_append, hown.1, hl, Nat.add_mul]
    by_cases hroom : n + m ≤ cap
    · have hfit : o + n * i.size + news.length ≤ cur.size := by
        rw [hl]
        have := Nat.mul_le_mul_right i.size hroom
        rw [Nat.add_mul] at this
        omega
      have hf := run_firstCells_some (P := P) w i.size m a m c news hl hnews
      have hst := run_storeCells_at P g (o + n * i.size) e news 0 cur w hg (by simpa using hfit) h1
      simp only [Nat.add_zero] at hst
      have hadd : (⟨g, o, none⟩ : Addr).add (n * i.size) = ⟨g, o + n * i.size, none⟩ := by unfold Addr.add; split <;> simp_all
      refine ⟨.slice (some ⟨g, o, none⟩) (n + m) cap, w.setRow g (cur.toList.take (o + n * i.size) ++ news ++ cur.toList.drop (o + n * i.size + news.length)).toArray, ?_, ⟨hlen, .inr ⟨g, o, cap, _, rfl, hbg, setRow_heap w g cur _ e _ hg, hroom, hcm, ?_, ?_⟩⟩, ⟨rfl, rfl, rfl, by simp, fun k _ hk => setRow_other w g k _ (fun e => hk (by simp [Value.ownBlock, e]))⟩, .inl rfl⟩
      · simp [Builtin.append_, run_underlying ht, sizeOf, typeInfo, hi, Builtin.lenOf, hroom, hf, hadd, hst]
      · simp only [List.size_toArray, List.length_append, List.length_take, List.length_drop, Array.length_toList]
        omega
      · have ht1 : (cur.toList.take (o + n * i.size)).drop o = xs := by rw [List.drop_take, Nat.add_sub_cancel_left, htake]
        have hlo : o ≤ (cur.toList.take (o + n * i.size)).length := by
          rw [List.length_take, Array.length_toList]; omega
        simp only [List.append_assoc]
        rw [List.drop_append_of_le_length hlo, ht1, ← List.append_assoc, ← hlen]
        exact List.take_left
    · have holds : ∀ j u, xs[j]? = some u → w.cell? ((⟨g, o, none⟩ : Addr).add j) = some u := by
        obtain ⟨A, c', hv, _, _, hr⟩ := hown.form
        intro j u hu
        rcases Nat.eq_zero_or_pos n with h0 | h0
        · have := hown.1
          rw [h0, Nat.zero_mul] at this
          have hj := (List.getElem?_eq_some_iff.1 hu).1
          omega
        · obtain ⟨ad, hA, _, hc⟩ := hr.2 h0
          injection hv with hv
          rw [← hv] at hA
          injection hA with hA
          rw [hA]; exact hc j u hu
      have hr := run_append_grow (P := P) w t ty e i z ht hi hz ⟨g, o, none⟩ n cap xs hown.1 holds a m c news hl hnews (by omega) (by omega) (growslice_fits (by omega) hbytes)
      have hge := grownCap_ge w (n + m) cap e
      have hcm' : grownCap w (n + m) cap e ≤ maxLen := grownCap_le_maxLen w (n + m) cap e h63
      refine ⟨_, _, hr, ⟨hlen, .inr ⟨w.heap.size, 0, _, _, rfl, hbase, heap_alloc_new w.drew _, hge, hcm', ?_, ?_⟩⟩, ⟨rfl, rfl, rfl, by simp, fun k hk _ => heap_alloc_old w.drew _ hk⟩, .inr rfl⟩
      · simp only [Array.size_append, List.size_toArray, size_zeroCells, hzs, hown.1, hl, ← Nat.add_mul, Nat.zero_add]
        apply Nat.le_of_eq
        congr 1
        omega
      · simp only [Array.toList_append, List.append_assoc, List.drop_zero]
        rw [← List.append_assoc, ← hlen]
        exact List.take_left
theorem wpList_appO {P : Program} {ops : Array Oper} {rest : List Oper} {o : Oper} {a : Act} {Q : Exit → Act → World → Prop} (hgd : o.guard = none) (s x : Operand) (t : TypeId)
    (ho : o.op = .call { callee := .builtin .append, args := #[s, x], argTypes := #[t, t] })
    (base : Nat) (e : TypeId) (i : TypeInfo) (z : Value) (size bytes : Nat) (ht : P.underlying t = some (.slice e)) (hi : P.info? e = some i) (hz : i.zero = some z)
    (hsize : i.size = size) (hby : i.bytes = bytes) (hzs : z.cells.size = size) (hsz : 0 < size)
    (v : Value) (n : Nat) (xs : List Value) (hs : a.eval s = v) (hown : OwnO w base e size v n xs)
    (ad : Addr) (m c : Nat) (news : List Value) (hx : a.eval x = .slice (some ad) m c) (hl : news.length = m * size) (hnews : ∀ j u, news[j]? = some u → w.cell? (ad.add j) = some u) (h1 : ∀ u ∈ news, u.oneCell' = true)
    (hbytes : (n + m) * bytes ≤ 140737488355328) (hb0 : 0 < bytes) (hbase : base ≤ w.heap.size)
    (h : ∀ v' w', OwnO w' base e size v' (n + m) (xs ++ news) → w.grownBy w' v.ownBlock → Below base w w' → (v'.ownBlock = v.ownBlock ∨ v'.ownBlock = some w.heap.size) → wpList P ops Q rest (a.put o.dst v') w') : wpList P ops Q (o :: rest) a w :=
  wpList_plain hgd fun _ hK => by
    obtain ⟨v', w', hr, h2, h3, h5⟩ := run_append_O (P := P) t o.type i z bytes ht hi hz hsize hby hzs hsz hown ad m c news hl hnews h1
      (by have := Nat.le_mul_of_pos_right (n + m) hb0; unfold maxLen; omega) hbytes hbase
    unfold Oper.wp execOp
    simp only [ho, resolve, invoke, builtin, Sem.run_bind, Sem.run_pure, Result.andThen_ok, List.map_toArray, List.map_cons, List.map_nil, hs, hx, hr]
    exact hK _ _ (h v' w' h2 h3 ((Below.refl base w).grown h3 hbase (fun k hk => (hown.lt k hk).1)) h5)
end
end Go.Proofs.YtplgghjdidmcfaaGreatDoor
namespace Go.Proofs.YtplgghjdidmcfaaGreatDoor
open Go.RowKit
section
variable {P : Program} {ops : Array Oper} {Q : Exit → Act → World → Prop} {S : World → Prop} {z : Nat}
/-- Does operation z wait for all others? -/
def lastB (ops : Array Oper) (z : Nat) (oz : Oper) : Bool := (List.range ops.size).all fun i => i == z || oz.after.any fun e => Region.binds .any e && (e.on == i || (match ops[e.on]? with
  | some o => o.after.any fun e' => Region.binds .any e' && e'.on == i
  | none => false))
/-- Whatever has come up, all that it waits for has come up. -/
def RgClosed (ops : Array Oper) (listed : Array Bool) : Prop := ∀ j o, listed.getD j false = true → ops[j]? = some o → ∀ e ∈ o.after, Region.binds .any e = true → listed.getD e.on false = true
theorem getD_true_of_set {listed : Array Bool} {i j : Nat} (h : (listed.setIfInBounds i true).getD j false = true) (hne : j ≠ i) : listed.getD j false = true := by
  rw [getD_set_ne false (Ne.symm hne)] at h; exact h
theorem RgClosed.set_ {ops : Array Oper} {listed : Array Bool} {i : Nat} (h : RgClosed ops listed) (hi : i ∈ Region.ready .any ops listed) : RgClosed ops (listed.setIfInBounds i true) := by
  intro j o hj ho e he hb
  by_cases hji : j = i
  · subst hji
    obtain ⟨_, o', ho', hall⟩ := mem_ready.1 hi
    rw [ho] at ho'; cases ho'
    exact getD_set_true (hall e he hb)
  · exact getD_set_true (h j o (getD_true_of_set hj hji) ho e he hb)
theorem RgClosed.start (ops : Array Oper) (n : Nat) : RgClosed ops (Array.replicate n false) := by
  intro j o hj
  exfalso
  rw [Array.getD_eq_getD_getElem?, Array.getElem?_replicate] at hj
  split at hj <;> simp at hj
/-- Whatever order is picked, till z alone is left. -/
def wpAnyT (P : Program) (ops : Array Oper) (Q : Exit → Act → World → Prop) (S : World → Prop) (z : Nat) : Nat → Array Bool → Act → World → Prop
  | 0, listed, a, w => Region.ready .any ops listed = [z] ∧ Region.ready .any ops (listed.setIfInBounds z true) = [] ∧ wpOp P ops Q z (fun a' w' => Q .normal a' w') a w
  | fuel + 1, listed, a, w => Region.ready .any ops listed ≠ [] ∧ ∀ i ∈ Region.ready .any ops listed, wpOp P ops Q i (fun a' w' => S w' ∧ wpAnyT P ops Q S z fuel (listed.setIfInBounds i true) a' w') a w
theorem wpAny_of_T : ∀ (fuel : Nat) (listed : Array Bool) (a : Act) (w : World), wpAnyT P ops Q S z fuel listed a w → wpAny P .any ops Q (fuel + 1) listed a w
  | 0, listed, a, w, h => by
    obtain ⟨h1, h2, h3⟩ := h
    refine ⟨fun h => (by rw [h1] at h; cases h), fun i hi => ?_⟩
    rw [h1] at hi
    obtain rfl : i = z := by simpa using hi
    exact wpOp_mono (fun a' w' h' => ⟨h2, h'⟩) h3
  | fuel + 1, _, _, _, h => ⟨fun h0 => absurd h0 h.1, fun i hi => wpOp_mono (fun a' w' h' => wpAny_of_T fuel _ a' w' h'.2) (h.2 i hi)⟩
theorem wpAnyT_first {i : Nat} {oi oz : Oper} {v : Value} (hz : ops[z]? = some oz) (hl : lastB ops z oz = true) (hi : ops[i]? = some oi) (hiz : i ≠ z) (hsel : ∀ (j : Nat) (o : Oper) cs b, ops[j]? = some o → o.op ≠ .select cs b)
    (hQ : ∀ c a w, Q (.panic c) (a.put oi.dst v) w → Q (.panic c) a w) :
    ∀ (fuel : Nat) (listed : Array Bool) (a : Act) (w : World), RgClosed ops listed →
      (∀ j oj, ops[j]? = some oj → j ≠ i → listed.getD j true = false → (∀ e ∈ oj.after, Region.binds .any e = true → e.on ≠ i) → oi.apart ops oj = true) →
      i ∈ Region.ready .any ops listed → YieldsIf P ops S oi v a → S w →
      wpAnyT P ops Q S z fuel (listed.setIfInBounds i true) (a.put oi.dst v) w → wpAnyT P ops Q S z (fuel + 1) listed a w := by
  have hun : ∀ (listed : Array Bool), i ∈ Region.ready .any ops listed → listed.getD i false = true → False := by
    intro listed hr h1
    have h0 := (mem_ready.1 hr).1
    rcases Nat.lt_or_ge i listed.size with h' | h'
    · simp [h'] at h0 h1; rw [h0] at h1; cases h1
    · simp [Array.getElem?_eq_none h'] at h1
  have hno : ∀ (listed : Array Bool) (j : Nat), j ∈ Region.ready .any ops listed → i ∈ Region.ready .any ops listed → j ≠ i → ∀ oj, ops[j]? = some oj → ∀ e ∈ oj.after, Region.binds .any e = true → e.on ≠ i := by
    intro listed j hj hr _ oj hoj e he hb heq
    obtain ⟨_, oj', hoj', hall⟩ := mem_ready.1 hj
    rw [hoj] at hoj'
    cases hoj'
    exact hun listed hr (by rw [← heq]; exact hall e he hb)
  intro fuel
  induction fuel with
  | zero =>
    intro listed a w hcl _ hr hy hS H
    refine ⟨fun h => (by rw [h] at hr; cases hr), fun j hj => ?_⟩
    by_cases hji : j = i
    · subst hji; exact hy.wpOp hi hS ⟨hS, H⟩
    · exfalso
      have hm := ready_mono hj hji
      rw [H.1] at hm
      obtain rfl : j = z := by simpa using hm
      have hli : i < ops.size := (Array.getElem?_eq_some_iff.1 hi).1
      have h1 := List.all_eq_true.1 hl i (List.mem_range.2 hli)
      simp only [Bool.or_eq_true, beq_iff_eq] at h1
      rcases h1 with h1 | h1
      · exact hiz h1
      · rw [Array.any_eq_true] at h1
        obtain ⟨q, hq, h2⟩ := h1
        simp only [Bool.and_eq_true, Bool.or_eq_true, beq_iff_eq] at h2
        rcases h2.2 with h3 | h3
        · exact hno listed j hj hr hji oz hz _ (Array.getElem_mem hq) h2.1 h3
        · obtain ⟨_, oj', hoj', hall⟩ := mem_ready.1 hj
          rw [hz] at hoj'
          cases hoj'
          have h4 := hall _ (Array.getElem_mem hq) h2.1
          cases ho : ops[(oz.after[q]).on]? with
          | none => rw [ho] at h3; simp at h3
          | some o =>
            rw [ho] at h3
            simp only [Array.any_eq_true] at h3
            obtain ⟨q', hq', h5⟩ := h3
            simp only [Bool.and_eq_true, beq_iff_eq] at h5
            have h6 := hcl _ o h4 ho _ (Array.getElem_mem hq') h5.1
            rw [h5.2] at h6
            exact hun listed hr h6
  | succ fuel ih =>
    intro listed a w hcl hfree hr hy hS H
    refine ⟨fun h => (by rw [h] at hr; cases hr), fun j hj => ?_⟩
    by_cases hji : j = i
    · subst hji; exact hy.wpOp hi hS ⟨hS, H⟩
    · have h1 := H.2 j (ready_mono hj hji)
      obtain ⟨hjun, oj, hoj, hall⟩ := mem_ready.1 hj
      have h2 := wpOp_putIf hoj (hfree j oj hoj hji hjun (hno listed j hj hr hji oj hoj)) (fun cs b => hsel i oi cs b hi) (fun cs b => hsel j oj cs b hoj) hQ hy h1
      have hfree' : ∀ k ok, ops[k]? = some ok → k ≠ i → (listed.setIfInBounds j true).getD k true = false →
          (∀ e ∈ ok.after, Region.binds .any e = true → e.on ≠ i) → oi.apart ops ok = true := fun k ok hk hki hun hno' => by
        refine hfree k ok hk hki ?_ hno'
        by_cases hjk : j = k
        · subst hjk; exact hjun
        · rw [getD_set_ne true hjk] at hun; exact hun
      refine wpOp_mono (fun a' w' h3 => ⟨h3.2.1, ih (listed.setIfInBounds j true) a' w' (hcl.set_ hj) hfree' (ready_mono hr (Ne.symm hji)) h3.1 h3.2.1 ?_⟩) h2
      rw [Array.setIfInBounds_comm _ _ hji]
      exact h3.2.2
/-- As Q, but that behind the walk operation z is still to be done. -/
def Qz (P : Program) (ops : Array Oper) (Q : Exit → Act → World → Prop) (oz : Oper) : Exit → Act → World → Prop
  | .normal, a, w => wpList P ops Q [oz] a w
  | .exit id, a, w => Q (.exit id) a w
  | .goto l, a, w => Q (.goto l) a w
  | .ret, a, w => Q .ret a w
  | .panic c, a, w => Q (.panic c) a w
  | .outgrown, a, w => Q .outgrown a w
/-- May the schedule be followed, till z alone is left? -/
def schedZ (ops : Array Oper) (z : Nat) : List (Nat × Bool) → Array Bool → Bool
  | [], listed => (Region.ready .any ops listed == [z]) && (Region.ready .any ops (listed.setIfInBounds z true)).isEmpty
  | (i, true) :: rest, listed => (i != z) && (Region.ready .any ops listed).contains i && Region.free .any ops listed i && (match ops[i]? with | some o => stillKind o | none => false) && schedZ ops z rest (listed.setIfInBounds i true)
  | (i, false) :: rest, listed => (Region.ready .any ops listed == [i]) && schedZ ops z rest (listed.setIfInBounds i true)
theorem wpOp_of_list {K : Act → World → Prop} {R : Exit → Act → World → Prop} {i : Nat} {o : Oper} {a : Act} {w : World} (hi : ops[i]? = some o) (h : wpList P ops R [o] a w)
    (hn : ∀ a w, R .normal a w → K a w) (hp : ∀ c a w, R (.panic c) a w → Q (.panic c) a w) (ho : LetsOut R → LetsOut Q) : wpOp P ops Q i K a w := by
  unfold wpList at h
  unfold wpOp
  simp only [hi]
  by_cases hw : Region.wanted o (yielded ops a.tmps) = true
  · rw [if_pos hw] at h ⊢
    rcases h with h | ⟨h1, h2⟩
    · left
      unfold Oper.wp at h ⊢
      generalize (execOp a.eval o).run P w = r at *
      cases r with
      | ok n w' =>
        cases n <;> simp only [Oper.upon] at h ⊢
        case enter f args =>
          exact h.mono fun e w'' hh => by
            cases e with
            | returned v => exact hn _ _ hh
            | panicked c => exact hp _ _ _ hh
            | outgrown => exact ho hh
        case row row args => exact h.mono fun v w'' hh => hn _ _ hh
        all_goals first
          | exact hn _ _ h
          | exact h
      | halt x w' =>
        cases x <;> simp only [Oper.upon] at h ⊢
        all_goals first
          | exact hp _ _ _ h
          | exact h
    · exact .inr ⟨h1, ho h2⟩
  · rw [if_neg hw] at h ⊢
    exact hn _ _ h
theorem wpAnyT_sched {oz : Oper} (hz : ops[z]? = some oz) (hl : lastB ops z oz = true) (hs : Region.noSelect ops = true) (hQ : ∀ c a (d : Tmp) v w, Q (.panic c) (Act.put a (some d) v) w → Q (.panic c) a w) :
    ∀ (σ : List (Nat × Bool)) (listed : Array Bool) (a : Act) (w : World), RgClosed ops listed → schedZ ops z σ listed = true → S w → wpSched P ops S (Qz P ops Q oz) (opersOf ops σ) a w → wpAnyT P ops Q S z σ.length listed a w
  | [], listed, a, w, _, hB, _, h => by
    simp only [schedZ, Bool.and_eq_true, beq_iff_eq, List.isEmpty_iff] at hB
    refine ⟨hB.1, hB.2, ?_⟩
    simp only [opersOf] at h
    unfold wpSched at h
    replace h := h.out
    exact wpOp_of_list hz h (fun _ _ h => h) (fun _ _ _ h => h) (fun h => h)
  | (i, true) :: rest, listed, a, w, hcl, hB, hC, h => by
    simp only [schedZ, Bool.and_eq_true, bne_iff_ne] at hB
    obtain ⟨⟨⟨⟨hne, hr⟩, hf⟩, hk⟩, hB'⟩ := hB
    cases hi : ops[i]? with
    | none => rw [hi] at hk; simp at hk
    | some o =>
      rw [hi] at hk
      simp only [opersOf, hi] at h
      unfold wpSched at h
      replace h := h.out
      by_cases hw : Region.wanted o (yielded ops a.tmps) = true
      · rw [if_pos hw] at h
        obtain ⟨v, h1, h2⟩ := h
        exact wpAnyT_first hz hl hi hne (Region.noSelect_spec hs) (fun c a w hh => hQput hQ c a _ _ w hh) _ _ _ _ hcl (Region.free_spec hi hf) (by simpa using hr) (yieldsIf_of_quiet hk hw h1) hC (wpAnyT_sched hz hl hs hQ rest _ _ _ (hcl.set_ (by simpa using hr)) hB' hC h2)
      · rw [if_neg hw] at h
        exact wpAnyT_first hz hl hi hne (Region.noSelect_spec hs) (fun c a w hh => hQput hQ c a _ _ w hh) _ _ _ _ hcl (Region.free_spec hi hf) (by simpa using hr) (.inr ⟨by simpa using hw, rfl⟩) hC (wpAnyT_sched hz hl hs hQ rest _ _ _ (hcl.set_ (by simpa using hr)) hB' hC h)
  | (i, false) :: rest, listed, a, w, hcl, hB, hC, h => by
    simp only [schedZ, Bool.and_eq_true, beq_iff_eq] at hB
    obtain ⟨hr, hB'⟩ := hB
    refine ⟨by rw [hr]; simp, fun j hj => ?_⟩
    rw [hr] at hj
    obtain rfl : j = i := by simpa using hj
    cases hi : ops[j]? with
    | none =>
      exfalso
      have hm : j ∈ Region.ready .any ops listed := by rw [hr]; simp
      obtain ⟨_, o, ho, _⟩ := mem_ready.1 hm
      rw [hi] at ho; cases ho
    | some o =>
      simp only [opersOf, hi] at h
      unfold wpSched at h
      replace h := h.out
      exact wpOp_of_list hi h (fun a w hh => ⟨hh.1, wpAnyT_sched hz hl hs hQ rest _ _ _ (hcl.set_ (by rw [hr]; simp)) hB' hh.1 hh.2⟩) (fun _ _ _ h => h) (fun ⟨a, w, hh⟩ => ⟨a, w, hh⟩)
theorem wp_region_schedZ {id : Nat} {a : Act} {w : World} (σ : List (Nat × Bool)) (z : Nat) (oz : Oper) (F : World → Prop) (hm : P.follows .mixedOrders = true) (hs : Region.noSelect ops = true) (hz : ops[z]? = some oz) (hl : lastB ops z oz = true) (hlen : σ.length + 1 = ops.size)
    (hQ : ∀ c a (d : Tmp) v w, Q (.panic c) (Act.put a (some d) v) w → Q (.panic c) a w) (hB : schedZ ops z σ (Array.replicate ops.size false) = true) (hF : F w) (hd : F w → F w.drew)
    (h : Nonempty (Wof F) → wpSched P ops (fun w' => ∃ p : Wof F, w' = p.w) (Qz P ops Q oz) (opersOf ops σ) a w.drew) : (Code.region id ops true).wp P Q a w := by
  refine wp_region_any hm ?_
  rw [← hlen]
  exact wpAny_of_T _ _ _ _ (wpAnyT_sched hz hl hs hQ σ _ a _ (RgClosed.start _ _) (by rw [hlen]; exact hB) ⟨⟨_, hd hF⟩, rfl⟩ (h ⟨⟨_, hF⟩⟩))
theorem qz_nil {oz : Oper} {a : Act} {w : World} (h : wpList P ops Q [oz] a w) : Qz P ops Q oz .normal a w := h
end
end Go.Proofs.YtplgghjdidmcfaaGreatDoor
namespace Go.Proofs.YtplgghjdidmcfaaGreatDoor
open Go.RowKit
structure Es where
  text : List UInt8
  back : List (List UInt8)
  onward : List (List UInt8)
def doE (s : Es) (l : List Ed) : Int := if edErr s.text.length l = 0 then (if l.length = 0 then 5 else 0) else edErr s.text.length l
def doS (s : Es) (l : List Ed) : Es := if doE s l = 0 then ⟨edDone s.text l, (s.back ++ [s.text]).drop (s.back.length + 1 - 30), []⟩ else s
def undoE (s : Es) : Int := if s.back.length = 0 then 4 else 0
def undoS (s : Es) : Es := if s.back.length = 0 then s else ⟨s.back.getD (s.back.length - 1) [], s.back.take (s.back.length - 1), s.onward ++ [s.text]⟩
def redoE (s : Es) : Int := if s.onward.length = 0 then 4 else 0
def redoS (s : Es) : Es := if s.onward.length = 0 then s else ⟨s.onward.getD (s.onward.length - 1) [], s.back ++ [s.text], s.onward.take (s.onward.length - 1)⟩
/-- What always holds of an editor. -/
structure EsOk (s : Es) : Prop where
  t : s.text.length ≤ 200
  b : ∀ x ∈ s.back, x.length ≤ 200
  o : ∀ x ∈ s.onward, x.length ≤ 200
  n : s.back.length + s.onward.length ≤ 30
theorem edDone_len {s : List UInt8} {l : List Ed} (h : edErr s.length l = 0) : (edDone s l).length ≤ 200 := by
  obtain ⟨_, _, _, hc, hg⟩ := edErr_zero.1 h
  rw [edDone_is h]
  have := edTo_length (n := s.length) rfl hc (k := 0) rfl (Nat.zero_le _)
  omega
theorem EsOk.do_ {s : Es} (h : EsOk s) (l : List Ed) : EsOk (doS s l) := by
  unfold doS
  split
  · rename_i h0
    have he : edErr s.text.length l = 0 := by
      unfold doE at h0
      by_cases he : edErr s.text.length l = 0
      · exact he
      · rw [if_neg he] at h0; exact h0
    refine ⟨edDone_len he, fun x hx => ?_, (fun x hx => absurd hx (by simp)), ?_⟩
    · have := List.mem_of_mem_drop hx
      rcases List.mem_append.1 this with h1 | h1
      · exact h.b x h1
      · simp only [List.mem_singleton] at h1; subst h1; exact h.t
    · have := h.n
      simp only [List.length_drop, List.length_append, List.length_singleton, List.length_nil]; omega
  · exact h
theorem getD_mem_last {l : List (List UInt8)} (h : ¬ l.length = 0) : l.getD (l.length - 1) [] ∈ l := by
  rw [List.getD_eq_getElem?_getD, List.getElem?_eq_getElem (by omega)]
  exact List.getElem_mem _
theorem EsOk.undo {s : Es} (h : EsOk s) : EsOk (undoS s) := by
  unfold undoS
  split
  · exact h
  · rename_i h0
    have := h.n
    refine ⟨h.b _ (getD_mem_last h0), fun x hx => h.b x (List.mem_of_mem_take hx), fun x hx => ?_, by simp only [List.length_take, List.length_append, List.length_singleton]; omega⟩
    rcases List.mem_append.1 hx with h1 | h1
    · exact h.o x h1
    · simp only [List.mem_singleton] at h1; subst h1; exact h.t
theorem EsOk.redo {s : Es} (h : EsOk s) : EsOk (redoS s) := by
  unfold redoS
  split
  · exact h
  · rename_i h0
    have := h.n
    refine ⟨h.o _ (getD_mem_last h0), fun x hx => ?_, fun x hx => h.o x (List.mem_of_mem_take hx), by simp only [List.length_take, List.length_append, List.length_singleton]; omega⟩
    rcases List.mem_append.1 hx with h1 | h1
    · exact h.b x h1
    · simp only [List.mem_singleton] at h1; subst h1; exact h.t
/-- An editor lies in block g. -/
structure EdSt (w : World) (base g : Nat) (s : Es) (vB vO : Value) : Prop where
  blk : Blk w g 123 #[.string (S s.text), vB, vO]
  lo : base ≤ g
  b : OwnO w base 9 1 vB s.back.length (strCells s.back)
  o : OwnO w base 9 1 vO s.onward.length (strCells s.onward)
  ap : Apart vB vO
/-- A world that is as it was, but for new blocks and the blocks in K. -/
structure Chg (w w' : World) (K : Nat → Prop) : Prop where
  os : w'.os = w.os
  tape : w'.tape = w.tape
  output : w'.output = w.output
  size : w.heap.size ≤ w'.heap.size
  block : ∀ k, k < w.heap.size → ¬ K k → w'.heap[k]? = w.heap[k]?
section
variable {w w' w2 : World} {K K' : Nat → Prop} {base g : Nat} {s : Es} {vB vO v u : Value} {e : TypeId} {size n : Nat} {xs : List Value}
theorem Chg.of_below (h : Below w.heap.size w w') (K : Nat → Prop) : Chg w w' K := ⟨h.os, h.tape, h.output, h.size, fun k hk _ => h.block k hk⟩
theorem Chg.of_gb {row : Option Nat} (h : w.grownBy w' row) (hK : ∀ k, row = some k → K k) : Chg w w' K := ⟨h.os, h.tape, h.output, h.size, fun k hk hn => h.block k hk (fun e => hn (hK k e.symm))⟩
theorem Chg.trans (h : Chg w w' K) (h2 : Chg w' w2 K') (hK : ∀ k, K' k → k < w.heap.size → K k) : Chg w w2 K :=
  ⟨h2.os.trans h.os, h2.tape.trans h.tape, h2.output.trans h.output, Nat.le_trans h.size h2.size, fun k hk hn => (h2.block k (Nat.lt_of_lt_of_le hk h.size) (fun h' => hn (hK k h' hk))).trans (h.block k hk hn)⟩
theorem Chg.below (h : Chg w w' K) (hK : ∀ k, K k → base ≤ k) (hs : base ≤ w.heap.size) : Below base w w' :=
  ⟨h.os, h.tape, h.output, h.size, fun k hk => h.block k (Nat.lt_of_lt_of_le hk hs) (fun h' => by have := hK k h'; omega)⟩
theorem OwnO.chg (h : OwnO w base e size v n xs) (hc : Chg w w' K) (hK : ∀ k, v.ownBlock = some k → ¬ K k) : OwnO w' base e size v n xs := by
  refine ⟨h.1, ?_⟩
  rcases h.2 with hn | ⟨g, o, cap, cur, rfl, hb, hgg, rest⟩
  · exact .inl hn
  · refine .inr ⟨g, o, cap, cur, rfl, hb, ?_, rest⟩
    rw [hc.block g (Array.getElem?_eq_some_iff.1 hgg).1 (hK g rfl)]
    exact hgg
theorem EdSt.below (h : EdSt w base g s vB vO) (hb : Below w.heap.size w w') : EdSt w' base g s vB vO := ⟨h.blk.below' hb, h.lo, h.b.below hb, h.o.below hb, h.ap⟩
theorem EdSt.far (h : EdSt w base g s vB vO) (hg : w.grownBy w' v.ownBlock) (hgv : some g ≠ v.ownBlock) (hB : Apart vB v) (hO : Apart vO v) : EdSt w' base g s vB vO :=
  ⟨h.blk.grown hg hgv, h.lo, h.b.kept hg hB, h.o.kept hg hO, h.ap⟩
theorem OwnO.lower {base' : Nat} (h : OwnO w base e size v n xs) (hb : base' ≤ base) : OwnO w base' e size v n xs := by
  refine ⟨h.1, ?_⟩
  rcases h.2 with h | ⟨g, o, cap, cur, h1, h2, h3⟩
  · exact .inl h
  · exact .inr ⟨g, o, cap, cur, h1, by omega, h3⟩
end
theorem apartO_new {w w' : World} {base : Nat} {e : TypeId} {size n : Nat} {v u v' : Value} {xs : List Value} (h : OwnO w base e size v n xs) (ha : Apart v u) (hu : v'.ownBlock = u.ownBlock ∨ v'.ownBlock = some w'.heap.size) (hs : w.heap.size ≤ w'.heap.size) : Apart v v' := by
  rcases hu with hu | hu
  · rcases ha with ha | ha
    · exact .inl ha
    · exact .inr (by rw [hu]; exact ha)
  · cases hv : v.ownBlock with
    | none => exact .inl hv
    | some g =>
      refine .inr ?_
      rw [hv, hu]
      intro e
      have := (h.lt g hv).2
      simp only [Option.some.injEq] at e
      omega
theorem OwnO.far {w : World} {base : Nat} {e : TypeId} {size n g : Nat} {v : Value} {xs : List Value} (h : OwnO w base e size v n xs) (hg : v.ownBlock = none ∨ v.ownBlock ≠ some g) (i : Nat) (u : Value) : OwnO (w.setCell ⟨g, i, none⟩ u) base e size v n xs := h.kept (gb_set (gb_refl _ _) i u) hg
/-- What comes on, appended to: the editor's third field. -/
theorem EdSt.app {w w' : World} {base g : Nat} {st x : List UInt8} {sb so : List (List UInt8)} {vB vO v6 : Value} (h : EdSt w base g ⟨st, sb, so⟩ vB vO) (hg : w.grownBy w' vO.ownBlock) (hgv : some g ≠ vO.ownBlock)
    (hown : OwnO w' base 9 1 v6 (so.length + 1) (strCells so ++ [.string (S x)])) (ha : v6.ownBlock = vO.ownBlock ∨ v6.ownBlock = some w.heap.size) :
    EdSt (w'.setCell ⟨g, 2, none⟩ v6) base g ⟨st, sb, so ++ [x]⟩ vB v6 := by
  have hB := h.blk.grown hg hgv
  have ho : OwnO w' base 9 1 v6 (so ++ [x]).length (strCells (so ++ [x])) := by
    rw [List.length_append, strCells, List.map_append]; exact hown
  have hb' := h.b.kept hg h.ap
  exact ⟨hB.set_ 2 v6, h.lo, hb'.far (hb'.ne_blk hB (by decide)) _ _, ho.far (ho.ne_blk hB (by decide)) _ _, apartO_new h.b h.ap ha (Nat.le_refl _)⟩
/-- What was, appended to: the editor's second field. -/
theorem EdSt.appB {w w' : World} {base g : Nat} {st x : List UInt8} {sb so : List (List UInt8)} {vB vO v6 : Value} (h : EdSt w base g ⟨st, sb, so⟩ vB vO) (hg : w.grownBy w' vB.ownBlock) (hgv : some g ≠ vB.ownBlock)
    (hown : OwnO w' base 9 1 v6 (sb.length + 1) (strCells sb ++ [.string (S x)])) (ha : v6.ownBlock = vB.ownBlock ∨ v6.ownBlock = some w.heap.size) :
    EdSt (w'.setCell ⟨g, 1, none⟩ v6) base g ⟨st, sb ++ [x], so⟩ v6 vO := by
  have hB := h.blk.grown hg hgv
  have ho : OwnO w' base 9 1 v6 (sb ++ [x]).length (strCells (sb ++ [x])) := by
    rw [List.length_append, strCells, List.map_append]; exact hown
  have hb' := h.o.kept hg h.ap.comm
  exact ⟨hB.set_ 1 v6, h.lo, ho.far (ho.ne_blk hB (by decide)) _ _, hb'.far (hb'.ne_blk hB (by decide)) _ _, (apartO_new h.o h.ap.comm ha (Nat.le_refl _)).comm⟩
theorem EdSt.text_ {w : World} {base g : Nat} {st : List UInt8} {sb so : List (List UInt8)} {vB vO : Value} (h : EdSt w base g ⟨st, sb, so⟩ vB vO) (x : List UInt8) : EdSt (w.setCell ⟨g, 0, none⟩ (.string (S x))) base g ⟨x, sb, so⟩ vB vO :=
  ⟨h.blk.set_ 0 _, h.lo, h.b.far (h.b.ne_blk h.blk (by decide)) _ _, h.o.far (h.o.ne_blk h.blk (by decide)) _ _, h.ap⟩
theorem cut_own {w : World} {base : Nat} {A : Option Addr} {m c k : Nat} {l : List (List UInt8)} (h : OwnO w base 9 1 (.slice A m c) l.length (strCells l)) (hm : m = l.length) (hk : k ≤ m) (hA : A ≠ none) : OwnO w base 9 1 (.slice A k c) (l.take k).length (strCells (l.take k)) := by
  subst hm
  have := h.front A c k rfl hk hA
  rw [Nat.mul_one] at this
  rw [List.length_take, Nat.min_eq_left hk, strCells, List.map_take]
  exact this
theorem EdSt.cutB {w : World} {base g : Nat} {st : List UInt8} {sb so : List (List UInt8)} {A : Option Addr} {m c k : Nat} {vO : Value} (h : EdSt w base g ⟨st, sb, so⟩ (.slice A m c) vO) (hm : m = sb.length) (hk : k ≤ m) (hA : A ≠ none) :
    EdSt (w.setCell ⟨g, 1, none⟩ (.slice A k c)) base g ⟨st, sb.take k, so⟩ (.slice A k c) vO := by
  have h1 := cut_own h.b hm hk hA
  refine ⟨h.blk.set_ 1 _, h.lo, h1.far (h1.ne_blk h.blk (by decide)) _ _, h.o.far (h.o.ne_blk h.blk (by decide)) _ _, ?_⟩
  have := h.ap
  cases A with
  | none => exact absurd rfl hA
  | some a => exact this
theorem EdSt.cutO {w : World} {base g : Nat} {st : List UInt8} {sb so : List (List UInt8)} {A : Option Addr} {m c k : Nat} {vB : Value} (h : EdSt w base g ⟨st, sb, so⟩ vB (.slice A m c)) (hm : m = so.length) (hk : k ≤ m) (hA : A ≠ none) :
    EdSt (w.setCell ⟨g, 2, none⟩ (.slice A k c)) base g ⟨st, sb, so.take k⟩ vB (.slice A k c) := by
  have h1 := cut_own h.o hm hk hA
  refine ⟨h.blk.set_ 2 _, h.lo, h.b.far (h.b.ne_blk h.blk (by decide)) _ _, h1.far (h1.ne_blk h.blk (by decide)) _ _, ?_⟩
  have := h.ap
  cases A with
  | none => exact absurd rfl hA
  | some a => exact this
/-- A row's block is one of these, or new. -/
def Fresh (w : World) (v' : Value) (vB vO : Value) : Prop := ∀ k, v'.ownBlock = some k → vB.ownBlock = some k ∨ vO.ownBlock = some k ∨ w.heap.size ≤ k
def EdK (g : Nat) (vB vO : Value) : Nat → Prop := fun k => k = g ∨ vB.ownBlock = some k ∨ vO.ownBlock = some k
theorem Fresh.left (w : World) (vB vO : Value) : Fresh w vB vB vO := fun _ h => .inl h
theorem Fresh.right (w : World) (vB vO : Value) : Fresh w vO vB vO := fun _ h => .inr (.inl h)
theorem Fresh.nil_ (w : World) (vB vO : Value) : Fresh w (.slice none 0 0) vB vO := fun _ h => by simp [Value.ownBlock] at h
end Go.Proofs.YtplgghjdidmcfaaGreatDoor
