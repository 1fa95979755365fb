/- A block that is known whole, and a world in which one block alone has turned. 'append' to a row of the call's own: where the new row lies; rows that begin inside their block. trim.apply, walked. -/
import Derived.Test.YtmikckhihfcooaaDoorPk03
import Derived.Maps.AppendAt
import Derived.Test.YtmikckhihfcooaaDoorPk02
namespace Go.Proofs.YtmikckhihfcooaaDoor
open Go.RowKit
/-- Block g is these cells. -/
def Blk (w : World) (g : Nat) (t : TypeId) (cs : Array Value) : Prop := w.heap[g]? = some (.cells cs t (0, 0))
section
variable {w w' : World} {g : Nat} {t : TypeId} {cs : Array Value}
theorem Blk.lt (h : Blk w g t cs) : g < w.heap.size := (Array.getElem?_eq_some_iff.1 h).1
theorem Blk.cell (h : Blk w g t cs) (i : Nat) : w.cell? ⟨g, i, none⟩ = cs[i]? := cell_of_row w g i cs t (0, 0) h
theorem Blk.cell0 {a : Value} {r : List Value} (h : Blk w g t ⟨a :: r⟩) : w.cell? ⟨g, 0, none⟩ = some a := h.cell 0
theorem Blk.cell1 {a b : Value} {r : List Value} (h : Blk w g t ⟨a :: b :: r⟩) : w.cell? ⟨g, 1, none⟩ = some b := h.cell 1
theorem Blk.cell2 {a b c : Value} {r : List Value} (h : Blk w g t ⟨a :: b :: c :: r⟩) : w.cell? ⟨g, 2, none⟩ = some c := h.cell 2
theorem Blk.frozen (h : Blk w g t cs) (i : Nat) : w.frozen? ⟨g, i, none⟩ = false := by
  unfold Blk at h
  simp [World.frozen?, h]
theorem Blk.new_ (w : World) (t : TypeId) (cs : Array Value) : Blk (w.alloc (.cells cs t)) w.heap.size t cs := heap_alloc_new w _
theorem Blk.drew (h : Blk w g t cs) : Blk w.drew g t cs := h
theorem Blk.drewN (h : Blk w g t cs) (n : Nat) : Blk (w.drewN n) g t cs := h
theorem Blk.below {B : Nat} (h : Blk w g t cs) (hb : Below B w w') (hg : g < B) : Blk w' g t cs := (hb.block g hg).trans h
theorem Blk.below' (h : Blk w g t cs) (hb : Below w.heap.size w w') : Blk w' g t cs := h.below hb h.lt
theorem Blk.alloc (h : Blk w g t cs) (o : Obj) : Blk (w.alloc o) g t cs := h.below' ((Below.refl _ _).alloc (Nat.le_refl _) _)
theorem Blk.set_ (h : Blk w g t cs) (i : Nat) (u : Value) : Blk (w.setCell ⟨g, i, none⟩ u) g t (cs.setIfInBounds i u) := by
  unfold Blk at h ⊢
  simp [World.setCell, Array.getElem?_modify, h]
theorem Blk.far (h : Blk w g t cs) {p : Addr} (hp : g ≠ p.block) (u : Value) : Blk (w.setCell p u) g t cs := (Below.heap_setCell w p u g hp).trans h
theorem Blk.grown {row : Option Nat} (h : Blk w g t cs) (hb : w.grownBy w' row) (hg : some g ≠ row) : Blk w' g t cs := (hb.block g h.lt hg).trans h
end
section
variable {w w' w2 : World} {row : Option Nat} {g : Nat}
theorem gb_refl (w : World) (row : Option Nat) : w.grownBy w row := ⟨rfl, rfl, rfl, Nat.le_refl _, fun _ _ _ => rfl⟩
theorem gb_trans (h : w.grownBy w' row) (k : w'.grownBy w2 row) : w.grownBy w2 row :=
  ⟨k.os.trans h.os, k.tape.trans h.tape, k.output.trans h.output, Nat.le_trans h.size k.size, fun i hi hr => (k.block i (Nat.lt_of_lt_of_le hi h.size) hr).trans (h.block i hi hr)⟩
theorem gb_of_below (h : Below w.heap.size w w') (row : Option Nat) : w.grownBy w' row := ⟨h.os, h.tape, h.output, h.size, fun k hk _ => h.block k hk⟩
theorem gb_below (h : w.grownBy w' row) (k : Below w'.heap.size w' w2) : w.grownBy w2 row := gb_trans h (gb_of_below k row)
theorem gb_set (h : w.grownBy w' (some g)) (i : Nat) (u : Value) : w.grownBy (w'.setCell ⟨g, i, none⟩ u) (some g) :=
  gb_trans h ⟨rfl, rfl, rfl, by simp [World.setCell], fun k _ hk => Below.heap_setCell w' ⟨g, i, none⟩ u k (fun e => hk (by rw [e]))⟩
theorem gb_alloc (h : w.grownBy w' row) (o : Obj) : w.grownBy (w'.alloc o) row := gb_below h ((Below.refl _ _).alloc (Nat.le_refl _) _)
theorem gb_drewN (h : w.grownBy w' row) (n : Nat) : w.grownBy (w'.drewN n) row := gb_below h (below_drewN (Below.refl _ _) _)
theorem gb_drew (h : w.grownBy w' row) : w.grownBy w'.drew row := gb_below h (Below.drew (Below.refl _ _))
theorem below_gb {base : Nat} {a : World} (h : Below base a w) (hg : w.grownBy w' (some g)) (hb : base ≤ g) (hs : base ≤ w.heap.size) : Below base a w' :=
  h.grown hg hs (fun k hk => by cases hk; exact hb)
end
end Go.Proofs.YtmikckhihfcooaaDoor
namespace Go.Proofs.YtmikckhihfcooaaDoor
open Go.RowKit
/-- As wpList_appG, and it is told where the new row lies. -/
theorem wpList_appN {P : Program} {w : World} {ops : Array Oper} {rest : List Oper} {o : Oper} {a : Act} {Q : Exit → Act → World → Prop} (hgd : o.guard = none) (s x : Operand) (t : TypeId)
    (ho : o.op = .call { callee := .builtin .append, args := #[s, x], argTypes := #[t, t] })
    (base : Nat) (e : TypeId) (i : TypeInfo) (z : Value) (size bytes : Nat) (ht : P.underlying t = some (.slice e)) (hi : P.info? e = some i) (hz : i.zero = some z)
    (hsize : i.size = size) (hby : i.bytes = bytes) (hzs : z.cells.size = size) (hsz : 0 < size)
    (v : Value) (n : Nat) (xs : List Value) (hs : a.eval s = v) (hown : w.ownsRow base e size v n xs)
    (ad : Addr) (m c : Nat) (news : List Value) (hx : a.eval x = .slice (some ad) m c) (hl : news.length = m * size) (hnews : ∀ j u, news[j]? = some u → w.cell? (ad.add j) = some u) (h1 : ∀ u ∈ news, u.oneCell' = true)
    (hbytes : (n + m) * bytes ≤ 140737488355328) (hb0 : 0 < bytes) (hbase : base ≤ w.heap.size)
    (h : ∀ v' w', w'.ownsRow base e size v' (n + m) (xs ++ news) → w.grownBy w' v.ownBlock → Below base w w' → (v'.ownBlock = v.ownBlock ∨ v'.ownBlock = some w.heap.size) → wpList P ops Q rest (a.put o.dst v') w') : wpList P ops Q (o :: rest) a w :=
  wpList_plain hgd fun _ hK => by
    obtain ⟨v', w', hr, h2, h3, _, h5⟩ := run_append_own_at (P := P) w base t o.type e i z size bytes ht hi hz hsize hby hzs hsz v n xs hown ad m c news hl hnews h1
      (by have := Nat.le_mul_of_pos_right (n + m) hb0; unfold maxLen; omega) hbytes hbase
    unfold Oper.wp execOp
    simp only [ho, resolve, invoke, builtin, Sem.run_bind, Sem.run_pure, Result.andThen_ok, List.map_toArray, List.map_cons, List.map_nil, hs, hx, hr]
    exact hK _ _ (h v' w' h2 h3 ((Below.refl base w).grown h3 hbase (fun k hk => (hown.lt k hk).1)) h5)
/-- Rows in unlike blocks. -/
def Apart (v v' : Value) : Prop := v.ownBlock = none ∨ v.ownBlock ≠ v'.ownBlock
theorem Apart.none_left (v : Value) : Apart (.slice none 0 0) v := .inl rfl
theorem Apart.symm {v v' : Value} (h : Apart v v') (hn : v'.ownBlock = none ∨ v.ownBlock ≠ none) : Apart v' v := by
  rcases h with h | h
  · rcases hn with h' | h'
    · exact .inl h'
    · exact absurd h h'
  · exact .inr (fun e => h e.symm)
theorem Apart.comm {v v' : Value} (h : Apart v v') : Apart v' v := by
  by_cases h' : v'.ownBlock = none
  · exact .inl h'
  · rcases h with h | h
    · exact .inr (fun e => h' (e.trans h))
    · exact .inr (fun e => h e.symm)
section
variable {w w' : World} {base base' : Nat} {e e' : TypeId} {size size' : Nat} {v v' u : Value} {n n' : Nat} {xs xs' : List Value}
/-- The row beside one that has been appended to. -/
theorem own_apart (h : w.ownsRow base e size v n xs) (ha : Apart v u) (hg : w.grownBy w' u.ownBlock) : w'.ownsRow base e size v n xs := h.kept hg ha
theorem apart_new (h : w.ownsRow base e size v n xs) (ha : Apart v u) (hu : v'.ownBlock = u.ownBlock ∨ v'.ownBlock = some w.heap.size) : Apart v v' := by
  rcases hu with hu | hu
  · rcases ha with ha | ha
    · exact .inl ha
    · exact .inr (by rw [hu]; exact ha)
  · cases hv : v.ownBlock with
    | none => exact .inl hv
    | some g =>
      refine .inr ?_
      rw [hv, hu]
      intro e
      have := (h.lt g hv).2
      simp only [Option.some.injEq] at e
      omega
end
/-- A row that begins at some place of its block. -/
def OwnO (w : World) (base : Nat) (e : TypeId) (size : Nat) (v : Value) (n : Nat) (xs : List Value) : Prop :=
  xs.length = n * size ∧ ((v = .slice none 0 0 ∧ n = 0) ∨ ∃ g o cap cur, v = .slice (some ⟨g, o, none⟩) n cap ∧ base ≤ g ∧ w.heap[g]? = some (.cells cur e (0, 0)) ∧ n ≤ cap ∧ cap ≤ maxLen ∧ o + cap * size ≤ cur.size ∧ (cur.toList.drop o).take (n * size) = xs)
section
variable {w w' : World} {base : Nat} {e : TypeId} {size : Nat} {v : Value} {n : Nat} {xs : List Value}
theorem OwnO.nil_ : OwnO w base e size (.slice none 0 0) 0 [] := ⟨by simp, .inl ⟨rfl, rfl⟩⟩
theorem OwnO.of_own (h : w.ownsRow base e size v n xs) : OwnO w base e size v n xs := by
  refine ⟨h.1, ?_⟩
  rcases h.2 with h | ⟨g, cap, cur, h1, h2, h3, h4, h5, h6, h7⟩
  · exact .inl h
  · exact .inr ⟨g, 0, cap, cur, h1, h2, h3, h4, h5, by omega, by simpa using h7⟩
theorem OwnO.lt (h : OwnO w base e size v n xs) : ∀ k, v.ownBlock = some k → base ≤ k ∧ k < w.heap.size := by
  intro k hk
  rcases h.2 with ⟨rfl, _⟩ | ⟨g, o, cap, cur, rfl, hb, hg, _⟩
  · simp [Value.ownBlock] at hk
  · simp [Value.ownBlock] at hk
    subst hk
    exact ⟨hb, (Array.getElem?_eq_some_iff.1 hg).1⟩
theorem OwnO.kept {row : Option Nat} (h : OwnO w base e size v n xs) (hg : w.grownBy w' row) (hne : v.ownBlock = none ∨ v.ownBlock ≠ row) : OwnO w' base e size v n xs := by
  refine ⟨h.1, ?_⟩
  rcases h.2 with hn | ⟨g, o, cap, cur, rfl, hb, hgg, rest⟩
  · exact .inl hn
  · refine .inr ⟨g, o, cap, cur, rfl, hb, ?_, rest⟩
    rw [hg.block g (Array.getElem?_eq_some_iff.1 hgg).1 (by simpa [Value.ownBlock] using hne)]
    exact hgg
theorem OwnO.below (h : OwnO w base e size v n xs) (hb : Below w.heap.size w w') : OwnO w' base e size v n xs := h.kept (gb_of_below hb none) (by cases hv : v.ownBlock <;> simp)
theorem OwnO.ne_blk {g : Nat} {t : TypeId} {cs : Array Value} (h : OwnO w base e size v n xs) (hg : Blk w g t cs) (hne : e ≠ t) : v.ownBlock = none ∨ v.ownBlock ≠ some g := by
  rcases h.2 with ⟨rfl, _⟩ | ⟨g', o, cap, cur, rfl, _, hh, _⟩
  · exact .inl rfl
  · refine .inr fun he => ?_
    simp only [Value.ownBlock, Option.some.injEq] at he
    subst he
    unfold Blk at hg
    rw [hh] at hg
    injection hg with hg
    injection hg with _ ht
    exact hne ht
theorem OwnO.form (h : OwnO w base e size v n xs) : ∃ A c, v = .slice A n c ∧ n ≤ c ∧ c ≤ maxLen ∧ Rd w w.heap.size size A n xs := by
  have h0 := h
  rcases h.2 with ⟨rfl, rfl⟩ | ⟨g, o, cap, cur, rfl, h2, h3, h4, h5, h6, h7⟩
  · have hx : xs = [] := List.eq_nil_of_length_eq_zero (by have := h.1; omega)
    subst hx
    exact ⟨none, 0, rfl, Nat.le_refl _, Nat.zero_le _, Rd.nil_⟩
  · refine ⟨_, cap, rfl, h4, h5, h.1, fun _ => ⟨_, rfl, (Array.getElem?_eq_some_iff.1 h3).1, fun j u hu => ?_⟩⟩
    have hadd : (⟨g, o, none⟩ : Addr).add j = ⟨g, o + j, none⟩ := by unfold Addr.add; split <;> simp_all
    rw [hadd, cell_of_row w g (o + j) cur e (0, 0) h3]
    rw [← h7] at hu
    have hj : j < n * size := by
      have := (List.getElem?_eq_some_iff.1 hu).1
      rw [List.length_take] at this; omega
    rw [List.getElem?_take_of_lt hj, List.getElem?_drop] at hu
    simpa using hu
/-- [:k]. -/
theorem OwnO.front (h : OwnO w base e size v n xs) (A : Option Addr) (c k : Nat) (hv : v = .slice A n c) (hk : k ≤ n) (hA : A ≠ none) : OwnO w base e size (.slice A k c) k (xs.take (k * size)) := by
  subst hv
  refine ⟨by rw [List.length_take, h.1]; exact Nat.min_eq_left (Nat.mul_le_mul_right _ hk), ?_⟩
  rcases h.2 with ⟨h1, _⟩ | ⟨g, o, cap, cur, h1, h2, h3, h4, h5, h6, h7⟩
  · injection h1 with h1; exact absurd h1 hA
  · injection h1 with h1 h1' h1''
    subst h1; subst h1''
    refine .inr ⟨g, o, c, cur, rfl, h2, h3, by omega, h5, h6, ?_⟩
    rw [← h7, List.take_take, Nat.min_eq_left (Nat.mul_le_mul_right _ hk)]
/-- [k:]. -/
theorem OwnO.behind (h : OwnO w base e size v n xs) (A : Option Addr) (c k : Nat) (hv : v = .slice A n c) (hk : k ≤ n) (hA : A ≠ none) : OwnO w base e size (.slice (if c = k then A else A.map (·.add (k * size))) (n - k) (c - k)) (n - k) (xs.drop (k * size)) := by
  subst hv
  refine ⟨by rw [List.length_drop, h.1, Nat.sub_mul], ?_⟩
  rcases h.2 with ⟨h1, _⟩ | ⟨g, o, cap, cur, h1, h2, h3, h4, h5, h6, h7⟩
  · injection h1 with h1; exact absurd h1 hA
  · injection h1 with h1 h1' h1''
    subst h1; subst h1''
    by_cases hc : c = k
    · rw [if_pos hc]
      have hn0 : n - k = 0 := by omega
      rw [hn0, show c - k = 0 by omega]
      refine .inr ⟨g, o, 0, cur, rfl, h2, h3, Nat.le_refl _, Nat.zero_le _, by omega, ?_⟩
      rw [List.drop_of_length_le (l := xs) (by rw [h.1]; exact Nat.mul_le_mul_right _ (by omega))]; simp
    · rw [if_neg hc]
      have hadd : (⟨g, o, none⟩ : Addr).add (k * size) = ⟨g, o + k * size, none⟩ := by unfold Addr.add; split <;> simp_all
      have hck : k * size + (c - k) * size = c * size := by rw [← Nat.add_mul]; congr 1; omega
      refine .inr ⟨g, o + k * size, c - k, cur, by rw [Option.map_some, hadd], h2, h3, by omega, by omega, by omega, ?_⟩
      rw [← h7, List.drop_take, List.drop_drop, Nat.sub_mul]
theorem run_append_O {P : Program} (t ty : TypeId) (i : TypeInfo) (z : Value) (bytes : Nat) (ht : P.underlying t = some (.slice e)) (hi : P.info? e = some i) (hz : i.zero = some z)
    (hsize : i.size = size) (hby : i.bytes = bytes) (hzs : z.cells.size = size) (hsz : 0 < size) (hown : OwnO w base e size v n xs)
    (a : Addr) (m c : Nat) (news : List Value) (hl : news.length = m * size) (hnews : ∀ j u, news[j]? = some u → w.cell? (a.add j) = some u) (h1 : ∀ u ∈ news, u.oneCell' = true)
    (h63 : n + m ≤ maxLen) (hbytes : (n + m) * bytes ≤ 140737488355328) (hbase : base ≤ w.heap.size) :
    ∃ v' w', (Builtin.append_ #[t, t] ty #[v, .slice (some a) m c]).run P w = .ok v' w' ∧ OwnO w' base e size v' (n + m) (xs ++ news) ∧ w.grownBy w' v.ownBlock ∧
      (v'.ownBlock = v.ownBlock ∨ v'.ownBlock = some w.heap.size) := by
  rcases hown.2 with ⟨rfl, rfl⟩ | ⟨g, o, cap, cur, rfl, hbg, hg, hnc, hcm, hcs, htake⟩
  · have hx : xs = [] := List.eq_nil_of_length_eq_zero (by simpa using hown.1)
    subst hx
    obtain ⟨v', w', h1, h2, h3, _, h5⟩ := run_append_own_at (P := P) w base t ty e i z size bytes ht hi hz hsize hby hzs hsz (.slice none 0 0) 0 [] (World.ownsRow_nil _ _ _ _) a m c news hl hnews h1 h63 hbytes hbase
    exact ⟨v', w', h1, OwnO.of_own h2, h3, h5⟩
  · subst hsize
    subst hby
    have hsmall : n + m ≤ 9223372036854775807 := by simp only [maxLen] at h63; omega
    have hlen : (xs ++ news).length = (n + m) * i.size := by rw [List.length_append, hown.1, hl, Nat.add_mul]
    by_cases hroom : n + m ≤ cap
    · have hfit : o + n * i.size + news.length ≤ cur.size := by
        rw [hl]
        have := Nat.mul_le_mul_right i.size hroom
        rw [Nat.add_mul] at this
        omega
      have hf := run_firstCells_some (P := P) w i.size m a m c news hl hnews
      have hst := run_storeCells_at P g (o + n * i.size) e news 0 cur w hg (by simpa using hfit) h1
      simp only [Nat.add_zero] at hst
      have hadd : (⟨g, o, none⟩ : Addr).add (n * i.size) = ⟨g, o + n * i.size, none⟩ := by unfold Addr.add; split <;> simp_all
      refine ⟨.slice (some ⟨g, o, none⟩) (n + m) cap, w.setRow g (cur.toList.take (o + n * i.size) ++ news ++ cur.toList.drop (o + n * i.size + news.length)).toArray, ?_, ⟨hlen, .inr ⟨g, o, cap, _, rfl, hbg, setRow_heap w g cur _ e _ hg, hroom, hcm, ?_, ?_⟩⟩, ⟨rfl, rfl, rfl, by simp, fun k _ hk => setRow_other w g k _ (fun e => hk (by simp [Value.ownBlock, e]))⟩, .inl rfl⟩
      · simp [Builtin.append_, run_underlying ht, sizeOf, typeInfo, hi, Builtin.lenOf, hroom, hf, hadd, hst]
      · simp only [List.size_toArray, List.length_append, List.length_take, List.length_drop, Array.length_toList]
        omega
      · have ht1 : (cur.toList.take (o + n * i.size)).drop o = xs := by rw [List.drop_take, Nat.add_sub_cancel_left, htake]
        have hlo : o ≤ (cur.toList.take (o + n * i.size)).length := by
          rw [List.length_take, Array.length_toList]; omega
        simp only [List.append_assoc]
        rw [List.drop_append_of_le_length hlo, ht1, ← List.append_assoc, ← hlen]
        exact List.take_left
    · have holds : ∀ j u, xs[j]? = some u → w.cell? ((⟨g, o, none⟩ : Addr).add j) = some u := by
        obtain ⟨A, c', hv, _, _, hr⟩ := hown.form
        intro j u hu
        rcases Nat.eq_zero_or_pos n with h0 | h0
        · have := hown.1
          rw [h0, Nat.zero_mul] at this
          have hj := (List.getElem?_eq_some_iff.1 hu).1
          omega
        · obtain ⟨ad, hA, _, hc⟩ := hr.2 h0
          injection hv with hv
          rw [← hv] at hA
          injection hA with hA
          rw [hA]; exact hc j u hu
      have hr := run_append_grow (P := P) w t ty e i z ht hi hz ⟨g, o, none⟩ n cap xs hown.1 holds a m c news hl hnews (by omega) (by omega) (growslice_fits (by omega) hbytes)
      have hge := grownCap_ge w (n + m) cap e
      have hcm' : grownCap w (n + m) cap e ≤ maxLen := grownCap_le_maxLen w (n + m) cap e h63
      refine ⟨_, _, hr, ⟨hlen, .inr ⟨w.heap.size, 0, _, _, rfl, hbase, heap_alloc_new w.drew _, hge, hcm', ?_, ?_⟩⟩, ⟨rfl, rfl, rfl, by simp, fun k hk _ => heap_alloc_old w.drew _ hk⟩, .inr rfl⟩
      · simp only [Array.size_append, List.size_toArray, size_zeroCells, hzs, hown.1, hl, ← Nat.add_mul, Nat.zero_add]
        apply Nat.le_of_eq
        congr 1
        omega
      · simp only [Array.toList_append, List.append_assoc, List.drop_zero]
        rw [← List.append_assoc, ← hlen]
        exact List.take_left
theorem wpList_appO {P : Program} {ops : Array Oper} {rest : List Oper} {o : Oper} {a : Act} {Q : Exit → Act → World → Prop} (hgd : o.guard = none) (s x : Operand) (t : TypeId)
    (ho : o.op = .call { callee := .builtin .append, args := #[s, x], argTypes := #[t, t] })
    (base : Nat) (e : TypeId) (i : TypeInfo) (z : Value) (size bytes : Nat) (ht : P.underlying t = some (.slice e)) (hi : P.info? e = some i) (hz : i.zero = some z)
    (hsize : i.size = size) (hby : i.bytes = bytes) (hzs : z.cells.size = size) (hsz : 0 < size)
    (v : Value) (n : Nat) (xs : List Value) (hs : a.eval s = v) (hown : OwnO w base e size v n xs)
    (ad : Addr) (m c : Nat) (news : List Value) (hx : a.eval x = .slice (some ad) m c) (hl : news.length = m * size) (hnews : ∀ j u, news[j]? = some u → w.cell? (ad.add j) = some u) (h1 : ∀ u ∈ news, u.oneCell' = true)
    (hbytes : (n + m) * bytes ≤ 140737488355328) (hb0 : 0 < bytes) (hbase : base ≤ w.heap.size)
    (h : ∀ v' w', OwnO w' base e size v' (n + m) (xs ++ news) → w.grownBy w' v.ownBlock → Below base w w' → (v'.ownBlock = v.ownBlock ∨ v'.ownBlock = some w.heap.size) → wpList P ops Q rest (a.put o.dst v') w') : wpList P ops Q (o :: rest) a w :=
  wpList_plain hgd fun _ hK => by
    obtain ⟨v', w', hr, h2, h3, h5⟩ := run_append_O (P := P) t o.type i z bytes ht hi hz hsize hby hzs hsz hown ad m c news hl hnews h1
      (by have := Nat.le_mul_of_pos_right (n + m) hb0; unfold maxLen; omega) hbytes hbase
    unfold Oper.wp execOp
    simp only [ho, resolve, invoke, builtin, Sem.run_bind, Sem.run_pure, Result.andThen_ok, List.map_toArray, List.map_cons, List.map_nil, hs, hx, hr]
    exact hK _ _ (h v' w' h2 h3 ((Below.refl base w).grown h3 hbase (fun k hk => (hown.lt k hk).1)) h5)
end
end Go.Proofs.YtmikckhihfcooaaDoor
namespace Go.Proofs.YtmikckhihfcooaaDoor
open Go.RowKit
def tcCell (c : Tc) : List Value := [.int .i64 c.1, .int .u8 (c.2.toNat : Int)]
def tcCells (l : List Tc) : List Value := l.flatMap tcCell
theorem tc_len (c : Tc) : (tcCell c).length = 2 := rfl
theorem tcCells_len (l : List Tc) : (tcCells l).length = l.length * 2 := flat_len tc_len l
theorem tcCells_app (a b : List Tc) : tcCells (a ++ b) = tcCells a ++ tcCells b := by simp [tcCells]
theorem tcCells_one (a : Int) (b : UInt8) : tcCells [(a, b)] = [.int .i64 a, .int .u8 (b.toNat : Int)] := by simp [tcCells, tcCell]
theorem tcCells_drop (l : List Tc) : ∀ k, tcCells (l.drop k) = (tcCells l).drop (k * 2) := by
  induction l with
  | nil => intro k; simp [tcCells]
  | cons c l ih =>
    intro k
    cases k with
    | zero => simp
    | succ k =>
      rw [List.drop_succ_cons, ih k, show tcCells (c :: l) = tcCell c ++ tcCells l from rfl, show (k + 1) * 2 = (tcCell c).length + k * 2 by rw [tc_len]; omega, List.drop_append]
      simp
theorem tcCells_take (l : List Tc) : ∀ k, tcCells (l.take k) = (tcCells l).take (k * 2) := by
  induction l with
  | nil => intro k; simp [tcCells]
  | cons c l ih =>
    intro k
    cases k with
    | zero => simp [tcCells]
    | succ k =>
      rw [List.take_succ_cons, show tcCells (c :: l.take k) = tcCell c ++ tcCells (l.take k) from rfl, ih k, show tcCells (c :: l) = tcCell c ++ tcCells l from rfl, show (k + 1) * 2 = (tcCell c).length + k * 2 by rw [tc_len]; omega, List.take_append, List.take_of_length_le (l := tcCell c) (by omega)]
      simp
theorem tc_one (l : List Tc) : ∀ v ∈ tcCells l, v.oneCell' = true := fun v h => by
  obtain ⟨c, _, hv⟩ := List.mem_flatMap.1 h
  simp only [tcCell, List.mem_cons, List.not_mem_nil, or_false] at hv
  rcases hv with rfl | rfl <;> rfl
theorem info_tc : (Tryd.prog.info? 70).map (fun i => (i.zero, i.size, i.bytes)) = some (some (.agg #[.int .i64 0, .int .u8 0]), 2, 16) := by kernel_rfl
theorem Rd.at_tc {w : World} {B n : Nat} {A : Option Addr} {l : List Tc} (h : Rd w B 2 A n (tcCells l)) {k : Nat} (hk : k < n) :
    ∃ ad, ∃ hl : k < l.length, A = some ad ∧ ad.block < B ∧ w.cell? (ad.add (k * 2)) = some (.int .i64 l[k].1) ∧ w.cell? ⟨(ad.add (k * 2)).block, (ad.add (k * 2)).off + 1, none⟩ = some (.int .u8 (l[k].2.toNat : Int)) := by
  obtain ⟨ad, hl, e, hb, hc⟩ := Rd.at_rec tc_len (by omega) h hk
  refine ⟨ad, hl, e, hb, hc 0 _ rfl, ?_⟩
  have h1 := hc 1 _ rfl
  rwa [← add_add] at h1
theorem size_run {P : Program} {e : TypeId} {i : TypeInfo} (hi : P.info? e = some i) (w : World) : (sizeOf e).run P w = .ok i.size w := by simp [sizeOf, typeInfo, hi, go_sem]
theorem run_part {P : Program} {t : TypeId} (ht : P.underlying t = some (.slice (P.elem t))) {size : Nat} (hz : (P.info? (P.elem t)).map (·.size) = some size) (A : Option Addr) (n c a b : Nat) (hab : a ≤ b) (hb : b ≤ c) (w : World) :
    (Instr.sliceAt t (.slice A n c) (some (.int .i64 (a : Int))) (some (.int .i64 (b : Int))) none).run P w = .ok (.slice (if c = a then A else A.map (·.add (a * size))) (b - a) (c - a)) w := by
  obtain ⟨i, hi, rfl⟩ := Option.map_eq_some_iff.1 hz
  rw [run_sliceAt_slice w t _ _ _ _ ht, run_slice_lh w t A n c ht .i64 .i64 a b (by omega) (by omega) (by omega)]
  rw [size_run hi, Result.andThen]
  simp [sliced]
theorem run_partL {P : Program} {t : TypeId} (ht : P.underlying t = some (.slice (P.elem t))) {size : Nat} (hz : (P.info? (P.elem t)).map (·.size) = some size) (A : Option Addr) (n c a : Nat) (hab : a ≤ n) (w : World) :
    (Instr.sliceAt t (.slice A n c) (some (.int .i64 (a : Int))) none none).run P w = .ok (.slice (if c = a then A else A.map (·.add (a * size))) (n - a) (c - a)) w := by
  obtain ⟨i, hi, rfl⟩ := Option.map_eq_some_iff.1 hz
  rw [run_sliceAt_slice w t _ _ _ _ ht, run_slice_l w t A n c ht .i64 a (by omega) (by omega)]
  rw [size_run hi, Result.andThen]
  simp [sliced]
/-- A part of a slice that reads. -/
theorem Rd.part {w : World} {B size n c : Nat} {A : Option Addr} {xs : List Value} (h : Rd w B size A n xs) {a b : Nat} (hab : a ≤ b) (hb : b ≤ n) (hc : n ≤ c) :
    Rd w B size (if c = a then A else A.map (·.add (a * size))) (b - a) ((xs.drop (a * size)).take ((b - a) * size)) := by
  refine ⟨?_, fun hn => ?_⟩
  · rw [List.length_take, List.length_drop, h.1, ← Nat.sub_mul]
    exact Nat.min_eq_left (Nat.mul_le_mul_right _ (by omega))
  · obtain ⟨ad, rfl, hbl, hcell⟩ := h.2 (by omega)
    rw [if_neg (by omega)]
    refine ⟨ad.add (a * size), rfl, by rw [blk_add]; exact hbl, fun j u hu => ?_⟩
    rw [add_add]
    have hj : j < (b - a) * size := by
      have := (List.getElem?_eq_some_iff.1 hu).1
      rw [List.length_take] at this; omega
    refine hcell _ u ?_
    rw [List.getElem?_take_of_lt hj, List.getElem?_drop] at hu
    exact hu
theorem Rd.part_tc {w : World} {B n c : Nat} {A : Option Addr} {l : List Tc} (h : Rd w B 2 A n (tcCells l)) {a b : Nat} (hab : a ≤ b) (hb : b ≤ n) (hc : n ≤ c) :
    Rd w B 2 (if c = a then A else A.map (·.add (a * 2))) (b - a) (tcCells ((l.drop a).take (b - a))) := by
  rw [tcCells_take, tcCells_drop]; exact h.part hab hb hc
/-- As wpList_appRd, and it is told which block turns. -/
theorem wpList_appRdG {P : Program} {w : World} {ops : Array Oper} {rest : List Oper} {o : Oper} {a : Act} {Q : Exit → Act → World → Prop} (hgd : o.guard = none) (s x : Operand) (t : TypeId)
    (ho : o.op = .call { callee := .builtin .append, args := #[s, x], argTypes := #[t, t] })
    (base : Nat) (e : TypeId) (i : TypeInfo) (z : Value) (size bytes : Nat) (ht : P.underlying t = some (.slice e)) (hi : P.info? e = some i) (hz : i.zero = some z)
    (hsize : i.size = size) (hby : i.bytes = bytes) (hzs : z.cells.size = size) (hsz : 0 < size)
    (v : Value) (n : Nat) (xs : List Value) (hs : a.eval s = v) (hown : w.ownsRow base e size v n xs)
    (B : Nat) (A : Option Addr) (m c : Nat) (news : List Value) (hx : a.eval x = .slice A m c) (hr : Rd w B size A m news) (h1 : ∀ u ∈ news, u.oneCell' = true)
    (hbytes : (n + m) * bytes ≤ 140737488355328) (hb0 : 0 < bytes) (hbase : base ≤ w.heap.size)
    (h : ∀ v' w', w'.ownsRow base e size v' (n + m) (xs ++ news) → w.grownBy w' v.ownBlock → Below base w w' → wpList P ops Q rest (a.put o.dst v') w') : wpList P ops Q (o :: rest) a w := by
  refine wpList_plain hgd fun _ hK => ?_
  have h63 : n + m ≤ maxLen := by have := Nat.le_mul_of_pos_right (n + m) hb0; unfold maxLen; omega
  have key : ∃ v' w', (Builtin.append_ #[t, t] o.type #[v, .slice A m c]).run P w = .ok v' w' ∧ w'.ownsRow base e size v' (n + m) (xs ++ news) ∧ w.grownBy w' v.ownBlock := by
    rcases Nat.eq_zero_or_pos m with h0 | h0
    · subst h0
      have hn : news = [] := List.eq_nil_of_length_eq_zero (by simpa using hr.1)
      subst hn
      cases A with
      | none => exact ⟨v, w, run_append_nil w ht hi hown c, by simpa using hown, gb_refl _ _⟩
      | some ad =>
        obtain ⟨v', w', hrun, h2, h3, _⟩ := run_append_own (P := P) w base t o.type e i z size bytes ht hi hz hsize hby hzs hsz v n xs hown ad 0 c [] (by simp) (by simp) (by simp) h63 hbytes hbase
        exact ⟨v', w', hrun, h2, h3⟩
    · obtain ⟨ad, rfl, _, hc⟩ := hr.2 h0
      obtain ⟨v', w', hrun, h2, h3, _⟩ := run_append_own (P := P) w base t o.type e i z size bytes ht hi hz hsize hby hzs hsz v n xs hown ad m c news hr.1 hc h1 h63 hbytes hbase
      exact ⟨v', w', hrun, h2, h3⟩
  obtain ⟨v', w', hrun, h2, h3⟩ := key
  unfold Oper.wp execOp
  simp only [ho, resolve, invoke, builtin, Sem.run_bind, Sem.run_pure, Result.andThen_ok, List.map_toArray, List.map_cons, List.map_nil, hs, hx, hrun]
  exact hK _ _ (h v' w' h2 h3 ((Below.refl base w).grown h3 hbase (fun k hk => (hown.lt k hk).1)))
/-- Block g holds these bytes, whatever its marks. -/
def Byt (w : World) (g : Nat) (x : List UInt8) : Prop := ∃ cs fz, w.heap[g]? = some (.cells cs 5 fz) ∧ ∀ j, j < x.length → cs[j]? = some (.int .u8 ((x.getD j 0).toNat : Int))
section
variable {w w' : World} {g : Nat} {x : List UInt8}
theorem Byt.lt (h : Byt w g x) : g < w.heap.size := by
  obtain ⟨_, _, h, _⟩ := h
  exact (Array.getElem?_eq_some_iff.1 h).1
theorem Byt.cell (h : Byt w g x) {j : Nat} (hj : j < x.length) : w.cell? ⟨g, j, none⟩ = some (.int .u8 ((x.getD j 0).toNat : Int)) := by
  obtain ⟨cs, fz, h, hc⟩ := h
  rw [cell_of_row w g j cs _ fz h, hc j hj]
theorem Byt.new_ (w : World) (s : ByteArray) : Byt (Lib.bytesWorld w 5 s) w.heap.size (L s) := by
  refine ⟨_, _, Lib.bytesWorld_at_new w _ s, fun j hj => ?_⟩
  have h1 := Lib.bytesWorld_cell w 5 s j (by rw [L_len] at hj; exact hj)
  rwa [cell_of_row _ _ j _ _ _ (Lib.bytesWorld_at_new w _ s)] at h1
theorem Byt.grown {row : Option Nat} (h : Byt w g x) (hb : w.grownBy w' row) (hg : some g ≠ row) : Byt w' g x := by
  have hl := h.lt
  obtain ⟨cs, fz, h, hc⟩ := h
  exact ⟨cs, fz, (hb.block g hl hg).trans h, hc⟩
theorem Byt.below (h : Byt w g x) (hb : Below w.heap.size w w') : Byt w' g x := by
  have hl := h.lt
  obtain ⟨cs, fz, h, hc⟩ := h
  exact ⟨cs, fz, (hb.block g hl).trans h, hc⟩
theorem Byt.ne_own (h : Byt w g x) {base size n : Nat} {e : TypeId} {v : Value} {xs : List Value} (ho : w.ownsRow base e size v n xs) (hne : e ≠ 5) : some g ≠ v.ownBlock := by
  intro e1
  obtain ⟨cs, fz, h, hc⟩ := h
  rcases ho.2 with ⟨rfl, _⟩ | ⟨g', cap, cur, rfl, _, h3, _⟩
  · cases e1
  · simp only [Value.ownBlock, Option.some.injEq] at e1
    subst e1
    rw [h] at h3
    injection h3 with h3
    injection h3 with _ h4
    exact hne h4.symm
end
theorem Blk.ne_own {w : World} {base : Nat} {e t : TypeId} {size : Nat} {v : Value} {n g : Nat} {xs : List Value} {cs : Array Value} (hb : Blk w g t cs) (h : w.ownsRow base e size v n xs) (hne : e ≠ t) : some g ≠ v.ownBlock := by
  intro e1
  rcases h.2 with ⟨rfl, _⟩ | ⟨g', cap, cur, rfl, _, h3, _⟩
  · cases e1
  · simp only [Value.ownBlock, Option.some.injEq] at e1
    subst e1
    unfold Blk at hb
    rw [hb] at h3
    injection h3 with h3
    injection h3 with _ h4
    exact hne h4.symm
/-- Where the inner loop stands. -/
structure TpIn (w wr : World) (g8 gb : Nat) (xa xd : Nat) (xi : List UInt8) (o : Value) (out : List Tc) : Prop where
  box : Blk wr g8 39 #[.int .i64 (xa : Int), .int .i64 (xd : Int), .string (S xi)]
  by_ : Byt wr gb xi
  own : wr.ownsRow w.heap.size 70 2 o out.length (tcCells out)
  b : Below w.heap.size w wr
theorem TpIn.step {w wr w6 : World} {g8 gb xa xd : Nat} {xi : List UInt8} {o v6 : Value} {out out2 : List Tc} (h : TpIn w wr g8 gb xa xd xi o out) {cs : Array Value} (hg : (wr.alloc (.cells cs 70)).grownBy w6 o.ownBlock)
    (ho : w6.ownsRow w.heap.size 70 2 v6 out2.length (tcCells out2)) : TpIn w w6 g8 gb xa xd xi v6 out2 := by
  have h1 : (wr.alloc (.cells cs 70)).ownsRow w.heap.size 70 2 o out.length (tcCells out) := h.own.alloc _
  have hb := (h.box.alloc (.cells cs 70))
  have hy := h.by_.below ((Below.refl _ _).alloc (Nat.le_refl _) (.cells cs 70))
  refine ⟨hb.grown hg (hb.ne_own h1 (by decide)), hy.grown hg (hy.ne_own h1 (by decide)), ho, ?_⟩
  exact (h.b.alloc h.b.size _).grown hg (by have := h.b.size; simp; omega) (fun k hk => (h1.lt k hk).1)
/-- Where apply stands. -/
structure TpAt (l : List Tc) (es : List Ed) (k p : Nat) (out : List Tc) : Prop where
  kl : k ≤ es.length
  ch : ∃ pp, Chain l.length pp (es.drop k) ∧ after p pp
  pn : p ≤ l.length
  eq : tApply l 0 es = out ++ tApply l p (es.drop k)
theorem TpAt.start {l : List Tc} {es : List Ed} (h : edErr l.length es = 0) : TpAt l es 0 0 [] := ⟨Nat.zero_le _, ⟨none, (edErr_zero.1 h).2.2.2.1, rfl⟩, Nat.zero_le _, rfl⟩
theorem TpAt.bounds {l : List Tc} {es : List Ed} {k p : Nat} {out : List Tc} (h : TpAt l es k p out) (hk : k < es.length) : (p : Int) ≤ es[k].at_ ∧ 0 ≤ es[k].del ∧ es[k].at_ + es[k].del ≤ l.length ∧ es[k].ins.length ≤ 40 := by
  obtain ⟨pp, hc, ha⟩ := h.ch
  rw [List.drop_eq_getElem_cons hk] at hc
  cases hc with
  | cons _ _ _ h0 _ =>
    obtain ⟨h1, h2, h3, h4, h5, h6, h7⟩ := edOne_zero h0
    refine ⟨?_, h2, by omega, h5⟩
    cases pp with
    | none => simp only [after] at ha; omega
    | some e => simp only [after] at ha; have := h7 e rfl; omega
theorem TpAt.step {l : List Tc} {es : List Ed} {k p : Nat} {out : List Tc} (h : TpAt l es k p out) (hk : k < es.length) :
    TpAt l es (k + 1) (es[k].at_ + es[k].del).toNat (out ++ ((l.drop p).take (es[k].at_.toNat - p) ++ tIns es[k].ins)) := by
  have hb := h.bounds hk
  obtain ⟨pp, hc, ha⟩ := h.ch
  have he := h.eq
  rw [List.drop_eq_getElem_cons hk] at hc he
  cases hc with
  | cons _ _ _ h0 h9 =>
    obtain ⟨h1, h2, h3, h4, h5, h6, h7⟩ := edOne_zero h0
    refine ⟨hk, ⟨_, h9, by simp only [after]; omega⟩, by omega, ?_⟩
    rw [he, tApply]; simp
theorem TpAt.fin {l : List Tc} {es : List Ed} {p : Nat} {out : List Tc} (h : TpAt l es es.length p out) : out ++ l.drop p = tApply l 0 es := by
  rw [h.eq, List.drop_length, tApply]
theorem TpAt.len {l : List Tc} {es : List Ed} {k p : Nat} {out : List Tc} (h : TpAt l es k p out) (h0 : edErr l.length es = 0) : out.length ≤ 200 := by
  have := (tApply_len h0).2
  rw [h.eq, List.length_append] at this; omega
theorem TpIn.start {w wr w6 : World} {xa xd : Nat} {xi : List UInt8} {o v6 : Value} {out out2 : List Tc} (hb : Below w.heap.size w wr) (h : wr.ownsRow w.heap.size 70 2 o out.length (tcCells out))
    (hg : (wr.alloc (.cells #[.int .i64 (xa : Int), .int .i64 (xd : Int), .string (S xi)] 39)).grownBy w6 o.ownBlock) (ho : w6.ownsRow w.heap.size 70 2 v6 out2.length (tcCells out2)) :
    Blk w6 wr.heap.size 39 #[.int .i64 (xa : Int), .int .i64 (xd : Int), .string (S xi)] ∧ TpIn w (Lib.bytesWorld w6 5 (S xi)) wr.heap.size w6.heap.size xa xd xi v6 out2 := by
  have h1 := h.alloc (.cells #[.int .i64 (xa : Int), .int .i64 (xd : Int), .string (S xi)] 39)
  have hk : Blk w6 wr.heap.size 39 #[.int .i64 (xa : Int), .int .i64 (xd : Int), .string (S xi)] := (Blk.new_ _ _ _).grown hg ((Blk.new_ _ _ _).ne_own h1 (by decide))
  have hbw := bytesWorld_below w6 5 (S xi)
  refine ⟨hk, hk.below' hbw, Byt.new_ w6 (S xi), own_below ho hbw, ?_⟩
  have h6 : Below w.heap.size w w6 := (hb.alloc hb.size _).grown hg (by have := hb.size; simp; omega) (fun k hk => (h1.lt k hk).1)
  exact h6.trans (hbw.mono h6.size)
set_option maxRecDepth 100000 in
set_option maxHeartbeats 4000000 in
theorem trimApply_any (l : List Tc) (A : Option Addr) (n c : Nat) (es : List Ed) (E : Option Addr) (m d B : Nat) (w : World) (hl : Rd w B 2 A n (tcCells l)) (he : Rd w B 3 E m (edCells es)) (hB : B ≤ w.heap.size)
    (hnc : n ≤ c) (hn : c ≤ maxLen) (hE : edErr l.length es = 0) :
    Calls Tryd.prog 33 #[.slice A n c, .slice E m d] w fun e w' => ∃ v, e = .returned v ∧ w'.ownsRow w.heap.size 70 2 v (tApply l 0 es).length (tcCells (tApply l 0 es)) ∧ Below w.heap.size w w' := by
  obtain ⟨i0, hi0, hz0, hz1, hz2⟩ := info_parts info_tc
  have hel := Rd.rec_len ed_len (by omega) he
  have hll := Rd.rec_len tc_len (by omega) hl
  have hm20 : m ≤ 20 := by rw [← hel]; exact (edErr_zero.1 hE).2.2.1
  have hn200 : n ≤ 200 := by have := (edErr_zero.1 hE).2.1; omega
  unfold maxLen at hn
  have HR := Lib.hid hl; clear hl
  have HRE := Lib.hid he; clear he
  have HL := Lib.hid hll; clear hll
  have HLE := Lib.hid hel; clear hel
  have HE := Lib.hid hE; clear hE
  go_enter Tryd.func33, Tryd.ntmps33
  go_wp2_with fail
  go_loopw [5, 6, 13] (fun o a i wr => ∃ (k p : Nat) (out : List Tc), TpAt l es k p out ∧ i = .int .i64 k ∧ a = .int .i64 p ∧ wr.ownsRow w.heap.size 70 2 o out.length (tcCells out) ∧ Below w.heap.size w wr) (fun _ _ i _ => m - (intOf i).toNat)
  case atStart => exact ⟨0, 0, [], TpAt.start HE.out, rfl, rfl, World.ownsRow_nil _ _ _ _, Below.refl _ _⟩
  case round =>
    obtain ⟨k, p, out, HA, rfl, rfl, ho, hb⟩ := hrel
    have hk := HA.kl
    rw [HLE.out] at hk
    have hpn := HA.pn
    rw [HL.out] at hpn
    have hol := HA.len HE.out
    by_cases hlt : k < m
    · obtain ⟨ad, hl, rfl, hab, c0, c1, c2⟩ := (HRE.out.below (hb.mono hB)).at_ed hlt
      obtain ⟨b0, b1, b2, b3⟩ := HA.bounds hl
      have hst := HA.step hl
      have hol2 := hst.len HE.out
      have HST := Lib.hid hst
      have HO := Lib.hid ho
      clear HA hst ho
      rw [HL.out] at b2
      generalize es[k] = x at *
      obtain ⟨xa, xd, xi⟩ := x
      simp only at c0 c1 c2 b0 b1 b2 b3 HST hol2
      obtain ⟨xa, rfl⟩ := Int.eq_ofNat_of_zero_le (show 0 ≤ xa by omega)
      obtain ⟨xd, rfl⟩ := Int.eq_ofNat_of_zero_le b1
      have b4 : p ≤ xa := by omega
      have b5 : xa + xd ≤ n := by omega
      have b6 : xa ≤ c := by omega
      have hrd := (HR.out.below (hb.mono hB)).part_tc b4 (by omega : xa ≤ n) hnc
      have hcut := fun W => run_part (P := Tryd.prog) (t := 68) Tryd.underlying68 (size := 2) (by kernel_rfl) A n c p xa b4 b6 W
      generalize (if c = p then A else A.map (·.add (p * 2))) = A2 at *
      have HRD := Lib.hid (hrd.more hB)
      clear hrd
      have hln : ((l.drop p).take (xa - p)).length = xa - p := by rw [List.length_take, List.length_drop, HL.out]; omega
      have HLN := Lib.hid hln
      have hlb : (tcCells ((l.drop p).take (xa - p))).length = (xa - p) * 2 := by rw [tcCells_len, hln]
      clear hln
      rw [Int.toNat_natCast] at HST hol2
      generalize (l.drop p).take (xa - p) = mid at *
      have hcv := fun W => Lib.run_convert_string_bytes (P := Tryd.prog) W 9 81 5 (S xi) Tryd.underlying9 Tryd.underlying81 Tryd.underlying5
      go_wp2_with (at_builtin; go_must (refine wpList_appRdG rfl _ _ _ rfl w.heap.size 70 i0 _ 2 16 Tryd.underlying68 hi0 hz0 hz1 hz2 rfl (by omega) _ out.length (tcCells out) rfl (World.ownsRow.alloc (w := wr) HO.out _) w.heap.size A2 (xa - p) (c - p) (tcCells mid) rfl (HRD.out.alloc hb.size _) (tc_one mid) (by omega) (by omega) (by have := hb.size; simp; omega) ?_); intro v6 w6 hown6 hg6 hb6; have hs6 := TpIn.start (out2 := out ++ mid) hb HO.out hg6 (by rw [tcCells_app, List.length_append, HLN.out]; exact hown6); obtain ⟨hk6, hin6⟩ := hs6; have HIN := Lib.hid hin6; have hk2 := Blk.cell2 hk6; clear hin6 hk6 hg6 hown6 hb6 c0 c1 c2 hcut)
      clear hcv hk2
      have HSZ : Hid ((S xi).size = xi.length) := S_size xi
      have hz3 : (S xi).size ≤ 40 := by rw [HSZ.out]; exact b3
      have hg8 := HIN.out.box.lt
      have hgb := HIN.out.by_.lt
      generalize Lib.bytesWorld w6 5 (S xi) = w7 at *
      generalize w6.heap.size = gb at *
      generalize wr.heap.size = g8 at *
      go_loopw [5, 28] (fun o i w' => ∃ j : Nat, j ≤ (S xi).size ∧ i = .int .i64 j ∧ TpIn w w' g8 gb xa xd xi o (out ++ mid ++ tIns (xi.take j))) (fun _ i _ => (S xi).size - (intOf i).toNat)
      case atStart => exact ⟨0, Nat.zero_le _, rfl, by simpa [tIns] using HIN.out⟩
      case round =>
        clear HIN
        obtain ⟨j, hj, rfl, hI⟩ := hrel
        have hlen9 : (out ++ mid ++ tIns (xi.take j)).length ≤ 200 := by
          simp only [List.length_append, tIns, List.length_map, List.length_take] at hol2 ⊢; omega
        by_cases hlj : j < (S xi).size
        · have g2 : decide ((j : Int) < ((S xi).size : Int)) = true := decide_eq_true (by omega)
          have cb := hI.by_.cell (j := j) (by rw [← HSZ.out]; exact hlj)
          have HTK : Hid (out ++ mid ++ tIns (xi.take (j + 1)) = (out ++ mid ++ tIns (xi.take j)) ++ [(-1, xi.getD j 0)]) := by
            unfold Hid
            rw [List.take_succ_eq_append_getElem (by rw [← HSZ.out]; exact hlj), List.getD_eq_getElem?_getD, List.getElem?_eq_getElem (by rw [← HSZ.out]; exact hlj)]
            unfold tIns
            rw [List.map_append, ← List.append_assoc]; rfl
          have HI := Lib.hid hI
          clear hI
          generalize out ++ mid ++ tIns (xi.take j) = q at *
          generalize xi.getD j 0 = y at *
          have hown := HI.out.own
          have hbs := HI.out.b.size
          go_wp2_with (at_builtin; go_must (refine wpList_appG rfl _ _ _ rfl w.heap.size 70 i0 _ 2 16 Tryd.underlying68 hi0 hz0 hz1 hz2 rfl (by omega) _ q.length (tcCells q) rfl (World.ownsRow.alloc (w := wr) hown _) ⟨wr.heap.size, 0, none⟩ 1 1 [.int .i64 (-1), .int .u8 (y.toNat : Int)] rfl rfl (cells_new2 _ _ _ _) (by simp [Value.oneCell']) (by omega) (by omega) (by simp; omega) ?_); intro v6 w6 hown6 hg6 hb6)
          have HN : Hid (TpIn w w6 g8 gb xa xd xi v6 (q ++ [(-1, y)])) := HI.out.step hg6 (by rw [tcCells_app, tcCells_one, List.length_append]; exact hown6)
          clear hown6 hg6 hb6 hown HI
          go_roundw
          case rel => exact ⟨j + 1, by omega, by go_num, by rw [HTK.out]; exact HN.out⟩
          case measure => simp [intOf]; omega
        · obtain rfl : j = (S xi).size := by omega
          have g2 : decide (((S xi).size : Int) < ((S xi).size : Int)) = false := by simp
          have e9 : out ++ mid ++ tIns (xi.take (S xi).size) = out ++ (mid ++ tIns xi) := by
            rw [List.take_of_length_le (by rw [HSZ.out]; exact Nat.le_refl _), List.append_assoc]
          rw [e9] at hI
          clear e9
          have q0 := Blk.cell0 hI.box
          have q1 := Blk.cell1 hI.box
          have hown := hI.own
          have hb9 := hI.b
          have HST2 : Hid (TpAt l es (k + 1) (xa + xd) (out ++ (mid ++ tIns xi))) := HST.out
          clear hI
          go_wp2_with fail
          go_roundw
          case rel => exact ⟨k + 1, xa + xd, _, HST2.out, by go_num, by go_num, hown, hb9⟩
          case measure => simp [intOf]; omega
    · obtain rfl : k = m := by omega
      have g1 : decide ((k : Int) < (k : Int)) = false := by simp
      have HF : Hid (out ++ l.drop p = tApply l 0 es) := by
        have h9 := HA
        rw [show k = es.length from HLE.out.symm] at h9
        exact h9.fin
      have hrd := (HR.out.below (hb.mono hB)).part_tc hpn (Nat.le_refl n) hnc
      have hcut := fun W => run_partL (P := Tryd.prog) (t := 68) Tryd.underlying68 (size := 2) (by kernel_rfl) A n c p hpn W
      generalize (if c = p then A else A.map (·.add (p * 2))) = A2 at *
      have HRD := Lib.hid (hrd.more hB)
      have e9 : (l.drop p).take (n - p) = l.drop p := List.take_of_length_le (by rw [List.length_drop, HL.out]; exact Nat.le_refl _)
      have HE9 := Lib.hid e9
      have hlp : (l.drop p).length = n - p := by rw [List.length_drop, HL.out]
      have HLP := Lib.hid hlp
      have HO := Lib.hid ho
      clear hrd HA e9 hlp ho
      go_wp2_with (at_builtin; go_must (refine wpList_appRd rfl _ _ _ rfl w.heap.size 70 i0 _ 2 16 Tryd.underlying68 hi0 hz0 hz1 hz2 rfl (by omega) _ out.length (tcCells out) rfl HO.out w.heap.size A2 (n - p) (c - p) _ rfl HRD.out (tc_one _) (by omega) (by omega) hb.size ?_); intro v6 w6 hown6 hb6)
      go_ret
      refine ⟨_, rfl, ?_, hb.trans hb6⟩
      rw [← HF.out, tcCells_app, List.length_append, HLP.out]
      rw [HE9.out] at hown6
      exact hown6
end Go.Proofs.YtmikckhihfcooaaDoor
