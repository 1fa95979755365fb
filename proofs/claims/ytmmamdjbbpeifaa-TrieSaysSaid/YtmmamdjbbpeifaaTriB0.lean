/- The tree of words while it is built: in memory. -/
import Derived.Test.YtmmamdjbbpeifaaTriA
import Derived.Test.YtmmamdjbbpeifaaTreE0
import Derived.Lib.ConvBytes
namespace Go.Proofs.Ytmmamdjbbpeifaa
open Go.RowKit
theorem flat_set {α : Type} {ec : α → List Value} {m : Nat} (hec : ∀ x, (ec x).length = m) {y : α} {j : Nat} (hj : j < m) {u : Value} : ∀ (l : List α) (i : Nat) (x : α), l[i]? = some x → ec y = (ec x).set j u → (l.flatMap ec).set (i * m + j) u = (l.set i y).flatMap ec
  | [], i, x, h, _ => by simp at h
  | a :: l, 0, x, h, he => by
    injection h with h
    subst h
    rw [List.set_cons_zero, List.flatMap_cons, List.flatMap_cons, he, Nat.zero_mul, Nat.zero_add, List.set_append_left _ _ (by rw [hec]; exact hj)]
  | a :: l, i + 1, x, h, he => by
    rw [List.getElem?_cons_succ] at h
    rw [List.set_cons_succ, List.flatMap_cons, List.flatMap_cons, ← flat_set hec hj l i x h he, List.set_append_right _ _ (by rw [hec, Nat.add_mul]; omega)]
    congr 2
    rw [hec, Nat.add_mul]; omega
theorem own_ne_2 {w : World} {b1 b2 s1 s2 n1 n2 : Nat} {e1 e2 : TypeId} {v1 v2 : Value} {xs ys : List Value} (h1 : OwnO w b1 e1 s1 v1 n1 xs) (h2 : OwnO w b2 e2 s2 v2 n2 ys) (hne : e1 ≠ e2) : v1.ownBlock = none ∨ v1.ownBlock ≠ v2.ownBlock := by
  rcases h2.2 with ⟨rfl, _⟩ | ⟨g, o, cap, cur, rfl, _, hg, _⟩
  · cases h : v1.ownBlock with
    | none => exact .inl rfl
    | some k => exact .inr (by simp [Value.ownBlock])
  · exact h1.ne_blk (g := g) (cs := cur) hg hne
def Tm.val (x : Tm) : Value := .slice x.A x.nx.length x.c
/-- A node's edges, in a row of their own. -/
def TmOk (w : World) (B : Nat) (x : Tm) : Prop := OwnO w B 96 2 x.val x.nx.length (egCells x.nx)
structure TbOk (w : World) (B : Nat) (A : Option Addr) (c : Nat) (T : List Tm) : Prop where
  row : OwnO w B 72 3 (.slice A T.length c) T.length (tmCells T)
  mem : ∀ x ∈ T, TmOk w B x
  apart : ∀ (i j : Nat) x y, i ≠ j → T[i]? = some x → T[j]? = some y → Apart x.val y.val
section
variable {w w' : World} {B : Nat} {A : Option Addr} {ad : Addr} {c : Nat} {T : List Tm}
theorem TbOk.below (h : TbOk w B A c T) (hb : Below w.heap.size w w') : TbOk w' B A c T := ⟨h.row.below hb, fun x hx => OwnO.below (h.mem x hx) hb, h.apart⟩
theorem TbOk.rd (h : TbOk w B A c T) : TrRd w w.heap.size A T := by
  obtain ⟨A', c', hv, _, _, hr⟩ := h.row.form
  cases hv
  refine ⟨hr, fun x hx => ?_⟩
  obtain ⟨A', c', hv, _, _, hr⟩ := OwnO.form (h.mem x hx)
  unfold Tm.val at hv
  cases hv
  exact hr
theorem own_kept_set {base size n : Nat} {e : TypeId} {v : Value} {xs : List Value} (h : OwnO w base e size v n xs) {p : Addr} (hne : v.ownBlock = none ∨ v.ownBlock ≠ some p.block) (u : Value) : OwnO (w.setCell p u) base e size v n xs := by
  refine ⟨h.1, ?_⟩
  rcases h.2 with hn | ⟨g, o, cap, cur, rfl, hb, hgg, rest⟩
  · exact .inl hn
  · refine .inr ⟨g, o, cap, cur, rfl, hb, ?_, rest⟩
    rw [Below.heap_setCell w p u g (by
      rcases hne with h | h
      · simp [Value.ownBlock] at h
      · intro e; exact h (by simp [Value.ownBlock, e]))]
    exact hgg
theorem tm_set {i : Nat} {x y : Tm} (hx : T[i]? = some x) {j : Nat} (hj : j < 3) {u : Value} (hy : y.cells = x.cells.set j u) : (tmCells T).set (i * 3 + j) u = tmCells (T.set i y) := flat_set tm_len hj T i x hx hy
theorem il_lt {α : Type} {l : List α} {i : Nat} {x : α} (h : l[i]? = some x) : i < l.length := (List.getElem?_eq_some_iff.1 h).1
/-- A node's number turns. -/
theorem TbOk.num (h : TbOk w B (some ad) c T) {i : Nat} {x y : Tm} (hx : T[i]? = some x) {j : Nat} (hj : j < 3) {u : Value} (hy : y.cells = x.cells.set j u) (hA : y.A = x.A) (hc : y.c = x.c) (hn : y.nx = x.nx) :
    TbOk (w.setCell (ad.add (i * 3 + j)) u) B (some ad) c (T.set i y) ∧ w.frozen? (ad.add (i * 3 + j)) = false := by
  have hil := il_lt hx
  have hs := own_set h.row (j := i * 3 + j) (by omega) u
  have hv : y.val = x.val := by unfold Tm.val; rw [hA, hc, hn]
  refine ⟨⟨?_, ?_, ?_⟩, hs.2⟩
  · have := hs.1
    rw [tm_set hx hj hy] at this
    rw [List.length_set]; exact this
  · intro z hz
    have hz' : TmOk w B z := by
      rcases List.mem_or_eq_of_mem_set hz with hz | rfl
      · exact h.mem z hz
      · have := h.mem x (List.mem_of_getElem? hx)
        unfold TmOk at this ⊢
        rw [hv, hn]; exact this
    refine own_kept_set hz' ?_ u
    rw [blk_add]
    exact own_ne_2 hz' h.row (by decide)
  · intro a b z1 z2 hab h1 h2
    have key : ∀ (a : Nat) z, (T.set i y)[a]? = some z → ∃ z', T[a]? = some z' ∧ z'.val = z.val := by
      intro a z hz
      by_cases e : i = a
      · subst e
        rw [List.getElem?_set_self hil] at hz
        injection hz with hz
        subst hz
        exact ⟨x, hx, hv.symm⟩
      · rw [List.getElem?_set_ne e] at hz
        exact ⟨z, hz, rfl⟩
    obtain ⟨z1', g1, e1⟩ := key a z1 h1
    obtain ⟨z2', g2, e2⟩ := key b z2 h2
    rw [← e1, ← e2]
    exact h.apart a b z1' z2' hab g1 g2
/-- An edge more at a node. -/
theorem TbOk.edge {w1 : World} (h : TbOk w B (some ad) c T) {i : Nat} {x : Tm} (hx : T[i]? = some x) {e : UInt8 × Nat} {A' : Option Addr} {c' : Nat}
    (ho : OwnO w1 B 96 2 (.slice A' (x.nx.length + 1) c') (x.nx.length + 1) (egCells (x.nx ++ [e]))) (hg : w.grownBy w1 x.val.ownBlock)
    (hnew : (Value.slice A' (x.nx.length + 1) c').ownBlock = x.val.ownBlock ∨ (Value.slice A' (x.nx.length + 1) c').ownBlock = some w.heap.size) :
    TbOk (w1.setCell (ad.add (i * 3)) (.slice A' (x.nx.length + 1) c')) B (some ad) c (T.set i ⟨A', c', x.nx ++ [e], x.fl, x.en⟩) ∧ w1.frozen? (ad.add (i * 3)) = false ∧ w1.cell? (ad.add (i * 3)) = some (.slice x.A x.nx.length x.c) := by
  have hil := il_lt hx
  have hxm := h.mem x (List.mem_of_getElem? hx)
  have hrow1 : OwnO w1 B 72 3 (.slice (some ad) T.length c) T.length (tmCells T) := h.row.kept hg (own_ne_2 h.row hxm (by decide))
  have hs := own_set hrow1 (j := i * 3 + 0) (by omega) (.slice A' (x.nx.length + 1) c')
  have hcl : (⟨A', c', x.nx ++ [e], x.fl, x.en⟩ : Tm).cells = x.cells.set 0 (.slice A' (x.nx.length + 1) c') := by
    unfold Tm.cells
    rw [List.length_append]; rfl
  have hval : (⟨A', c', x.nx ++ [e], x.fl, x.en⟩ : Tm).val = .slice A' (x.nx.length + 1) c' := by unfold Tm.val; rw [List.length_append]; rfl
  have hcell : w1.cell? (ad.add (i * 3)) = some (.slice x.A x.nx.length x.c) := by
    obtain ⟨_, _, hv, _, _, hr⟩ := hrow1.form
    cases hv
    obtain ⟨ad', _, he, _, hc, _⟩ := tm_at hr hil
    cases he
    rw [hc, (List.getElem?_eq_some_iff.1 hx).2]
  refine ⟨⟨?_, ?_, ?_⟩, hs.2, hcell⟩
  · have := hs.1
    rw [tm_set hx (by omega) hcl] at this
    rw [List.length_set]; exact this
  · intro z hz
    have hz' : TmOk w1 B z := by
      obtain ⟨a, ha⟩ := List.getElem?_of_mem hz
      by_cases e1 : i = a
      · subst e1
        rw [List.getElem?_set_self hil] at ha
        injection ha with ha
        subst ha
        unfold TmOk
        rw [hval, List.length_append]
        exact ho
      · rw [List.getElem?_set_ne e1] at ha
        have hap := h.apart a i z x (Ne.symm e1) ha hx
        exact OwnO.kept (h.mem z (List.mem_of_getElem? ha)) hg hap
    refine own_kept_set hz' ?_ _
    rw [blk_add]
    exact own_ne_2 hz' hrow1 (by decide)
  · have hnw : ∀ (a : Nat) z, i ≠ a → T[a]? = some z → Apart z.val (.slice A' (x.nx.length + 1) c') := by
      intro a z hia ha
      have hap := h.apart a i z x (Ne.symm hia) ha hx
      have hlt := OwnO.lt (h.mem z (List.mem_of_getElem? ha))
      rcases hnew with hu | hu
      · rcases hap with hap | hap
        · exact .inl hap
        · exact .inr (by rw [hu]; exact hap)
      · cases hv : z.val.ownBlock with
        | none => exact .inl hv
        | some g =>
          refine .inr ?_
          rw [hv, hu]
          intro e
          have := (hlt g hv).2
          simp only [Option.some.injEq] at e
          omega
    intro a b z1 z2 hab h1 h2
    by_cases e1 : i = a
    · subst e1
      rw [List.getElem?_set_self hil] at h1
      injection h1 with h1
      subst h1
      rw [List.getElem?_set_ne hab] at h2
      rw [hval]
      exact (hnw b z2 hab h2).comm
    · rw [List.getElem?_set_ne e1] at h1
      by_cases e2 : i = b
      · subst e2
        rw [List.getElem?_set_self hil] at h2
        injection h2 with h2
        subst h2
        rw [hval]
        exact hnw a z1 e1 h1
      · rw [List.getElem?_set_ne e2] at h2
        exact h.apart a b z1 z2 hab h1 h2
/-- A node more. -/
theorem TbOk.push (h : TbOk w B A c T) {A' : Option Addr} {c' : Nat} (ho : OwnO w' B 72 3 (.slice A' (T.length + 1) c') (T.length + 1) (tmCells (T ++ [⟨none, 0, [], 0, -1⟩]))) (hg : w.grownBy w' (Value.slice A T.length c).ownBlock) :
    TbOk w' B A' c' (T ++ [⟨none, 0, [], 0, -1⟩]) := by
  refine ⟨by rw [List.length_append]; exact ho, ?_, ?_⟩
  · intro z hz
    rcases List.mem_append.1 hz with hz | hz
    · exact OwnO.kept (h.mem z hz) hg (own_ne_2 (h.mem z hz) h.row (by decide))
    · rw [List.mem_singleton] at hz
      subst hz
      exact OwnO.nil_
  · intro a b z1 z2 hab h1 h2
    rcases Nat.lt_or_ge a T.length with ha | ha
    · rw [List.getElem?_append_left ha] at h1
      rcases Nat.lt_or_ge b T.length with hb | hb
      · rw [List.getElem?_append_left hb] at h2
        exact h.apart a b z1 z2 hab h1 h2
      · have hbl := il_lt h2
        rw [List.length_append, List.length_singleton] at hbl
        obtain rfl : b = T.length := by omega
        rw [List.getElem?_append_right (Nat.le_refl _), Nat.sub_self] at h2
        injection h2 with h2
        subst h2
        exact Apart.comm (.inl rfl)
    · have hal := il_lt h1
      rw [List.length_append, List.length_singleton] at hal
      obtain rfl : a = T.length := by omega
      rw [List.getElem?_append_right (Nat.le_refl _), Nat.sub_self] at h1
      injection h1 with h1
      subst h1
      exact .inl rfl
/-- The bytes behind '[]byte(s)'. -/
def ByAt (w : World) (g : Nat) (l : List UInt8) : Prop := ∃ cs q, w.heap[g]? = some (.cells cs 5 q) ∧ ∀ j, j < l.length → cs[j]? = some (.int .u8 ((l.getD j 0).toNat : Int))
theorem ByAt.lt {g : Nat} {l : List UInt8} (h : ByAt w g l) : g < w.heap.size := by
  obtain ⟨cs, q, h, _⟩ := h
  exact (Array.getElem?_eq_some_iff.1 h).1
theorem ByAt.cell {g : Nat} {l : List UInt8} (h : ByAt w g l) {j : Nat} (hj : j < l.length) : w.cell? ⟨g, j, none⟩ = some (.int .u8 ((l.getD j 0).toNat : Int)) := by
  obtain ⟨cs, q, h, hc⟩ := h
  rw [cell_of_row w g j cs 5 q h]
  exact hc j hj
theorem ByAt.kept {g : Nat} {l : List UInt8} {row : Option Nat} (h : ByAt w g l) (hg : w.grownBy w' row) (hne : some g ≠ row) : ByAt w' g l := by
  have hl := h.lt
  obtain ⟨cs, q, h, hc⟩ := h
  exact ⟨cs, q, (hg.block g hl hne).trans h, hc⟩
theorem ByAt.below {g : Nat} {l : List UInt8} (h : ByAt w g l) (hb : Below w.heap.size w w') : ByAt w' g l := h.kept (gb_of_below hb none) (by simp)
theorem ByAt.ne_own {g : Nat} {l : List UInt8} (h : ByAt w g l) {base size n : Nat} {e : TypeId} {v : Value} {xs : List Value} (ho : OwnO w base e size v n xs) (hne : e ≠ 5) : some g ≠ v.ownBlock := by
  obtain ⟨cs, q, h, _⟩ := h
  rcases ho.2 with ⟨rfl, _⟩ | ⟨g', o, cap, cur, rfl, _, hh, _⟩
  · simp [Value.ownBlock]
  · intro he
    simp only [Value.ownBlock, Option.some.injEq] at he
    subst he
    rw [hh] at h
    injection h with h
    injection h with _ ht _
    exact hne ht
theorem ByAt.far {g : Nat} {l : List UInt8} (h : ByAt w g l) {p : Addr} (hp : g ≠ p.block) (u : Value) : ByAt (w.setCell p u) g l := by
  obtain ⟨cs, q, h, hc⟩ := h
  exact ⟨cs, q, (Below.heap_setCell w p u g hp).trans h, hc⟩
theorem ByAt.new_ (w : World) (s : ByteArray) : ByAt (Lib.bytesWorld w 5 s) w.heap.size (L s) := by
  refine ⟨_, _, Lib.bytesWorld_at_new w 5 s, fun j hj => ?_⟩
  have h := Lib.bytesWorld_cell w 5 s j (by rw [L_len] at hj; exact hj)
  rw [cell_of_row _ _ j _ 5 _ (Lib.bytesWorld_at_new w 5 s)] at h
  exact h
/-- All of an edge that is new, and its node's row: what stands behind both stores. -/
theorem TbOk.edge2 {wA w8 : World} {k b0 : Nat} (h : TbOk wA b0 (some ad) c T) {i : Nat} {xA : Option Addr} {xc fl : Nat} {nx : List (UInt8 × Nat)} {en : Int} (hx : T[i]? = some ⟨xA, xc, nx, fl, en⟩) {e : UInt8 × Nat} {A8 : Option Addr} {c8 : Nat}
    (ho : OwnO w8 b0 96 2 (.slice A8 (nx.length + 1) c8) (nx.length + 1) (egCells nx ++ egC e)) (hg : wA.grownBy w8 (Value.slice xA nx.length xc).ownBlock)
    (hnew : (Value.slice A8 (nx.length + 1) c8).ownBlock = (Value.slice xA nx.length xc).ownBlock ∨ (Value.slice A8 (nx.length + 1) c8).ownBlock = some wA.heap.size) {p : List UInt8} (hby : ByAt wA k p) (hb : Below b0 w wA) (hb8 : Below b0 wA w8) :
    w8.frozen? (ad.add (i * 3)) = false ∧ w8.cell? (ad.add (i * 3)) = some (.slice xA nx.length xc) ∧ ∃ T1, T1.length = T.length ∧ T1.map Tm.nd = (T.map Tm.nd).set i ⟨nx ++ [e], fl, en⟩ ∧
      TbOk (w8.setCell (ad.add (i * 3)) (.slice A8 (nx.length + 1) c8)) b0 (some ad) c T1 ∧ ByAt (w8.setCell (ad.add (i * 3)) (.slice A8 (nx.length + 1) c8)) k p ∧ Below b0 w (w8.setCell (ad.add (i * 3)) (.slice A8 (nx.length + 1) c8)) := by
  obtain ⟨h1, h2, h3⟩ := TbOk.edge h hx (e := e) (A' := A8) (c' := c8) (by rw [egCells_append]; simpa [egCells] using ho) hg hnew
  have hxm := h.mem _ (List.mem_of_getElem? hx)
  have hby8 := hby.kept hg (hby.ne_own hxm (by decide))
  have hrow8 : OwnO w8 b0 72 3 (.slice (some ad) T.length c) T.length (tmCells T) := h.row.kept hg (own_ne_2 h.row hxm (by decide))
  refine ⟨h2, h3, _, List.length_set, ?_, h1, hby8.far ?_ _, (hb.trans hb8).setCell ?_ _⟩
  · rw [List.map_set]; rfl
  · have := hby8.ne_own hrow8 (by decide)
    rw [blk_add]
    intro e
    exact this (by rw [e]; rfl)
  · rw [blk_add]
    exact (h.row.lt ad.block rfl).1
end
end Go.Proofs.Ytmmamdjbbpeifaa
