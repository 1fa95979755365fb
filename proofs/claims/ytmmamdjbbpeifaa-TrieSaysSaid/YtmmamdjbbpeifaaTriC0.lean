/- The tree of words while its fall-backs are laid: in memory. -/
import Derived.Test.YtmmamdjbbpeifaaTriB0
import Derived.Lib.Hide
namespace Go.Proofs.Ytmmamdjbbpeifaa
open Go.RowKit
def niC (l : List Nat) : List Value := l.map fun (k : Nat) => .int .i64 (k : Int)
theorem niC_len (l : List Nat) : (niC l).length = l.length := List.length_map _
theorem niC_app (a b : List Nat) : niC (a ++ b) = niC a ++ niC b := List.map_append
structure BfAt (ps : List (List UInt8)) (n : Nat) (wd : List (List UInt8)) (w0 w : World) (B : Nat) (ad : Addr) (c m : Nat) (E : List Nat) (h : Nat) (nx : List (UInt8 × Nat)) (q : Nat) (T : List Tm) (At : Option Addr) (ct : Nat) : Prop where
  bf : BfOk wd (T.map Tm.nd) E h nx q
  ok : TrOk wd (T.map Tm.nd)
  en : EnOk ps n wd (T.map Tm.nd)
  len : T.length = m
  qu : OwnO w B 3 1 (.slice At (E.length - h) ct) (E.length - h) (niC (E.drop h))
  tb : TbOk w B (some ad) c T
  b : Below B w0 w
  bs : B ≤ w.heap.size
  hh : h ≤ E.length
section
variable {ps wd : List (List UInt8)} {n : Nat} {w0 w w' : World} {B : Nat} {ad : Addr} {c m : Nat} {E : List Nat} {h : Nat} {nx : List (UInt8 × Nat)} {q : Nat} {T : List Tm} {At : Option Addr} {ct : Nat}
theorem BfAt.below (H : BfAt ps n wd w0 w B ad c m E h nx q T At ct) (hb : Below w.heap.size w w') : BfAt ps n wd w0 w' B ad c m E h nx q T At ct :=
  ⟨H.bf, H.ok, H.en, H.len, H.qu.below hb, H.tb.below hb, H.b.trans (hb.mono H.bs), Nat.le_trans H.bs hb.size, H.hh⟩
theorem BfAt.head (H : BfAt ps n wd w0 w B ad c m E h nx q T At ct) (hlt : h < E.length) : ∃ ta, At = some ta ∧ w.cell? ta = some (.int .i64 ((E[h] : Nat) : Int)) := by
  obtain ⟨A', c', hv, _, _, hr⟩ := H.qu.form
  cases hv
  obtain ⟨ta, e, _, hc⟩ := hr.2 (by omega)
  refine ⟨ta, e, ?_⟩
  have := hc 0 (.int .i64 ((E[h] : Nat) : Int)) (by
    unfold niC
    rw [List.getElem?_map, List.getElem?_drop, Nat.add_zero, List.getElem?_eq_getElem hlt]; rfl)
  have e0 : ta.add 0 = ta := by unfold Addr.add; rfl
  rwa [e0] at this
theorem BfAt.cnt (H : BfAt ps n wd w0 w B ad c m E h nx q T At ct) : E.length ≤ m ∧ wd.length = m := by
  have h1 := H.bf.count
  have h2 := H.ok.len
  rw [List.length_map, H.len] at h2
  exact ⟨by omega, h2.symm⟩
theorem BfAt.lt (H : BfAt ps n wd w0 w B ad c m E h nx q T At ct) {i : Nat} (hi : i ∈ E) : i < T.length := by
  have h1 := H.bf.lt i hi
  rw [H.cnt.2] at h1
  rw [H.len]; exact h1
theorem BfAt.enter (H : BfAt ps n wd w0 w B ad c m E h [] 0 T At ct) (nx : List (UInt8 × Nat)) : BfAt ps n wd w0 w B ad c m E h nx 0 T At ct := ⟨H.bf.enter nx, H.ok, H.en, H.len, H.qu, H.tb, H.b, H.bs, H.hh⟩
/-- The queue's head is taken. -/
theorem BfAt.leave (H : BfAt ps n wd w0 w B ad c m E h nx q T At ct) {a : Nat} {x : Tm} {u : List UInt8} (ha : E[h]? = some a) (hx : T[a]? = some x) (hu : wd[a]? = some u) (hnx : nx = x.nx) (hq : nx.length ≤ q) (hA : At ≠ none) :
    BfAt ps n wd w0 w B ad c m E (h + 1) [] 0 T (if ct = 1 then At else At.map (·.add (1 * 1))) (ct - 1) := by
  have hlt := il_lt ha
  have hnd : (T.map Tm.nd)[a]? = some x.nd := by rw [List.getElem?_map, hx]; rfl
  refine ⟨H.bf.leave H.ok ha hnd hu hnx hq, H.ok, H.en, H.len, ?_, H.tb, H.b, H.bs, by omega⟩
  have hb := H.qu.behind At ct 1 rfl (by omega) hA
  have e : (niC (E.drop h)).drop (1 * 1) = niC (E.drop (h + 1)) := by unfold niC; rw [← List.map_drop, List.drop_drop]
  have e2 : E.length - (h + 1) = E.length - h - 1 := by omega
  rw [e2]
  rw [e] at hb
  exact hb
/-- A node behind in the queue. -/
theorem qu_push (H : BfAt ps n wd w0 w B ad c m E h nx q T At ct) {v : Value} {j : Nat} (ho : OwnO w' B 3 1 v (E.length - h + 1) (niC (E.drop h) ++ [.int .i64 (j : Int)])) (hg : w.grownBy w' (Value.slice At (E.length - h) ct).ownBlock) (hb : Below B w w') :
    ∃ A' c', v = .slice A' ((E ++ [j]).length - h) c' ∧ OwnO w' B 3 1 (.slice A' ((E ++ [j]).length - h) c') ((E ++ [j]).length - h) (niC ((E ++ [j]).drop h)) ∧ TbOk w' B (some ad) c T ∧ Below B w0 w' := by
  have hh := H.hh
  have el : (E ++ [j]).length - h = E.length - h + 1 := by rw [List.length_append, List.length_singleton]; omega
  have ed : niC ((E ++ [j]).drop h) = niC (E.drop h) ++ [.int .i64 (j : Int)] := by rw [List.drop_append_of_le_length hh, niC_app]; rfl
  rw [el, ed]
  have ho2 := ho
  obtain ⟨A', c', rfl, _, _, _⟩ := ho2.form
  refine ⟨A', c', rfl, ho, ⟨H.tb.row.kept hg (own_ne_2 H.tb.row H.qu (by decide)), fun x hx => OwnO.kept (H.tb.mem x hx) hg (own_ne_2 (H.tb.mem x hx) H.qu (by decide)), H.tb.apart⟩, H.b.trans hb⟩
theorem set_same {α : Type} {l : List α} {i : Nat} {x : α} (h : l[i]? = some x) : l.set i x = l := by
  apply List.ext_getElem?
  intro k
  by_cases e : i = k
  · subst e; rw [List.getElem?_set_self (il_lt h), h]
  · rw [List.getElem?_set_ne e]
theorem lsE_nil_of (hb : TrOk wd (T.map Tm.nd)) : wd[0]? = some (lsE wd []) := hb.root
/-- An edge of the root: the fall-back stays at the root. -/
theorem BfAt.root (H : BfAt ps n wd w0 w B ad c m E h nx q T At ct) {x : Tm} (ha : E[h]? = some 0) (hx : T[0]? = some x) (hnx : nx = x.nx) {b : UInt8} {j : Nat} (hj : nx[q]? = some (b, j)) :
    BfOk wd (T.map Tm.nd) (E ++ [j]) h nx (q + 1) := by
  have hnd : (T.map Tm.nd)[0]? = some x.nd := by rw [List.getElem?_map, hx]; rfl
  have hnn := H.ok.nxnd _ (List.mem_of_getElem? hnd)
  have hjb : j < T.length := by
    have := (H.ok.bound hnd H.ok.root (c := b) (j := j) (by rw [hnx] at hj; exact List.mem_of_getElem? hj)).2
    rwa [List.length_map] at this
  have hnj : (T.map Tm.nd)[j]? = some (T[j]).nd := nd_at hjb
  have hne := H.bf.new H.ok ha hnd H.ok.root hnx hnn hj
  have hfl := H.bf.fresh j _ hnj hne
  have hs := H.bf.step H.ok ha hnd H.ok.root hnx hnn hj hnj (f := 0) (by rw [List.nil_append]; exact H.ok.root)
  rw [← hfl, set_same hnj] at hs
  exact hs
/-- An edge of another node: the fall-back is a step from its fall-back. -/
theorem BfAt.deep (H : BfAt ps n wd w0 w B ad c m E h nx q T At ct) {a : Nat} {x y : Tm} {u : List UInt8} (ha : E[h]? = some a) (hx : T[a]? = some x) (hu : wd[a]? = some u) (hu0 : u ≠ []) (hnx : nx = x.nx) {b : UInt8} {j : Nat} (hj : nx[q]? = some (b, j)) (hy : T[j]? = some y) :
    BfOk wd ((T.map Tm.nd).set j ⟨y.nx, wd.idxOf (lsE wd (lsE wd u.tail ++ [b])), y.en⟩) (E ++ [j]) h nx (q + 1) ∧ TrOk wd ((T.map Tm.nd).set j ⟨y.nx, wd.idxOf (lsE wd (lsE wd u.tail ++ [b])), y.en⟩) ∧ EnOk ps n wd ((T.map Tm.nd).set j ⟨y.nx, wd.idxOf (lsE wd (lsE wd u.tail ++ [b])), y.en⟩) := by
  have hnd : (T.map Tm.nd)[a]? = some x.nd := by rw [List.getElem?_map, hx]; rfl
  have hny : (T.map Tm.nd)[j]? = some y.nd := by rw [List.getElem?_map, hy]; rfl
  have hnn := H.ok.nxnd _ (List.mem_of_getElem? hnd)
  refine ⟨H.bf.step H.ok ha hnd hu hnx hnn hj hny (f := wd.idxOf (lsE wd (lsE wd u.tail ++ [b]))) ?_, H.ok.turn hny _ _, H.en.turn hny _⟩
  have e : (u ++ [b]).tail = u.tail ++ [b] := by
    cases u with
    | nil => exact absurd rfl hu0
    | cons z u => rfl
  rw [e, ← lsE_snoc H.ok.nil_mem H.ok.pc]
  exact idxOf_at (lsE_mem H.ok.nil_mem _)
theorem snd_len {wd : List (List UInt8)} {T : List TNd} (h : TrOk wd T) {i : Nat} {nd : TNd} {u : List UInt8} (h1 : T[i]? = some nd) (h2 : wd[i]? = some u) : nd.nx.length ≤ T.length := by
  have h3 : (nd.nx.map Prod.snd).Nodup := by
    rw [List.nodup_iff_pairwise_ne, List.pairwise_map]
    refine List.Pairwise.imp_of_mem (R := fun a b => a ≠ b) (fun {a b} ha hb hab e => ?_) (List.nodup_iff_pairwise_ne.1 (h.nxnd nd (List.mem_of_getElem? h1)))
    obtain ⟨a1, a2⟩ := a
    obtain ⟨b1, b2⟩ := b
    simp only at e
    subst e
    have g1 := (h.edge i nd u h1 h2 a1 a2).1 ha
    have g2 := (h.edge i nd u h1 h2 b1 a2).1 hb
    rw [g1] at g2
    have := List.append_cancel_left (Option.some.inj g2)
    injection this with this
    subst this
    exact hab rfl
  have h4 := nodup_lt_len h3 (n := T.length) (fun j hj => by
    obtain ⟨x, hx, rfl⟩ := List.mem_map.1 hj
    obtain ⟨b, j⟩ := x
    exact (h.bound h1 h2 hx).2)
  rw [List.length_map] at h4
  exact h4
theorem nx_all {T : List Tm} (h : TrOk wd (T.map Tm.nd)) : ∀ x ∈ T, x.nx.length ≤ T.length := by
  intro x hx
  obtain ⟨i, hi⟩ := List.getElem?_of_mem hx
  have hnd : (T.map Tm.nd)[i]? = some x.nd := by rw [List.getElem?_map, hi]; rfl
  have hl := il_lt hnd
  rw [h.len] at hl
  have h1 := snd_len h hnd (List.getElem?_eq_getElem hl)
  rw [List.length_map] at h1
  exact h1
end
end Go.Proofs.Ytmmamdjbbpeifaa
