/- Where the loop of tree.Lens stands; its piles in memory. -/
import Derived.Test.YtmmamdjbbpeifaaTreE
import Derived.Test.YtmmamdjbbpeifaaTreF
namespace Go.Proofs.Ytmmamdjbbpeifaa
open Go.RowKit
def LnAt (ws T : List Nat) (l : List Pile) (out : List Nat) : Prop :=
  (l.length ≤ 1 ∧ out = T) ∨ ∃ f, Hf ws l out ∧ l.length ≤ f + 1 ∧ huff f l out = T
theorem LnAt.start {ws : List Nat} (h : ws.length ≠ 1) : LnAt ws (lensOf ws) (piles0 ws ws.length) (List.replicate ws.length 0) := by
  have hl : (piles0 ws ws.length).length = ws.length := by simp [piles0]
  refine .inr ⟨ws.length, Hf.start ws, by omega, ?_⟩
  unfold lensOf
  rw [if_neg h]
theorem LnAt.one {ws : List Nat} (h : ws.length = 1) : LnAt ws (lensOf ws) (piles0 ws ws.length) [1] := by
  refine .inl ⟨by simp [piles0, h], ?_⟩
  unfold lensOf
  rw [if_pos h]
theorem LnAt.end_ {ws T : List Nat} {l : List Pile} {out : List Nat} (h : LnAt ws T l out) (hl : l.length ≤ 1) : out = T := by
  rcases h with ⟨_, h⟩ | ⟨f, _, _, h⟩
  · exact h
  · rw [← h]
    cases f with
    | zero => rfl
    | succ f =>
      unfold huff
      have hs := isrt_len l
      cases hi : isrt l with
      | nil => rfl
      | cons p s =>
        cases s with
        | nil => rfl
        | cons q r => rw [hi] at hs; simp at hs; omega
theorem LnAt.step {ws T : List Nat} {l : List Pile} {out : List Nat} {p q : Pile} {r : List Pile} (h : LnAt ws T l out) (h12 : ws.length ≤ 12) (hi : isrt l = p :: q :: r) :
    LnAt ws T (r ++ [(p.1 + q.1, p.2 ++ q.2)]) (bump out (p.2 ++ q.2)) ∧ (∀ k ∈ p.2 ++ q.2, k < ws.length) ∧ out.length = ws.length ∧ (p.2 ++ q.2).length ≤ 12 := by
  have hs := isrt_len l
  rw [hi] at hs
  simp only [List.length_cons] at hs
  rcases h with ⟨h1, _⟩ | ⟨f, h1, h2, h3⟩
  · omega
  · have hp := h1.perm (isrt_perm l)
    rw [hi] at hp
    obtain ⟨g1, _⟩ := hp.step h12
    have hmem := hp.mem
    rw [List.flatMap_cons, List.flatMap_cons] at hmem
    obtain ⟨_, hlt, _, hlen⟩ := nodup3 hmem
    cases f with
    | zero => omega
    | succ f =>
      unfold huff at h3
      rw [hi] at h3
      simp only at h3
      refine ⟨.inr ⟨f, g1, by rw [List.length_append, List.length_singleton]; omega, h3⟩, hlt, h1.len, ?_⟩
      rw [List.length_append]; omega
theorem LnAt.wt {ws T : List Nat} {l : List Pile} {out : List Nat} (h : LnAt ws T l out) (h2 : 2 ≤ l.length) (hw : ∀ k, ws.getD k 0 ≤ 10000) (h12 : ws.length ≤ 12) : ∀ x ∈ l, x.1 ≤ 1000000 := by
  rcases h with ⟨h1, _⟩ | ⟨f, h1, _, _⟩
  · omega
  · intro x hx
    rw [h1.wt x hx]
    have hl : x.2.length ≤ 12 := by
      have h3 := h1.mem.length_eq
      rw [List.length_range] at h3
      have h4 : x.2.length ≤ (l.flatMap (·.2)).length := by
        have : ∀ m : List Pile, x ∈ m → x.2.length ≤ (m.flatMap (·.2)).length := by
          intro m
          induction m with
          | nil => intro h; cases h
          | cons y m ih =>
            intro h
            rw [List.flatMap_cons, List.length_append]
            rcases List.mem_cons.1 h with rfl | h
            · omega
            · have := ih h; omega
        exact this l hx
      omega
    have : ∀ ks : List Nat, wtOf ws ks ≤ 10000 * ks.length := by
      intro ks
      induction ks with
      | nil => simp [wtOf]
      | cons k ks ih =>
        unfold wtOf at *
        rw [List.map_cons, List.sum_cons, List.length_cons]
        have := hw k
        omega
    have := this x.2
    omega
/-- A pile's numbers, in a row of their own. -/
def PlOk (w : World) (B : Nat) (x : Pm) : Prop := OwnO w B 3 1 (.slice x.A x.mem.length x.c) x.mem.length (ints (intN x.mem))
theorem own_ne_two {w : World} {b1 b2 s1 s2 n1 n2 : Nat} {e1 e2 : TypeId} {v1 v2 : Value} {xs ys : List Value} (h1 : OwnO w b1 e1 s1 v1 n1 xs) (h2 : OwnO w b2 e2 s2 v2 n2 ys) (hne : e1 ≠ e2) : v1.ownBlock = none ∨ v1.ownBlock ≠ v2.ownBlock := by
  rcases h2.2 with ⟨rfl, _⟩ | ⟨g, o, cap, cur, rfl, _, hg, _⟩
  · cases h : v1.ownBlock with
    | none => exact .inl rfl
    | some k => exact .inr (by simp [Value.ownBlock])
  · exact h1.ne_blk (g := g) (cs := cur) hg hne
theorem PlOk.below {w w' : World} {B : Nat} {x : Pm} (h : PlOk w B x) (hb : Below w.heap.size w w') : PlOk w' B x := OwnO.below h hb
theorem PlOk.row {w w' : World} {B b2 n c : Nat} {ad : Addr} {x : Pm} {ys : List Value} (h : PlOk w B x) (h2 : OwnO w b2 82 2 (.slice (some ad) n c) n ys) (hg : w.grownBy w' (some ad.block)) : PlOk w' B x := by
  refine OwnO.kept h hg ?_
  have := own_ne_two h h2 (by decide)
  have e : (Value.slice (some ad) n c).ownBlock = some ad.block := rfl
  rw [e] at this
  exact this
theorem PlOk.out {w : World} {B g : Nat} {x : Pm} (h : PlOk w B x) (hg : g < B) (i : Nat) (u : Value) : PlOk (w.setCell ⟨g, i, none⟩ u) B x := by
  refine OwnO.kept h (gb_set (gb_refl w (some g)) i u) ?_
  cases hv : (Value.slice x.A x.mem.length x.c).ownBlock with
  | none => exact .inl rfl
  | some k =>
    refine .inr fun e => ?_
    have := (OwnO.lt h k hv).1
    cases e
    omega
end Go.Proofs.Ytmmamdjbbpeifaa
