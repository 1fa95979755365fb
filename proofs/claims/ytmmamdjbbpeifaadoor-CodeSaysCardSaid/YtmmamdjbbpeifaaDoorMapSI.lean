/- A map of strings to numbers that the call makes: what it says at each key. -/
import Derived.Test.YtmmamdjbbpeifaaDoorMaps
namespace Go.Proofs.YtmmamdjbbpeifaaDoor
open Go.RowKit Go.Maps
theorem keyStr : Keyed Tryd.prog 9 := string_keyed Tryd.underlying9
theorem keyOf_str {P : Program} {k : TypeId} (hk : P.underlying k = some .string) {s : ByteArray} (hs : s.size ≤ maxLen) : keyOf P k (.string s) = some (.string (L s)) := by
  simp [keyOf, hk, mapKey, hs, L]
theorem zeroI (w : World) : (zeroValue 3).run Tryd.prog w = .ok (.int .i64 0) w := by kernel_rfl
def MapSI (w : World) (b n : Nat) (f : List UInt8 → Option Int) : Prop :=
  ∃ D : DataW Unit, w.ownsMap Tryd.prog 9 (plainElem Tryd.prog 3) b n D ∧ IsMap D ∧ (∀ t, Maps.has D (.string t) = (f t).isSome) ∧ ∀ t, D.atKey (.string t) (.lit (.int .i64 0)) = .lit (.int .i64 ((f t).getD 0))
section
variable {w w' : World} {b n : Nat} {f : List UInt8 → Option Int}
theorem MapSI.made (w : World) : MapSI (w.alloc (.map #[] 0)) w.heap.size 0 (fun _ => none) :=
  ⟨.map [], World.ownsMap_made _ _ _ _, isMap_empty, fun _ => rfl, fun _ => rfl⟩
theorem MapSI.lt (h : MapSI w b n f) : b < w.heap.size := by obtain ⟨D, h, _⟩ := h; exact h.lt
theorem MapSI.kept {row : Option Nat} (h : MapSI w b n f) (hg : w.grownBy w' row) (hne : some b ≠ row) : MapSI w' b n f := by
  obtain ⟨D, h, h2⟩ := h; exact ⟨D, h.kept hg hne, h2⟩
theorem MapSI.alloc (h : MapSI w b n f) (o : Obj) : MapSI (w.alloc o) b n f := by obtain ⟨D, h, h2⟩ := h; exact ⟨D, h.alloc o, h2⟩
theorem MapSI.drew (h : MapSI w b n f) : MapSI w.drew b n f := h
theorem MapSI.drewN (h : MapSI w b n f) (k : Nat) : MapSI (w.drewN k) b n f := h
theorem MapSI.below (h : MapSI w b n f) (hb : Below w.heap.size w w') : MapSI w' b n f :=
  h.kept (row := none) ⟨hb.os, hb.tape, hb.output, hb.size, fun k hk _ => hb.block k hk⟩ (by simp)
theorem MapSI.ne {base : Nat} {e : TypeId} {size m : Nat} {v : Value} {xs : List Value} (h : MapSI w b n f) (h' : w.ownsRow base e size v m xs) : some b ≠ v.ownBlock := by
  rcases h'.2 with ⟨rfl, _⟩ | ⟨g, cap, cur, rfl, _, h3, _⟩
  · simp [Value.ownBlock]
  · intro e
    simp only [Value.ownBlock, Option.some.injEq] at e
    subst e
    obtain ⟨D, ⟨es, clock, hb, _⟩, _⟩ := h
    rw [hb] at h3
    cases h3
theorem MapSI.ext {g : List UInt8 → Option Int} (h : MapSI w b n f) (e : ∀ t, f t = g t) : MapSI w b n g := by
  obtain rfl : f = g := funext e; exact h
theorem MapSI.look (h : MapSI w b n f) (s : ByteArray) (hs : s.size ≤ maxLen) : (Instr.lookup 75 (.map (some b)) (.string s) false).run Tryd.prog w = .ok (.int .i64 ((f (L s)).getD 0)) w := by
  obtain ⟨D, h, _, _, h3⟩ := h
  obtain ⟨c, hrun, hat, _⟩ := h.lookup_int keyStr Tryd.underlying75 Tryd.underlying3 (zeroI _) (keyOf_str Tryd.underlying9 hs)
  rw [h3] at hat
  simp only [DataW.lit.injEq, Lit.int.injEq, true_and] at hat
  rw [hat]; exact hrun
theorem MapSI.look_ok (h : MapSI w b n f) (s : ByteArray) (hs : s.size ≤ maxLen) : (Instr.lookup 75 (.map (some b)) (.string s) true).run Tryd.prog w = .ok (.tuple #[.int .i64 ((f (L s)).getD 0), .bool (f (L s)).isSome]) w := by
  obtain ⟨D, h, _, h2, h3⟩ := h
  obtain ⟨v, ps, hrun, hv⟩ := h.look_ok keyStr Tryd.underlying75 (zeroI _) (plainElem_int Tryd.underlying3 (by decide)) (keyOf_str Tryd.underlying9 hs)
  obtain ⟨c, rfl, hc, _⟩ := plainElem_int_inv Tryd.underlying3 hv
  have hc := congrArg Prod.fst hc
  simp only [h3, DataW.lit.injEq, Lit.int.injEq, true_and] at hc
  rw [hc, ← h2]; exact hrun
theorem MapSI.update (h : MapSI w b n f) (hn : n < maxLen) (s : ByteArray) (hs : s.size ≤ maxLen) (v : Int) (hv : (Lit.int .i64 v).wf = true) :
    ∃ w', (Instr.mapUpdate 75 (.map (some b)) (.string s) (.int .i64 v)).run Tryd.prog w = .ok () w' ∧ MapSI w' b (n + 1) (fun t => if t = L s then some v else f t) ∧ w.grownBy w' (some b) := by
  obtain ⟨D, h, h1, h2, h3⟩ := h
  obtain ⟨w', hrun, hown, hg⟩ := h.update keyStr Tryd.underlying75 hn (keyOf_str Tryd.underlying9 hs) (plainElem_int Tryd.underlying3 hv)
  have hk : WideAt.IsKeyLit (.string (L s)) := trivial
  refine ⟨w', hrun, ⟨_, hown, h1.put _ _, fun t => ?_, fun t => ?_⟩, hg⟩
  · by_cases ht : t = L s
    · subst ht; simp only [if_true]; exact has_put_same h1 hk _
    · simp only [ht, if_false]; rw [has_put_other (fun e => ht (by injection e)), h2]
  · by_cases ht : t = L s
    · subst ht; simp only [if_true]; exact atKey_put_same h1 hk _ _
    · simp only [ht, if_false]; rw [atKey_put_other (fun e => ht (by injection e)), h3]
theorem MapSI.insert (h : MapSI w b n f) (hn : n < maxLen) (s : ByteArray) (hs : s.size ≤ maxLen) (v : Int) (hv : (Lit.int .i64 v).wf = true)
    {ops : Array Oper} {rest : List Oper} {o : Oper} {a : Act} {Q : Exit → Act → World → Prop} (hg : o.guard = none) (m x y : Operand) (hop : o.op = Op.insert 75 m x y)
    (hm : a.eval m = .map (some b)) (hx : a.eval x = .string s) (hy : a.eval y = .int .i64 v)
    (hK : ∀ w', MapSI w' b (n + 1) (fun t => if t = L s then some v else f t) → w.grownBy w' (some b) → wpList Tryd.prog ops Q rest (a.put o.dst undef) w') : wpList Tryd.prog ops Q (o :: rest) a w := by
  refine wpList_plain hg fun K' hK' => ?_
  obtain ⟨w', hrun, r1, r2⟩ := h.update hn s hs v hv
  unfold Oper.wp
  simp [execOp, hop, hm, hx, hy, hrun, Result.andThen]
  exact hK' _ _ (hK w' r1 r2)
theorem MapSI.store (h : MapSI w b n f) (hn : n < maxLen) (s : ByteArray) (hs : s.size ≤ maxLen) (v : Int) (hv : (Lit.int .i64 v).wf = true)
    {ops : Array Oper} {rest : List Oper} {o : Oper} {a : Act} {Q : Exit → Act → World → Prop} (hg : o.guard = none) (m x y : Operand) (hop : o.op = Op.mapUpdate 75 m x y)
    (hm : a.eval m = .map (some b)) (hx : a.eval x = .string s) (hy : a.eval y = .int .i64 v)
    (hK : ∀ w', MapSI w' b (n + 1) (fun t => if t = L s then some v else f t) → w.grownBy w' (some b) → wpList Tryd.prog ops Q rest (a.put o.dst undef) w') : wpList Tryd.prog ops Q (o :: rest) a w := by
  refine wpList_plain hg fun K' hK' => ?_
  obtain ⟨w', hrun, r1, r2⟩ := h.update hn s hs v hv
  unfold Oper.wp
  simp [execOp, hop, hm, hx, hy, hrun, Result.andThen]
  exact hK' _ _ (hK w' r1 r2)
end
end Go.Proofs.YtmmamdjbbpeifaaDoor
