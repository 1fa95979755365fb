/- A map of numbers to numbers that the call makes: what it says at each key. -/
import Derived.Test.YtmmamdjbbpeifaaDoorMaps
namespace Go.Proofs.YtmmamdjbbpeifaaDoor
open Go.RowKit Go.Maps
theorem keyI : Keyed Tryd.prog 3 := int_keyed Tryd.underlying3
theorem zeroI2 (w : World) : (zeroValue 3).run Tryd.prog w = .ok (.int .i64 0) w := by kernel_rfl
def MapII (w : World) (b n : Nat) (f : Int → Option Int) : Prop :=
  ∃ D : DataW Unit, w.ownsMap Tryd.prog 3 (plainElem Tryd.prog 3) b n D ∧ IsMap D ∧ (∀ t, Maps.has D (.int .i64 t) = (f t).isSome) ∧ ∀ t, D.atKey (.int .i64 t) (.lit (.int .i64 0)) = .lit (.int .i64 ((f t).getD 0))
section
variable {w w' : World} {b n : Nat} {f : Int → Option Int}
theorem MapII.made (w : World) : MapII (w.alloc (.map #[] 0)) w.heap.size 0 (fun _ => none) :=
  ⟨.map [], World.ownsMap_made _ _ _ _, isMap_empty, fun _ => rfl, fun _ => rfl⟩
theorem MapII.lt (h : MapII w b n f) : b < w.heap.size := by obtain ⟨D, h, _⟩ := h; exact h.lt
theorem MapII.ext {g : Int → Option Int} (h : MapII w b n f) (e : ∀ t, f t = g t) : MapII w b n g := by
  obtain rfl : f = g := funext e; exact h
theorem MapII.look (h : MapII w b n f) (s : Int) (hs : (Lit.int .i64 s).wf = true) : (Instr.lookup 78 (.map (some b)) (.int .i64 s) false).run Tryd.prog w = .ok (.int .i64 ((f s).getD 0)) w := by
  obtain ⟨D, h, _, _, h3⟩ := h
  obtain ⟨c, hrun, hat, _⟩ := h.lookup_int keyI Tryd.underlying78 Tryd.underlying3 (zeroI2 _) (keyOf_int_mk Tryd.underlying3 hs)
  rw [h3] at hat
  simp only [DataW.lit.injEq, Lit.int.injEq, true_and] at hat
  rw [hat]; exact hrun
theorem MapII.update (h : MapII w b n f) (hn : n < maxLen) (s : Int) (hs : (Lit.int .i64 s).wf = true) (v : Int) (hv : (Lit.int .i64 v).wf = true) :
    ∃ w', (Instr.mapUpdate 78 (.map (some b)) (.int .i64 s) (.int .i64 v)).run Tryd.prog w = .ok () w' ∧ MapII w' b (n + 1) (fun t => if t = s then some v else f t) ∧ w.grownBy w' (some b) := by
  obtain ⟨D, h, h1, h2, h3⟩ := h
  obtain ⟨w', hrun, hown, hg⟩ := h.update keyI Tryd.underlying78 hn (keyOf_int_mk Tryd.underlying3 hs) (plainElem_int Tryd.underlying3 hv)
  have hk : WideAt.IsKeyLit (.int .i64 s) := trivial
  refine ⟨w', hrun, ⟨_, hown, h1.put _ _, fun t => ?_, fun t => ?_⟩, hg⟩
  · by_cases ht : t = s
    · subst ht; simp only [if_true]; exact has_put_same h1 hk _
    · simp only [ht, if_false]; rw [has_put_other (fun e => ht (by injection e)), h2]
  · by_cases ht : t = s
    · subst ht; simp only [if_true]; exact atKey_put_same h1 hk _ _
    · simp only [ht, if_false]; rw [atKey_put_other (fun e => ht (by injection e)), h3]
theorem MapII.insert (h : MapII w b n f) (hn : n < maxLen) (s : Int) (hs : (Lit.int .i64 s).wf = true) (v : Int) (hv : (Lit.int .i64 v).wf = true)
    {ops : Array Oper} {rest : List Oper} {o : Oper} {a : Act} {Q : Exit → Act → World → Prop} (hg : o.guard = none) (m x y : Operand) (hop : o.op = Op.insert 78 m x y)
    (hm : a.eval m = .map (some b)) (hx : a.eval x = .int .i64 s) (hy : a.eval y = .int .i64 v)
    (hK : ∀ w', MapII w' b (n + 1) (fun t => if t = s then some v else f t) → w.grownBy w' (some b) → wpList Tryd.prog ops Q rest (a.put o.dst undef) w') : wpList Tryd.prog ops Q (o :: rest) a w := by
  refine wpList_plain hg fun K' hK' => ?_
  obtain ⟨w', hrun, r1, r2⟩ := h.update hn s hs v hv
  unfold Oper.wp
  simp [execOp, hop, hm, hx, hy, hrun, Result.andThen]
  exact hK' _ _ (hK w' r1 r2)
theorem MapII.store (h : MapII w b n f) (hn : n < maxLen) (s : Int) (hs : (Lit.int .i64 s).wf = true) (v : Int) (hv : (Lit.int .i64 v).wf = true)
    {ops : Array Oper} {rest : List Oper} {o : Oper} {a : Act} {Q : Exit → Act → World → Prop} (hg : o.guard = none) (m x y : Operand) (hop : o.op = Op.mapUpdate 78 m x y)
    (hm : a.eval m = .map (some b)) (hx : a.eval x = .int .i64 s) (hy : a.eval y = .int .i64 v)
    (hK : ∀ w', MapII w' b (n + 1) (fun t => if t = s then some v else f t) → w.grownBy w' (some b) → wpList Tryd.prog ops Q rest (a.put o.dst undef) w') : wpList Tryd.prog ops Q (o :: rest) a w := by
  refine wpList_plain hg fun K' hK' => ?_
  obtain ⟨w', hrun, r1, r2⟩ := h.update hn s hs v hv
  unfold Oper.wp
  simp [execOp, hop, hm, hx, hy, hrun, Result.andThen]
  exact hK' _ _ (hK w' r1 r2)
end
end Go.Proofs.YtmmamdjbbpeifaaDoor
