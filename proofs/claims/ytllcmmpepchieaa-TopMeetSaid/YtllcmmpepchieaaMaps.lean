/- A map that the call makes out of a literal: its entries are laid one by one. -/
import Derived.Test.YtllcmmpepchieaaBase
import Derived.Maps.Own
import Derived.Maps.OwnOps
import Derived.Maps.OwnSet
namespace Go.Proofs.Ytllcmmpepchieaa
open Go.RowKit Go.Maps
theorem wpList_insert_own {H : Type} {P : Program} (w : World) {ops : Array Oper} {rest : List Oper} {o : Oper} {a : Act} {Q : Exit → Act → World → Prop}
    (hg : o.guard = none) (m x v : Operand) (t : TypeId) (hop : o.op = Op.insert t m x v)
    (k e : TypeId) (K : Keyed P k) (ht : P.underlying t = some (.map k e)) (R : Value → Option (DataW H × List MemPlace)) (b n : Nat) (D : DataW H)
    (hm : a.eval m = .map (some b)) (hown : w.ownsMap P k R b n D) (hn : n < maxLen) (key val : Value) (kl : Lit) (hx : a.eval x = key) (hv : a.eval v = val) (hkey : keyOf P k key = some kl)
    (d : DataW H) (ps : List MemPlace) (hval : R val = some (d, ps))
    (hK : ∀ w', w'.ownsMap P k R b (n + 1) (D.put kl d) → w.grownBy w' (some b) → wpList P ops Q rest (a.put o.dst undef) w') :
    wpList P ops Q (o :: rest) a w := by
  refine wpList_plain hg fun K' hK' => ?_
  obtain ⟨w', hrun, r1, r2⟩ := hown.update K ht hn hkey hval
  unfold Oper.wp
  simp [execOp, hop, hm, hx, hv, hrun, Result.andThen]
  exact hK' _ _ (hK w' r1 r2)
/-- A map literal of three integer keys 1, 2, 3. -/
def map123 (a b c : Int) : DataW Unit := .map [(.int .i64 1, .lit (.int .i64 a)), (.int .i64 2, .lit (.int .i64 b)), (.int .i64 3, .lit (.int .i64 c))]
theorem map123_put (a b c : Int) : ((((DataW.map (H := Unit) []).put (.int .i64 1) (.lit (.int .i64 a))).put (.int .i64 2) (.lit (.int .i64 b))).put (.int .i64 3) (.lit (.int .i64 c))) = map123 a b c := rfl
theorem map123_has (a b c k : Int) : Maps.has (map123 a b c) (.int .i64 k) = decide (1 = k ∨ 2 = k ∨ 3 = k) := by
  simp [map123, Maps.has, Lit.sameKey, Bool.decide_or]
theorem map123_at (a b c k : Int) : (map123 a b c).atKey (.int .i64 k) (.lit (.int .i64 0)) = .lit (.int .i64 (if k = 1 then a else if k = 2 then b else if k = 3 then c else 0)) := by
  unfold map123 DataW.atKey
  simp only [List.find?, Lit.sameKey]
  by_cases h1 : k = 1
  · subst h1; simp
  · by_cases h2 : k = 2
    · subst h2; simp
    · by_cases h3 : k = 3
      · subst h3; simp
      · have e1 : ¬ 1 = k := fun h => h1 h.symm
        have e2 : ¬ 2 = k := fun h => h2 h.symm
        have e3 : ¬ 3 = k := fun h => h3 h.symm
        simp [e1, e2, e3, h1, h2, h3]
theorem map123_val {a b c k v : Int} (h : (map123 a b c).atKey (.int .i64 k) (.lit (.int .i64 0)) = .lit (.int .i64 v)) : v = if k = 1 then a else if k = 2 then b else if k = 3 then c else 0 := by
  rw [map123_at] at h
  injection h with h
  injection h with _ h
  exact h.symm
end Go.Proofs.Ytllcmmpepchieaa
