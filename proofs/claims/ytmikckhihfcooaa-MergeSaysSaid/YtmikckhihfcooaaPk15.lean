/- The second script behind the first (plain). merge.Behind, walked. A map that the call makes out of a literal: its entries are laid one by one. -/
import Derived.Test.YtmikckhihfcooaaPk06
import Derived.Test.YtmikckhihfcooaaPk14
import Derived.Test.YtmikckhihfcooaaPk01
import Derived.Maps.Own
import Derived.Maps.OwnOps
import Derived.Maps.OwnSet
namespace Go.Proofs.Ytmikckhihfcooaa
/-- How much of a lies wholly ahead of x: what the code adds, and what the reference adds. -/
def shC (x : Ed) : List Ed → Int
  | [] => 0
  | y :: a => (if y ≠ x ∧ y.at_ < x.at_ then ((S y.ins).size : Int) - y.del else 0) + shC x a
def shR (x : Ed) : List Ed → Int
  | [] => 0
  | y :: a => (if y.at_ + y.del < x.at_ then ((S y.ins).size : Int) - y.del else 0) + shR x a
theorem sh_same {x : Ed} (hx : 0 ≤ x.del) : ∀ {a : List Ed}, (∀ y ∈ a, ¬ clashE y x) → (∀ y ∈ a, 0 ≤ y.del) → shC x a = shR x a
  | [], _, _ => rfl
  | y :: a, h, hd => by
    have ih := sh_same hx (a := a) (fun z hz => h z (.tail _ hz)) (fun z hz => hd z (.tail _ hz))
    have h1 := h y (.head _)
    have h2 := hd y (.head _)
    have e : (y ≠ x ∧ y.at_ < x.at_) ↔ y.at_ + y.del < x.at_ := by
      constructor
      · rintro ⟨h3, h4⟩
        refine Decidable.byContradiction fun h5 => h1 ⟨h3, by omega, by omega⟩
      · intro h3
        refine ⟨fun e => ?_, by omega⟩
        subst e; omega
    rw [shC, shR, ih]
    by_cases hq : y.at_ + y.del < x.at_
    · rw [if_pos (e.2 hq), if_pos hq]
    · rw [if_neg (fun h => hq (e.1 h)), if_neg hq]
/-- The second script, moved. -/
def behE (a b : List Ed) : List Ed := (b.filter fun x => decide (x ∉ a)).map fun x => ⟨x.at_ + shR x a, x.del, x.ins⟩
end Go.Proofs.Ytmikckhihfcooaa
namespace Go.Proofs.Ytmikckhihfcooaa
open Go.RowKit
theorem behindErr_any (n : Int) (a b : List Ed) (A A2 : Option Addr) (m c m2 c2 B : Nat) (w : World) (hr : Rd w B 3 A m (edCells a)) (hr2 : Rd w B 3 A2 m2 (edCells b)) (hB : B ≤ w.heap.size) (hm : m ≤ 9223372036854775807) (hm2 : m2 ≤ 9223372036854775807) (h : bothE n a b ≠ 0) :
    Calls Try.prog 5 #[.int .i64 n, .slice A m c, .slice A2 m2 c2] w fun e w' => e = .returned (.tuple #[.slice none 0 0, .int .i64 (bothE n a b)]) ∧ Below w.heap.size w w' := by
  have HC : Hid (Calls Try.prog 4 #[.int .i64 n, .slice A m c, .slice A2 m2 c2] w fun e w' => e = .returned (.tuple #[.slice none 0 0, .int .i64 (bothE n a b)]) ∧ Below w.heap.size w w') := by
    by_cases he : edErr n a = 0 ∧ edErr n b = 0
    · refine (both_any n a b A A2 m c m2 c2 B w hr hr2 hB he.1 he.2).mono ?_
      rintro e w' ⟨v, rfl, hv, _, hb⟩
      rw [hv h]
      exact ⟨rfl, hb⟩
    · refine (bothErr_any n a b A A2 m c m2 c2 B w hr hr2 hB hm hm2 he).mono ?_
      rintro e w' ⟨rfl, _, hb⟩
      exact ⟨rfl, hb⟩
  have g1 : (bothE n a b != 0) = true := by rw [bne_iff_ne]; exact h
  clear hr hr2 h
  generalize bothE n a b = z at *
  go_enter Try.func5, Try.ntmps5
  go_wp2_with fail
  refine HC.out.mono ?_
  rintro e w5 ⟨rfl, hb5⟩
  go_wp2_with fail
  (apply bodyPost_ret; (simp [results, Try.results5, go_sem]; rfl); rfl)
  exact ⟨rfl, hb5⟩
end Go.Proofs.Ytmikckhihfcooaa
namespace Go.Proofs.Ytmikckhihfcooaa
open Go.RowKit Go.Maps
theorem wpList_insert_own {H : Type} {P : Program} (w : World) {ops : Array Oper} {rest : List Oper} {o : Oper} {a : Act} {Q : Exit → Act → World → Prop}
    (hg : o.guard = none) (m x v : Operand) (t : TypeId) (hop : o.op = Op.insert t m x v)
    (k e : TypeId) (K : Keyed P k) (ht : P.underlying t = some (.map k e)) (R : Value → Option (DataW H × List MemPlace)) (b n : Nat) (D : DataW H)
    (hm : a.eval m = .map (some b)) (hown : w.ownsMap P k R b n D) (hn : n < maxLen) (key val : Value) (kl : Lit) (hx : a.eval x = key) (hv : a.eval v = val) (hkey : keyOf P k key = some kl)
    (d : DataW H) (ps : List MemPlace) (hval : R val = some (d, ps))
    (hK : ∀ w', w'.ownsMap P k R b (n + 1) (D.put kl d) → w.grownBy w' (some b) → wpList P ops Q rest (a.put o.dst undef) w') :
    wpList P ops Q (o :: rest) a w := by
  refine wpList_plain hg fun K' hK' => ?_
  obtain ⟨w', hrun, r1, r2⟩ := hown.update K ht hn hkey hval
  unfold Oper.wp
  simp [execOp, hop, hm, hx, hv, hrun, Result.andThen]
  exact hK' _ _ (hK w' r1 r2)
/-- A map literal of three integer keys 1, 2, 3. -/
def map123 (a b c : Int) : DataW Unit := .map [(.int .i64 1, .lit (.int .i64 a)), (.int .i64 2, .lit (.int .i64 b)), (.int .i64 3, .lit (.int .i64 c))]
theorem map123_put (a b c : Int) : ((((DataW.map (H := Unit) []).put (.int .i64 1) (.lit (.int .i64 a))).put (.int .i64 2) (.lit (.int .i64 b))).put (.int .i64 3) (.lit (.int .i64 c))) = map123 a b c := rfl
theorem map123_has (a b c k : Int) : Maps.has (map123 a b c) (.int .i64 k) = decide (1 = k ∨ 2 = k ∨ 3 = k) := by
  simp [map123, Maps.has, Lit.sameKey, Bool.decide_or]
theorem map123_at (a b c k : Int) : (map123 a b c).atKey (.int .i64 k) (.lit (.int .i64 0)) = .lit (.int .i64 (if k = 1 then a else if k = 2 then b else if k = 3 then c else 0)) := by
  unfold map123 DataW.atKey
  simp only [List.find?, Lit.sameKey]
  by_cases h1 : k = 1
  · subst h1; simp
  · by_cases h2 : k = 2
    · subst h2; simp
    · by_cases h3 : k = 3
      · subst h3; simp
      · have e1 : ¬ 1 = k := fun h => h1 h.symm
        have e2 : ¬ 2 = k := fun h => h2 h.symm
        have e3 : ¬ 3 = k := fun h => h3 h.symm
        simp [e1, e2, e3, h1, h2, h3]
theorem map123_val {a b c k v : Int} (h : (map123 a b c).atKey (.int .i64 k) (.lit (.int .i64 0)) = .lit (.int .i64 v)) : v = if k = 1 then a else if k = 2 then b else if k = 3 then c else 0 := by
  rw [map123_at] at h
  injection h with h
  injection h with _ h
  exact h.symm
end Go.Proofs.Ytmikckhihfcooaa
