/- The walks of the reference's PastOf and OpErr. shift.size, the reference's Longer; the checks of both rows. The reference's AllErr. -/
import Derived.Test.YtmikckhihfcooaaPk03
import Derived.Test.YtmikckhihfcooaaPk15
import Derived.Test.YtmikckhihfcooaaPk01
import Derived.Test.YtmikckhihfcooaaPk04
import Derived.Test.YtmikckhihfcooaaPk05
namespace Go.Proofs.Ytmikckhihfcooaa
open Go.RowKit Go.Maps
theorem keyInt : Keyed Try.prog 3 := int_keyed Try.underlying3
theorem zeroInt (w : World) : (zeroValue 3).run Try.prog w = .ok (.int .i64 0) w := by kernel_rfl
end Go.Proofs.Ytmikckhihfcooaa
namespace Go.Proofs.Ytmikckhihfcooaa
open Go.RowKit Go.Maps
def opCells (l : List Op) : List Value := l.flatMap Op.cells
theorem op_len (x : Op) : x.cells.length = 3 := rfl
theorem opCells_append (a b : List Op) : opCells (a ++ b) = opCells a ++ opCells b := by simp [opCells]
theorem opCells_len (l : List Op) : (opCells l).length = l.length * 3 := flat_len op_len l
theorem Rd.at_op {w : World} {B n : Nat} {A : Option Addr} {l : List Op} (h : Rd w B 3 A n (opCells l)) {k : Nat} (hk : k < n) :
    ∃ ad, ∃ hl : k < l.length, A = some ad ∧ ad.block < B ∧ w.cell? (ad.add (k * 3)) = some (.int .i64 l[k].kind) ∧ w.cell? ⟨(ad.add (k * 3)).block, (ad.add (k * 3)).off + 1, none⟩ = some (.int .i64 l[k].pos) ∧
      w.cell? ⟨(ad.add (k * 3)).block, (ad.add (k * 3)).off + 2, none⟩ = some (.int .u8 l[k].b) := by
  obtain ⟨ad, hl, e, hb, hc⟩ := Rd.at_rec op_len (by omega) h hk
  refine ⟨ad, hl, e, hb, hc 0 _ rfl, ?_, ?_⟩
  · have h1 := hc 1 _ rfl
    rwa [← add_add] at h1
  · have h1 := hc 2 _ rfl
    rwa [← add_add] at h1
/-- A map literal of two integer keys 1, 2. -/
def map12 (a b : Int) : DataW Unit := .map [(.int .i64 1, .lit (.int .i64 a)), (.int .i64 2, .lit (.int .i64 b))]
theorem map12_put (a b : Int) : (((DataW.map (H := Unit) []).put (.int .i64 1) (.lit (.int .i64 a))).put (.int .i64 2) (.lit (.int .i64 b))) = map12 a b := rfl
theorem map12_val {a b k v : Int} (h : (map12 a b).atKey (.int .i64 k) (.lit (.int .i64 0)) = .lit (.int .i64 v)) : v = if k = 1 then a else if k = 2 then b else 0 := by
  have e : (map12 a b).atKey (.int .i64 k) (.lit (.int .i64 0)) = .lit (.int .i64 (if k = 1 then a else if k = 2 then b else 0)) := by
    unfold map12 DataW.atKey
    simp only [List.find?, Lit.sameKey]
    by_cases h1 : k = 1
    · subst h1; simp
    · by_cases h2 : k = 2
      · subst h2; simp
      · have e1 : ¬ 1 = k := fun h => h1 h.symm
        have e2 : ¬ 2 = k := fun h => h2 h.symm
        simp [e1, e2, h1, h2]
  rw [e] at h
  injection h with h
  injection h with _ h
  exact h.symm
end Go.Proofs.Ytmikckhihfcooaa
namespace Go.Proofs.Ytmikckhihfcooaa
open Go.RowKit
theorem two_rows (w : World) (a b : Value) (t : TypeId) : (w.alloc (.cells #[a, b] t)).cell? ⟨w.heap.size, 0, none⟩ = some a ∧ (w.alloc (.cells #[a, b] t)).cell? ⟨w.heap.size, 1, none⟩ = some b := by
  constructor <;> simp
structure OpsOk (l : List Op) : Prop where
  k : ∀ x ∈ l, -9223372036854775808 ≤ x.kind ∧ x.kind ≤ 9223372036854775807
  b : ∀ x ∈ l, 0 ≤ x.b ∧ x.b < 256
theorem allErr_zero {n : Int} {a b : List Op} (h : ¬ (30 < a.length ∨ 30 < b.length)) : allErr n a b = if chk a.length b.length n a = 0 then chk a.length b.length n b else chk a.length b.length n a := by
  unfold allErr; rw [if_neg h]
end Go.Proofs.Ytmikckhihfcooaa
