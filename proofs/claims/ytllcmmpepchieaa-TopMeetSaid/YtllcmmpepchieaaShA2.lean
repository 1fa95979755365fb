/- The reference's AllErr. -/
import Derived.Test.YtllcmmpepchieaaShA1
namespace Go.Proofs.Ytllcmmpepchieaa
open Go.RowKit
theorem two_rows (w : World) (a b : Value) (t : TypeId) : (w.alloc (.cells #[a, b] t)).cell? ⟨w.heap.size, 0, none⟩ = some a ∧ (w.alloc (.cells #[a, b] t)).cell? ⟨w.heap.size, 1, none⟩ = some b := by
  constructor <;> simp
structure OpsOk (l : List Op) : Prop where
  k : ∀ x ∈ l, -9223372036854775808 ≤ x.kind ∧ x.kind ≤ 9223372036854775807
  b : ∀ x ∈ l, 0 ≤ x.b ∧ x.b < 256
theorem allErr_zero {n : Int} {a b : List Op} (h : ¬ (30 < a.length ∨ 30 < b.length)) : allErr n a b = if chk a.length b.length n a = 0 then chk a.length b.length n b else chk a.length b.length n a := by
  unfold allErr; rw [if_neg h]
end Go.Proofs.Ytllcmmpepchieaa
