/- The reference's AllOf. -/
import Derived.Test.YtllcmmpepchieaaShA3
import Derived.Test.YtllcmmpepchieaaSchedZ
namespace Go.Proofs.Ytllcmmpepchieaa
open Go.RowKit
theorem opCells_one (l : List Op) : ∀ u ∈ opCells l, u.oneCell' = true := by
  intro u hu
  obtain ⟨x, _, hx⟩ := List.mem_flatMap.1 hu
  simp only [Op.cells, List.mem_cons, List.not_mem_nil, or_false] at hx
  rcases hx with rfl | rfl | rfl <;> rfl
end Go.Proofs.Ytllcmmpepchieaa
