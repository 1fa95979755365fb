/- The document's root. -/
import Derived.Test.YtllcmmpepchieaaWord3
import Derived.Test.YtllcmmpepchieaaShelf
namespace Go.Proofs.Ytllcmmpepchieaa
open Go.RowKit
theorem repeatL_flat (l : List UInt8) : ∀ c, Lib.repeatL l c = (List.replicate c l).flatten
  | 0 => rfl
  | c + 1 => by rw [Lib.repeatL, List.replicate_succ, List.flatten_cons, repeatL_flat l c]
end Go.Proofs.Ytllcmmpepchieaa
