/- The walks of the reference's PastOf and OpErr. -/
import Derived.Test.YtllcmmpepchieaaShiftW
import Derived.Test.YtllcmmpepchieaaMaps
namespace Go.Proofs.Ytllcmmpepchieaa
open Go.RowKit Go.Maps
theorem keyInt : Keyed Try.prog 3 := int_keyed Try.underlying3
theorem zeroInt (w : World) : (zeroValue 3).run Try.prog w = .ok (.int .i64 0) w := by kernel_rfl
end Go.Proofs.Ytllcmmpepchieaa
