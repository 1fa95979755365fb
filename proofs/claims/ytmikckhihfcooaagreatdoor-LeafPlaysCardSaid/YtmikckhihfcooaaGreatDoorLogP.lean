/- The law LogPlays, walked. -/
import Derived.Test.YtmikckhihfcooaaGreatDoorLogT
import Derived.Test.YtmikckhihfcooaaGreatDoorEditW
namespace Go.Proofs.YtmikckhihfcooaaGreatDoor
open Go.RowKit
set_option maxRecDepth 100000 in
theorem lgNew_any (w : World) : Calls Tryz.prog 19 #[] w fun e w' => e = .returned (.pointer (some ⟨w.heap.size, 0, none⟩)) ∧ w' = w.alloc (.cells #[.string ⟨#[]⟩, .int .i64 0] 63) := by
  go_enter Tryz.func19, Tryz.ntmps19
  go_wp2_with fail
  go_ret
  exact ⟨rfl, rfl⟩
end Go.Proofs.YtmikckhihfcooaaGreatDoor
