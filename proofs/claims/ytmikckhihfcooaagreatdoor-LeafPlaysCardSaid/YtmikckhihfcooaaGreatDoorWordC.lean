/- word.Check and the reference's Long: is a string too long? -/
import Derived.Test.YtmikckhihfcooaaGreatDoorBase
namespace Go.Proofs.YtmikckhihfcooaaGreatDoor
open Go.RowKit
def longErr (n : Nat) : Int := if 200 < n then 2 else 0
/-- Of several. -/
def longAll (l : List ByteArray) : Int := if ∃ s ∈ l, 200 < s.size then 2 else 0
theorem longAll_one (s : ByteArray) : longAll [s] = longErr s.size := by simp [longAll, longErr]
end Go.Proofs.YtmikckhihfcooaaGreatDoor
