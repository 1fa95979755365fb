/- lyndon.Next, slices.Max of bytes, the document's next word. -/
import Derived.Test.YtllcmmpepchieaaLynN0
import Derived.Test.YtllcmmpepchieaaLynV
import Derived.Test.YtllcmmpepchieaaAppZ
import Derived.Test.YtllcmmpepchieaaWord4
namespace Go.Proofs.Ytllcmmpepchieaa
open Go.RowKit
theorem info_u8 : (Try.prog.info? 5).map (fun i => (i.zero, i.size, i.bytes)) = some (some (.int .u8 0), 1, 1) := by kernel_rfl
theorem byteCells_at (l : List UInt8) {k : Nat} (h : k < l.length) : (byteCells l)[k]? = some (.int .u8 ((l.getD k 0).toNat : Int)) := by
  rw [byteCells, List.getElem?_map, List.getD_eq_getElem?_getD, List.getElem?_eq_getElem h]; rfl
theorem byteCells_snoc (l : List UInt8) (x : UInt8) : byteCells (l ++ [x]) = byteCells l ++ [.int .u8 (x.toNat : Int)] := by simp [byteCells]
theorem byteCells_len (l : List UInt8) : (byteCells l).length = l.length := by simp [byteCells]
end Go.Proofs.Ytllcmmpepchieaa
