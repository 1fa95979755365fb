/-
  DERIVED. GIVEN WITH THE SEED: THE CARDS: each row of YtncakjchaniheaaDoorRows.lean that lists a variable, with what it lists TIED to the program's text (the seventh form; the later family's looks); each row that meets fmt, with fmt's text TOLD by the authors' own Lean function (tested against real Go, not proved from fmt's source: count such statements apart). THE CARD IS WHAT COUNTS. Prove the row's statement (the work); the ties are given (YtncakjchaniheaaDoorTie.lean); close each card by the builder's one call (the guide's Derived/Test/ToyasCard.lean, 'card_holds'). Laid BY PROGRAM, IN A SANDBOX (cutbox-door.mjs). By AI agents, Wed Nov 11 2026. No macro, syntax, notation, axiom, sorry.
-/
import Derived.Test.YtncakjchaniheaaDoorRows
import GoSem.ClaimSeven
namespace Go.Proofs.YtncakjchaniheaaDoor
namespace Rows

/-- THE TIED CARD OF 'quilltop.TopCode'. -/
def topCodeCard : Claim7 := { stood := { row := topCodeRow, standIns := [], harness := (true, "a93c68c5267fbf8bb01ccc426b3e83f79a644fc5d39cae6bfeed0bbbb9bf9e00"), looks := false }, kinds := [], alts := [], laidByText := true, laidKinds := [.data, .pinned], laidTests := true, laidLooks := .later }
def TopCodeCardSaid : Prop := Claim7.holds Tryd.pinned (.plain (OpenSpec.ofChange topCodeSpec)) topCodeCard

/-- THE SECOND FORM's CARD OF 'quilltop.TopCode'. -/
def topCodeUptoCard : Claim7 := { stood := { row := topCodeUptoRow, standIns := [], harness := (true, "a93c68c5267fbf8bb01ccc426b3e83f79a644fc5d39cae6bfeed0bbbb9bf9e00"), looks := false }, kinds := [], alts := [], laidByText := true, laidKinds := [.data, .pinned], laidTests := true, laidLooks := .later }
def TopCodeUptoCardSaid : Prop := Claim7.holds Tryd.pinned (.plain (OpenSpec.upto topCodeSpec)) topCodeUptoCard
end Rows
end Go.Proofs.YtncakjchaniheaaDoor
