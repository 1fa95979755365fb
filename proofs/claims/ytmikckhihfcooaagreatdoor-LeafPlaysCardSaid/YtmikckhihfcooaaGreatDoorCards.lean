/-
  DERIVED. GIVEN WITH THE SEED: THE CARDS: each row of YtmikckhihfcooaaGreatDoorRows.lean that lists a variable, with what it lists TIED to the program's text (the seventh form; the later family's looks); each row that meets fmt, with fmt's text TOLD by the authors' own Lean function (tested against real Go, not proved from fmt's source: count such statements apart). THE CARD IS WHAT COUNTS. Prove the row's statement (the work); the ties are given (YtmikckhihfcooaaGreatDoorTie.lean); close each card by the builder's one call (the guide's Derived/Test/ToyasCard.lean, 'card_holds'). Laid BY PROGRAM, IN A SANDBOX (cutbox-door.mjs). By AI agents, Wed Nov 11 2026. No macro, syntax, notation, axiom, sorry.
-/
import Derived.Test.YtmikckhihfcooaaGreatDoorRows
import GoSem.ClaimSeven
namespace Go.Proofs.YtmikckhihfcooaaGreatDoor
namespace Rows

/-- THE TIED CARD OF 'quilllaw.LeafPlays'. -/
def leafPlaysCard : Claim7 := { stood := { row := leafPlaysRow, standIns := [], harness := (true, "ff51fc502536848f5375d422a378d34531f2a7284b5892fd9c11f0afe614bd2d"), looks := true }, kinds := [], alts := [], laidByText := true, laidKinds := [.data, .data, .data, .data, .sentinel, .sentinel, .pinned], laidTests := true, laidLooks := .later }
def LeafPlaysCardSaid : Prop := Claim7.holds Tryz.pinned (.plain (OpenSpec.ofChange leafPlaysSpec)) leafPlaysCard

/-- THE SECOND FORM's CARD OF 'quilllaw.LeafPlays'. -/
def leafPlaysUptoCard : Claim7 := { stood := { row := leafPlaysUptoRow, standIns := [], harness := (true, "ff51fc502536848f5375d422a378d34531f2a7284b5892fd9c11f0afe614bd2d"), looks := true }, kinds := [], alts := [], laidByText := true, laidKinds := [.data, .data, .data, .data, .sentinel, .sentinel, .pinned], laidTests := true, laidLooks := .later }
def LeafPlaysUptoCardSaid : Prop := Claim7.holds Tryz.pinned (.plain (OpenSpec.upto leafPlaysSpec)) leafPlaysUptoCard
end Rows
end Go.Proofs.YtmikckhihfcooaaGreatDoor
