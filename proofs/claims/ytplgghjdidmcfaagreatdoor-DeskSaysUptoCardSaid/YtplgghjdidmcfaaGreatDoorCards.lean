/-
  DERIVED. GIVEN WITH THE SEED: THE CARDS: each row of YtplgghjdidmcfaaGreatDoorRows.lean that lists a variable, with what it lists TIED to the program's text (the seventh form; the later family's looks); each row that meets fmt, with fmt's text TOLD by the authors' own Lean function (tested against real Go, not proved from fmt's source: count such statements apart). THE CARD IS WHAT COUNTS. Prove the row's statement (the work); the ties are given (YtplgghjdidmcfaaGreatDoorTie.lean); close each card by the builder's one call (the guide's Derived/Test/ToyasCard.lean, 'card_holds'). Laid BY PROGRAM, IN A SANDBOX (cutbox-door.mjs). By AI agents, Wed Nov 11 2026. No macro, syntax, notation, axiom, sorry.
-/
import Derived.Test.YtplgghjdidmcfaaGreatDoorRows
import GoSem.ClaimSeven
namespace Go.Proofs.YtplgghjdidmcfaaGreatDoor
namespace Rows

/-- THE TIED CARD OF 'quilllaw.HousePlays'. -/
def housePlaysCard : Claim7 := { stood := { row := housePlaysRow, standIns := [], harness := (true, "c2122077ab03d1267efff4f9c71e63688c186acaba55f76d69e9803a8ed6aff2"), looks := true }, kinds := [], alts := [], goes := true, laidByText := true, laidKinds := [.data, .data, .data, .data, .sentinel, .sentinel, .pinned], laidTests := true, laidLooks := .later }
def HousePlaysCardSaid : Prop := Claim7.holds Tryz.pinned (.plain (OpenSpec.ofChange housePlaysSpec)) housePlaysCard

/-- THE TIED CARD OF 'quilllaw.ManyRuns'. -/
def manyRunsCard : Claim7 := { stood := { row := manyRunsRow, standIns := [], harness := (true, "c2122077ab03d1267efff4f9c71e63688c186acaba55f76d69e9803a8ed6aff2"), looks := true }, kinds := [], alts := [], goes := true, laidByText := true, laidKinds := [.data, .data, .data, .data, .sentinel, .sentinel, .pinned], laidTests := true, laidLooks := .later }
def ManyRunsCardSaid : Prop := Claim7.holds Tryz.pinned (.plain (OpenSpec.ofChange manyRunsSpec)) manyRunsCard

/-- THE TIED CARD OF 'quilllaw.DeskSays'. -/
def deskSaysCard : Claim7 := { stood := { row := deskSaysRow, standIns := [], harness := (true, "c2122077ab03d1267efff4f9c71e63688c186acaba55f76d69e9803a8ed6aff2"), looks := true }, kinds := [], alts := [], goes := true, laidByText := true, laidKinds := [.data, .data, .data, .data, .sentinel, .sentinel, .pinned], laidTests := true, laidLooks := .later }
def DeskSaysCardSaid : Prop := Claim7.holds Tryz.pinned (.plain (OpenSpec.ofChange deskSaysSpec)) deskSaysCard

/-- THE SECOND FORM's CARD OF 'quilllaw.HousePlays'. -/
def housePlaysUptoCard : Claim7 := { stood := { row := housePlaysUptoRow, standIns := [], harness := (true, "c2122077ab03d1267efff4f9c71e63688c186acaba55f76d69e9803a8ed6aff2"), looks := true }, kinds := [], alts := [], goes := true, laidByText := true, laidKinds := [.data, .data, .data, .data, .sentinel, .sentinel, .pinned], laidTests := true, laidLooks := .later }
def HousePlaysUptoCardSaid : Prop := Claim7.holds Tryz.pinned (.plain (OpenSpec.upto housePlaysSpec)) housePlaysUptoCard

/-- THE SECOND FORM's CARD OF 'quilllaw.ManyRuns'. -/
def manyRunsUptoCard : Claim7 := { stood := { row := manyRunsUptoRow, standIns := [], harness := (true, "c2122077ab03d1267efff4f9c71e63688c186acaba55f76d69e9803a8ed6aff2"), looks := true }, kinds := [], alts := [], goes := true, laidByText := true, laidKinds := [.data, .data, .data, .data, .sentinel, .sentinel, .pinned], laidTests := true, laidLooks := .later }
def ManyRunsUptoCardSaid : Prop := Claim7.holds Tryz.pinned (.plain (OpenSpec.upto manyRunsSpec)) manyRunsUptoCard

/-- THE SECOND FORM's CARD OF 'quilllaw.DeskSays'. -/
def deskSaysUptoCard : Claim7 := { stood := { row := deskSaysUptoRow, standIns := [], harness := (true, "c2122077ab03d1267efff4f9c71e63688c186acaba55f76d69e9803a8ed6aff2"), looks := true }, kinds := [], alts := [], goes := true, laidByText := true, laidKinds := [.data, .data, .data, .data, .sentinel, .sentinel, .pinned], laidTests := true, laidLooks := .later }
def DeskSaysUptoCardSaid : Prop := Claim7.holds Tryz.pinned (.plain (OpenSpec.upto deskSaysSpec)) deskSaysUptoCard
end Rows
end Go.Proofs.YtplgghjdidmcfaaGreatDoor
