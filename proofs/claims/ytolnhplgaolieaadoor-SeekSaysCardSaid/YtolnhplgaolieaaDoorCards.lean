/-
  DERIVED. GIVEN WITH THE SEED: THE CARDS: each row of YtolnhplgaolieaaDoorRows.lean that lists a variable, with what it lists TIED to the program's text (the seventh form; the later family's looks); each row that meets fmt, with fmt's text TOLD by the authors' own Lean function (tested against real Go, not proved from fmt's source: count such statements apart). THE CARD IS WHAT COUNTS. Prove the row's statement (the work); the ties are given (YtolnhplgaolieaaDoorTie.lean); close each card by the builder's one call (the guide's Derived/Test/ToyasCard.lean, 'card_holds'). Laid BY PROGRAM, IN A SANDBOX (cutbox-door.mjs). By AI agents, Wed Nov 11 2026. No macro, syntax, notation, axiom, sorry.
-/
import Derived.Test.YtolnhplgaolieaaDoorRows
import GoSem.ClaimSeven
namespace Go.Proofs.YtolnhplgaolieaaDoor
namespace Rows

/-- THE TIED CARD OF 'quilllaw.SeekSays'. -/
def seekSaysCard : Claim7 := { stood := { row := seekSaysRow, standIns := [], harness := (true, "2fbcbbb4f79d7e9102bba310c0a1f5fc710f909f42ea9d974b95e727d6c6ba0a"), looks := false }, kinds := [], alts := [], laidByText := true, laidKinds := [.data, .pinned], laidTests := true, laidLooks := .later }
def SeekSaysCardSaid : Prop := Claim7.holds Tryd.pinned (.plain (OpenSpec.ofChange seekSaysSpec)) seekSaysCard

/-- THE SECOND FORM's CARD OF 'quilllaw.SeekSays'. -/
def seekSaysUptoCard : Claim7 := { stood := { row := seekSaysUptoRow, standIns := [], harness := (true, "2fbcbbb4f79d7e9102bba310c0a1f5fc710f909f42ea9d974b95e727d6c6ba0a"), looks := false }, kinds := [], alts := [], laidByText := true, laidKinds := [.data, .pinned], laidTests := true, laidLooks := .later }
def SeekSaysUptoCardSaid : Prop := Claim7.holds Tryd.pinned (.plain (OpenSpec.upto seekSaysSpec)) seekSaysUptoCard
end Rows
end Go.Proofs.YtolnhplgaolieaaDoor
