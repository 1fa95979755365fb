/-
  No cell of these rows narrows 'for every input' (looked for: loops, veiled, ifaces, maps, wideKeys, modest, calm, conditions, laid).
  DERIVED. THE GIVEN ROWS OF THIS SEAT. 12 by the template 'for every input the law returns true; each argument reads behind the call as it read before'; 0 by the template 'total and deterministic' (their statements: YthnedhfjochfnaaTotals.lean).
  GIVEN WITH THE SEED: the statements are not yours to turn. If you find one false, say at which input.
  Laid BY PROGRAM, IN A SANDBOX (cutbox-rows.mjs): the forced cells as the released guide's own fill.sh prints them over the translation e0156aa0cf00b392… (all of the seat's roots in one cut). By AI agents, Wed Nov 11 2026. No macro, syntax, notation, axiom, sorry.
-/
import Derived.Test.YthnedhfjochfnaaChecked
import GoSem.Claim
import GoSem.ClaimJoined
import GoSem.ClaimMapViews
import Derived.JoinedTies
import Derived.KernelRfl
namespace Go.Proofs.Ythnedhfjochfnaa
/- THE CELL 'sum', in the pinned program and in every row, IS THE sha256 OF THE DUMP (.gsa) THAT YthnedhfjochfnaaProg.lean LOADS. Nothing in Lean hashes anything: it is a label: what it is worth is what the hold of that sum in a sandbox is worth. -/
noncomputable def Try.pinned : Pinned := { name := "ythnedhfjochfnaa", sum := "e0156aa0cf00b39236093909116bc62495b574459d11556dbda824ddb834797b", checked := Try.checked }
namespace Rows
def none {H : Type} : Left H := { results := [], args := [] }

/-- 'quilllaw.Names': WHATEVER THE INPUT: true; the input reads as it did. -/
def namesSpec : ChangeSpec := { name := "names", fn := fun _ => fun
  | [] => { results := [.lit (.bool true)], args := [] }
  | _ => none }
def namesRow : OpenClaim := { program := "ythnedhfjochfnaa", sum := "e0156aa0cf00b39236093909116bc62495b574459d11556dbda824ddb834797b", func := "quillward/quilllaw.Names", spec := "names", apart := false }
def NamesSaid : Prop := namesRow.holds Try.pinned (OpenSpec.ofChange namesSpec)

/-- ITS FALSE NEIGHBOUR: 'it returns false'. Refute it at one input. -/
def namesWrong : ChangeSpec := { name := "names", fn := fun _ => fun
  | [] => { results := [.lit (.bool false)], args := [] }
  | _ => none }
def NamesWrongFalsely : Prop := namesRow.holds Try.pinned (OpenSpec.ofChange namesWrong)

/-- 'quilllaw.SumSays': WHATEVER THE INPUT: true; the input reads as it did. -/
def sumSaysSpec : ChangeSpec := { name := "sumSays", fn := fun _ => fun
  | [d1, d2] => { results := [.lit (.bool true)], args := [d1, d2] }
  | _ => none }
def sumSaysRow : OpenClaim := { program := "ythnedhfjochfnaa", sum := "e0156aa0cf00b39236093909116bc62495b574459d11556dbda824ddb834797b", func := "quillward/quilllaw.SumSays", spec := "sumSays", apart := false }
def SumSaysSaid : Prop := sumSaysRow.holds Try.pinned (OpenSpec.ofChange sumSaysSpec)

/-- ITS FALSE NEIGHBOUR: 'it returns false'. Refute it at one input. -/
def sumSaysWrong : ChangeSpec := { name := "sumSays", fn := fun _ => fun
  | [d1, d2] => { results := [.lit (.bool false)], args := [d1, d2] }
  | _ => none }
def SumSaysWrongFalsely : Prop := sumSaysRow.holds Try.pinned (OpenSpec.ofChange sumSaysWrong)

/-- 'quilllaw.LogFrames': WHATEVER THE INPUT: true; the input reads as it did. -/
def logFramesSpec : ChangeSpec := { name := "logFrames", fn := fun _ => fun
  | [d1, d2] => { results := [.lit (.bool true)], args := [d1, d2] }
  | _ => none }
def logFramesRow : OpenClaim := { program := "ythnedhfjochfnaa", sum := "e0156aa0cf00b39236093909116bc62495b574459d11556dbda824ddb834797b", func := "quillward/quilllaw.LogFrames", spec := "logFrames", recurses := true, apart := false }
def LogFramesSaid : Prop := logFramesRow.holds Try.pinned (OpenSpec.ofChange logFramesSpec)

/-- ITS FALSE NEIGHBOUR: 'it returns false'. Refute it at one input. -/
def logFramesWrong : ChangeSpec := { name := "logFrames", fn := fun _ => fun
  | [d1, d2] => { results := [.lit (.bool false)], args := [d1, d2] }
  | _ => none }
def LogFramesWrongFalsely : Prop := logFramesRow.holds Try.pinned (OpenSpec.ofChange logFramesWrong)

/-- 'quilllaw.ShiftSays': WHATEVER THE INPUT: true; the input reads as it did. -/
def shiftSaysSpec : ChangeSpec := { name := "shiftSays", fn := fun _ => fun
  | [d1, d2, d3, d4, d5] => { results := [.lit (.bool true)], args := [d1, d2, d3, d4, d5] }
  | _ => none }
def shiftSaysRow : OpenClaim := { program := "ythnedhfjochfnaa", sum := "e0156aa0cf00b39236093909116bc62495b574459d11556dbda824ddb834797b", func := "quillward/quilllaw.ShiftSays", spec := "shiftSays", apart := false }
def ShiftSaysSaid : Prop := shiftSaysRow.holds Try.pinned (OpenSpec.ofChange shiftSaysSpec)

/-- ITS FALSE NEIGHBOUR: 'it returns false'. Refute it at one input. -/
def shiftSaysWrong : ChangeSpec := { name := "shiftSays", fn := fun _ => fun
  | [d1, d2, d3, d4, d5] => { results := [.lit (.bool false)], args := [d1, d2, d3, d4, d5] }
  | _ => none }
def ShiftSaysWrongFalsely : Prop := shiftSaysRow.holds Try.pinned (OpenSpec.ofChange shiftSaysWrong)

/-- 'quilllaw.PhraseSays': WHATEVER THE INPUT: true; the input reads as it did. -/
def phraseSaysSpec : ChangeSpec := { name := "phraseSays", fn := fun _ => fun
  | [d1, d2, d3] => { results := [.lit (.bool true)], args := [d1, d2, d3] }
  | _ => none }
def phraseSaysRow : OpenClaim := { program := "ythnedhfjochfnaa", sum := "e0156aa0cf00b39236093909116bc62495b574459d11556dbda824ddb834797b", func := "quillward/quilllaw.PhraseSays", spec := "phraseSays", apart := false }
def PhraseSaysSaid : Prop := phraseSaysRow.holds Try.pinned (OpenSpec.ofChange phraseSaysSpec)

/-- ITS FALSE NEIGHBOUR: 'it returns false'. Refute it at one input. -/
def phraseSaysWrong : ChangeSpec := { name := "phraseSays", fn := fun _ => fun
  | [d1, d2, d3] => { results := [.lit (.bool false)], args := [d1, d2, d3] }
  | _ => none }
def PhraseSaysWrongFalsely : Prop := phraseSaysRow.holds Try.pinned (OpenSpec.ofChange phraseSaysWrong)

/-- 'quilllaw.CodeMakes': WHATEVER THE INPUT: true; the input reads as it did. -/
def codeMakesSpec : ChangeSpec := { name := "codeMakes", fn := fun _ => fun
  | [d] => { results := [.lit (.bool true)], args := [d] }
  | _ => none }
def codeMakesRow : OpenClaim := { program := "ythnedhfjochfnaa", sum := "e0156aa0cf00b39236093909116bc62495b574459d11556dbda824ddb834797b", func := "quillward/quilllaw.CodeMakes", spec := "codeMakes", unfollowed := true, recurses := true, apart := false }
def CodeMakesSaid : Prop := codeMakesRow.holds Try.pinned (OpenSpec.ofChange codeMakesSpec)

/-- ITS FALSE NEIGHBOUR: 'it returns false'. Refute it at one input. -/
def codeMakesWrong : ChangeSpec := { name := "codeMakes", fn := fun _ => fun
  | [d] => { results := [.lit (.bool false)], args := [d] }
  | _ => none }
def CodeMakesWrongFalsely : Prop := codeMakesRow.holds Try.pinned (OpenSpec.ofChange codeMakesWrong)

/-- 'quilllaw.EditBetween': WHATEVER THE INPUT: true; the input reads as it did. -/
def editBetweenSpec : ChangeSpec := { name := "editBetween", fn := fun _ => fun
  | [d1, d2] => { results := [.lit (.bool true)], args := [d1, d2] }
  | _ => none }
def editBetweenRow : OpenClaim := { program := "ythnedhfjochfnaa", sum := "e0156aa0cf00b39236093909116bc62495b574459d11556dbda824ddb834797b", func := "quillward/quilllaw.EditBetween", spec := "editBetween", apart := false }
def EditBetweenSaid : Prop := editBetweenRow.holds Try.pinned (OpenSpec.ofChange editBetweenSpec)

/-- ITS FALSE NEIGHBOUR: 'it returns false'. Refute it at one input. -/
def editBetweenWrong : ChangeSpec := { name := "editBetween", fn := fun _ => fun
  | [d1, d2] => { results := [.lit (.bool false)], args := [d1, d2] }
  | _ => none }
def EditBetweenWrongFalsely : Prop := editBetweenRow.holds Try.pinned (OpenSpec.ofChange editBetweenWrong)

/-- 'quilllaw.LogPlays': WHATEVER THE INPUT: true; the input reads as it did. -/
def logPlaysSpec : ChangeSpec := { name := "logPlays", fn := fun _ => fun
  | [d] => { results := [.lit (.bool true)], args := [d] }
  | _ => none }
def logPlaysRow : OpenClaim := { program := "ythnedhfjochfnaa", sum := "e0156aa0cf00b39236093909116bc62495b574459d11556dbda824ddb834797b", func := "quillward/quilllaw.LogPlays", spec := "logPlays", recurses := true, apart := false }
def LogPlaysSaid : Prop := logPlaysRow.holds Try.pinned (OpenSpec.ofChange logPlaysSpec)

/-- ITS FALSE NEIGHBOUR: 'it returns false'. Refute it at one input. -/
def logPlaysWrong : ChangeSpec := { name := "logPlays", fn := fun _ => fun
  | [d] => { results := [.lit (.bool false)], args := [d] }
  | _ => none }
def LogPlaysWrongFalsely : Prop := logPlaysRow.holds Try.pinned (OpenSpec.ofChange logPlaysWrong)

/-- 'quilllaw.DistSays': WHATEVER THE INPUT: true; the input reads as it did. -/
def distSaysSpec : ChangeSpec := { name := "distSays", fn := fun _ => fun
  | [d1, d2, d3, d4] => { results := [.lit (.bool true)], args := [d1, d2, d3, d4] }
  | _ => none }
def distSaysRow : OpenClaim := { program := "ythnedhfjochfnaa", sum := "e0156aa0cf00b39236093909116bc62495b574459d11556dbda824ddb834797b", func := "quillward/quilllaw.DistSays", spec := "distSays", apart := false }
def DistSaysSaid : Prop := distSaysRow.holds Try.pinned (OpenSpec.ofChange distSaysSpec)

/-- ITS FALSE NEIGHBOUR: 'it returns false'. Refute it at one input. -/
def distSaysWrong : ChangeSpec := { name := "distSays", fn := fun _ => fun
  | [d1, d2, d3, d4] => { results := [.lit (.bool false)], args := [d1, d2, d3, d4] }
  | _ => none }
def DistSaysWrongFalsely : Prop := distSaysRow.holds Try.pinned (OpenSpec.ofChange distSaysWrong)

/-- 'quilllaw.UndoPlays': WHATEVER THE INPUT: true; the input reads as it did. -/
def undoPlaysSpec : ChangeSpec := { name := "undoPlays", fn := fun _ => fun
  | [d1, d2] => { results := [.lit (.bool true)], args := [d1, d2] }
  | _ => none }
def undoPlaysRow : OpenClaim := { program := "ythnedhfjochfnaa", sum := "e0156aa0cf00b39236093909116bc62495b574459d11556dbda824ddb834797b", func := "quillward/quilllaw.UndoPlays", spec := "undoPlays", apart := false }
def UndoPlaysSaid : Prop := undoPlaysRow.holds Try.pinned (OpenSpec.ofChange undoPlaysSpec)

/-- ITS FALSE NEIGHBOUR: 'it returns false'. Refute it at one input. -/
def undoPlaysWrong : ChangeSpec := { name := "undoPlays", fn := fun _ => fun
  | [d1, d2] => { results := [.lit (.bool false)], args := [d1, d2] }
  | _ => none }
def UndoPlaysWrongFalsely : Prop := undoPlaysRow.holds Try.pinned (OpenSpec.ofChange undoPlaysWrong)

/-- 'quilllaw.DiffSays': WHATEVER THE INPUT: true; the input reads as it did. -/
def diffSaysSpec : ChangeSpec := { name := "diffSays", fn := fun _ => fun
  | [d1, d2] => { results := [.lit (.bool true)], args := [d1, d2] }
  | _ => none }
def diffSaysRow : OpenClaim := { program := "ythnedhfjochfnaa", sum := "e0156aa0cf00b39236093909116bc62495b574459d11556dbda824ddb834797b", func := "quillward/quilllaw.DiffSays", spec := "diffSays", apart := false }
def DiffSaysSaid : Prop := diffSaysRow.holds Try.pinned (OpenSpec.ofChange diffSaysSpec)

/-- ITS FALSE NEIGHBOUR: 'it returns false'. Refute it at one input. -/
def diffSaysWrong : ChangeSpec := { name := "diffSays", fn := fun _ => fun
  | [d1, d2] => { results := [.lit (.bool false)], args := [d1, d2] }
  | _ => none }
def DiffSaysWrongFalsely : Prop := diffSaysRow.holds Try.pinned (OpenSpec.ofChange diffSaysWrong)

/-- 'quilllaw.EditSays': WHATEVER THE INPUT: true; the input reads as it did. -/
def editSaysSpec : ChangeSpec := { name := "editSays", fn := fun _ => fun
  | [d1, d2, d3, d4] => { results := [.lit (.bool true)], args := [d1, d2, d3, d4] }
  | _ => none }
def editSaysRow : OpenClaim := { program := "ythnedhfjochfnaa", sum := "e0156aa0cf00b39236093909116bc62495b574459d11556dbda824ddb834797b", func := "quillward/quilllaw.EditSays", spec := "editSays", unfollowed := true, recurses := true, apart := false }
def EditSaysSaid : Prop := editSaysRow.holds Try.pinned (OpenSpec.ofChange editSaysSpec)

/-- ITS FALSE NEIGHBOUR: 'it returns false'. Refute it at one input. -/
def editSaysWrong : ChangeSpec := { name := "editSays", fn := fun _ => fun
  | [d1, d2, d3, d4] => { results := [.lit (.bool false)], args := [d1, d2, d3, d4] }
  | _ => none }
def EditSaysWrongFalsely : Prop := editSaysRow.holds Try.pinned (OpenSpec.ofChange editSaysWrong)

/- THE SECOND FORM. 'bulk': how many values and letters a reading holds, each counted each time it is reached (what is shared counts as often as it is met; a slice's spare places count too). A statement '..UptoSaid' is the law's where the arguments, and the package variables that the reading takes, are together of bulk at most 1048576: NARROWER than '..Said'. Prove '..Said' where nothing that the law and all that it calls make is longer than what came in: it says more and counts as full. Else prove '..UptoSaid'. A law counts once. -/
mutual
def uptoBulk {H : Type} : DataW H → Nat
  | .lit (.string bytes) => bytes.length + 1
  | .lit _ => 1
  | .nil => 1
  | .ptr d => uptoBulk d + 1
  | .slice elems spare => uptoBulkAll elems + uptoBulkAll spare + 1
  | .agg parts => uptoBulkAll parts + 1
  | .iface _ d => uptoBulk d + 1
  | .map entries => uptoBulkEntries entries + 1
  | .held _ => 1
def uptoBulkAll {H : Type} : List (DataW H) → Nat
  | [] => 0
  | d :: r => uptoBulk d + uptoBulkAll r
def uptoBulkEntries {H : Type} : List (Lit × DataW H) → Nat
  | [] => 0
  | x :: r => uptoBulkEntry x + uptoBulkEntries r
def uptoBulkEntry {H : Type} : Lit × DataW H → Nat
  | (.string bytes, d) => bytes.length + uptoBulk d + 1
  | (_, d) => uptoBulk d + 1
 end
def uptoSmall : (H : Type) → List (DataW H) → Bool := fun _ ds => decide (uptoBulkAll ds ≤ 1048576)
def OpenSpec.upto (s : _root_.Go.ChangeSpec) : _root_.Go.OpenSpec := { _root_.Go.OpenSpec.ofChange s with cond := some uptoSmall }

/-- 'quilllaw.Names', WHERE WHAT IT READS IS OF BULK AT MOST 1048576: true; the input reads as it did. -/
def namesUptoRow : OpenClaim := { program := "ythnedhfjochfnaa", sum := "e0156aa0cf00b39236093909116bc62495b574459d11556dbda824ddb834797b", func := "quillward/quilllaw.Names", spec := "names", apart := false, narrowed := true }
def NamesUptoSaid : Prop := namesUptoRow.holds Try.pinned (OpenSpec.upto namesSpec)

/-- 'quilllaw.SumSays', WHERE WHAT IT READS IS OF BULK AT MOST 1048576: true; the input reads as it did. -/
def sumSaysUptoRow : OpenClaim := { program := "ythnedhfjochfnaa", sum := "e0156aa0cf00b39236093909116bc62495b574459d11556dbda824ddb834797b", func := "quillward/quilllaw.SumSays", spec := "sumSays", apart := false, narrowed := true }
def SumSaysUptoSaid : Prop := sumSaysUptoRow.holds Try.pinned (OpenSpec.upto sumSaysSpec)

/-- 'quilllaw.LogFrames', WHERE WHAT IT READS IS OF BULK AT MOST 1048576: true; the input reads as it did. -/
def logFramesUptoRow : OpenClaim := { program := "ythnedhfjochfnaa", sum := "e0156aa0cf00b39236093909116bc62495b574459d11556dbda824ddb834797b", func := "quillward/quilllaw.LogFrames", spec := "logFrames", recurses := true, apart := false, narrowed := true }
def LogFramesUptoSaid : Prop := logFramesUptoRow.holds Try.pinned (OpenSpec.upto logFramesSpec)

/-- 'quilllaw.ShiftSays', WHERE WHAT IT READS IS OF BULK AT MOST 1048576: true; the input reads as it did. -/
def shiftSaysUptoRow : OpenClaim := { program := "ythnedhfjochfnaa", sum := "e0156aa0cf00b39236093909116bc62495b574459d11556dbda824ddb834797b", func := "quillward/quilllaw.ShiftSays", spec := "shiftSays", apart := false, narrowed := true }
def ShiftSaysUptoSaid : Prop := shiftSaysUptoRow.holds Try.pinned (OpenSpec.upto shiftSaysSpec)

/-- 'quilllaw.PhraseSays', WHERE WHAT IT READS IS OF BULK AT MOST 1048576: true; the input reads as it did. -/
def phraseSaysUptoRow : OpenClaim := { program := "ythnedhfjochfnaa", sum := "e0156aa0cf00b39236093909116bc62495b574459d11556dbda824ddb834797b", func := "quillward/quilllaw.PhraseSays", spec := "phraseSays", apart := false, narrowed := true }
def PhraseSaysUptoSaid : Prop := phraseSaysUptoRow.holds Try.pinned (OpenSpec.upto phraseSaysSpec)

/-- 'quilllaw.CodeMakes', WHERE WHAT IT READS IS OF BULK AT MOST 1048576: true; the input reads as it did. -/
def codeMakesUptoRow : OpenClaim := { program := "ythnedhfjochfnaa", sum := "e0156aa0cf00b39236093909116bc62495b574459d11556dbda824ddb834797b", func := "quillward/quilllaw.CodeMakes", spec := "codeMakes", unfollowed := true, recurses := true, apart := false, narrowed := true }
def CodeMakesUptoSaid : Prop := codeMakesUptoRow.holds Try.pinned (OpenSpec.upto codeMakesSpec)

/-- 'quilllaw.EditBetween', WHERE WHAT IT READS IS OF BULK AT MOST 1048576: true; the input reads as it did. -/
def editBetweenUptoRow : OpenClaim := { program := "ythnedhfjochfnaa", sum := "e0156aa0cf00b39236093909116bc62495b574459d11556dbda824ddb834797b", func := "quillward/quilllaw.EditBetween", spec := "editBetween", apart := false, narrowed := true }
def EditBetweenUptoSaid : Prop := editBetweenUptoRow.holds Try.pinned (OpenSpec.upto editBetweenSpec)

/-- 'quilllaw.LogPlays', WHERE WHAT IT READS IS OF BULK AT MOST 1048576: true; the input reads as it did. -/
def logPlaysUptoRow : OpenClaim := { program := "ythnedhfjochfnaa", sum := "e0156aa0cf00b39236093909116bc62495b574459d11556dbda824ddb834797b", func := "quillward/quilllaw.LogPlays", spec := "logPlays", recurses := true, apart := false, narrowed := true }
def LogPlaysUptoSaid : Prop := logPlaysUptoRow.holds Try.pinned (OpenSpec.upto logPlaysSpec)

/-- 'quilllaw.DistSays', WHERE WHAT IT READS IS OF BULK AT MOST 1048576: true; the input reads as it did. -/
def distSaysUptoRow : OpenClaim := { program := "ythnedhfjochfnaa", sum := "e0156aa0cf00b39236093909116bc62495b574459d11556dbda824ddb834797b", func := "quillward/quilllaw.DistSays", spec := "distSays", apart := false, narrowed := true }
def DistSaysUptoSaid : Prop := distSaysUptoRow.holds Try.pinned (OpenSpec.upto distSaysSpec)

/-- 'quilllaw.UndoPlays', WHERE WHAT IT READS IS OF BULK AT MOST 1048576: true; the input reads as it did. -/
def undoPlaysUptoRow : OpenClaim := { program := "ythnedhfjochfnaa", sum := "e0156aa0cf00b39236093909116bc62495b574459d11556dbda824ddb834797b", func := "quillward/quilllaw.UndoPlays", spec := "undoPlays", apart := false, narrowed := true }
def UndoPlaysUptoSaid : Prop := undoPlaysUptoRow.holds Try.pinned (OpenSpec.upto undoPlaysSpec)

/-- 'quilllaw.DiffSays', WHERE WHAT IT READS IS OF BULK AT MOST 1048576: true; the input reads as it did. -/
def diffSaysUptoRow : OpenClaim := { program := "ythnedhfjochfnaa", sum := "e0156aa0cf00b39236093909116bc62495b574459d11556dbda824ddb834797b", func := "quillward/quilllaw.DiffSays", spec := "diffSays", apart := false, narrowed := true }
def DiffSaysUptoSaid : Prop := diffSaysUptoRow.holds Try.pinned (OpenSpec.upto diffSaysSpec)

/-- 'quilllaw.EditSays', WHERE WHAT IT READS IS OF BULK AT MOST 1048576: true; the input reads as it did. -/
def editSaysUptoRow : OpenClaim := { program := "ythnedhfjochfnaa", sum := "e0156aa0cf00b39236093909116bc62495b574459d11556dbda824ddb834797b", func := "quillward/quilllaw.EditSays", spec := "editSays", unfollowed := true, recurses := true, apart := false, narrowed := true }
def EditSaysUptoSaid : Prop := editSaysUptoRow.holds Try.pinned (OpenSpec.upto editSaysSpec)

end Rows
end Go.Proofs.Ythnedhfjochfnaa
