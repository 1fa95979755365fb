/-
  No cell of these rows narrows 'for every input' (looked for: loops, veiled, ifaces, maps, wideKeys, modest, calm, conditions, laid).
  DERIVED. THE GIVEN ROWS OF THIS SEAT. 11 by the template 'for every input the law returns true; each argument reads behind the call as it read before'; 0 by the template 'total and deterministic' (their statements: YtolnhplgaolieaaTotals.lean).
  GIVEN WITH THE SEED: the statements are not yours to turn. If you find one false, say at which input.
  Laid BY PROGRAM, IN A SANDBOX (cutbox-rows.mjs): the forced cells as the released guide's own fill.sh prints them over the translation 8a4dfe7e6bab9127… (all of the seat's roots in one cut). By AI agents, Wed Nov 11 2026. No macro, syntax, notation, axiom, sorry.
-/
import Derived.Test.YtolnhplgaolieaaChecked
import GoSem.Claim
import GoSem.ClaimJoined
import GoSem.ClaimMapViews
import Derived.JoinedTies
import Derived.KernelRfl
namespace Go.Proofs.Ytolnhplgaolieaa
/- THE CELL 'sum', in the pinned program and in every row, IS THE sha256 OF THE DUMP (.gsa) THAT YtolnhplgaolieaaProg.lean LOADS. Nothing in Lean hashes anything: it is a label: what it is worth is what the hold of that sum in a sandbox is worth. -/
noncomputable def Try.pinned : Pinned := { name := "ytolnhplgaolieaa", sum := "8a4dfe7e6bab91272637242d4c7494d38af6a72052aa911ec6d6bb8188d410e8", checked := Try.checked }
namespace Rows
def none {H : Type} : Left H := { results := [], args := [] }

/-- 'quilllaw.SameSays': WHATEVER THE INPUT: true; the input reads as it did. -/
def sameSaysSpec : ChangeSpec := { name := "sameSays", fn := fun _ => fun
  | [d1, d2] => { results := [.lit (.bool true)], args := [d1, d2] }
  | _ => none }
def sameSaysRow : OpenClaim := { program := "ytolnhplgaolieaa", sum := "8a4dfe7e6bab91272637242d4c7494d38af6a72052aa911ec6d6bb8188d410e8", func := "quillward/quilllaw.SameSays", spec := "sameSays", inPlace := ["internal/bytealg.IndexByteString", "internal/bytealg.IndexString"], recurses := true, named := ["internal/bytealg.MaxLen"], apart := false }
def SameSaysSaid : Prop := sameSaysRow.holds Try.pinned (OpenSpec.ofChange sameSaysSpec)

/-- ITS FALSE NEIGHBOUR: 'it returns false'. Refute it at one input. -/
def sameSaysWrong : ChangeSpec := { name := "sameSays", fn := fun _ => fun
  | [d1, d2] => { results := [.lit (.bool false)], args := [d1, d2] }
  | _ => none }
def SameSaysWrongFalsely : Prop := sameSaysRow.holds Try.pinned (OpenSpec.ofChange sameSaysWrong)

/-- 'quilllaw.WordSays': WHATEVER THE INPUT: true; the input reads as it did. -/
def wordSaysSpec : ChangeSpec := { name := "wordSays", fn := fun _ => fun
  | [d] => { results := [.lit (.bool true)], args := [d] }
  | _ => none }
def wordSaysRow : OpenClaim := { program := "ytolnhplgaolieaa", sum := "8a4dfe7e6bab91272637242d4c7494d38af6a72052aa911ec6d6bb8188d410e8", func := "quillward/quilllaw.WordSays", spec := "wordSays", inPlace := ["internal/abi.NoEscape", "internal/bytealg.MakeNoZero"], apart := false }
def WordSaysSaid : Prop := wordSaysRow.holds Try.pinned (OpenSpec.ofChange wordSaysSpec)

/-- ITS FALSE NEIGHBOUR: 'it returns false'. Refute it at one input. -/
def wordSaysWrong : ChangeSpec := { name := "wordSays", fn := fun _ => fun
  | [d] => { results := [.lit (.bool false)], args := [d] }
  | _ => none }
def WordSaysWrongFalsely : Prop := wordSaysRow.holds Try.pinned (OpenSpec.ofChange wordSaysWrong)

/-- 'quilllaw.LyndonSays': WHATEVER THE INPUT: true; the input reads as it did. -/
def lyndonSaysSpec : ChangeSpec := { name := "lyndonSays", fn := fun _ => fun
  | [d] => { results := [.lit (.bool true)], args := [d] }
  | _ => none }
def lyndonSaysRow : OpenClaim := { program := "ytolnhplgaolieaa", sum := "8a4dfe7e6bab91272637242d4c7494d38af6a72052aa911ec6d6bb8188d410e8", func := "quillward/quilllaw.LyndonSays", spec := "lyndonSays", inPlace := ["internal/abi.NoEscape", "internal/bytealg.MakeNoZero"], apart := false }
def LyndonSaysSaid : Prop := lyndonSaysRow.holds Try.pinned (OpenSpec.ofChange lyndonSaysSpec)

/-- ITS FALSE NEIGHBOUR: 'it returns false'. Refute it at one input. -/
def lyndonSaysWrong : ChangeSpec := { name := "lyndonSays", fn := fun _ => fun
  | [d] => { results := [.lit (.bool false)], args := [d] }
  | _ => none }
def LyndonSaysWrongFalsely : Prop := lyndonSaysRow.holds Try.pinned (OpenSpec.ofChange lyndonSaysWrong)

/-- 'quilllaw.LyndonNext': WHATEVER THE INPUT: true; the input reads as it did. -/
def lyndonNextSpec : ChangeSpec := { name := "lyndonNext", fn := fun _ => fun
  | [d1, d2, d3] => { results := [.lit (.bool true)], args := [d1, d2, d3] }
  | _ => none }
def lyndonNextRow : OpenClaim := { program := "ytolnhplgaolieaa", sum := "8a4dfe7e6bab91272637242d4c7494d38af6a72052aa911ec6d6bb8188d410e8", func := "quillward/quilllaw.LyndonNext", spec := "lyndonNext", inPlace := ["internal/abi.NoEscape", "internal/bytealg.MakeNoZero"], apart := false }
def LyndonNextSaid : Prop := lyndonNextRow.holds Try.pinned (OpenSpec.ofChange lyndonNextSpec)

/-- ITS FALSE NEIGHBOUR: 'it returns false'. Refute it at one input. -/
def lyndonNextWrong : ChangeSpec := { name := "lyndonNext", fn := fun _ => fun
  | [d1, d2, d3] => { results := [.lit (.bool false)], args := [d1, d2, d3] }
  | _ => none }
def LyndonNextWrongFalsely : Prop := lyndonNextRow.holds Try.pinned (OpenSpec.ofChange lyndonNextWrong)

/-- 'quilllaw.ShiftAll': WHATEVER THE INPUT: true; the input reads as it did. -/
def shiftAllSpec : ChangeSpec := { name := "shiftAll", fn := fun _ => fun
  | [d1, d2, d3] => { results := [.lit (.bool true)], args := [d1, d2, d3] }
  | _ => none }
def shiftAllRow : OpenClaim := { program := "ytolnhplgaolieaa", sum := "8a4dfe7e6bab91272637242d4c7494d38af6a72052aa911ec6d6bb8188d410e8", func := "quillward/quilllaw.ShiftAll", spec := "shiftAll", apart := false }
def ShiftAllSaid : Prop := shiftAllRow.holds Try.pinned (OpenSpec.ofChange shiftAllSpec)

/-- ITS FALSE NEIGHBOUR: 'it returns false'. Refute it at one input. -/
def shiftAllWrong : ChangeSpec := { name := "shiftAll", fn := fun _ => fun
  | [d1, d2, d3] => { results := [.lit (.bool false)], args := [d1, d2, d3] }
  | _ => none }
def ShiftAllWrongFalsely : Prop := shiftAllRow.holds Try.pinned (OpenSpec.ofChange shiftAllWrong)

/-- 'quilllaw.MergeSays': WHATEVER THE INPUT: true; the input reads as it did. -/
def mergeSaysSpec : ChangeSpec := { name := "mergeSays", fn := fun _ => fun
  | [d1, d2, d3] => { results := [.lit (.bool true)], args := [d1, d2, d3] }
  | _ => none }
def mergeSaysRow : OpenClaim := { program := "ytolnhplgaolieaa", sum := "8a4dfe7e6bab91272637242d4c7494d38af6a72052aa911ec6d6bb8188d410e8", func := "quillward/quilllaw.MergeSays", spec := "mergeSays", unfollowed := true, recurses := true, apart := false }
def MergeSaysSaid : Prop := mergeSaysRow.holds Try.pinned (OpenSpec.ofChange mergeSaysSpec)

/-- ITS FALSE NEIGHBOUR: 'it returns false'. Refute it at one input. -/
def mergeSaysWrong : ChangeSpec := { name := "mergeSays", fn := fun _ => fun
  | [d1, d2, d3] => { results := [.lit (.bool false)], args := [d1, d2, d3] }
  | _ => none }
def MergeSaysWrongFalsely : Prop := mergeSaysRow.holds Try.pinned (OpenSpec.ofChange mergeSaysWrong)

/-- 'quilllaw.FrontSays': WHATEVER THE INPUT: true; the input reads as it did. -/
def frontSaysSpec : ChangeSpec := { name := "frontSays", fn := fun _ => fun
  | [d1, d2, d3] => { results := [.lit (.bool true)], args := [d1, d2, d3] }
  | _ => none }
def frontSaysRow : OpenClaim := { program := "ytolnhplgaolieaa", sum := "8a4dfe7e6bab91272637242d4c7494d38af6a72052aa911ec6d6bb8188d410e8", func := "quillward/quilllaw.FrontSays", spec := "frontSays", inPlace := ["internal/abi.NoEscape", "internal/bytealg.MakeNoZero"], unfollowed := true, recurses := true, apart := false }
def FrontSaysSaid : Prop := frontSaysRow.holds Try.pinned (OpenSpec.ofChange frontSaysSpec)

/-- ITS FALSE NEIGHBOUR: 'it returns false'. Refute it at one input. -/
def frontSaysWrong : ChangeSpec := { name := "frontSays", fn := fun _ => fun
  | [d1, d2, d3] => { results := [.lit (.bool false)], args := [d1, d2, d3] }
  | _ => none }
def FrontSaysWrongFalsely : Prop := frontSaysRow.holds Try.pinned (OpenSpec.ofChange frontSaysWrong)

/-- 'quilllaw.RopeEdits': WHATEVER THE INPUT: true; the input reads as it did. -/
def ropeEditsSpec : ChangeSpec := { name := "ropeEdits", fn := fun _ => fun
  | [d1, d2] => { results := [.lit (.bool true)], args := [d1, d2] }
  | _ => none }
def ropeEditsRow : OpenClaim := { program := "ytolnhplgaolieaa", sum := "8a4dfe7e6bab91272637242d4c7494d38af6a72052aa911ec6d6bb8188d410e8", func := "quillward/quilllaw.RopeEdits", spec := "ropeEdits", inPlace := ["internal/abi.NoEscape", "internal/bytealg.MakeNoZero"], apart := false }
def RopeEditsSaid : Prop := ropeEditsRow.holds Try.pinned (OpenSpec.ofChange ropeEditsSpec)

/-- ITS FALSE NEIGHBOUR: 'it returns false'. Refute it at one input. -/
def ropeEditsWrong : ChangeSpec := { name := "ropeEdits", fn := fun _ => fun
  | [d1, d2] => { results := [.lit (.bool false)], args := [d1, d2] }
  | _ => none }
def RopeEditsWrongFalsely : Prop := ropeEditsRow.holds Try.pinned (OpenSpec.ofChange ropeEditsWrong)

/-- 'quilllaw.RopeSays': WHATEVER THE INPUT: true; the input reads as it did. -/
def ropeSaysSpec : ChangeSpec := { name := "ropeSays", fn := fun _ => fun
  | [d1, d2, d3, d4, d5] => { results := [.lit (.bool true)], args := [d1, d2, d3, d4, d5] }
  | _ => none }
def ropeSaysRow : OpenClaim := { program := "ytolnhplgaolieaa", sum := "8a4dfe7e6bab91272637242d4c7494d38af6a72052aa911ec6d6bb8188d410e8", func := "quillward/quilllaw.RopeSays", spec := "ropeSays", inPlace := ["internal/abi.NoEscape", "internal/bytealg.MakeNoZero"], apart := false }
def RopeSaysSaid : Prop := ropeSaysRow.holds Try.pinned (OpenSpec.ofChange ropeSaysSpec)

/-- ITS FALSE NEIGHBOUR: 'it returns false'. Refute it at one input. -/
def ropeSaysWrong : ChangeSpec := { name := "ropeSays", fn := fun _ => fun
  | [d1, d2, d3, d4, d5] => { results := [.lit (.bool false)], args := [d1, d2, d3, d4, d5] }
  | _ => none }
def RopeSaysWrongFalsely : Prop := ropeSaysRow.holds Try.pinned (OpenSpec.ofChange ropeSaysWrong)

/-- 'quilllaw.TrimSays': WHATEVER THE INPUT: true; the input reads as it did. -/
def trimSaysSpec : ChangeSpec := { name := "trimSays", fn := fun _ => fun
  | [d1, d2] => { results := [.lit (.bool true)], args := [d1, d2] }
  | _ => none }
def trimSaysRow : OpenClaim := { program := "ytolnhplgaolieaa", sum := "8a4dfe7e6bab91272637242d4c7494d38af6a72052aa911ec6d6bb8188d410e8", func := "quillward/quilllaw.TrimSays", spec := "trimSays", inPlace := ["internal/abi.NoEscape", "internal/bytealg.MakeNoZero"], apart := false }
def TrimSaysSaid : Prop := trimSaysRow.holds Try.pinned (OpenSpec.ofChange trimSaysSpec)

/-- ITS FALSE NEIGHBOUR: 'it returns false'. Refute it at one input. -/
def trimSaysWrong : ChangeSpec := { name := "trimSays", fn := fun _ => fun
  | [d1, d2] => { results := [.lit (.bool false)], args := [d1, d2] }
  | _ => none }
def TrimSaysWrongFalsely : Prop := trimSaysRow.holds Try.pinned (OpenSpec.ofChange trimSaysWrong)

/-- 'quilllaw.RingSays': WHATEVER THE INPUT: true; the input reads as it did. -/
def ringSaysSpec : ChangeSpec := { name := "ringSays", fn := fun _ => fun
  | [d1, d2] => { results := [.lit (.bool true)], args := [d1, d2] }
  | _ => none }
def ringSaysRow : OpenClaim := { program := "ytolnhplgaolieaa", sum := "8a4dfe7e6bab91272637242d4c7494d38af6a72052aa911ec6d6bb8188d410e8", func := "quillward/quilllaw.RingSays", spec := "ringSays", unfollowed := true, recurses := true, apart := false }
def RingSaysSaid : Prop := ringSaysRow.holds Try.pinned (OpenSpec.ofChange ringSaysSpec)

/-- ITS FALSE NEIGHBOUR: 'it returns false'. Refute it at one input. -/
def ringSaysWrong : ChangeSpec := { name := "ringSays", fn := fun _ => fun
  | [d1, d2] => { results := [.lit (.bool false)], args := [d1, d2] }
  | _ => none }
def RingSaysWrongFalsely : Prop := ringSaysRow.holds Try.pinned (OpenSpec.ofChange ringSaysWrong)

/- THE SECOND FORM. 'bulk': how many values and letters a reading holds, each counted each time it is reached (what is shared counts as often as it is met; a slice's spare places count too). A statement '..UptoSaid' is the law's where the arguments, and the package variables that the reading takes, are together of bulk at most 1048576: NARROWER than '..Said'. Prove '..Said' where nothing that the law and all that it calls make is longer than what came in: it says more and counts as full. Else prove '..UptoSaid'. A law counts once. -/
mutual
def uptoBulk {H : Type} : DataW H → Nat
  | .lit (.string bytes) => bytes.length + 1
  | .lit _ => 1
  | .nil => 1
  | .ptr d => uptoBulk d + 1
  | .slice elems spare => uptoBulkAll elems + uptoBulkAll spare + 1
  | .agg parts => uptoBulkAll parts + 1
  | .iface _ d => uptoBulk d + 1
  | .map entries => uptoBulkEntries entries + 1
  | .held _ => 1
def uptoBulkAll {H : Type} : List (DataW H) → Nat
  | [] => 0
  | d :: r => uptoBulk d + uptoBulkAll r
def uptoBulkEntries {H : Type} : List (Lit × DataW H) → Nat
  | [] => 0
  | x :: r => uptoBulkEntry x + uptoBulkEntries r
def uptoBulkEntry {H : Type} : Lit × DataW H → Nat
  | (.string bytes, d) => bytes.length + uptoBulk d + 1
  | (_, d) => uptoBulk d + 1
 end
def uptoSmall : (H : Type) → List (DataW H) → Bool := fun _ ds => decide (uptoBulkAll ds ≤ 1048576)
def OpenSpec.upto (s : _root_.Go.ChangeSpec) : _root_.Go.OpenSpec := { _root_.Go.OpenSpec.ofChange s with cond := some uptoSmall }

/-- 'quilllaw.SameSays', WHERE WHAT IT READS IS OF BULK AT MOST 1048576: true; the input reads as it did. -/
def sameSaysUptoRow : OpenClaim := { program := "ytolnhplgaolieaa", sum := "8a4dfe7e6bab91272637242d4c7494d38af6a72052aa911ec6d6bb8188d410e8", func := "quillward/quilllaw.SameSays", spec := "sameSays", inPlace := ["internal/bytealg.IndexByteString", "internal/bytealg.IndexString"], recurses := true, named := ["internal/bytealg.MaxLen"], apart := false, narrowed := true }
def SameSaysUptoSaid : Prop := sameSaysUptoRow.holds Try.pinned (OpenSpec.upto sameSaysSpec)

/-- 'quilllaw.WordSays', WHERE WHAT IT READS IS OF BULK AT MOST 1048576: true; the input reads as it did. -/
def wordSaysUptoRow : OpenClaim := { program := "ytolnhplgaolieaa", sum := "8a4dfe7e6bab91272637242d4c7494d38af6a72052aa911ec6d6bb8188d410e8", func := "quillward/quilllaw.WordSays", spec := "wordSays", inPlace := ["internal/abi.NoEscape", "internal/bytealg.MakeNoZero"], apart := false, narrowed := true }
def WordSaysUptoSaid : Prop := wordSaysUptoRow.holds Try.pinned (OpenSpec.upto wordSaysSpec)

/-- 'quilllaw.LyndonSays', WHERE WHAT IT READS IS OF BULK AT MOST 1048576: true; the input reads as it did. -/
def lyndonSaysUptoRow : OpenClaim := { program := "ytolnhplgaolieaa", sum := "8a4dfe7e6bab91272637242d4c7494d38af6a72052aa911ec6d6bb8188d410e8", func := "quillward/quilllaw.LyndonSays", spec := "lyndonSays", inPlace := ["internal/abi.NoEscape", "internal/bytealg.MakeNoZero"], apart := false, narrowed := true }
def LyndonSaysUptoSaid : Prop := lyndonSaysUptoRow.holds Try.pinned (OpenSpec.upto lyndonSaysSpec)

/-- 'quilllaw.LyndonNext', WHERE WHAT IT READS IS OF BULK AT MOST 1048576: true; the input reads as it did. -/
def lyndonNextUptoRow : OpenClaim := { program := "ytolnhplgaolieaa", sum := "8a4dfe7e6bab91272637242d4c7494d38af6a72052aa911ec6d6bb8188d410e8", func := "quillward/quilllaw.LyndonNext", spec := "lyndonNext", inPlace := ["internal/abi.NoEscape", "internal/bytealg.MakeNoZero"], apart := false, narrowed := true }
def LyndonNextUptoSaid : Prop := lyndonNextUptoRow.holds Try.pinned (OpenSpec.upto lyndonNextSpec)

/-- 'quilllaw.ShiftAll', WHERE WHAT IT READS IS OF BULK AT MOST 1048576: true; the input reads as it did. -/
def shiftAllUptoRow : OpenClaim := { program := "ytolnhplgaolieaa", sum := "8a4dfe7e6bab91272637242d4c7494d38af6a72052aa911ec6d6bb8188d410e8", func := "quillward/quilllaw.ShiftAll", spec := "shiftAll", apart := false, narrowed := true }
def ShiftAllUptoSaid : Prop := shiftAllUptoRow.holds Try.pinned (OpenSpec.upto shiftAllSpec)

/-- 'quilllaw.MergeSays', WHERE WHAT IT READS IS OF BULK AT MOST 1048576: true; the input reads as it did. -/
def mergeSaysUptoRow : OpenClaim := { program := "ytolnhplgaolieaa", sum := "8a4dfe7e6bab91272637242d4c7494d38af6a72052aa911ec6d6bb8188d410e8", func := "quillward/quilllaw.MergeSays", spec := "mergeSays", unfollowed := true, recurses := true, apart := false, narrowed := true }
def MergeSaysUptoSaid : Prop := mergeSaysUptoRow.holds Try.pinned (OpenSpec.upto mergeSaysSpec)

/-- 'quilllaw.FrontSays', WHERE WHAT IT READS IS OF BULK AT MOST 1048576: true; the input reads as it did. -/
def frontSaysUptoRow : OpenClaim := { program := "ytolnhplgaolieaa", sum := "8a4dfe7e6bab91272637242d4c7494d38af6a72052aa911ec6d6bb8188d410e8", func := "quillward/quilllaw.FrontSays", spec := "frontSays", inPlace := ["internal/abi.NoEscape", "internal/bytealg.MakeNoZero"], unfollowed := true, recurses := true, apart := false, narrowed := true }
def FrontSaysUptoSaid : Prop := frontSaysUptoRow.holds Try.pinned (OpenSpec.upto frontSaysSpec)

/-- 'quilllaw.RopeEdits', WHERE WHAT IT READS IS OF BULK AT MOST 1048576: true; the input reads as it did. -/
def ropeEditsUptoRow : OpenClaim := { program := "ytolnhplgaolieaa", sum := "8a4dfe7e6bab91272637242d4c7494d38af6a72052aa911ec6d6bb8188d410e8", func := "quillward/quilllaw.RopeEdits", spec := "ropeEdits", inPlace := ["internal/abi.NoEscape", "internal/bytealg.MakeNoZero"], apart := false, narrowed := true }
def RopeEditsUptoSaid : Prop := ropeEditsUptoRow.holds Try.pinned (OpenSpec.upto ropeEditsSpec)

/-- 'quilllaw.RopeSays', WHERE WHAT IT READS IS OF BULK AT MOST 1048576: true; the input reads as it did. -/
def ropeSaysUptoRow : OpenClaim := { program := "ytolnhplgaolieaa", sum := "8a4dfe7e6bab91272637242d4c7494d38af6a72052aa911ec6d6bb8188d410e8", func := "quillward/quilllaw.RopeSays", spec := "ropeSays", inPlace := ["internal/abi.NoEscape", "internal/bytealg.MakeNoZero"], apart := false, narrowed := true }
def RopeSaysUptoSaid : Prop := ropeSaysUptoRow.holds Try.pinned (OpenSpec.upto ropeSaysSpec)

/-- 'quilllaw.TrimSays', WHERE WHAT IT READS IS OF BULK AT MOST 1048576: true; the input reads as it did. -/
def trimSaysUptoRow : OpenClaim := { program := "ytolnhplgaolieaa", sum := "8a4dfe7e6bab91272637242d4c7494d38af6a72052aa911ec6d6bb8188d410e8", func := "quillward/quilllaw.TrimSays", spec := "trimSays", inPlace := ["internal/abi.NoEscape", "internal/bytealg.MakeNoZero"], apart := false, narrowed := true }
def TrimSaysUptoSaid : Prop := trimSaysUptoRow.holds Try.pinned (OpenSpec.upto trimSaysSpec)

/-- 'quilllaw.RingSays', WHERE WHAT IT READS IS OF BULK AT MOST 1048576: true; the input reads as it did. -/
def ringSaysUptoRow : OpenClaim := { program := "ytolnhplgaolieaa", sum := "8a4dfe7e6bab91272637242d4c7494d38af6a72052aa911ec6d6bb8188d410e8", func := "quillward/quilllaw.RingSays", spec := "ringSays", unfollowed := true, recurses := true, apart := false, narrowed := true }
def RingSaysUptoSaid : Prop := ringSaysUptoRow.holds Try.pinned (OpenSpec.upto ringSaysSpec)

end Rows
end Go.Proofs.Ytolnhplgaolieaa
