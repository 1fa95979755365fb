/-
  No cell of these rows narrows 'for every input' (looked for: loops, veiled, ifaces, maps, wideKeys, modest, calm, conditions, laid).
  DERIVED. THE GIVEN ROWS OF THIS SEAT. 4 by the template 'for every input the law returns true; each argument reads behind the call as it read before'; 0 by the template 'total and deterministic' (their statements: YtmmamdjbbpeifaaTotals.lean).
  GIVEN WITH THE SEED: the statements are not yours to turn. If you find one false, say at which input.
  Laid BY PROGRAM, IN A SANDBOX (cutbox-rows.mjs): the forced cells as the released guide's own fill.sh prints them over the translation 9281f65473f67b37… (all of the seat's roots in one cut). By AI agents, Wed Nov 11 2026. No macro, syntax, notation, axiom, sorry.
-/
import Derived.Test.YtmmamdjbbpeifaaChecked
import GoSem.Claim
import GoSem.ClaimJoined
import GoSem.ClaimMapViews
import Derived.JoinedTies
import Derived.KernelRfl
namespace Go.Proofs.Ytmmamdjbbpeifaa
/- THE CELL 'sum', in the pinned program and in every row, IS THE sha256 OF THE DUMP (.gsa) THAT YtmmamdjbbpeifaaProg.lean LOADS. Nothing in Lean hashes anything: it is a label: what it is worth is what the hold of that sum in a sandbox is worth. -/
noncomputable def Try.pinned : Pinned := { name := "ytmmamdjbbpeifaa", sum := "9281f65473f67b37fe9e8cab8b52865733ccd68eb167a6d7a5c1ac26047c5631", checked := Try.checked }
namespace Rows
def none {H : Type} : Left H := { results := [], args := [] }

/-- 'quilllaw.MirrorSays': WHATEVER THE INPUT: true; the input reads as it did. -/
def mirrorSaysSpec : ChangeSpec := { name := "mirrorSays", fn := fun _ => fun
  | [d] => { results := [.lit (.bool true)], args := [d] }
  | _ => none }
def mirrorSaysRow : OpenClaim := { program := "ytmmamdjbbpeifaa", sum := "9281f65473f67b37fe9e8cab8b52865733ccd68eb167a6d7a5c1ac26047c5631", func := "quillward/quilllaw.MirrorSays", spec := "mirrorSays", inPlace := ["internal/bytealg.IndexByteString", "internal/bytealg.IndexString"], recurses := true, named := ["internal/bytealg.MaxLen"], apart := false }
def MirrorSaysSaid : Prop := mirrorSaysRow.holds Try.pinned (OpenSpec.ofChange mirrorSaysSpec)

/-- ITS FALSE NEIGHBOUR: 'it returns false'. Refute it at one input. -/
def mirrorSaysWrong : ChangeSpec := { name := "mirrorSays", fn := fun _ => fun
  | [d] => { results := [.lit (.bool false)], args := [d] }
  | _ => none }
def MirrorSaysWrongFalsely : Prop := mirrorSaysRow.holds Try.pinned (OpenSpec.ofChange mirrorSaysWrong)

/-- 'quilllaw.SuffixSays': WHATEVER THE INPUT: true; the input reads as it did. -/
def suffixSaysSpec : ChangeSpec := { name := "suffixSays", fn := fun _ => fun
  | [d] => { results := [.lit (.bool true)], args := [d] }
  | _ => none }
def suffixSaysRow : OpenClaim := { program := "ytmmamdjbbpeifaa", sum := "9281f65473f67b37fe9e8cab8b52865733ccd68eb167a6d7a5c1ac26047c5631", func := "quillward/quilllaw.SuffixSays", spec := "suffixSays", inPlace := ["internal/bytealg.abigen_runtime_cmpstring"], unfollowed := true, recurses := true, apart := false }
def SuffixSaysSaid : Prop := suffixSaysRow.holds Try.pinned (OpenSpec.ofChange suffixSaysSpec)

/-- ITS FALSE NEIGHBOUR: 'it returns false'. Refute it at one input. -/
def suffixSaysWrong : ChangeSpec := { name := "suffixSays", fn := fun _ => fun
  | [d] => { results := [.lit (.bool false)], args := [d] }
  | _ => none }
def SuffixSaysWrongFalsely : Prop := suffixSaysRow.holds Try.pinned (OpenSpec.ofChange suffixSaysWrong)

/-- 'quilllaw.TrieSays': WHATEVER THE INPUT: true; the input reads as it did. -/
def trieSaysSpec : ChangeSpec := { name := "trieSays", fn := fun _ => fun
  | [d1, d2, d3] => { results := [.lit (.bool true)], args := [d1, d2, d3] }
  | _ => none }
def trieSaysRow : OpenClaim := { program := "ytmmamdjbbpeifaa", sum := "9281f65473f67b37fe9e8cab8b52865733ccd68eb167a6d7a5c1ac26047c5631", func := "quillward/quilllaw.TrieSays", spec := "trieSays", unfollowed := true, recurses := true, apart := false }
def TrieSaysSaid : Prop := trieSaysRow.holds Try.pinned (OpenSpec.ofChange trieSaysSpec)

/-- ITS FALSE NEIGHBOUR: 'it returns false'. Refute it at one input. -/
def trieSaysWrong : ChangeSpec := { name := "trieSays", fn := fun _ => fun
  | [d1, d2, d3] => { results := [.lit (.bool false)], args := [d1, d2, d3] }
  | _ => none }
def TrieSaysWrongFalsely : Prop := trieSaysRow.holds Try.pinned (OpenSpec.ofChange trieSaysWrong)

/-- 'quilllaw.TreeSays': WHATEVER THE INPUT: true; the input reads as it did. -/
def treeSaysSpec : ChangeSpec := { name := "treeSays", fn := fun _ => fun
  | [d1, d2] => { results := [.lit (.bool true)], args := [d1, d2] }
  | _ => none }
def treeSaysRow : OpenClaim := { program := "ytmmamdjbbpeifaa", sum := "9281f65473f67b37fe9e8cab8b52865733ccd68eb167a6d7a5c1ac26047c5631", func := "quillward/quilllaw.TreeSays", spec := "treeSays", unfollowed := true, recurses := true, apart := false }
def TreeSaysSaid : Prop := treeSaysRow.holds Try.pinned (OpenSpec.ofChange treeSaysSpec)

/-- ITS FALSE NEIGHBOUR: 'it returns false'. Refute it at one input. -/
def treeSaysWrong : ChangeSpec := { name := "treeSays", fn := fun _ => fun
  | [d1, d2] => { results := [.lit (.bool false)], args := [d1, d2] }
  | _ => none }
def TreeSaysWrongFalsely : Prop := treeSaysRow.holds Try.pinned (OpenSpec.ofChange treeSaysWrong)

/- THE SECOND FORM. 'bulk': how many values and letters a reading holds, each counted each time it is reached (what is shared counts as often as it is met; a slice's spare places count too). A statement '..UptoSaid' is the law's where the arguments, and the package variables that the reading takes, are together of bulk at most 1048576: NARROWER than '..Said'. Prove '..Said' where nothing that the law and all that it calls make is longer than what came in: it says more and counts as full. Else prove '..UptoSaid'. A law counts once. -/
mutual
def uptoBulk {H : Type} : DataW H → Nat
  | .lit (.string bytes) => bytes.length + 1
  | .lit _ => 1
  | .nil => 1
  | .ptr d => uptoBulk d + 1
  | .slice elems spare => uptoBulkAll elems + uptoBulkAll spare + 1
  | .agg parts => uptoBulkAll parts + 1
  | .iface _ d => uptoBulk d + 1
  | .map entries => uptoBulkEntries entries + 1
  | .held _ => 1
def uptoBulkAll {H : Type} : List (DataW H) → Nat
  | [] => 0
  | d :: r => uptoBulk d + uptoBulkAll r
def uptoBulkEntries {H : Type} : List (Lit × DataW H) → Nat
  | [] => 0
  | x :: r => uptoBulkEntry x + uptoBulkEntries r
def uptoBulkEntry {H : Type} : Lit × DataW H → Nat
  | (.string bytes, d) => bytes.length + uptoBulk d + 1
  | (_, d) => uptoBulk d + 1
 end
def uptoSmall : (H : Type) → List (DataW H) → Bool := fun _ ds => decide (uptoBulkAll ds ≤ 1048576)
def OpenSpec.upto (s : _root_.Go.ChangeSpec) : _root_.Go.OpenSpec := { _root_.Go.OpenSpec.ofChange s with cond := some uptoSmall }

/-- 'quilllaw.MirrorSays', WHERE WHAT IT READS IS OF BULK AT MOST 1048576: true; the input reads as it did. -/
def mirrorSaysUptoRow : OpenClaim := { program := "ytmmamdjbbpeifaa", sum := "9281f65473f67b37fe9e8cab8b52865733ccd68eb167a6d7a5c1ac26047c5631", func := "quillward/quilllaw.MirrorSays", spec := "mirrorSays", inPlace := ["internal/bytealg.IndexByteString", "internal/bytealg.IndexString"], recurses := true, named := ["internal/bytealg.MaxLen"], apart := false, narrowed := true }
def MirrorSaysUptoSaid : Prop := mirrorSaysUptoRow.holds Try.pinned (OpenSpec.upto mirrorSaysSpec)

/-- 'quilllaw.SuffixSays', WHERE WHAT IT READS IS OF BULK AT MOST 1048576: true; the input reads as it did. -/
def suffixSaysUptoRow : OpenClaim := { program := "ytmmamdjbbpeifaa", sum := "9281f65473f67b37fe9e8cab8b52865733ccd68eb167a6d7a5c1ac26047c5631", func := "quillward/quilllaw.SuffixSays", spec := "suffixSays", inPlace := ["internal/bytealg.abigen_runtime_cmpstring"], unfollowed := true, recurses := true, apart := false, narrowed := true }
def SuffixSaysUptoSaid : Prop := suffixSaysUptoRow.holds Try.pinned (OpenSpec.upto suffixSaysSpec)

/-- 'quilllaw.TrieSays', WHERE WHAT IT READS IS OF BULK AT MOST 1048576: true; the input reads as it did. -/
def trieSaysUptoRow : OpenClaim := { program := "ytmmamdjbbpeifaa", sum := "9281f65473f67b37fe9e8cab8b52865733ccd68eb167a6d7a5c1ac26047c5631", func := "quillward/quilllaw.TrieSays", spec := "trieSays", unfollowed := true, recurses := true, apart := false, narrowed := true }
def TrieSaysUptoSaid : Prop := trieSaysUptoRow.holds Try.pinned (OpenSpec.upto trieSaysSpec)

/-- 'quilllaw.TreeSays', WHERE WHAT IT READS IS OF BULK AT MOST 1048576: true; the input reads as it did. -/
def treeSaysUptoRow : OpenClaim := { program := "ytmmamdjbbpeifaa", sum := "9281f65473f67b37fe9e8cab8b52865733ccd68eb167a6d7a5c1ac26047c5631", func := "quillward/quilllaw.TreeSays", spec := "treeSays", unfollowed := true, recurses := true, apart := false, narrowed := true }
def TreeSaysUptoSaid : Prop := treeSaysUptoRow.holds Try.pinned (OpenSpec.upto treeSaysSpec)

end Rows
end Go.Proofs.Ytmmamdjbbpeifaa
