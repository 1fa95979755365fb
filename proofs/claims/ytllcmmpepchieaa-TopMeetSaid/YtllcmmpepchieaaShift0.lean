/- Operations on a text, as plain functions. No program in sight. -/
import Derived.Test.YtllcmmpepchieaaBase
namespace Go.Proofs.Ytllcmmpepchieaa
structure Op where
  kind : Int
  pos : Int
  b : Int
deriving DecidableEq, Inhabited
def Op.cells (x : Op) : List Value := [.int .i64 x.kind, .int .i64 x.pos, .int .u8 x.b]
def Op.val (x : Op) : Value := .agg #[.int .i64 x.kind, .int .i64 x.pos, .int .u8 x.b]
def opErr (n : Int) (x : Op) : Int :=
  if n < 0 ∨ 200 < n then 1
  else if x.kind = 1 then (if x.pos < 0 ∨ n < x.pos then 1 else if n = 200 then 11 else 0)
  else if x.kind = 2 then (if x.pos < 0 ∨ n ≤ x.pos then 1 else if x.b = 0 then 0 else 3)
  else if x.kind = 3 then (if x.pos = 0 then (if x.b = 0 then 0 else 3) else 1)
  else 3
/-- x, behind y. -/
def past (x y : Op) (first : Bool) : Op :=
  if x.kind = 3 ∨ y.kind = 3 then x
  else if x.kind = 2 ∧ y.kind = 2 ∧ x.pos = y.pos then ⟨3, 0, 0⟩
  else if y.kind = 1 ∧ (y.pos < x.pos ∨ y.pos = x.pos ∧ (x.kind = 2 ∨ first = false)) then ⟨x.kind, x.pos + 1, x.b⟩
  else if y.kind = 2 ∧ y.pos < x.pos then ⟨x.kind, x.pos - 1, x.b⟩
  else x
def pastErr (n : Int) (x y : Op) : Int := if opErr n x = 0 then opErr n y else opErr n x
def pastAns (n : Int) (x y : Op) (first : Bool) : Op := if opErr n x = 0 ∧ opErr n y = 0 then past x y first else ⟨0, 0, 0⟩
end Go.Proofs.Ytllcmmpepchieaa
