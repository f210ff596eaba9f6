/-
  slices.Grow at nil and slices.Concat at []int.
-/
import Derived.Test.YtbepgedckfhifaaPsHash
import Derived.Lib.AppendZerosOnto
import Derived.Lib.Walk
import Derived.Lib.SliceRun
namespace Go.Proofs.Ytbepgedckfhifaa
open Go.ChangeShapes Go.WideShapes Go.ChangeAt Go.RowKit
set_option linter.unusedVariables false
structure ISl where
  A : Option Addr
  n : Nat
  c : Nat
  xs : List Int
def ISl.val (s : ISl) : Value := .slice s.A s.n s.c
def flat (ss : List ISl) : List Int := ss.flatMap ISl.xs
end Go.Proofs.Ytbepgedckfhifaa
