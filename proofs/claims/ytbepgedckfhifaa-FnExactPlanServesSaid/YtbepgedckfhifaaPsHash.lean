/-
  Mod and Hash of the program and of the reference.
-/
import Derived.Test.YtbepgedckfhifaaPsVC
namespace Go.Proofs.Ytbepgedckfhifaa
open Go.ChangeShapes Go.WideShapes Go.ChangeAt Go.RowKit
set_option linter.unusedVariables false
def hstep (d x : Int) : Int := (d * 1000003 + x % 2147483647 + 13) % 2147483647
def hash (xs : List Int) : Int := xs.foldl hstep 11
end Go.Proofs.Ytbepgedckfhifaa
