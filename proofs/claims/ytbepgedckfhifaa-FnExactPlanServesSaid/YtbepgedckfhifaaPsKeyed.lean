/-
  KeyedHash of the program and of the reference.
-/
import Derived.Test.YtbepgedckfhifaaPsConcat
namespace Go.Proofs.Ytbepgedckfhifaa
open Go.ChangeShapes Go.WideShapes Go.ChangeAt Go.RowKit
set_option linter.unusedVariables false
def khash (key : Int) (xs : List Int) : Int := hash ([key] ++ xs ++ [key])
end Go.Proofs.Ytbepgedckfhifaa
