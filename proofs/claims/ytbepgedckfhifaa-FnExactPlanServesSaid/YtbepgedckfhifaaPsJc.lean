/-
  Vectors combined, of both.
-/
import Derived.Test.YtbepgedckfhifaaPsJb
import Derived.Test.YtbepgedckfhifaaPsVC
namespace Go.Proofs.Ytbepgedckfhifaa
set_option linter.unusedVariables false
set_option linter.unusedSimpArgs false
set_option maxRecDepth 100000
set_option maxHeartbeats 4000000
attribute [local irreducible] Fn
def cmbN (vs : List (List Int)) (cs : List Int) : Nat → List Int
  | 0 => List.replicate (vs.getD 0 default).length 0
  | i + 1 => LA.addS (cmbN vs cs i) (vs.getD i default) (cs.getD i 0)
attribute [local irreducible] cmbN LA.addS vecB
end Go.Proofs.Ytbepgedckfhifaa
