/-
  Marks written into slices of integers, and found again.
-/
import Derived.Test.YtomjemikjnpinaaDoorSsFb
namespace Go.Proofs.YtomjemikjnpinaaDoor
set_option linter.unusedVariables false
set_option linter.unusedSimpArgs false
set_option maxRecDepth 100000
set_option maxHeartbeats 4000000
attribute [local irreducible] Fn
/-- k, k + 1, .. -/
def marks (k : Int) (n : Nat) : List Int := (List.range n).map fun i : Nat => k + (i : Int)
end Go.Proofs.YtomjemikjnpinaaDoor
