/-
  Slices of integers: toIntS, eqIntS, szIntS.
-/
import Derived.Test.YtomjemikjnpinaaDoorVC
import Derived.Test.YtomjemikjnpinaaDoorSsTys
namespace Go.Proofs.YtomjemikjnpinaaDoor
set_option linter.unusedVariables false
set_option linter.unusedSimpArgs false
set_option maxRecDepth 100000
set_option maxHeartbeats 4000000
attribute [local irreducible] Fn
def cellsA {X : Type} [Inhabited X] (A : X → AV) (xs : List X) (k j : Nat) : AV := (A (xs.getD k default)).nth j
end Go.Proofs.YtomjemikjnpinaaDoor
