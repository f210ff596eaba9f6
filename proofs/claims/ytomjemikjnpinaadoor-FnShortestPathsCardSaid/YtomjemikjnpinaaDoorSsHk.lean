/-
  Slices sorted; a map's keys, sorted: the library's contracts turned to contracts of the evaluator.
-/
import Derived.Test.YtomjemikjnpinaaDoorSsFo
import Derived.Test.YtomjemikjnpinaaDoorSsSh
namespace Go.Proofs.YtomjemikjnpinaaDoor
open Go.Shelf Go.RowKit Go.Maps Go.Sort
set_option linter.unusedVariables false
set_option linter.unusedSimpArgs false
set_option maxRecDepth 100000
set_option maxHeartbeats 4000000
attribute [local irreducible] Fn
def sortI (xs : List Int) : List Int := xs.mergeSort fun x y => decide (x ≤ y)
/-- Blocks that hold no slices in cells. -/
def plainB : Blk → Prop
  | .box _ => True
  | .mp _ _ => True
  | .row _ c => ∀ i j, (c.cell i j).sub = none
end Go.Proofs.YtomjemikjnpinaaDoor
