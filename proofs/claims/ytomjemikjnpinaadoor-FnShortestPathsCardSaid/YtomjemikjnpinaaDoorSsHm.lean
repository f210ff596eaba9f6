/-
  A map's keys, sorted.
-/
import Derived.Test.YtomjemikjnpinaaDoorSsHk
namespace Go.Proofs.YtomjemikjnpinaaDoor
open Go.Shelf Go.RowKit Go.Maps Go.Sort
set_option linter.unusedVariables false
set_option linter.unusedSimpArgs false
set_option maxRecDepth 100000
set_option maxHeartbeats 4000000
attribute [local irreducible] Fn
end Go.Proofs.YtomjemikjnpinaaDoor
