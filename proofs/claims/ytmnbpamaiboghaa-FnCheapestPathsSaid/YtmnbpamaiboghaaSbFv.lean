/-
  Slices turned round: slices.Reverse, by the library's contract.
-/
import Derived.Test.YtmnbpamaiboghaaSbFm
import Derived.Shelf.Slices.Reverse
namespace Go.Proofs.Ytmnbpamaiboghaa
open Go.Shelf Go.RowKit
set_option linter.unusedVariables false
set_option linter.unusedSimpArgs false
set_option maxRecDepth 100000
set_option maxHeartbeats 4000000
attribute [local irreducible] Fn
def revRen : Ren := ⟨fun | 112 => 135 | n => n, fun | 28 => 25 | 4 => 4 | 3 => 3 | 0 => 0 | n => n, fun n => n⟩
end Go.Proofs.Ytmnbpamaiboghaa
