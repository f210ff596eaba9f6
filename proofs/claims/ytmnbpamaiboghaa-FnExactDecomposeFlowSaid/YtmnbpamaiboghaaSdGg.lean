/-
  What is reached, of the reference; TopologicalOrder of both.
-/
import Derived.Test.YtmnbpamaiboghaaSdGf
import Derived.Test.YtmnbpamaiboghaaSdFo
import Derived.Test.YtmnbpamaiboghaaVC
namespace Go.Proofs.Ytmnbpamaiboghaa
set_option linter.unusedVariables false
set_option linter.unusedSimpArgs false
set_option maxRecDepth 100000
set_option maxHeartbeats 4000000
attribute [local irreducible] Fn
open Classical in
noncomputable def acyB (g : Gr) : Bool := decide (ValidG g ∧ Acyc g)
noncomputable def topoL (g : Gr) : List Int := if acyB g = true then topR g g.1.toNat else []
attribute [local irreducible] rstart rr rpass reachL toL tos eFrom eTo topR topoL acyB hasI
/-- An edge to node a from a node that is not there yet. -/
def wtB (out : List Int) (a : Int) (e : Edg) : Bool := decide (e.2.1 = a) && !hasI out e.1
end Go.Proofs.Ytmnbpamaiboghaa
