/-
  MaxFlow of the program; the reference's search: which edge a node was found by, as a list.
-/
import Derived.Test.YtomjemikjnpinaaDoorSsFr
import Derived.Test.YtomjemikjnpinaaDoorSsFo
namespace Go.Proofs.YtomjemikjnpinaaDoor
set_option linter.unusedVariables false
set_option linter.unusedSimpArgs false
set_option maxRecDepth 100000
set_option maxHeartbeats 4000000
attribute [local irreducible] Fn
noncomputable def mflow (g : Gr) (s t : Int) : List Int := if quest g s t = true then mfF g s t else []
attribute [local irreducible] mfF mfM keys
/-- The edge that node v was found by, as the reference writes it. -/
def byV (g : Gr) (m : Pairs) (s : Int) (v : Int) : Int := if v ≠ s ∧ mhas m v = true then (if (eAt g (mgetI m v).toNat).2.1 = v then mgetI m v else (g.2.1.length : Int) + mgetI m v) else -1
def byT (g : Gr) (s : Int) (m : Pairs) : List Int := (List.range g.1.toNat).map fun v : Nat => byV g m s v
end Go.Proofs.YtomjemikjnpinaaDoor
