/-
  MaxFlow of the reference; the greatest flow's value; the multicast capacity.
-/
import Derived.Test.YtomjemikjnpinaaDoorSsFu
namespace Go.Proofs.YtomjemikjnpinaaDoor
set_option linter.unusedVariables false
set_option linter.unusedSimpArgs false
set_option maxRecDepth 100000
set_option maxHeartbeats 4000000
attribute [local irreducible] Fn
noncomputable def mfv (g : Gr) (s t : Int) : Int := if quest g s t = true then netS g (mfF g s t) s g.2.1.length else 0
/-- The least of the first n sinks' values. -/
noncomputable def mcN (g : Gr) (s : Int) (l : List Int) : Nat → Int
  | 0 => 0
  | n + 1 => if n = 0 ∨ mfv g s (l.getD n 0) < mcN g s l n then mfv g s (l.getD n 0) else mcN g s l n
attribute [local irreducible] mfF mfM keys netS mfv mflow mcN quest
end Go.Proofs.YtomjemikjnpinaaDoor
