/-
  The nodes that are reached, of the program.
-/
import Derived.Test.YtomjemikjnpinaaDoorSsHm
import Derived.Test.YtomjemikjnpinaaDoorSsHi
import Derived.Test.YtomjemikjnpinaaDoorSsHc
namespace Go.Proofs.YtomjemikjnpinaaDoor
set_option linter.unusedVariables false
set_option linter.unusedSimpArgs false
set_option maxRecDepth 100000
set_option maxHeartbeats 4000000
attribute [local irreducible] Fn
def kb (m : Pairs) : List (Int × Bool) := m.map fun p => (p.1, true)
open Classical in
/-- The nodes that are reached, or none. -/
noncomputable def rnG (g : Gr) (a : Int) : List Int := if ValidG g ∧ 0 ≤ a ∧ a < g.1 then rnL g a else []
theorem rnL_len {g : Gr} {a : Int} (hv : ValidG g) : (rnL g a).length ≤ 8 := by
  have := rnN_len (s := reachL g [a]) (n := g.1.toNat)
  have := hv.hi
  unfold rnL
  omega
attribute [local irreducible] addAll bfsL idxs sr mset mhas mgetI mgetB keys bfsM chain kb sortI rnL rnG
end Go.Proofs.YtomjemikjnpinaaDoor
