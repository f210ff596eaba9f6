/-
  Cuts that a code draws; the least of the sinks, in plain words.
-/
import Derived.Test.YtomjemikjnpinaaDoorSsHi
import Derived.Test.YtomjemikjnpinaaDoorSsHh
namespace Go.Proofs.YtomjemikjnpinaaDoor
set_option linter.unusedVariables false
set_option linter.unusedSimpArgs false
/-- s, and some of the first n nodes beside s and t. -/
def cnL (code : List Int) (s t : Int) : Nat → List Int
  | 0 => [s]
  | a + 1 => if (a : Int) ≠ s ∧ (a : Int) ≠ t ∧ atC code a % 2 = 0 then cnL code s t a ++ [(a : Int)] else cnL code s t a
/-- The sinks among the first n nodes; the least of what flows to them, or -1. -/
noncomputable def skL (code : List Int) (g : Gr) (s t : Int) : Nat → List Int × Int
  | 0 => ([], -1)
  | a + 1 => if (a : Int) ≠ s ∧ ((a : Int) = t ∨ atC code (a + 9) % 3 = 0) then ((skL code g s t a).1 ++ [(a : Int)], if (skL code g s t a).2 < 0 ∨ mfv g s a < (skL code g s t a).2 then mfv g s a else (skL code g s t a).2) else skL code g s t a
end Go.Proofs.YtomjemikjnpinaaDoor
