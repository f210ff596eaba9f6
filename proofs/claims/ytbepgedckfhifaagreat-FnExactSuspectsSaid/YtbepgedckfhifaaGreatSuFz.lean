/-
  Bytes opened.
-/
import Derived.Test.YtbepgedckfhifaaGreatSuFf
import Derived.Test.YtbepgedckfhifaaGreatSuFo
namespace Go.Proofs.YtbepgedckfhifaaGreat
set_option linter.unusedVariables false
set_option linter.unusedSimpArgs false
set_option maxRecDepth 100000
set_option maxHeartbeats 4000000
attribute [local irreducible] Fn
def Byt (xs : List Int) : Prop := ∀ i, i < xs.length → 0 ≤ xs.getD i 0 ∧ xs.getD i 0 < 256
def atC (code : List Int) (i : Nat) : Int := if i < code.length then code.getD i 0 else ((i : Int) * 31 + (code.length : Int) * 7) % 256
end Go.Proofs.YtbepgedckfhifaaGreat
