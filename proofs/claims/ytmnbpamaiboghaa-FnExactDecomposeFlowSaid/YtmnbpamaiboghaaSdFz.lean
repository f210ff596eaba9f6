/-
  Bytes opened.
-/
import Derived.Test.YtmnbpamaiboghaaSdFf
import Derived.Test.YtmnbpamaiboghaaSdFo
namespace Go.Proofs.Ytmnbpamaiboghaa
set_option linter.unusedVariables false
set_option linter.unusedSimpArgs false
set_option maxRecDepth 100000
set_option maxHeartbeats 4000000
attribute [local irreducible] Fn
def Byt (xs : List Int) : Prop := ∀ i, i < xs.length → 0 ≤ xs.getD i 0 ∧ xs.getD i 0 < 256
/-- A byte of the input, or what stands for it. -/
def atC (code : List Int) (i : Nat) : Int := if i < code.length then code.getD i 0 else ((i : Int) * 31 + (code.length : Int) * 7) % 256
def hasJ (xs : List Int) (x : Int) : Bool := xs.any fun y => decide (y = x)
end Go.Proofs.Ytmnbpamaiboghaa
