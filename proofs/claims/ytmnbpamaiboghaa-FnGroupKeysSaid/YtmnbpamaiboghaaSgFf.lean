/-
  Functions of slices of integers: Index, Contains, IndexFunc, ContainsFunc, Clone; extremes.
-/
import Derived.Test.YtmnbpamaiboghaaSgFe
namespace Go.Proofs.Ytmnbpamaiboghaa
set_option linter.unusedVariables false
set_option linter.unusedSimpArgs false
set_option maxRecDepth 100000
set_option maxHeartbeats 4000000
attribute [local irreducible] Fn
/-- The first place where φ holds, or -1. -/
def idxOf {X : Type} [Inhabited X] (φ : X → Bool) (xs : List X) : Int := match xs.findIdx? φ with | some i => (i : Int) | none => -1
/-- A function value that tests an integer. -/
def Tests (f : Nat) (φ : Int → Bool) : Prop := ∀ x, Fn Try.prog f true (.cons (.I x) .nil) [] (.b (φ x)) []
end Go.Proofs.Ytmnbpamaiboghaa
