/-
  Paths: EdgeBetween, IsPath.
-/
import Derived.Test.YtbepgedckfhifaaPsFf
namespace Go.Proofs.Ytbepgedckfhifaa
set_option linter.unusedVariables false
set_option linter.unusedSimpArgs false
set_option maxRecDepth 100000
set_option maxHeartbeats 4000000
attribute [local irreducible] Fn
def hasI (xs : List Int) (x : Int) : Bool := xs.any fun y => decide (y = x)
def isE (a b : Int) (e : Edg) : Bool := decide (e.1 = a ∧ e.2.1 = b)
def eb (g : Gr) (a b : Int) : Int := idxOf (isE a b) g.2.1
def StepOk (g : Gr) (p : List Int) (i : Nat) : Prop :=
  0 ≤ p.getD i 0 ∧ p.getD i 0 ≤ g.1 - 1 ∧ hasI (p.take i) (p.getD i 0) = false ∧ (0 < i → 0 ≤ eb g (p.getD (i - 1) 0) (p.getD i 0))
structure IsP (g : Gr) (p : List Int) : Prop where
  v : ValidG g
  ne : 0 < p.length
  at_ : ∀ i, i < p.length → StepOk g p i
open Classical in
noncomputable def isP (g : Gr) (p : List Int) : Bool := decide (IsP g p)
end Go.Proofs.Ytbepgedckfhifaa
