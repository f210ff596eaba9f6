/-
  Paths: EdgeBetween, IsPath.
-/
import Derived.Test.YtmnbpamaiboghaaSgFf
namespace Go.Proofs.Ytmnbpamaiboghaa
set_option linter.unusedVariables false
set_option linter.unusedSimpArgs false
set_option maxRecDepth 100000
set_option maxHeartbeats 4000000
attribute [local irreducible] Fn
def hasI (xs : List Int) (x : Int) : Bool := xs.any fun y => decide (y = x)
/-- The edge from a to b. -/
def isE (a b : Int) (e : Edg) : Bool := decide (e.1 = a ∧ e.2.1 = b)
def eb (g : Gr) (a b : Int) : Int := idxOf (isE a b) g.2.1
theorem slcTo {n i : Nat} {p : Nat → Nat → Prop} (h : i ≤ n) (hp : Nx (p 0 i)) : ∃ l r : Nat, (none : Option Int).getD 0 = (l : Int) ∧ (some (i : Int)).getD (n : Int) = (r : Int) ∧ l ≤ r ∧ r ≤ n ∧ Nx (p l r) := ⟨0, i, rfl, rfl, Nat.zero_le _, h, hp⟩
theorem slcFrom {n i : Nat} {p : Nat → Nat → Prop} (h : i ≤ n) (hp : Nx (p i n)) : ∃ l r : Nat, (some (i : Int)).getD 0 = (l : Int) ∧ (none : Option Int).getD (n : Int) = (r : Int) ∧ l ≤ r ∧ r ≤ n ∧ Nx (p l r) := ⟨i, n, rfl, rfl, h, Nat.le_refl _, hp⟩
theorem slcBoth {n i j : Nat} {p : Nat → Nat → Prop} (h : i ≤ j) (h1 : j ≤ n) (hp : Nx (p i j)) : ∃ l r : Nat, (some (i : Int)).getD 0 = (l : Int) ∧ (some (j : Int)).getD (n : Int) = (r : Int) ∧ l ≤ r ∧ r ≤ n ∧ Nx (p l r) := ⟨i, j, rfl, rfl, h, h1, hp⟩
/-- Node i of a path. -/
def StepOk (g : Gr) (p : List Int) (i : Nat) : Prop :=
  0 ≤ p.getD i 0 ∧ p.getD i 0 ≤ g.1 - 1 ∧ hasI (p.take i) (p.getD i 0) = false ∧ (0 < i → 0 ≤ eb g (p.getD (i - 1) 0) (p.getD i 0))
structure IsP (g : Gr) (p : List Int) : Prop where
  v : ValidG g
  ne : 0 < p.length
  at_ : ∀ i, i < p.length → StepOk g p i
open Classical in
noncomputable def isP (g : Gr) (p : List Int) : Bool := decide (IsP g p)
end Go.Proofs.Ytmnbpamaiboghaa
