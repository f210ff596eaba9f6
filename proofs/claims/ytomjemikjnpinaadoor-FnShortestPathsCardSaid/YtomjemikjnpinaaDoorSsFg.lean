/-
  Prices: arePrices, UpdatePrices.
-/
import Derived.Test.YtomjemikjnpinaaDoorSsFf
namespace Go.Proofs.YtomjemikjnpinaaDoor
set_option linter.unusedVariables false
set_option linter.unusedSimpArgs false
set_option maxRecDepth 100000
set_option maxHeartbeats 4000000
attribute [local irreducible] Fn
noncomputable def priOk (g : Gr) (p : L1) : Bool := validG g && decide (p.1.length = g.2.1.length) && p.1.all fun x => decide (0 ≤ x ∧ x ≤ 100)
/-- The new price of edge i. -/
def newP (g : Gr) (p l : List Int) (i : Nat) : Int := max 0 (min 100 (p.getD i 0 + l.getD i 0 - (g.2.1.getD i default).2.2.1))
noncomputable def updP (g : Gr) (p : L1) (l : List Int) : List Int :=
  if priOk g p = true ∧ l.length = g.2.1.length ∧ (l.all fun x => decide (0 ≤ x ∧ x ≤ 1000000000000)) = true then (List.range g.2.1.length).map (newP g p.1 l) else p.1
theorem cap_in {g : Gr} (h : ValidG g) {i : Nat} (hi : i < g.2.1.length) : 1 ≤ (g.2.1.getD i default).2.2.1 ∧ (g.2.1.getD i default).2.2.1 ≤ 8 := by
  have := h.edge i hi
  simp only [EdgeOk] at this
  omega
theorem map_range_succ {X : Type} (f : Nat → X) (i : Nat) : (List.range (i + 1)).map f = (List.range i).map f ++ [f i] := by simp [List.range_succ]
end Go.Proofs.YtomjemikjnpinaaDoor

