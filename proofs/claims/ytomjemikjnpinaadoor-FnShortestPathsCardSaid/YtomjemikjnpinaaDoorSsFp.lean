/-
  Flows: questions, sums, flows that are valid, their value.
-/
import Derived.Test.YtomjemikjnpinaaDoorSsFm
import Derived.Test.YtomjemikjnpinaaDoorSsFg
namespace Go.Proofs.YtomjemikjnpinaaDoor
set_option linter.unusedVariables false
set_option linter.unusedSimpArgs false
set_option maxRecDepth 100000
set_option maxHeartbeats 4000000
attribute [local irreducible] Fn
structure Quest (g : Gr) (s t : Int) : Prop where
  v : ValidG g
  s0 : 0 ≤ s
  s1 : s < g.1
  t0 : 0 ≤ t
  t1 : t < g.1
  ne : s ≠ t
open Classical in
noncomputable def quest (g : Gr) (s t : Int) : Bool := decide (Quest g s t)
/-- What the edges with φ carry, of the first n. -/
def sumIf (φ : Edg → Bool) (es : List Edg) (f : List Int) : Nat → Int
  | 0 => 0
  | n + 1 => sumIf φ es f n + if φ (es.getD n default) = true then f.getD n 0 else 0
/-- Amounts within the capacities' bounds. -/
def Small (f : List Int) : Prop := ∀ k, k < f.length → 0 ≤ f.getD k 0 ∧ f.getD k 0 ≤ 8
/-- A sum over a list of edges. -/
def sumL (f : List Int) (l : List Int) : Nat → Int
  | 0 => 0
  | n + 1 => sumL f l n + f.getD (l.getD n 0).toNat 0
/-- What a node gives away less what it gets. -/
def netS (g : Gr) (f : List Int) (a : Int) (n : Nat) : Int := sumIf (fromB a) g.2.1 f n - sumIf (toB a) g.2.1 f n
structure VFlow (g : Gr) (f : List Int) (s t : Int) : Prop where
  q : Quest g s t
  len : f.length = g.2.1.length
  rng : ∀ i, i < f.length → 0 ≤ f.getD i 0 ∧ f.getD i 0 ≤ (g.2.1.getD i default).2.2.1
  bal : ∀ a : Nat, (a : Int) < g.1 → (a : Int) ≠ s → (a : Int) ≠ t → netS g f a g.2.1.length = 0
open Classical in
noncomputable def vflow (g : Gr) (f : List Int) (s t : Int) : Bool := decide (VFlow g f s t)
theorem small_of {g : Gr} {f : List Int} (hv : ValidG g) (hl : f.length = g.2.1.length) (h : ∀ i, i < f.length → 0 ≤ f.getD i 0 ∧ f.getD i 0 ≤ (g.2.1.getD i default).2.2.1) : Small f := fun k hk => by
  have h1 := h k hk
  have h2 := cap_in hv (i := k) (by omega)
  omega
/-- Every node's balance after n edges. -/
def balL (g : Gr) (f : List Int) (n : Nat) : List Int := (List.range g.1.toNat).map fun a : Nat => -(netS g f (a : Int) n)
end Go.Proofs.YtomjemikjnpinaaDoor
