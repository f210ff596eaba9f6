/-
  Search in breadth, of the reference; ShortestPath of both.
-/
import Derived.Test.YtmnbpamaiboghaaSaFw
import Derived.Test.YtmnbpamaiboghaaVC
namespace Go.Proofs.Ytmnbpamaiboghaa
set_option linter.unusedVariables false
set_option linter.unusedSimpArgs false
set_option maxRecDepth 100000
set_option maxHeartbeats 4000000
attribute [local irreducible] Fn
def usAll : Nat → Bool := fun _ => true
/-- A list of n integers. -/
def tabM (n : Nat) (φ : Int → Int) : List Int := (List.range n).map fun v : Nat => φ v
theorem SrI.root {C : Int → Pairs} {r : Int × Int} {n : Int} {m : Pairs} (h : SrI C r n m) : mhas m r.1 = true := by
  rw [mhas_iff]
  have := getD_mem h.pos
  rw [h.hd] at this
  exact List.mem_map.2 ⟨_, this, rfl⟩
/-- The node before each node, as the reference writes it. -/
def prevT (g : Gr) (s : Int) (m : Pairs) : List Int := tabM g.1.toNat fun v => if v ≠ s ∧ mhas m v = true then mgetI m v else 0
/-- Both nodes lie in a graph that is valid. -/
structure Pair (g : Gr) (s t : Int) : Prop where
  v : ValidG g
  s0 : 0 ≤ s
  s1 : s < g.1
  t0 : 0 ≤ t
  t1 : t < g.1
open Classical in
/-- The path that is found, or none. -/
noncomputable def shp (g : Gr) (s t : Int) : List Int := if Pair g s t then spF g usAll s t else []
open Classical in
noncomputable def shpB (g : Gr) (s t : Int) : Bool := if Pair g s t then mhas (bfsM g usAll s) t else false
attribute [local irreducible] addAll bfsL idxs sr mset mhas mgetI keys bfsM chain spF prevT eFrom hasI shp shpB
end Go.Proofs.Ytmnbpamaiboghaa
