/-
  MaxFlow of the program; the reference's search: which edge a node was found by, as a list.
-/
import Derived.Test.YtmnbpamaiboghaaSdFr
import Derived.Test.YtmnbpamaiboghaaSdFo
namespace Go.Proofs.Ytmnbpamaiboghaa
set_option linter.unusedVariables false
set_option linter.unusedSimpArgs false
set_option maxRecDepth 100000
set_option maxHeartbeats 4000000
attribute [local irreducible] Fn
noncomputable def mflow (g : Gr) (s t : Int) : List Int := if quest g s t = true then mfF g s t else []
attribute [local irreducible] mfF mfM keys
/-- The edge that node v was found by, as the reference writes it. -/
def byV (g : Gr) (m : Pairs) (s : Int) (v : Int) : Int := if v ≠ s ∧ mhas m v = true then (if (eAt g (mgetI m v).toNat).2.1 = v then mgetI m v else (g.2.1.length : Int) + mgetI m v) else -1
def byT (g : Gr) (s : Int) (m : Pairs) : List Int := (List.range g.1.toNat).map fun v : Nat => byV g m s v
theorem mgetI_app {m : Pairs} {x b v : Int} (h : ¬ mhas m b = true) : mgetI (m ++ [(b, v)]) x = if x = b then v else mgetI m x := by
  unfold mgetI
  rw [mfind_app h]
  split <;> rfl
theorem mhas_app {m : Pairs} {x b v : Int} : mhas (m ++ [(b, v)]) x = true ↔ (mhas m x = true ∨ x = b) := by
  rw [mhas_iff, mhas_iff]; simp
end Go.Proofs.Ytmnbpamaiboghaa
