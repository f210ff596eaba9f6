/-
  The reference's greatest flow.
-/
import Derived.Test.YtomjemikjnpinaaDoorSsFt
namespace Go.Proofs.YtomjemikjnpinaaDoor
set_option linter.unusedVariables false
set_option linter.unusedSimpArgs false
set_option maxRecDepth 100000
set_option maxHeartbeats 4000000
attribute [local irreducible] Fn
theorem has_mem {m : Pairs} {i : Nat} (h : i < m.length) : mhas m (m.getD i default).1 = true := by
  rw [mhas_iff]
  exact List.mem_map.2 ⟨_, getD_mem h, rfl⟩
attribute [local irreducible] addAll fwdL bwdL idxs sr mset mhas mgetI keys mfRun aug augS mfM mfF netS byT eFrom eTo hasI
end Go.Proofs.YtomjemikjnpinaaDoor
