/-
  The reference's search.
-/
import Derived.Test.YtomjemikjnpinaaDoorSsFs
namespace Go.Proofs.YtomjemikjnpinaaDoor
set_option linter.unusedVariables false
set_option linter.unusedSimpArgs false
set_option maxRecDepth 100000
set_option maxHeartbeats 4000000
attribute [local irreducible] Fn
theorem SrI.root {C : Int → Pairs} {r : Int × Int} {n : Int} {m : Pairs} (h : SrI C r n m) : mhas m r.1 = true := by
  rw [mhas_iff]
  have := getD_mem h.pos
  rw [h.hd] at this
  exact List.mem_map.2 ⟨_, this, rfl⟩
attribute [local irreducible] addAll fwdL bwdL idxs sr mset mhas mgetI keys mfM byT eFrom eTo hasI
end Go.Proofs.YtomjemikjnpinaaDoor
