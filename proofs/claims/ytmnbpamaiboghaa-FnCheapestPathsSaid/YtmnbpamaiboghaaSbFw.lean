/-
  Search in breadth, of the program: shortestPath.
-/
import Derived.Test.YtmnbpamaiboghaaSbFr
import Derived.Test.YtmnbpamaiboghaaSbFv
import Derived.Test.YtmnbpamaiboghaaSbFo
namespace Go.Proofs.Ytmnbpamaiboghaa
set_option linter.unusedVariables false
set_option linter.unusedSimpArgs false
set_option maxRecDepth 100000
set_option maxHeartbeats 4000000
attribute [local irreducible] Fn
theorem bfsM_eq {g : Gr} {us : Nat → Bool} {s : Int} : bfsM g us s = srM (bfsC g us) (s, s) := rfl
theorem bfsM_inv {g : Gr} {us : Nat → Bool} {s : Int} (hv : ValidG g) (h0 : 0 ≤ s) (h1 : s < g.1) : SrI (bfsC g us) (s, s) g.1 (bfsM g us s) := sr_inv ⟨h0, h1⟩ (bfsC_rng hv)
theorem chain_step {m : Pairs} {s a : Int} {f : Nat} (h : a ≠ s) : chain m s (f + 1) a = a :: chain m s f (mgetI m a) := if_neg h
theorem spF_yes {g : Gr} {us : Nat → Bool} {s t : Int} (h : mhas (bfsM g us s) t = true) : spF g us s t = (chain (bfsM g us s) s 8 t).reverse := if_pos h
theorem spF_no {g : Gr} {us : Nat → Bool} {s t : Int} (h : mhas (bfsM g us s) t = false) : spF g us s t = [] := if_neg (by simp [h])
attribute [local irreducible] addAll bfsL idxs sr mset mhas mgetI keys bfsM chain spF
end Go.Proofs.Ytmnbpamaiboghaa
