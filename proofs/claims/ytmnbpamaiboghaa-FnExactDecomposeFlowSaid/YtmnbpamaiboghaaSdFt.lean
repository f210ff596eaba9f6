/-
  The reference's search.
-/
import Derived.Test.YtmnbpamaiboghaaSdFs
namespace Go.Proofs.Ytmnbpamaiboghaa
set_option linter.unusedVariables false
set_option linter.unusedSimpArgs false
set_option maxRecDepth 100000
set_option maxHeartbeats 4000000
attribute [local irreducible] Fn
theorem take_snoc {l : List Int} {i : Nat} (h : i < l.length) : l.take (i + 1) = l.take i ++ [l.getD i 0] := by
  rw [List.take_add_one, List.getElem?_eq_getElem h, List.getD_eq_getElem?_getD, List.getElem?_eq_getElem h]; rfl
theorem hasK {m : Pairs} {x : Int} : hasI (keys m) x = mhas m x := by
  rw [Bool.eq_iff_iff, mhas_iff]
  unfold hasI keys
  rw [List.any_eq_true]
  constructor
  · rintro ⟨y, hy, e⟩; rw [← of_decide_eq_true e]; exact hy
  · intro h; exact ⟨x, h, decide_eq_true rfl⟩
theorem SrI.root {C : Int → Pairs} {r : Int × Int} {n : Int} {m : Pairs} (h : SrI C r n m) : mhas m r.1 = true := by
  rw [mhas_iff]
  have := getD_mem h.pos
  rw [h.hd] at this
  exact List.mem_map.2 ⟨_, this, rfl⟩
theorem nots {m : Pairs} {b s : Int} (h1 : mhas m b = false) (h2 : mhas m s = true) : b ≠ s := fun e => by rw [e, h2] at h1; cases h1
theorem take_all {l : List Int} : l.take l.length = l := List.take_length
attribute [local irreducible] addAll fwdL bwdL idxs sr mset mhas mgetI keys mfM byT eFrom eTo hasI
end Go.Proofs.Ytmnbpamaiboghaa
