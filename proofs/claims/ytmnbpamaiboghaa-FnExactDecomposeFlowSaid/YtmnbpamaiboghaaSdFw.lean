/-
  Search in breadth, of the program: shortestPath.
-/
import Derived.Test.YtmnbpamaiboghaaSdFr
import Derived.Test.YtmnbpamaiboghaaSdFv
import Derived.Test.YtmnbpamaiboghaaSdFo
namespace Go.Proofs.Ytmnbpamaiboghaa
set_option linter.unusedVariables false
set_option linter.unusedSimpArgs false
set_option maxRecDepth 100000
set_option maxHeartbeats 4000000
attribute [local irreducible] Fn
theorem bfs_add {g : Gr} {us : Nat → Bool} {a : Int} {m : Pairs} {j : Nat} (h1 : (eAt g j).1 = a) (h2 : us j = true) (h3 : ¬ mhas (addAll m (bfsL g us a (idxs (fromB a) g.2.1 j))) (eAt g j).2.1 = true) :
    addAll m (bfsL g us a (idxs (fromB a) g.2.1 (j + 1))) = addAll m (bfsL g us a (idxs (fromB a) g.2.1 j)) ++ [((eAt g j).2.1, a)] := by
  have e : idxs (fromB a) g.2.1 (j + 1) = idxs (fromB a) g.2.1 j ++ [(j : Int)] := if_pos (decide_eq_true h1)
  have e2 : bfsL g us a (idxs (fromB a) g.2.1 (j + 1)) = bfsL g us a (idxs (fromB a) g.2.1 j) ++ [((eAt g j).2.1, a)] := by
    rw [e]; unfold bfsL; rw [List.flatMap_append]
    have : ((j : Int)).toNat = j := rfl
    simp only [List.flatMap_cons, List.flatMap_nil, this, if_pos h2, List.append_nil]
  rw [e2, addAll_app, addC_new h3]
theorem bfs_skip {g : Gr} {us : Nat → Bool} {a : Int} {m : Pairs} {j : Nat} (h : ¬ (eAt g j).1 = a ∨ us j = false ∨ mhas (addAll m (bfsL g us a (idxs (fromB a) g.2.1 j))) (eAt g j).2.1 = true) :
    addAll m (bfsL g us a (idxs (fromB a) g.2.1 (j + 1))) = addAll m (bfsL g us a (idxs (fromB a) g.2.1 j)) := by
  by_cases h1 : (eAt g j).1 = a
  · have e : idxs (fromB a) g.2.1 (j + 1) = idxs (fromB a) g.2.1 j ++ [(j : Int)] := if_pos (decide_eq_true h1)
    have ej : ((j : Int)).toNat = j := rfl
    by_cases h2 : us j = true
    · have e2 : bfsL g us a (idxs (fromB a) g.2.1 (j + 1)) = bfsL g us a (idxs (fromB a) g.2.1 j) ++ [((eAt g j).2.1, a)] := by
        rw [e]; unfold bfsL; rw [List.flatMap_append]
        simp only [List.flatMap_cons, List.flatMap_nil, ej, if_pos h2, List.append_nil]
      rw [e2, addAll_app, addC_old]
      rcases h with h | h | h
      · exact absurd h1 h
      · rw [h2] at h; cases h
      · exact h
    · have e2 : bfsL g us a (idxs (fromB a) g.2.1 (j + 1)) = bfsL g us a (idxs (fromB a) g.2.1 j) := by
        rw [e]; unfold bfsL; rw [List.flatMap_append]
        simp only [List.flatMap_cons, List.flatMap_nil, ej, if_neg h2, List.append_nil]
      rw [e2]
  · have e : idxs (fromB a) g.2.1 (j + 1) = idxs (fromB a) g.2.1 j := if_neg (fun hc => h1 (of_decide_eq_true hc))
    rw [e]
theorem bfs_zero {g : Gr} {us : Nat → Bool} {a : Int} : bfsL g us a (idxs (fromB a) g.2.1 0) = [] := rfl
theorem bfsC_eq {g : Gr} {us : Nat → Bool} {a : Int} : bfsC g us a = bfsL g us a (idxs (fromB a) g.2.1 g.2.1.length) := rfl
theorem bfsL_in {g : Gr} {us : Nat → Bool} {a : Int} {j : Nat} (hj : j ≤ g.2.1.length) : ∀ p ∈ bfsL g us a (idxs (fromB a) g.2.1 j), p ∈ bfsC g us a := by
  intro p hp
  obtain ⟨x, h1, h2⟩ := List.mem_flatMap.1 hp
  obtain ⟨i, h3, h4, h5⟩ := idxs_mem.1 h1
  exact List.mem_flatMap.2 ⟨x, idxs_mem.2 ⟨i, by omega, h4, h5⟩, h2⟩
theorem bfsM_eq {g : Gr} {us : Nat → Bool} {s : Int} : bfsM g us s = srM (bfsC g us) (s, s) := rfl
theorem bfsM_inv {g : Gr} {us : Nat → Bool} {s : Int} (hv : ValidG g) (h0 : 0 ≤ s) (h1 : s < g.1) : SrI (bfsC g us) (s, s) g.1 (bfsM g us s) := sr_inv ⟨h0, h1⟩ (bfsC_rng hv)
theorem drop_getD {xs : List Int} {k i : Nat} : (xs.drop k).getD i 0 = xs.getD (k + i) 0 := by
  simp [List.getD_eq_getElem?_getD]
theorem drop_app {xs : List Int} {k : Nat} {x : Int} (h : k ≤ xs.length) : (xs ++ [x]).drop k = xs.drop k ++ [x] := by
  rw [List.drop_append_of_le_length h]
theorem chain_step {m : Pairs} {s a : Int} {f : Nat} (h : a ≠ s) : chain m s (f + 1) a = a :: chain m s f (mgetI m a) := if_neg h
theorem spF_yes {g : Gr} {us : Nat → Bool} {s t : Int} (h : mhas (bfsM g us s) t = true) : spF g us s t = (chain (bfsM g us s) s 8 t).reverse := if_pos h
theorem spF_no {g : Gr} {us : Nat → Bool} {s t : Int} (h : mhas (bfsM g us s) t = false) : spF g us s t = [] := if_neg (by simp [h])
attribute [local irreducible] addAll bfsL idxs sr mset mhas mgetI keys bfsM chain spF
end Go.Proofs.Ytmnbpamaiboghaa
