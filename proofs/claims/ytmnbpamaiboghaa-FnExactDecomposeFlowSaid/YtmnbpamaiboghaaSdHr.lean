/-
  Edges to a node, edges removed, lists held against each other: of the program; what is reached without the edges from a node.
-/
import Derived.Test.YtmnbpamaiboghaaSdGe
import Derived.Test.YtmnbpamaiboghaaSdHn
import Derived.Test.YtmnbpamaiboghaaSdHo
import Derived.Test.YtmnbpamaiboghaaSdHa
namespace Go.Proofs.Ytmnbpamaiboghaa
set_option linter.unusedVariables false
set_option linter.unusedSimpArgs false
set_option maxRecDepth 100000
set_option maxHeartbeats 4000000
attribute [local irreducible] Fn
/-- The first n edges but for those that B names. -/
def rmE (B : Nat → Bool) (es : List Edg) (n : Nat) : List Edg := ((List.range n).filter fun i => !B i).map fun i => es.getD i default
theorem rmE_zero {B : Nat → Bool} {es : List Edg} : rmE B es 0 = [] := rfl
theorem rmE_yes {B : Nat → Bool} {es : List Edg} {n : Nat} (h : B n = true) : rmE B es (n + 1) = rmE B es n := by
  unfold rmE; rw [List.range_succ, List.filter_append]; simp [h]
theorem rmE_no {B : Nat → Bool} {es : List Edg} {n : Nat} (h : B n = false) : rmE B es (n + 1) = rmE B es n ++ [es.getD n default] := by
  unfold rmE; rw [List.range_succ, List.filter_append]; simp [h]
theorem rmE_len {B : Nat → Bool} {es : List Edg} {n : Nat} : (rmE B es n).length ≤ n := by
  unfold rmE
  rw [List.length_map]
  exact Nat.le_trans (List.length_filter_le _ _) (by simp)
section
attribute [local irreducible] rmE hasI
end
end Go.Proofs.Ytmnbpamaiboghaa
