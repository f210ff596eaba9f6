/-
  Marks written into slices of integers, and found again.
-/
import Derived.Test.YtbepgedckfhifaaPsFb
namespace Go.Proofs.Ytbepgedckfhifaa
set_option linter.unusedVariables false
set_option linter.unusedSimpArgs false
set_option maxRecDepth 100000
set_option maxHeartbeats 4000000
attribute [local irreducible] Fn
def marks (k : Int) (n : Nat) : List Int := (List.range n).map fun i : Nat => k + (i : Int)
def mkE (k : Int) (i : Nat) : Edg := (k + (3 * i : Nat), k + (3 * i : Nat) + 1, k + (3 * i : Nat) + 1 + 1, ())
def mkEs (k : Int) (xs : List Edg) (i j : Nat) : Edg := if j < i then mkE k j else xs.getD j default
end Go.Proofs.Ytbepgedckfhifaa
