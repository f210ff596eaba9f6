/-
  The capacity of a cut, of the program; the nodes that are reached, of the reference.
-/
import Derived.Test.YtmnbpamaiboghaaSdHb
import Derived.Test.YtmnbpamaiboghaaSdGg
import Derived.Test.YtmnbpamaiboghaaSdFz
namespace Go.Proofs.Ytmnbpamaiboghaa
set_option linter.unusedVariables false
set_option linter.unusedSimpArgs false
set_option maxRecDepth 100000
set_option maxHeartbeats 4000000
attribute [local irreducible] Fn
section
attribute [local irreducible] cutS hasI
end
/-- The nodes that are reached, of the first n. -/
def rnN (s : List Bool) : Nat → List Int
  | 0 => []
  | n + 1 => if s.getD n false = true then rnN s n ++ [(n : Int)] else rnN s n
def rnL (g : Gr) (a : Int) : List Int := rnN (reachL g [a]) g.1.toNat
section
attribute [local irreducible] reachL rnN
end
end Go.Proofs.Ytmnbpamaiboghaa
