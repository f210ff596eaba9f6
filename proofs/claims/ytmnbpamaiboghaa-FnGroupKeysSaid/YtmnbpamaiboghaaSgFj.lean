/-
  Slices of structs with one slice of integers.
-/
import Derived.Test.YtmnbpamaiboghaaSgFd
namespace Go.Proofs.Ytmnbpamaiboghaa
set_option linter.unusedVariables false
set_option linter.unusedSimpArgs false
set_option maxRecDepth 100000
set_option maxHeartbeats 4000000
attribute [local irreducible] Fn
/-- The sizes of the first i elements. -/
def psum {X : Type} (sz : X → Nat) (xs : List X) (i : Nat) : Nat := ((xs.take i).map sz).sum
def tot {X : Type} (sz : X → Nat) (xs : List X) : Nat := xs.length + psum sz xs xs.length
abbrev szL1 (x : L1) : Nat := x.1.length
/-- The cells of []Path, only read. -/
abbrev RdA (x : L1) : AV := .cons (.ri false .i64 x.1) .nil
/-- In memory of one's own. -/
abbrev OwA (x : L1) : AV := .cons (.oi 3 .i64 x.1) .nil
/-- The first i elements marked. -/
def mkPs (k : Int) (xs : List L1) (i j : Nat) : L1 := if j < i then (marks (k + (psum szL1 xs j : Nat)) (xs.getD j default).1.length, ()) else xs.getD j default
end Go.Proofs.Ytmnbpamaiboghaa
