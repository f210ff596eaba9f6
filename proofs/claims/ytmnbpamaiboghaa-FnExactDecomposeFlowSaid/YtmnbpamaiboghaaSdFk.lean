/-
  EdgeLoads.
-/
import Derived.Test.YtmnbpamaiboghaaSdFi
import Derived.Test.YtmnbpamaiboghaaSdFj
namespace Go.Proofs.Ytmnbpamaiboghaa
set_option linter.unusedVariables false
set_option linter.unusedSimpArgs false
set_option maxRecDepth 100000
set_option maxHeartbeats 4000000
attribute [local irreducible] Fn
def addAt (xs : List Int) (i : Nat) (d : Int) : List Int := xs.set i (IntKind.wrap .i64 (xs.getD i 0 + d))
/-- The first n edges of a path. -/
def addP (g : Gr) (p : List Int) (d : Int) (xs : List Int) : Nat → List Int
  | 0 => xs
  | n + 1 => addAt (addP g p d xs n) (pe g p n).toNat d
noncomputable def oneL (g : Gr) (ps : List L1) (rs : List Int) (k : Nat) (xs : List Int) : List Int :=
  if k < rs.length ∧ isP g (ps.getD k default).1 = true then addP g (ps.getD k default).1 (rs.getD k 0) xs ((ps.getD k default).1.length - 1) else xs
/-- The first k paths. -/
noncomputable def loadsA (g : Gr) (ps : List L1) (rs : List Int) : Nat → List Int
  | 0 => List.replicate g.2.1.length 0
  | k + 1 => oneL g ps rs k (loadsA g ps rs k)
noncomputable def eloads (g : Gr) (ps : List L1) (rs : List Int) : List Int := loadsA g ps rs ps.length
end Go.Proofs.Ytmnbpamaiboghaa
