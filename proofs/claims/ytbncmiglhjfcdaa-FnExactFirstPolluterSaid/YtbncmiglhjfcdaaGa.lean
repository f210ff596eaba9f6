/-
  Plans: to, sz, eq.
-/
import Derived.Test.YtbncmiglhjfcdaaFj
import Derived.Test.YtbncmiglhjfcdaaFo
namespace Go.Proofs.Ytbncmiglhjfcdaa
set_option linter.unusedVariables false
set_option linter.unusedSimpArgs false
set_option maxRecDepth 100000
set_option maxHeartbeats 4000000
attribute [local irreducible] Fn
abbrev ints_R_i64 (x : List Int) : AV := .cons (.ri false .i64 x) .nil
abbrev ints_O_i64 (x : List Int) : AV := .cons (.oi 3 .i64 x) .nil
end Go.Proofs.Ytbncmiglhjfcdaa
