/-
  Powers modulo the field's size, inverses.
-/
import Derived.Test.YtbepgedckfhifaaSmGk
import Derived.Test.YtbepgedckfhifaaSmGb
import Derived.Test.YtbepgedckfhifaaSmIb
namespace Go.Proofs.Ytbepgedckfhifaa
set_option linter.unusedVariables false
set_option linter.unusedSimpArgs false
set_option maxRecDepth 100000
set_option maxHeartbeats 4000000
attribute [local irreducible] Fn
attribute [local irreducible] pw LA.invI
end Go.Proofs.Ytbepgedckfhifaa
