/-
  Contracts of the old kind (worlds told by their cells) turned to contracts of the evaluator: the keyed hash, slices.Concat.
-/
import Derived.Test.YtbepgedckfhifaaPsFa
import Derived.Test.YtbepgedckfhifaaPsKeyed
import Derived.Test.YtbepgedckfhifaaPsFj
namespace Go.Proofs.Ytbepgedckfhifaa
open Go.RowKit
set_option linter.unusedVariables false
set_option linter.unusedSimpArgs false
set_option maxRecDepth 100000
set_option maxHeartbeats 4000000
attribute [local irreducible] Fn
abbrev intsR (x : List Int) : AV := .cons (.ri false .i64 x) .nil
end Go.Proofs.Ytbepgedckfhifaa
