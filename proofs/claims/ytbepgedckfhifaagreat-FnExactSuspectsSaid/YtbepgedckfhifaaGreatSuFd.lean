/-
  Structs with one slice of integers.
-/
import Derived.Test.YtbepgedckfhifaaGreatSuFc
namespace Go.Proofs.YtbepgedckfhifaaGreat
set_option linter.unusedVariables false
set_option linter.unusedSimpArgs false
set_option maxRecDepth 100000
set_option maxHeartbeats 4000000
attribute [local irreducible] Fn
abbrev L1 := List Int × Unit
abbrev L1A (x : L1) : AV := .agg (.cons (.ri false .i64 x.1) .nil)
end Go.Proofs.YtbepgedckfhifaaGreat
