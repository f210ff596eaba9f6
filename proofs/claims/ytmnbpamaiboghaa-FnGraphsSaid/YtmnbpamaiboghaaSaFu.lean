/-
  The reference's greatest flow.
-/
import Derived.Test.YtmnbpamaiboghaaSaFt
namespace Go.Proofs.Ytmnbpamaiboghaa
set_option linter.unusedVariables false
set_option linter.unusedSimpArgs false
set_option maxRecDepth 100000
set_option maxHeartbeats 4000000
attribute [local irreducible] Fn
attribute [local irreducible] addAll fwdL bwdL idxs sr mset mhas mgetI keys mfRun aug augS mfM mfF netS byT eFrom eTo hasI
end Go.Proofs.Ytmnbpamaiboghaa
