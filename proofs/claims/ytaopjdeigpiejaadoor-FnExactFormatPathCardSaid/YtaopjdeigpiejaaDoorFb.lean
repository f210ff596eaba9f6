/-
  Edges and graphs: to, sz, eq.
-/
import Derived.Test.YtaopjdeigpiejaaDoorFa
namespace Go.Proofs.YtaopjdeigpiejaaDoor
set_option linter.unusedVariables false
set_option linter.unusedSimpArgs false
set_option maxRecDepth 100000
set_option maxHeartbeats 4000000
attribute [local irreducible] Fn
abbrev Edg := Int × Int × Int × Unit
abbrev EdgA (x : Edg) : AV := .cons (.I x.1) (.cons (.I x.2.1) (.cons (.I x.2.2.1) .nil))
abbrev Gr := Int × List Edg × Unit
/-- As an argument: its edges are only read. -/
abbrev GrA (g : Gr) : AV := .agg (.cons (.I g.1) (.cons (.rs false g.2.1.length 3 (cellsA EdgA g.2.1)) .nil))
end Go.Proofs.YtaopjdeigpiejaaDoor
