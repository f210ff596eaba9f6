/-
  The greatest flow of the program.
-/
import Derived.Test.YtomjemikjnpinaaDoorSsFq
namespace Go.Proofs.YtomjemikjnpinaaDoor
set_option linter.unusedVariables false
set_option linter.unusedSimpArgs false
set_option maxRecDepth 100000
set_option maxHeartbeats 4000000
attribute [local irreducible] Fn
theorem keys_one {x v : Int} : keys [(x, v)] = [x] := rfl
theorem ntb {b : Bool} (h : b = false) : ¬ b = true := by simp [h]
theorem sr_succ {C : Int → Pairs} {r : Int × Int} {k : Nat} (h : k < (sr C r k).length) : sr C r (k + 1) = addAll (sr C r k) (C ((sr C r k).getD k default).1) := if_pos h
theorem sr_zero {C : Int → Pairs} {r : Int × Int} : sr C r 0 = [r] := rfl
theorem mset_nil {x v : Int} : mset ([] : Pairs) x v = [(x, v)] := rfl
theorem addAll_nil {m : Pairs} : addAll m [] = m := rfl
attribute [local irreducible] addAll fwdL bwdL idxs sr mset mhas mgetI keys mfRun aug augS mfM mfF netS
end Go.Proofs.YtomjemikjnpinaaDoor
