/-
  Plans: to, sz, eq.
-/
import Derived.Test.YtbepgedckfhifaaGreatSuFj
import Derived.Test.YtbepgedckfhifaaGreatSuFo
namespace Go.Proofs.YtbepgedckfhifaaGreat
set_option linter.unusedVariables false
set_option linter.unusedSimpArgs false
set_option maxRecDepth 100000
set_option maxHeartbeats 4000000
attribute [local irreducible] Fn
abbrev ints_R_i64 (x : List Int) : AV := .cons (.ri false .i64 x) .nil
abbrev ints_O_i64 (x : List Int) : AV := .cons (.oi 3 .i64 x) .nil
abbrev IntSS_T := List (List Int)
def sz_IntSS (xs : IntSS_T) : Nat := tot (fun x : List Int => (x).length) xs
def W_IntSS (xs : IntSS_T) : Prop := xs.length ≤ 9223372036854775807 ∧ ∀ i, i < xs.length → (xs.getD i default).length ≤ 9223372036854775807
abbrev EdgePlan_T := (List (List Int)) × Unit
abbrev EdgePlan_R (x : EdgePlan_T) : AV := (.cons (.rs false (x.1).length 1 (cellsA ints_R_i64 (x.1))) .nil)
abbrev EdgePlan_O (x : EdgePlan_T) : AV := (.cons (.ow 22 (x.1).length 1 (cellsA ints_O_i64 (x.1))) .nil)
def sz_EdgePlan (x : EdgePlan_T) : Nat := sz_IntSS (x.1)
def W_EdgePlan (x : EdgePlan_T) : Prop := W_IntSS (x.1)
abbrev EdgePlanS_T := List ((List (List Int)) × Unit)
def sz_EdgePlanS (xs : EdgePlanS_T) : Nat := tot (fun x : (List (List Int)) × Unit => sz_EdgePlan (x)) xs
def W_EdgePlanS (xs : EdgePlanS_T) : Prop := xs.length ≤ 9223372036854775807 ∧ ∀ i, i < xs.length → W_EdgePlan (xs.getD i default)
abbrev CodePlan_T := (Int) × (List ((List (List Int)) × Unit)) × Unit
abbrev CodePlan_R (x : CodePlan_T) : AV := (.cons (.I (x.1)) (.cons (.rs false (x.2.1).length 1 (cellsA EdgePlan_R (x.2.1))) .nil))
abbrev CodePlan_O (x : CodePlan_T) : AV := (.cons (.I (x.1)) (.cons (.ow 107 (x.2.1).length 1 (cellsA EdgePlan_O (x.2.1))) .nil))
def sz_CodePlan (x : CodePlan_T) : Nat := sz_EdgePlanS (x.2.1)
def W_CodePlan (x : CodePlan_T) : Prop := W_EdgePlanS (x.2.1)
open Go.ChangeShapes Go.WideShapes Go.ChangeAt Go.RowKit Go.Deep
def ok_IntSS (xs : IntSS_T) : Prop := xs.length ≤ maxLen ∧ ∀ x ∈ xs, ((x).length ≤ maxLen ∧ ∀ y ∈ (x), (Lit.int .i64 y).wf = true)
end Go.Proofs.YtbepgedckfhifaaGreat
