/-
  No cell of these rows narrows 'for every input' (looked for: loops, veiled, ifaces, maps, wideKeys, modest, calm, conditions, laid).
  DERIVED. THE GIVEN ROWS OF THIS SEAT. 11 by the template 'for every input the law returns true; each argument reads behind the call as it read before'; 0 by the template 'total and deterministic' (their statements: YtdfgaimchmdpeaaTotals.lean).
  GIVEN WITH THE SEED: the statements are not yours to turn. If you find one false, say at which input.
  Laid BY PROGRAM, IN A SANDBOX (cutbox-rows.mjs): the forced cells as the released guide's own fill.sh prints them over the translation c88108342ea43363… (all of the seat's roots in one cut). By AI agents, Wed Nov 11 2026. No macro, syntax, notation, axiom, sorry.
-/
import Derived.Test.YtdfgaimchmdpeaaChecked
import GoSem.Claim
import GoSem.ClaimJoined
import GoSem.ClaimMapViews
import Derived.JoinedTies
import Derived.KernelRfl
namespace Go.Proofs.Ytdfgaimchmdpeaa
/- THE CELL 'sum', in the pinned program and in every row, IS THE sha256 OF THE DUMP (.gsa) THAT YtdfgaimchmdpeaaProg.lean LOADS. Nothing in Lean hashes anything: it is a label: what it is worth is what the hold of that sum in a sandbox is worth. -/
noncomputable def Try.pinned : Pinned := { name := "ytdfgaimchmdpeaa", sum := "c88108342ea43363dbe6566dbea985f0c11efd2e7b36d072f4704720abff5228", checked := Try.checked }
namespace Rows
def none {H : Type} : Left H := { results := [], args := [] }

/-- 'laws.FnPrices': WHATEVER THE INPUT: true; the input reads as it did. -/
def fnPricesSpec : ChangeSpec := { name := "fnPrices", fn := fun _ => fun
  | [d] => { results := [.lit (.bool true)], args := [d] }
  | _ => none }
def fnPricesRow : OpenClaim := { program := "ytdfgaimchmdpeaa", sum := "c88108342ea43363dbe6566dbea985f0c11efd2e7b36d072f4704720abff5228", func := "loop.example/g00513/laws.FnPrices", spec := "fnPrices", unfollowed := true, recurses := true, apart := false }
def FnPricesSaid : Prop := fnPricesRow.holds Try.pinned (OpenSpec.ofChange fnPricesSpec)

/-- ITS FALSE NEIGHBOUR: 'it returns false'. Refute it at one input. -/
def fnPricesWrong : ChangeSpec := { name := "fnPrices", fn := fun _ => fun
  | [d] => { results := [.lit (.bool false)], args := [d] }
  | _ => none }
def FnPricesWrongFalsely : Prop := fnPricesRow.holds Try.pinned (OpenSpec.ofChange fnPricesWrong)

/-- 'laws.FnRateControl': WHATEVER THE INPUT: true; the input reads as it did. -/
def fnRateControlSpec : ChangeSpec := { name := "fnRateControl", fn := fun _ => fun
  | [d] => { results := [.lit (.bool true)], args := [d] }
  | _ => none }
def fnRateControlRow : OpenClaim := { program := "ytdfgaimchmdpeaa", sum := "c88108342ea43363dbe6566dbea985f0c11efd2e7b36d072f4704720abff5228", func := "loop.example/g00513/laws.FnRateControl", spec := "fnRateControl", apart := false }
def FnRateControlSaid : Prop := fnRateControlRow.holds Try.pinned (OpenSpec.ofChange fnRateControlSpec)

/-- ITS FALSE NEIGHBOUR: 'it returns false'. Refute it at one input. -/
def fnRateControlWrong : ChangeSpec := { name := "fnRateControl", fn := fun _ => fun
  | [d] => { results := [.lit (.bool false)], args := [d] }
  | _ => none }
def FnRateControlWrongFalsely : Prop := fnRateControlRow.holds Try.pinned (OpenSpec.ofChange fnRateControlWrong)

/-- 'laws.FnExactIsValidFlow': WHATEVER THE INPUT: true; the input reads as it did. -/
def fnExactIsValidFlowSpec : ChangeSpec := { name := "fnExactIsValidFlow", fn := fun _ => fun
  | [d1, d2, d3, d4] => { results := [.lit (.bool true)], args := [d1, d2, d3, d4] }
  | _ => none }
def fnExactIsValidFlowRow : OpenClaim := { program := "ytdfgaimchmdpeaa", sum := "c88108342ea43363dbe6566dbea985f0c11efd2e7b36d072f4704720abff5228", func := "loop.example/g00513/laws.FnExactIsValidFlow", spec := "fnExactIsValidFlow", apart := false }
def FnExactIsValidFlowSaid : Prop := fnExactIsValidFlowRow.holds Try.pinned (OpenSpec.ofChange fnExactIsValidFlowSpec)

/-- ITS FALSE NEIGHBOUR: 'it returns false'. Refute it at one input. -/
def fnExactIsValidFlowWrong : ChangeSpec := { name := "fnExactIsValidFlow", fn := fun _ => fun
  | [d1, d2, d3, d4] => { results := [.lit (.bool false)], args := [d1, d2, d3, d4] }
  | _ => none }
def FnExactIsValidFlowWrongFalsely : Prop := fnExactIsValidFlowRow.holds Try.pinned (OpenSpec.ofChange fnExactIsValidFlowWrong)

/-- 'laws.FnExactIsValidPlan': WHATEVER THE INPUT: true; the input reads as it did. -/
def fnExactIsValidPlanSpec : ChangeSpec := { name := "fnExactIsValidPlan", fn := fun _ => fun
  | [d1, d2] => { results := [.lit (.bool true)], args := [d1, d2] }
  | _ => none }
def fnExactIsValidPlanRow : OpenClaim := { program := "ytdfgaimchmdpeaa", sum := "c88108342ea43363dbe6566dbea985f0c11efd2e7b36d072f4704720abff5228", func := "loop.example/g00513/laws.FnExactIsValidPlan", spec := "fnExactIsValidPlan", apart := false }
def FnExactIsValidPlanSaid : Prop := fnExactIsValidPlanRow.holds Try.pinned (OpenSpec.ofChange fnExactIsValidPlanSpec)

/-- ITS FALSE NEIGHBOUR: 'it returns false'. Refute it at one input. -/
def fnExactIsValidPlanWrong : ChangeSpec := { name := "fnExactIsValidPlan", fn := fun _ => fun
  | [d1, d2] => { results := [.lit (.bool false)], args := [d1, d2] }
  | _ => none }
def FnExactIsValidPlanWrongFalsely : Prop := fnExactIsValidPlanRow.holds Try.pinned (OpenSpec.ofChange fnExactIsValidPlanWrong)

/-- 'laws.FnExactTopologicalOrder': WHATEVER THE INPUT: true; the input reads as it did. -/
def fnExactTopologicalOrderSpec : ChangeSpec := { name := "fnExactTopologicalOrder", fn := fun _ => fun
  | [d] => { results := [.lit (.bool true)], args := [d] }
  | _ => none }
def fnExactTopologicalOrderRow : OpenClaim := { program := "ytdfgaimchmdpeaa", sum := "c88108342ea43363dbe6566dbea985f0c11efd2e7b36d072f4704720abff5228", func := "loop.example/g00513/laws.FnExactTopologicalOrder", spec := "fnExactTopologicalOrder", unfollowed := true, recurses := true, apart := false }
def FnExactTopologicalOrderSaid : Prop := fnExactTopologicalOrderRow.holds Try.pinned (OpenSpec.ofChange fnExactTopologicalOrderSpec)

/-- ITS FALSE NEIGHBOUR: 'it returns false'. Refute it at one input. -/
def fnExactTopologicalOrderWrong : ChangeSpec := { name := "fnExactTopologicalOrder", fn := fun _ => fun
  | [d] => { results := [.lit (.bool false)], args := [d] }
  | _ => none }
def FnExactTopologicalOrderWrongFalsely : Prop := fnExactTopologicalOrderRow.holds Try.pinned (OpenSpec.ofChange fnExactTopologicalOrderWrong)

/-- 'laws.FnExactShortestPath': WHATEVER THE INPUT: true; the input reads as it did. -/
def fnExactShortestPathSpec : ChangeSpec := { name := "fnExactShortestPath", fn := fun _ => fun
  | [d1, d2, d3] => { results := [.lit (.bool true)], args := [d1, d2, d3] }
  | _ => none }
def fnExactShortestPathRow : OpenClaim := { program := "ytdfgaimchmdpeaa", sum := "c88108342ea43363dbe6566dbea985f0c11efd2e7b36d072f4704720abff5228", func := "loop.example/g00513/laws.FnExactShortestPath", spec := "fnExactShortestPath", unfollowed := true, recurses := true, apart := false }
def FnExactShortestPathSaid : Prop := fnExactShortestPathRow.holds Try.pinned (OpenSpec.ofChange fnExactShortestPathSpec)

/-- ITS FALSE NEIGHBOUR: 'it returns false'. Refute it at one input. -/
def fnExactShortestPathWrong : ChangeSpec := { name := "fnExactShortestPath", fn := fun _ => fun
  | [d1, d2, d3] => { results := [.lit (.bool false)], args := [d1, d2, d3] }
  | _ => none }
def FnExactShortestPathWrongFalsely : Prop := fnExactShortestPathRow.holds Try.pinned (OpenSpec.ofChange fnExactShortestPathWrong)

/-- 'laws.FnExactMaxFlow': WHATEVER THE INPUT: true; the input reads as it did. -/
def fnExactMaxFlowSpec : ChangeSpec := { name := "fnExactMaxFlow", fn := fun _ => fun
  | [d1, d2, d3] => { results := [.lit (.bool true)], args := [d1, d2, d3] }
  | _ => none }
def fnExactMaxFlowRow : OpenClaim := { program := "ytdfgaimchmdpeaa", sum := "c88108342ea43363dbe6566dbea985f0c11efd2e7b36d072f4704720abff5228", func := "loop.example/g00513/laws.FnExactMaxFlow", spec := "fnExactMaxFlow", apart := false }
def FnExactMaxFlowSaid : Prop := fnExactMaxFlowRow.holds Try.pinned (OpenSpec.ofChange fnExactMaxFlowSpec)

/-- ITS FALSE NEIGHBOUR: 'it returns false'. Refute it at one input. -/
def fnExactMaxFlowWrong : ChangeSpec := { name := "fnExactMaxFlow", fn := fun _ => fun
  | [d1, d2, d3] => { results := [.lit (.bool false)], args := [d1, d2, d3] }
  | _ => none }
def FnExactMaxFlowWrongFalsely : Prop := fnExactMaxFlowRow.holds Try.pinned (OpenSpec.ofChange fnExactMaxFlowWrong)

/-- 'laws.FnExactMaxFlowValue': WHATEVER THE INPUT: true; the input reads as it did. -/
def fnExactMaxFlowValueSpec : ChangeSpec := { name := "fnExactMaxFlowValue", fn := fun _ => fun
  | [d1, d2, d3] => { results := [.lit (.bool true)], args := [d1, d2, d3] }
  | _ => none }
def fnExactMaxFlowValueRow : OpenClaim := { program := "ytdfgaimchmdpeaa", sum := "c88108342ea43363dbe6566dbea985f0c11efd2e7b36d072f4704720abff5228", func := "loop.example/g00513/laws.FnExactMaxFlowValue", spec := "fnExactMaxFlowValue", apart := false }
def FnExactMaxFlowValueSaid : Prop := fnExactMaxFlowValueRow.holds Try.pinned (OpenSpec.ofChange fnExactMaxFlowValueSpec)

/-- ITS FALSE NEIGHBOUR: 'it returns false'. Refute it at one input. -/
def fnExactMaxFlowValueWrong : ChangeSpec := { name := "fnExactMaxFlowValue", fn := fun _ => fun
  | [d1, d2, d3] => { results := [.lit (.bool false)], args := [d1, d2, d3] }
  | _ => none }
def FnExactMaxFlowValueWrongFalsely : Prop := fnExactMaxFlowValueRow.holds Try.pinned (OpenSpec.ofChange fnExactMaxFlowValueWrong)

/-- 'laws.FnExactMulticastCapacity': WHATEVER THE INPUT: true; the input reads as it did. -/
def fnExactMulticastCapacitySpec : ChangeSpec := { name := "fnExactMulticastCapacity", fn := fun _ => fun
  | [d1, d2, d3] => { results := [.lit (.bool true)], args := [d1, d2, d3] }
  | _ => none }
def fnExactMulticastCapacityRow : OpenClaim := { program := "ytdfgaimchmdpeaa", sum := "c88108342ea43363dbe6566dbea985f0c11efd2e7b36d072f4704720abff5228", func := "loop.example/g00513/laws.FnExactMulticastCapacity", spec := "fnExactMulticastCapacity", apart := false }
def FnExactMulticastCapacitySaid : Prop := fnExactMulticastCapacityRow.holds Try.pinned (OpenSpec.ofChange fnExactMulticastCapacitySpec)

/-- ITS FALSE NEIGHBOUR: 'it returns false'. Refute it at one input. -/
def fnExactMulticastCapacityWrong : ChangeSpec := { name := "fnExactMulticastCapacity", fn := fun _ => fun
  | [d1, d2, d3] => { results := [.lit (.bool false)], args := [d1, d2, d3] }
  | _ => none }
def FnExactMulticastCapacityWrongFalsely : Prop := fnExactMulticastCapacityRow.holds Try.pinned (OpenSpec.ofChange fnExactMulticastCapacityWrong)

/-- 'laws.FnExactCheapestPath': WHATEVER THE INPUT: true; the input reads as it did. -/
def fnExactCheapestPathSpec : ChangeSpec := { name := "fnExactCheapestPath", fn := fun _ => fun
  | [d1, d2, d3, d4] => { results := [.lit (.bool true)], args := [d1, d2, d3, d4] }
  | _ => none }
def fnExactCheapestPathRow : OpenClaim := { program := "ytdfgaimchmdpeaa", sum := "c88108342ea43363dbe6566dbea985f0c11efd2e7b36d072f4704720abff5228", func := "loop.example/g00513/laws.FnExactCheapestPath", spec := "fnExactCheapestPath", unfollowed := true, recurses := true, apart := false }
def FnExactCheapestPathSaid : Prop := fnExactCheapestPathRow.holds Try.pinned (OpenSpec.ofChange fnExactCheapestPathSpec)

/-- ITS FALSE NEIGHBOUR: 'it returns false'. Refute it at one input. -/
def fnExactCheapestPathWrong : ChangeSpec := { name := "fnExactCheapestPath", fn := fun _ => fun
  | [d1, d2, d3, d4] => { results := [.lit (.bool false)], args := [d1, d2, d3, d4] }
  | _ => none }
def FnExactCheapestPathWrongFalsely : Prop := fnExactCheapestPathRow.holds Try.pinned (OpenSpec.ofChange fnExactCheapestPathWrong)

/-- 'laws.FnCheapestPaths': WHATEVER THE INPUT: true; the input reads as it did. -/
def fnCheapestPathsSpec : ChangeSpec := { name := "fnCheapestPaths", fn := fun _ => fun
  | [d] => { results := [.lit (.bool true)], args := [d] }
  | _ => none }
def fnCheapestPathsRow : OpenClaim := { program := "ytdfgaimchmdpeaa", sum := "c88108342ea43363dbe6566dbea985f0c11efd2e7b36d072f4704720abff5228", func := "loop.example/g00513/laws.FnCheapestPaths", spec := "fnCheapestPaths", unfollowed := true, recurses := true, apart := false }
def FnCheapestPathsSaid : Prop := fnCheapestPathsRow.holds Try.pinned (OpenSpec.ofChange fnCheapestPathsSpec)

/-- ITS FALSE NEIGHBOUR: 'it returns false'. Refute it at one input. -/
def fnCheapestPathsWrong : ChangeSpec := { name := "fnCheapestPaths", fn := fun _ => fun
  | [d] => { results := [.lit (.bool false)], args := [d] }
  | _ => none }
def FnCheapestPathsWrongFalsely : Prop := fnCheapestPathsRow.holds Try.pinned (OpenSpec.ofChange fnCheapestPathsWrong)

/- THE SECOND FORM. 'bulk': how many values and letters a reading holds, each counted each time it is reached (what is shared counts as often as it is met; a slice's spare places count too). A statement '..UptoSaid' is the law's where the arguments, and the package variables that the reading takes, are together of bulk at most 1048576: NARROWER than '..Said'. Prove '..Said' where nothing that the law and all that it calls make is longer than what came in: it says more and counts as full. Else prove '..UptoSaid'. A law counts once. -/
mutual
def uptoBulk {H : Type} : DataW H → Nat
  | .lit (.string bytes) => bytes.length + 1
  | .lit _ => 1
  | .nil => 1
  | .ptr d => uptoBulk d + 1
  | .slice elems spare => uptoBulkAll elems + uptoBulkAll spare + 1
  | .agg parts => uptoBulkAll parts + 1
  | .iface _ d => uptoBulk d + 1
  | .map entries => uptoBulkEntries entries + 1
  | .held _ => 1
def uptoBulkAll {H : Type} : List (DataW H) → Nat
  | [] => 0
  | d :: r => uptoBulk d + uptoBulkAll r
def uptoBulkEntries {H : Type} : List (Lit × DataW H) → Nat
  | [] => 0
  | x :: r => uptoBulkEntry x + uptoBulkEntries r
def uptoBulkEntry {H : Type} : Lit × DataW H → Nat
  | (.string bytes, d) => bytes.length + uptoBulk d + 1
  | (_, d) => uptoBulk d + 1
 end
def uptoSmall : (H : Type) → List (DataW H) → Bool := fun _ ds => decide (uptoBulkAll ds ≤ 1048576)
def OpenSpec.upto (s : _root_.Go.ChangeSpec) : _root_.Go.OpenSpec := { _root_.Go.OpenSpec.ofChange s with cond := some uptoSmall }

/-- 'laws.FnPrices', WHERE WHAT IT READS IS OF BULK AT MOST 1048576: true; the input reads as it did. -/
def fnPricesUptoRow : OpenClaim := { program := "ytdfgaimchmdpeaa", sum := "c88108342ea43363dbe6566dbea985f0c11efd2e7b36d072f4704720abff5228", func := "loop.example/g00513/laws.FnPrices", spec := "fnPrices", unfollowed := true, recurses := true, apart := false, narrowed := true }
def FnPricesUptoSaid : Prop := fnPricesUptoRow.holds Try.pinned (OpenSpec.upto fnPricesSpec)

/-- 'laws.FnRateControl', WHERE WHAT IT READS IS OF BULK AT MOST 1048576: true; the input reads as it did. -/
def fnRateControlUptoRow : OpenClaim := { program := "ytdfgaimchmdpeaa", sum := "c88108342ea43363dbe6566dbea985f0c11efd2e7b36d072f4704720abff5228", func := "loop.example/g00513/laws.FnRateControl", spec := "fnRateControl", apart := false, narrowed := true }
def FnRateControlUptoSaid : Prop := fnRateControlUptoRow.holds Try.pinned (OpenSpec.upto fnRateControlSpec)

/-- 'laws.FnExactIsValidFlow', WHERE WHAT IT READS IS OF BULK AT MOST 1048576: true; the input reads as it did. -/
def fnExactIsValidFlowUptoRow : OpenClaim := { program := "ytdfgaimchmdpeaa", sum := "c88108342ea43363dbe6566dbea985f0c11efd2e7b36d072f4704720abff5228", func := "loop.example/g00513/laws.FnExactIsValidFlow", spec := "fnExactIsValidFlow", apart := false, narrowed := true }
def FnExactIsValidFlowUptoSaid : Prop := fnExactIsValidFlowUptoRow.holds Try.pinned (OpenSpec.upto fnExactIsValidFlowSpec)

/-- 'laws.FnExactIsValidPlan', WHERE WHAT IT READS IS OF BULK AT MOST 1048576: true; the input reads as it did. -/
def fnExactIsValidPlanUptoRow : OpenClaim := { program := "ytdfgaimchmdpeaa", sum := "c88108342ea43363dbe6566dbea985f0c11efd2e7b36d072f4704720abff5228", func := "loop.example/g00513/laws.FnExactIsValidPlan", spec := "fnExactIsValidPlan", apart := false, narrowed := true }
def FnExactIsValidPlanUptoSaid : Prop := fnExactIsValidPlanUptoRow.holds Try.pinned (OpenSpec.upto fnExactIsValidPlanSpec)

/-- 'laws.FnExactTopologicalOrder', WHERE WHAT IT READS IS OF BULK AT MOST 1048576: true; the input reads as it did. -/
def fnExactTopologicalOrderUptoRow : OpenClaim := { program := "ytdfgaimchmdpeaa", sum := "c88108342ea43363dbe6566dbea985f0c11efd2e7b36d072f4704720abff5228", func := "loop.example/g00513/laws.FnExactTopologicalOrder", spec := "fnExactTopologicalOrder", unfollowed := true, recurses := true, apart := false, narrowed := true }
def FnExactTopologicalOrderUptoSaid : Prop := fnExactTopologicalOrderUptoRow.holds Try.pinned (OpenSpec.upto fnExactTopologicalOrderSpec)

/-- 'laws.FnExactShortestPath', WHERE WHAT IT READS IS OF BULK AT MOST 1048576: true; the input reads as it did. -/
def fnExactShortestPathUptoRow : OpenClaim := { program := "ytdfgaimchmdpeaa", sum := "c88108342ea43363dbe6566dbea985f0c11efd2e7b36d072f4704720abff5228", func := "loop.example/g00513/laws.FnExactShortestPath", spec := "fnExactShortestPath", unfollowed := true, recurses := true, apart := false, narrowed := true }
def FnExactShortestPathUptoSaid : Prop := fnExactShortestPathUptoRow.holds Try.pinned (OpenSpec.upto fnExactShortestPathSpec)

/-- 'laws.FnExactMaxFlow', WHERE WHAT IT READS IS OF BULK AT MOST 1048576: true; the input reads as it did. -/
def fnExactMaxFlowUptoRow : OpenClaim := { program := "ytdfgaimchmdpeaa", sum := "c88108342ea43363dbe6566dbea985f0c11efd2e7b36d072f4704720abff5228", func := "loop.example/g00513/laws.FnExactMaxFlow", spec := "fnExactMaxFlow", apart := false, narrowed := true }
def FnExactMaxFlowUptoSaid : Prop := fnExactMaxFlowUptoRow.holds Try.pinned (OpenSpec.upto fnExactMaxFlowSpec)

/-- 'laws.FnExactMaxFlowValue', WHERE WHAT IT READS IS OF BULK AT MOST 1048576: true; the input reads as it did. -/
def fnExactMaxFlowValueUptoRow : OpenClaim := { program := "ytdfgaimchmdpeaa", sum := "c88108342ea43363dbe6566dbea985f0c11efd2e7b36d072f4704720abff5228", func := "loop.example/g00513/laws.FnExactMaxFlowValue", spec := "fnExactMaxFlowValue", apart := false, narrowed := true }
def FnExactMaxFlowValueUptoSaid : Prop := fnExactMaxFlowValueUptoRow.holds Try.pinned (OpenSpec.upto fnExactMaxFlowValueSpec)

/-- 'laws.FnExactMulticastCapacity', WHERE WHAT IT READS IS OF BULK AT MOST 1048576: true; the input reads as it did. -/
def fnExactMulticastCapacityUptoRow : OpenClaim := { program := "ytdfgaimchmdpeaa", sum := "c88108342ea43363dbe6566dbea985f0c11efd2e7b36d072f4704720abff5228", func := "loop.example/g00513/laws.FnExactMulticastCapacity", spec := "fnExactMulticastCapacity", apart := false, narrowed := true }
def FnExactMulticastCapacityUptoSaid : Prop := fnExactMulticastCapacityUptoRow.holds Try.pinned (OpenSpec.upto fnExactMulticastCapacitySpec)

/-- 'laws.FnExactCheapestPath', WHERE WHAT IT READS IS OF BULK AT MOST 1048576: true; the input reads as it did. -/
def fnExactCheapestPathUptoRow : OpenClaim := { program := "ytdfgaimchmdpeaa", sum := "c88108342ea43363dbe6566dbea985f0c11efd2e7b36d072f4704720abff5228", func := "loop.example/g00513/laws.FnExactCheapestPath", spec := "fnExactCheapestPath", unfollowed := true, recurses := true, apart := false, narrowed := true }
def FnExactCheapestPathUptoSaid : Prop := fnExactCheapestPathUptoRow.holds Try.pinned (OpenSpec.upto fnExactCheapestPathSpec)

/-- 'laws.FnCheapestPaths', WHERE WHAT IT READS IS OF BULK AT MOST 1048576: true; the input reads as it did. -/
def fnCheapestPathsUptoRow : OpenClaim := { program := "ytdfgaimchmdpeaa", sum := "c88108342ea43363dbe6566dbea985f0c11efd2e7b36d072f4704720abff5228", func := "loop.example/g00513/laws.FnCheapestPaths", spec := "fnCheapestPaths", unfollowed := true, recurses := true, apart := false, narrowed := true }
def FnCheapestPathsUptoSaid : Prop := fnCheapestPathsUptoRow.holds Try.pinned (OpenSpec.upto fnCheapestPathsSpec)

end Rows
end Go.Proofs.Ytdfgaimchmdpeaa
