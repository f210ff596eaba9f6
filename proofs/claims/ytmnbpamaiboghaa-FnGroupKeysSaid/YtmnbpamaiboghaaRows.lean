/-
  No cell of these rows narrows 'for every input' (looked for: loops, veiled, ifaces, maps, wideKeys, modest, calm, conditions, laid).
  DERIVED. THE GIVEN ROWS OF THIS SEAT. 10 by the template 'for every input the law returns true; each argument reads behind the call as it read before'; 0 by the template 'total and deterministic' (their statements: YtmnbpamaiboghaaTotals.lean).
  GIVEN WITH THE SEED: the statements are not yours to turn. If you find one false, say at which input.
  Laid BY PROGRAM, IN A SANDBOX (cutbox-rows.mjs): the forced cells as the released guide's own fill.sh prints them over the translation 5777c916bb2683e9… (all of the seat's roots in one cut). By AI agents, Wed Nov 11 2026. No macro, syntax, notation, axiom, sorry.
-/
import Derived.Test.YtmnbpamaiboghaaChecked
import GoSem.Claim
import GoSem.ClaimJoined
import GoSem.ClaimMapViews
import Derived.JoinedTies
import Derived.KernelRfl
namespace Go.Proofs.Ytmnbpamaiboghaa
/- THE CELL 'sum', in the pinned program and in every row, IS THE sha256 OF THE DUMP (.gsa) THAT YtmnbpamaiboghaaProg.lean LOADS. Nothing in Lean hashes anything: it is a label: what it is worth is what the hold of that sum in a sandbox is worth. -/
noncomputable def Try.pinned : Pinned := { name := "ytmnbpamaiboghaa", sum := "5777c916bb2683e96734d62e1a9ebe22c34305d17d2b6312aad2607d5ac1e120", checked := Try.checked }
namespace Rows
def none {H : Type} : Left H := { results := [], args := [] }

/-- 'laws.FnExactDecomposeFlow': WHATEVER THE INPUT: true; the input reads as it did. -/
def fnExactDecomposeFlowSpec : ChangeSpec := { name := "fnExactDecomposeFlow", fn := fun _ => fun
  | [d1, d2, d3, d4] => { results := [.lit (.bool true)], args := [d1, d2, d3, d4] }
  | _ => none }
def fnExactDecomposeFlowRow : OpenClaim := { program := "ytmnbpamaiboghaa", sum := "5777c916bb2683e96734d62e1a9ebe22c34305d17d2b6312aad2607d5ac1e120", func := "loop.example/g00513/laws.FnExactDecomposeFlow", spec := "fnExactDecomposeFlow", unfollowed := true, recurses := true, apart := false }
def FnExactDecomposeFlowSaid : Prop := fnExactDecomposeFlowRow.holds Try.pinned (OpenSpec.ofChange fnExactDecomposeFlowSpec)

/-- ITS FALSE NEIGHBOUR: 'it returns false'. Refute it at one input. -/
def fnExactDecomposeFlowWrong : ChangeSpec := { name := "fnExactDecomposeFlow", fn := fun _ => fun
  | [d1, d2, d3, d4] => { results := [.lit (.bool false)], args := [d1, d2, d3, d4] }
  | _ => none }
def FnExactDecomposeFlowWrongFalsely : Prop := fnExactDecomposeFlowRow.holds Try.pinned (OpenSpec.ofChange fnExactDecomposeFlowWrong)

/-- 'laws.FnExactReachableNodes': WHATEVER THE INPUT: true; the input reads as it did. -/
def fnExactReachableNodesSpec : ChangeSpec := { name := "fnExactReachableNodes", fn := fun _ => fun
  | [d1, d2] => { results := [.lit (.bool true)], args := [d1, d2] }
  | _ => none }
def fnExactReachableNodesRow : OpenClaim := { program := "ytmnbpamaiboghaa", sum := "5777c916bb2683e96734d62e1a9ebe22c34305d17d2b6312aad2607d5ac1e120", func := "loop.example/g00513/laws.FnExactReachableNodes", spec := "fnExactReachableNodes", unfollowed := true, recurses := true, apart := false }
def FnExactReachableNodesSaid : Prop := fnExactReachableNodesRow.holds Try.pinned (OpenSpec.ofChange fnExactReachableNodesSpec)

/-- ITS FALSE NEIGHBOUR: 'it returns false'. Refute it at one input. -/
def fnExactReachableNodesWrong : ChangeSpec := { name := "fnExactReachableNodes", fn := fun _ => fun
  | [d1, d2] => { results := [.lit (.bool false)], args := [d1, d2] }
  | _ => none }
def FnExactReachableNodesWrongFalsely : Prop := fnExactReachableNodesRow.holds Try.pinned (OpenSpec.ofChange fnExactReachableNodesWrong)

/-- 'laws.FnExactMinCut': WHATEVER THE INPUT: true; the input reads as it did. -/
def fnExactMinCutSpec : ChangeSpec := { name := "fnExactMinCut", fn := fun _ => fun
  | [d1, d2, d3] => { results := [.lit (.bool true)], args := [d1, d2, d3] }
  | _ => none }
def fnExactMinCutRow : OpenClaim := { program := "ytmnbpamaiboghaa", sum := "5777c916bb2683e96734d62e1a9ebe22c34305d17d2b6312aad2607d5ac1e120", func := "loop.example/g00513/laws.FnExactMinCut", spec := "fnExactMinCut", recurses := true, apart := false }
def FnExactMinCutSaid : Prop := fnExactMinCutRow.holds Try.pinned (OpenSpec.ofChange fnExactMinCutSpec)

/-- ITS FALSE NEIGHBOUR: 'it returns false'. Refute it at one input. -/
def fnExactMinCutWrong : ChangeSpec := { name := "fnExactMinCut", fn := fun _ => fun
  | [d1, d2, d3] => { results := [.lit (.bool false)], args := [d1, d2, d3] }
  | _ => none }
def FnExactMinCutWrongFalsely : Prop := fnExactMinCutRow.holds Try.pinned (OpenSpec.ofChange fnExactMinCutWrong)

/-- 'laws.FnPrices': WHATEVER THE INPUT: true; the input reads as it did. -/
def fnPricesSpec : ChangeSpec := { name := "fnPrices", fn := fun _ => fun
  | [d] => { results := [.lit (.bool true)], args := [d] }
  | _ => none }
def fnPricesRow : OpenClaim := { program := "ytmnbpamaiboghaa", sum := "5777c916bb2683e96734d62e1a9ebe22c34305d17d2b6312aad2607d5ac1e120", func := "loop.example/g00513/laws.FnPrices", spec := "fnPrices", unfollowed := true, recurses := true, apart := false }
def FnPricesSaid : Prop := fnPricesRow.holds Try.pinned (OpenSpec.ofChange fnPricesSpec)

/-- ITS FALSE NEIGHBOUR: 'it returns false'. Refute it at one input. -/
def fnPricesWrong : ChangeSpec := { name := "fnPrices", fn := fun _ => fun
  | [d] => { results := [.lit (.bool false)], args := [d] }
  | _ => none }
def FnPricesWrongFalsely : Prop := fnPricesRow.holds Try.pinned (OpenSpec.ofChange fnPricesWrong)

/-- 'laws.FnCheapestPaths': WHATEVER THE INPUT: true; the input reads as it did. -/
def fnCheapestPathsSpec : ChangeSpec := { name := "fnCheapestPaths", fn := fun _ => fun
  | [d] => { results := [.lit (.bool true)], args := [d] }
  | _ => none }
def fnCheapestPathsRow : OpenClaim := { program := "ytmnbpamaiboghaa", sum := "5777c916bb2683e96734d62e1a9ebe22c34305d17d2b6312aad2607d5ac1e120", func := "loop.example/g00513/laws.FnCheapestPaths", spec := "fnCheapestPaths", unfollowed := true, recurses := true, apart := false }
def FnCheapestPathsSaid : Prop := fnCheapestPathsRow.holds Try.pinned (OpenSpec.ofChange fnCheapestPathsSpec)

/-- ITS FALSE NEIGHBOUR: 'it returns false'. Refute it at one input. -/
def fnCheapestPathsWrong : ChangeSpec := { name := "fnCheapestPaths", fn := fun _ => fun
  | [d] => { results := [.lit (.bool false)], args := [d] }
  | _ => none }
def FnCheapestPathsWrongFalsely : Prop := fnCheapestPathsRow.holds Try.pinned (OpenSpec.ofChange fnCheapestPathsWrong)

/-- 'laws.FnCuts': WHATEVER THE INPUT: true; the input reads as it did. -/
def fnCutsSpec : ChangeSpec := { name := "fnCuts", fn := fun _ => fun
  | [d] => { results := [.lit (.bool true)], args := [d] }
  | _ => none }
def fnCutsRow : OpenClaim := { program := "ytmnbpamaiboghaa", sum := "5777c916bb2683e96734d62e1a9ebe22c34305d17d2b6312aad2607d5ac1e120", func := "loop.example/g00513/laws.FnCuts", spec := "fnCuts", apart := false }
def FnCutsSaid : Prop := fnCutsRow.holds Try.pinned (OpenSpec.ofChange fnCutsSpec)

/-- ITS FALSE NEIGHBOUR: 'it returns false'. Refute it at one input. -/
def fnCutsWrong : ChangeSpec := { name := "fnCuts", fn := fun _ => fun
  | [d] => { results := [.lit (.bool false)], args := [d] }
  | _ => none }
def FnCutsWrongFalsely : Prop := fnCutsRow.holds Try.pinned (OpenSpec.ofChange fnCutsWrong)

/-- 'laws.FnGraphs': WHATEVER THE INPUT: true; the input reads as it did. -/
def fnGraphsSpec : ChangeSpec := { name := "fnGraphs", fn := fun _ => fun
  | [d] => { results := [.lit (.bool true)], args := [d] }
  | _ => none }
def fnGraphsRow : OpenClaim := { program := "ytmnbpamaiboghaa", sum := "5777c916bb2683e96734d62e1a9ebe22c34305d17d2b6312aad2607d5ac1e120", func := "loop.example/g00513/laws.FnGraphs", spec := "fnGraphs", unfollowed := true, recurses := true, apart := false }
def FnGraphsSaid : Prop := fnGraphsRow.holds Try.pinned (OpenSpec.ofChange fnGraphsSpec)

/-- ITS FALSE NEIGHBOUR: 'it returns false'. Refute it at one input. -/
def fnGraphsWrong : ChangeSpec := { name := "fnGraphs", fn := fun _ => fun
  | [d] => { results := [.lit (.bool false)], args := [d] }
  | _ => none }
def FnGraphsWrongFalsely : Prop := fnGraphsRow.holds Try.pinned (OpenSpec.ofChange fnGraphsWrong)

/-- 'laws.FnMaxFlow': WHATEVER THE INPUT: true; the input reads as it did. -/
def fnMaxFlowSpec : ChangeSpec := { name := "fnMaxFlow", fn := fun _ => fun
  | [d] => { results := [.lit (.bool true)], args := [d] }
  | _ => none }
def fnMaxFlowRow : OpenClaim := { program := "ytmnbpamaiboghaa", sum := "5777c916bb2683e96734d62e1a9ebe22c34305d17d2b6312aad2607d5ac1e120", func := "loop.example/g00513/laws.FnMaxFlow", spec := "fnMaxFlow", recurses := true, apart := false }
def FnMaxFlowSaid : Prop := fnMaxFlowRow.holds Try.pinned (OpenSpec.ofChange fnMaxFlowSpec)

/-- ITS FALSE NEIGHBOUR: 'it returns false'. Refute it at one input. -/
def fnMaxFlowWrong : ChangeSpec := { name := "fnMaxFlow", fn := fun _ => fun
  | [d] => { results := [.lit (.bool false)], args := [d] }
  | _ => none }
def FnMaxFlowWrongFalsely : Prop := fnMaxFlowRow.holds Try.pinned (OpenSpec.ofChange fnMaxFlowWrong)

/-- 'laws.FnRateControl': WHATEVER THE INPUT: true; the input reads as it did. -/
def fnRateControlSpec : ChangeSpec := { name := "fnRateControl", fn := fun _ => fun
  | [d] => { results := [.lit (.bool true)], args := [d] }
  | _ => none }
def fnRateControlRow : OpenClaim := { program := "ytmnbpamaiboghaa", sum := "5777c916bb2683e96734d62e1a9ebe22c34305d17d2b6312aad2607d5ac1e120", func := "loop.example/g00513/laws.FnRateControl", spec := "fnRateControl", apart := false }
def FnRateControlSaid : Prop := fnRateControlRow.holds Try.pinned (OpenSpec.ofChange fnRateControlSpec)

/-- ITS FALSE NEIGHBOUR: 'it returns false'. Refute it at one input. -/
def fnRateControlWrong : ChangeSpec := { name := "fnRateControl", fn := fun _ => fun
  | [d] => { results := [.lit (.bool false)], args := [d] }
  | _ => none }
def FnRateControlWrongFalsely : Prop := fnRateControlRow.holds Try.pinned (OpenSpec.ofChange fnRateControlWrong)

/-- 'laws.FnGroupKeys': WHATEVER THE INPUT: true; the input reads as it did. -/
def fnGroupKeysSpec : ChangeSpec := { name := "fnGroupKeys", fn := fun _ => fun
  | [d] => { results := [.lit (.bool true)], args := [d] }
  | _ => none }
def fnGroupKeysRow : OpenClaim := { program := "ytmnbpamaiboghaa", sum := "5777c916bb2683e96734d62e1a9ebe22c34305d17d2b6312aad2607d5ac1e120", func := "loop.example/g00513/laws.FnGroupKeys", spec := "fnGroupKeys", apart := false }
def FnGroupKeysSaid : Prop := fnGroupKeysRow.holds Try.pinned (OpenSpec.ofChange fnGroupKeysSpec)

/-- ITS FALSE NEIGHBOUR: 'it returns false'. Refute it at one input. -/
def fnGroupKeysWrong : ChangeSpec := { name := "fnGroupKeys", fn := fun _ => fun
  | [d] => { results := [.lit (.bool false)], args := [d] }
  | _ => none }
def FnGroupKeysWrongFalsely : Prop := fnGroupKeysRow.holds Try.pinned (OpenSpec.ofChange fnGroupKeysWrong)

/- THE SECOND FORM. 'bulk': how many values and letters a reading holds, each counted each time it is reached (what is shared counts as often as it is met; a slice's spare places count too). A statement '..UptoSaid' is the law's where the arguments, and the package variables that the reading takes, are together of bulk at most 1048576: NARROWER than '..Said'. Prove '..Said' where nothing that the law and all that it calls make is longer than what came in: it says more and counts as full. Else prove '..UptoSaid'. A law counts once. -/
mutual
def uptoBulk {H : Type} : DataW H → Nat
  | .lit (.string bytes) => bytes.length + 1
  | .lit _ => 1
  | .nil => 1
  | .ptr d => uptoBulk d + 1
  | .slice elems spare => uptoBulkAll elems + uptoBulkAll spare + 1
  | .agg parts => uptoBulkAll parts + 1
  | .iface _ d => uptoBulk d + 1
  | .map entries => uptoBulkEntries entries + 1
  | .held _ => 1
def uptoBulkAll {H : Type} : List (DataW H) → Nat
  | [] => 0
  | d :: r => uptoBulk d + uptoBulkAll r
def uptoBulkEntries {H : Type} : List (Lit × DataW H) → Nat
  | [] => 0
  | x :: r => uptoBulkEntry x + uptoBulkEntries r
def uptoBulkEntry {H : Type} : Lit × DataW H → Nat
  | (.string bytes, d) => bytes.length + uptoBulk d + 1
  | (_, d) => uptoBulk d + 1
 end
def uptoSmall : (H : Type) → List (DataW H) → Bool := fun _ ds => decide (uptoBulkAll ds ≤ 1048576)
def OpenSpec.upto (s : _root_.Go.ChangeSpec) : _root_.Go.OpenSpec := { _root_.Go.OpenSpec.ofChange s with cond := some uptoSmall }

/-- 'laws.FnExactDecomposeFlow', WHERE WHAT IT READS IS OF BULK AT MOST 1048576: true; the input reads as it did. -/
def fnExactDecomposeFlowUptoRow : OpenClaim := { program := "ytmnbpamaiboghaa", sum := "5777c916bb2683e96734d62e1a9ebe22c34305d17d2b6312aad2607d5ac1e120", func := "loop.example/g00513/laws.FnExactDecomposeFlow", spec := "fnExactDecomposeFlow", unfollowed := true, recurses := true, apart := false, narrowed := true }
def FnExactDecomposeFlowUptoSaid : Prop := fnExactDecomposeFlowUptoRow.holds Try.pinned (OpenSpec.upto fnExactDecomposeFlowSpec)

/-- 'laws.FnExactReachableNodes', WHERE WHAT IT READS IS OF BULK AT MOST 1048576: true; the input reads as it did. -/
def fnExactReachableNodesUptoRow : OpenClaim := { program := "ytmnbpamaiboghaa", sum := "5777c916bb2683e96734d62e1a9ebe22c34305d17d2b6312aad2607d5ac1e120", func := "loop.example/g00513/laws.FnExactReachableNodes", spec := "fnExactReachableNodes", unfollowed := true, recurses := true, apart := false, narrowed := true }
def FnExactReachableNodesUptoSaid : Prop := fnExactReachableNodesUptoRow.holds Try.pinned (OpenSpec.upto fnExactReachableNodesSpec)

/-- 'laws.FnExactMinCut', WHERE WHAT IT READS IS OF BULK AT MOST 1048576: true; the input reads as it did. -/
def fnExactMinCutUptoRow : OpenClaim := { program := "ytmnbpamaiboghaa", sum := "5777c916bb2683e96734d62e1a9ebe22c34305d17d2b6312aad2607d5ac1e120", func := "loop.example/g00513/laws.FnExactMinCut", spec := "fnExactMinCut", recurses := true, apart := false, narrowed := true }
def FnExactMinCutUptoSaid : Prop := fnExactMinCutUptoRow.holds Try.pinned (OpenSpec.upto fnExactMinCutSpec)

/-- 'laws.FnPrices', WHERE WHAT IT READS IS OF BULK AT MOST 1048576: true; the input reads as it did. -/
def fnPricesUptoRow : OpenClaim := { program := "ytmnbpamaiboghaa", sum := "5777c916bb2683e96734d62e1a9ebe22c34305d17d2b6312aad2607d5ac1e120", func := "loop.example/g00513/laws.FnPrices", spec := "fnPrices", unfollowed := true, recurses := true, apart := false, narrowed := true }
def FnPricesUptoSaid : Prop := fnPricesUptoRow.holds Try.pinned (OpenSpec.upto fnPricesSpec)

/-- 'laws.FnCheapestPaths', WHERE WHAT IT READS IS OF BULK AT MOST 1048576: true; the input reads as it did. -/
def fnCheapestPathsUptoRow : OpenClaim := { program := "ytmnbpamaiboghaa", sum := "5777c916bb2683e96734d62e1a9ebe22c34305d17d2b6312aad2607d5ac1e120", func := "loop.example/g00513/laws.FnCheapestPaths", spec := "fnCheapestPaths", unfollowed := true, recurses := true, apart := false, narrowed := true }
def FnCheapestPathsUptoSaid : Prop := fnCheapestPathsUptoRow.holds Try.pinned (OpenSpec.upto fnCheapestPathsSpec)

/-- 'laws.FnCuts', WHERE WHAT IT READS IS OF BULK AT MOST 1048576: true; the input reads as it did. -/
def fnCutsUptoRow : OpenClaim := { program := "ytmnbpamaiboghaa", sum := "5777c916bb2683e96734d62e1a9ebe22c34305d17d2b6312aad2607d5ac1e120", func := "loop.example/g00513/laws.FnCuts", spec := "fnCuts", apart := false, narrowed := true }
def FnCutsUptoSaid : Prop := fnCutsUptoRow.holds Try.pinned (OpenSpec.upto fnCutsSpec)

/-- 'laws.FnGraphs', WHERE WHAT IT READS IS OF BULK AT MOST 1048576: true; the input reads as it did. -/
def fnGraphsUptoRow : OpenClaim := { program := "ytmnbpamaiboghaa", sum := "5777c916bb2683e96734d62e1a9ebe22c34305d17d2b6312aad2607d5ac1e120", func := "loop.example/g00513/laws.FnGraphs", spec := "fnGraphs", unfollowed := true, recurses := true, apart := false, narrowed := true }
def FnGraphsUptoSaid : Prop := fnGraphsUptoRow.holds Try.pinned (OpenSpec.upto fnGraphsSpec)

/-- 'laws.FnMaxFlow', WHERE WHAT IT READS IS OF BULK AT MOST 1048576: true; the input reads as it did. -/
def fnMaxFlowUptoRow : OpenClaim := { program := "ytmnbpamaiboghaa", sum := "5777c916bb2683e96734d62e1a9ebe22c34305d17d2b6312aad2607d5ac1e120", func := "loop.example/g00513/laws.FnMaxFlow", spec := "fnMaxFlow", recurses := true, apart := false, narrowed := true }
def FnMaxFlowUptoSaid : Prop := fnMaxFlowUptoRow.holds Try.pinned (OpenSpec.upto fnMaxFlowSpec)

/-- 'laws.FnRateControl', WHERE WHAT IT READS IS OF BULK AT MOST 1048576: true; the input reads as it did. -/
def fnRateControlUptoRow : OpenClaim := { program := "ytmnbpamaiboghaa", sum := "5777c916bb2683e96734d62e1a9ebe22c34305d17d2b6312aad2607d5ac1e120", func := "loop.example/g00513/laws.FnRateControl", spec := "fnRateControl", apart := false, narrowed := true }
def FnRateControlUptoSaid : Prop := fnRateControlUptoRow.holds Try.pinned (OpenSpec.upto fnRateControlSpec)

/-- 'laws.FnGroupKeys', WHERE WHAT IT READS IS OF BULK AT MOST 1048576: true; the input reads as it did. -/
def fnGroupKeysUptoRow : OpenClaim := { program := "ytmnbpamaiboghaa", sum := "5777c916bb2683e96734d62e1a9ebe22c34305d17d2b6312aad2607d5ac1e120", func := "loop.example/g00513/laws.FnGroupKeys", spec := "fnGroupKeys", apart := false, narrowed := true }
def FnGroupKeysUptoSaid : Prop := fnGroupKeysUptoRow.holds Try.pinned (OpenSpec.upto fnGroupKeysSpec)

end Rows
end Go.Proofs.Ytmnbpamaiboghaa
