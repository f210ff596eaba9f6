/-
  No cell of these rows narrows 'for every input' (looked for: loops, veiled, ifaces, maps, wideKeys, modest, calm, conditions, laid).
  DERIVED. THE GIVEN ROWS OF THIS SEAT. 12 by the template 'for every input the law returns true; each argument reads behind the call as it read before'; 0 by the template 'total and deterministic' (their statements: YtefkjkbipkcncaaTotals.lean).
  GIVEN WITH THE SEED: the statements are not yours to turn. If you find one false, say at which input.
  Laid BY PROGRAM, IN A SANDBOX (cutbox-rows.mjs): the forced cells as the released guide's own fill.sh prints them over the translation 8f5d13e1788512dd… (all of the seat's roots in one cut). By AI agents, Wed Nov 11 2026. No macro, syntax, notation, axiom, sorry.
-/
import Derived.Test.YtefkjkbipkcncaaChecked
import GoSem.Claim
import GoSem.ClaimJoined
import GoSem.ClaimMapViews
import Derived.JoinedTies
import Derived.KernelRfl
namespace Go.Proofs.Ytefkjkbipkcncaa
/- THE CELL 'sum', in the pinned program and in every row, IS THE sha256 OF THE DUMP (.gsa) THAT YtefkjkbipkcncaaProg.lean LOADS. Nothing in Lean hashes anything: it is a label: what it is worth is what the hold of that sum in a sandbox is worth. -/
noncomputable def Try.pinned : Pinned := { name := "ytefkjkbipkcncaa", sum := "8f5d13e1788512dd66d51fab8c9b4360cadaa53b4164546930f5d152ee6240f4", checked := Try.checked }
namespace Rows
def none {H : Type} : Left H := { results := [], args := [] }

/-- 'laws.FnExactCountProofs': WHATEVER THE INPUT: true; the input reads as it did. -/
def fnExactCountProofsSpec : ChangeSpec := { name := "fnExactCountProofs", fn := fun _ => fun
  | [d1, d2] => { results := [.lit (.bool true)], args := [d1, d2] }
  | _ => none }
def fnExactCountProofsRow : OpenClaim := { program := "ytefkjkbipkcncaa", sum := "8f5d13e1788512dd66d51fab8c9b4360cadaa53b4164546930f5d152ee6240f4", func := "loop.example/g00513/laws.FnExactCountProofs", spec := "fnExactCountProofs", apart := false }
def FnExactCountProofsSaid : Prop := fnExactCountProofsRow.holds Try.pinned (OpenSpec.ofChange fnExactCountProofsSpec)

/-- ITS FALSE NEIGHBOUR: 'it returns false'. Refute it at one input. -/
def fnExactCountProofsWrong : ChangeSpec := { name := "fnExactCountProofs", fn := fun _ => fun
  | [d1, d2] => { results := [.lit (.bool false)], args := [d1, d2] }
  | _ => none }
def FnExactCountProofsWrongFalsely : Prop := fnExactCountProofsRow.holds Try.pinned (OpenSpec.ofChange fnExactCountProofsWrong)

/-- 'laws.FnExactIsExpelled': WHATEVER THE INPUT: true; the input reads as it did. -/
def fnExactIsExpelledSpec : ChangeSpec := { name := "fnExactIsExpelled", fn := fun _ => fun
  | [d1, d2] => { results := [.lit (.bool true)], args := [d1, d2] }
  | _ => none }
def fnExactIsExpelledRow : OpenClaim := { program := "ytefkjkbipkcncaa", sum := "8f5d13e1788512dd66d51fab8c9b4360cadaa53b4164546930f5d152ee6240f4", func := "loop.example/g00513/laws.FnExactIsExpelled", spec := "fnExactIsExpelled", apart := false }
def FnExactIsExpelledSaid : Prop := fnExactIsExpelledRow.holds Try.pinned (OpenSpec.ofChange fnExactIsExpelledSpec)

/-- ITS FALSE NEIGHBOUR: 'it returns false'. Refute it at one input. -/
def fnExactIsExpelledWrong : ChangeSpec := { name := "fnExactIsExpelled", fn := fun _ => fun
  | [d1, d2] => { results := [.lit (.bool false)], args := [d1, d2] }
  | _ => none }
def FnExactIsExpelledWrongFalsely : Prop := fnExactIsExpelledRow.holds Try.pinned (OpenSpec.ofChange fnExactIsExpelledWrong)

/-- 'laws.FnExactEqualLedgers': WHATEVER THE INPUT: true; the input reads as it did. -/
def fnExactEqualLedgersSpec : ChangeSpec := { name := "fnExactEqualLedgers", fn := fun _ => fun
  | [d1, d2] => { results := [.lit (.bool true)], args := [d1, d2] }
  | _ => none }
def fnExactEqualLedgersRow : OpenClaim := { program := "ytefkjkbipkcncaa", sum := "8f5d13e1788512dd66d51fab8c9b4360cadaa53b4164546930f5d152ee6240f4", func := "loop.example/g00513/laws.FnExactEqualLedgers", spec := "fnExactEqualLedgers", apart := false }
def FnExactEqualLedgersSaid : Prop := fnExactEqualLedgersRow.holds Try.pinned (OpenSpec.ofChange fnExactEqualLedgersSpec)

/-- ITS FALSE NEIGHBOUR: 'it returns false'. Refute it at one input. -/
def fnExactEqualLedgersWrong : ChangeSpec := { name := "fnExactEqualLedgers", fn := fun _ => fun
  | [d1, d2] => { results := [.lit (.bool false)], args := [d1, d2] }
  | _ => none }
def FnExactEqualLedgersWrongFalsely : Prop := fnExactEqualLedgersRow.holds Try.pinned (OpenSpec.ofChange fnExactEqualLedgersWrong)

/-- 'laws.FnExactIsOverloaded': WHATEVER THE INPUT: true; the input reads as it did. -/
def fnExactIsOverloadedSpec : ChangeSpec := { name := "fnExactIsOverloaded", fn := fun _ => fun
  | [d1, d2] => { results := [.lit (.bool true)], args := [d1, d2] }
  | _ => none }
def fnExactIsOverloadedRow : OpenClaim := { program := "ytefkjkbipkcncaa", sum := "8f5d13e1788512dd66d51fab8c9b4360cadaa53b4164546930f5d152ee6240f4", func := "loop.example/g00513/laws.FnExactIsOverloaded", spec := "fnExactIsOverloaded", apart := false }
def FnExactIsOverloadedSaid : Prop := fnExactIsOverloadedRow.holds Try.pinned (OpenSpec.ofChange fnExactIsOverloadedSpec)

/-- ITS FALSE NEIGHBOUR: 'it returns false'. Refute it at one input. -/
def fnExactIsOverloadedWrong : ChangeSpec := { name := "fnExactIsOverloaded", fn := fun _ => fun
  | [d1, d2] => { results := [.lit (.bool false)], args := [d1, d2] }
  | _ => none }
def FnExactIsOverloadedWrongFalsely : Prop := fnExactIsOverloadedRow.holds Try.pinned (OpenSpec.ofChange fnExactIsOverloadedWrong)

/-- 'laws.FnExactCutCapacity': WHATEVER THE INPUT: true; the input reads as it did. -/
def fnExactCutCapacitySpec : ChangeSpec := { name := "fnExactCutCapacity", fn := fun _ => fun
  | [d1, d2] => { results := [.lit (.bool true)], args := [d1, d2] }
  | _ => none }
def fnExactCutCapacityRow : OpenClaim := { program := "ytefkjkbipkcncaa", sum := "8f5d13e1788512dd66d51fab8c9b4360cadaa53b4164546930f5d152ee6240f4", func := "loop.example/g00513/laws.FnExactCutCapacity", spec := "fnExactCutCapacity", apart := false }
def FnExactCutCapacitySaid : Prop := fnExactCutCapacityRow.holds Try.pinned (OpenSpec.ofChange fnExactCutCapacitySpec)

/-- ITS FALSE NEIGHBOUR: 'it returns false'. Refute it at one input. -/
def fnExactCutCapacityWrong : ChangeSpec := { name := "fnExactCutCapacity", fn := fun _ => fun
  | [d1, d2] => { results := [.lit (.bool false)], args := [d1, d2] }
  | _ => none }
def FnExactCutCapacityWrongFalsely : Prop := fnExactCutCapacityRow.holds Try.pinned (OpenSpec.ofChange fnExactCutCapacityWrong)

/-- 'laws.FnExactNewPrices': WHATEVER THE INPUT: true; the input reads as it did. -/
def fnExactNewPricesSpec : ChangeSpec := { name := "fnExactNewPrices", fn := fun _ => fun
  | [d] => { results := [.lit (.bool true)], args := [d] }
  | _ => none }
def fnExactNewPricesRow : OpenClaim := { program := "ytefkjkbipkcncaa", sum := "8f5d13e1788512dd66d51fab8c9b4360cadaa53b4164546930f5d152ee6240f4", func := "loop.example/g00513/laws.FnExactNewPrices", spec := "fnExactNewPrices", apart := false }
def FnExactNewPricesSaid : Prop := fnExactNewPricesRow.holds Try.pinned (OpenSpec.ofChange fnExactNewPricesSpec)

/-- ITS FALSE NEIGHBOUR: 'it returns false'. Refute it at one input. -/
def fnExactNewPricesWrong : ChangeSpec := { name := "fnExactNewPrices", fn := fun _ => fun
  | [d] => { results := [.lit (.bool false)], args := [d] }
  | _ => none }
def FnExactNewPricesWrongFalsely : Prop := fnExactNewPricesRow.holds Try.pinned (OpenSpec.ofChange fnExactNewPricesWrong)

/-- 'laws.FnExactFlowValue': WHATEVER THE INPUT: true; the input reads as it did. -/
def fnExactFlowValueSpec : ChangeSpec := { name := "fnExactFlowValue", fn := fun _ => fun
  | [d1, d2, d3] => { results := [.lit (.bool true)], args := [d1, d2, d3] }
  | _ => none }
def fnExactFlowValueRow : OpenClaim := { program := "ytefkjkbipkcncaa", sum := "8f5d13e1788512dd66d51fab8c9b4360cadaa53b4164546930f5d152ee6240f4", func := "loop.example/g00513/laws.FnExactFlowValue", spec := "fnExactFlowValue", apart := false }
def FnExactFlowValueSaid : Prop := fnExactFlowValueRow.holds Try.pinned (OpenSpec.ofChange fnExactFlowValueSpec)

/-- ITS FALSE NEIGHBOUR: 'it returns false'. Refute it at one input. -/
def fnExactFlowValueWrong : ChangeSpec := { name := "fnExactFlowValue", fn := fun _ => fun
  | [d1, d2, d3] => { results := [.lit (.bool false)], args := [d1, d2, d3] }
  | _ => none }
def FnExactFlowValueWrongFalsely : Prop := fnExactFlowValueRow.holds Try.pinned (OpenSpec.ofChange fnExactFlowValueWrong)

/-- 'laws.FnExactUpdatePrices': WHATEVER THE INPUT: true; the input reads as it did. -/
def fnExactUpdatePricesSpec : ChangeSpec := { name := "fnExactUpdatePrices", fn := fun _ => fun
  | [d1, d2, d3] => { results := [.lit (.bool true)], args := [d1, d2, d3] }
  | _ => none }
def fnExactUpdatePricesRow : OpenClaim := { program := "ytefkjkbipkcncaa", sum := "8f5d13e1788512dd66d51fab8c9b4360cadaa53b4164546930f5d152ee6240f4", func := "loop.example/g00513/laws.FnExactUpdatePrices", spec := "fnExactUpdatePrices", unfollowed := true, recurses := true, apart := false }
def FnExactUpdatePricesSaid : Prop := fnExactUpdatePricesRow.holds Try.pinned (OpenSpec.ofChange fnExactUpdatePricesSpec)

/-- ITS FALSE NEIGHBOUR: 'it returns false'. Refute it at one input. -/
def fnExactUpdatePricesWrong : ChangeSpec := { name := "fnExactUpdatePrices", fn := fun _ => fun
  | [d1, d2, d3] => { results := [.lit (.bool false)], args := [d1, d2, d3] }
  | _ => none }
def FnExactUpdatePricesWrongFalsely : Prop := fnExactUpdatePricesRow.holds Try.pinned (OpenSpec.ofChange fnExactUpdatePricesWrong)

/-- 'laws.FnExactIsPath': WHATEVER THE INPUT: true; the input reads as it did. -/
def fnExactIsPathSpec : ChangeSpec := { name := "fnExactIsPath", fn := fun _ => fun
  | [d1, d2] => { results := [.lit (.bool true)], args := [d1, d2] }
  | _ => none }
def fnExactIsPathRow : OpenClaim := { program := "ytefkjkbipkcncaa", sum := "8f5d13e1788512dd66d51fab8c9b4360cadaa53b4164546930f5d152ee6240f4", func := "loop.example/g00513/laws.FnExactIsPath", spec := "fnExactIsPath", unfollowed := true, recurses := true, apart := false }
def FnExactIsPathSaid : Prop := fnExactIsPathRow.holds Try.pinned (OpenSpec.ofChange fnExactIsPathSpec)

/-- ITS FALSE NEIGHBOUR: 'it returns false'. Refute it at one input. -/
def fnExactIsPathWrong : ChangeSpec := { name := "fnExactIsPath", fn := fun _ => fun
  | [d1, d2] => { results := [.lit (.bool false)], args := [d1, d2] }
  | _ => none }
def FnExactIsPathWrongFalsely : Prop := fnExactIsPathRow.holds Try.pinned (OpenSpec.ofChange fnExactIsPathWrong)

/-- 'laws.FnExactPathCapacity': WHATEVER THE INPUT: true; the input reads as it did. -/
def fnExactPathCapacitySpec : ChangeSpec := { name := "fnExactPathCapacity", fn := fun _ => fun
  | [d1, d2] => { results := [.lit (.bool true)], args := [d1, d2] }
  | _ => none }
def fnExactPathCapacityRow : OpenClaim := { program := "ytefkjkbipkcncaa", sum := "8f5d13e1788512dd66d51fab8c9b4360cadaa53b4164546930f5d152ee6240f4", func := "loop.example/g00513/laws.FnExactPathCapacity", spec := "fnExactPathCapacity", unfollowed := true, recurses := true, apart := false }
def FnExactPathCapacitySaid : Prop := fnExactPathCapacityRow.holds Try.pinned (OpenSpec.ofChange fnExactPathCapacitySpec)

/-- ITS FALSE NEIGHBOUR: 'it returns false'. Refute it at one input. -/
def fnExactPathCapacityWrong : ChangeSpec := { name := "fnExactPathCapacity", fn := fun _ => fun
  | [d1, d2] => { results := [.lit (.bool false)], args := [d1, d2] }
  | _ => none }
def FnExactPathCapacityWrongFalsely : Prop := fnExactPathCapacityRow.holds Try.pinned (OpenSpec.ofChange fnExactPathCapacityWrong)

/-- 'laws.FnExactPathPrice': WHATEVER THE INPUT: true; the input reads as it did. -/
def fnExactPathPriceSpec : ChangeSpec := { name := "fnExactPathPrice", fn := fun _ => fun
  | [d1, d2, d3] => { results := [.lit (.bool true)], args := [d1, d2, d3] }
  | _ => none }
def fnExactPathPriceRow : OpenClaim := { program := "ytefkjkbipkcncaa", sum := "8f5d13e1788512dd66d51fab8c9b4360cadaa53b4164546930f5d152ee6240f4", func := "loop.example/g00513/laws.FnExactPathPrice", spec := "fnExactPathPrice", unfollowed := true, recurses := true, apart := false }
def FnExactPathPriceSaid : Prop := fnExactPathPriceRow.holds Try.pinned (OpenSpec.ofChange fnExactPathPriceSpec)

/-- ITS FALSE NEIGHBOUR: 'it returns false'. Refute it at one input. -/
def fnExactPathPriceWrong : ChangeSpec := { name := "fnExactPathPrice", fn := fun _ => fun
  | [d1, d2, d3] => { results := [.lit (.bool false)], args := [d1, d2, d3] }
  | _ => none }
def FnExactPathPriceWrongFalsely : Prop := fnExactPathPriceRow.holds Try.pinned (OpenSpec.ofChange fnExactPathPriceWrong)

/-- 'laws.FnExactEdgeLoads': WHATEVER THE INPUT: true; the input reads as it did. -/
def fnExactEdgeLoadsSpec : ChangeSpec := { name := "fnExactEdgeLoads", fn := fun _ => fun
  | [d1, d2, d3] => { results := [.lit (.bool true)], args := [d1, d2, d3] }
  | _ => none }
def fnExactEdgeLoadsRow : OpenClaim := { program := "ytefkjkbipkcncaa", sum := "8f5d13e1788512dd66d51fab8c9b4360cadaa53b4164546930f5d152ee6240f4", func := "loop.example/g00513/laws.FnExactEdgeLoads", spec := "fnExactEdgeLoads", unfollowed := true, recurses := true, apart := false }
def FnExactEdgeLoadsSaid : Prop := fnExactEdgeLoadsRow.holds Try.pinned (OpenSpec.ofChange fnExactEdgeLoadsSpec)

/-- ITS FALSE NEIGHBOUR: 'it returns false'. Refute it at one input. -/
def fnExactEdgeLoadsWrong : ChangeSpec := { name := "fnExactEdgeLoads", fn := fun _ => fun
  | [d1, d2, d3] => { results := [.lit (.bool false)], args := [d1, d2, d3] }
  | _ => none }
def FnExactEdgeLoadsWrongFalsely : Prop := fnExactEdgeLoadsRow.holds Try.pinned (OpenSpec.ofChange fnExactEdgeLoadsWrong)

/- THE SECOND FORM. 'bulk': how many values and letters a reading holds, each counted each time it is reached (what is shared counts as often as it is met; a slice's spare places count too). A statement '..UptoSaid' is the law's where the arguments, and the package variables that the reading takes, are together of bulk at most 1048576: NARROWER than '..Said'. Prove '..Said' where nothing that the law and all that it calls make is longer than what came in: it says more and counts as full. Else prove '..UptoSaid'. A law counts once. -/
mutual
def uptoBulk {H : Type} : DataW H → Nat
  | .lit (.string bytes) => bytes.length + 1
  | .lit _ => 1
  | .nil => 1
  | .ptr d => uptoBulk d + 1
  | .slice elems spare => uptoBulkAll elems + uptoBulkAll spare + 1
  | .agg parts => uptoBulkAll parts + 1
  | .iface _ d => uptoBulk d + 1
  | .map entries => uptoBulkEntries entries + 1
  | .held _ => 1
def uptoBulkAll {H : Type} : List (DataW H) → Nat
  | [] => 0
  | d :: r => uptoBulk d + uptoBulkAll r
def uptoBulkEntries {H : Type} : List (Lit × DataW H) → Nat
  | [] => 0
  | x :: r => uptoBulkEntry x + uptoBulkEntries r
def uptoBulkEntry {H : Type} : Lit × DataW H → Nat
  | (.string bytes, d) => bytes.length + uptoBulk d + 1
  | (_, d) => uptoBulk d + 1
 end
def uptoSmall : (H : Type) → List (DataW H) → Bool := fun _ ds => decide (uptoBulkAll ds ≤ 1048576)
def OpenSpec.upto (s : _root_.Go.ChangeSpec) : _root_.Go.OpenSpec := { _root_.Go.OpenSpec.ofChange s with cond := some uptoSmall }

/-- 'laws.FnExactCountProofs', WHERE WHAT IT READS IS OF BULK AT MOST 1048576: true; the input reads as it did. -/
def fnExactCountProofsUptoRow : OpenClaim := { program := "ytefkjkbipkcncaa", sum := "8f5d13e1788512dd66d51fab8c9b4360cadaa53b4164546930f5d152ee6240f4", func := "loop.example/g00513/laws.FnExactCountProofs", spec := "fnExactCountProofs", apart := false, narrowed := true }
def FnExactCountProofsUptoSaid : Prop := fnExactCountProofsUptoRow.holds Try.pinned (OpenSpec.upto fnExactCountProofsSpec)

/-- 'laws.FnExactIsExpelled', WHERE WHAT IT READS IS OF BULK AT MOST 1048576: true; the input reads as it did. -/
def fnExactIsExpelledUptoRow : OpenClaim := { program := "ytefkjkbipkcncaa", sum := "8f5d13e1788512dd66d51fab8c9b4360cadaa53b4164546930f5d152ee6240f4", func := "loop.example/g00513/laws.FnExactIsExpelled", spec := "fnExactIsExpelled", apart := false, narrowed := true }
def FnExactIsExpelledUptoSaid : Prop := fnExactIsExpelledUptoRow.holds Try.pinned (OpenSpec.upto fnExactIsExpelledSpec)

/-- 'laws.FnExactEqualLedgers', WHERE WHAT IT READS IS OF BULK AT MOST 1048576: true; the input reads as it did. -/
def fnExactEqualLedgersUptoRow : OpenClaim := { program := "ytefkjkbipkcncaa", sum := "8f5d13e1788512dd66d51fab8c9b4360cadaa53b4164546930f5d152ee6240f4", func := "loop.example/g00513/laws.FnExactEqualLedgers", spec := "fnExactEqualLedgers", apart := false, narrowed := true }
def FnExactEqualLedgersUptoSaid : Prop := fnExactEqualLedgersUptoRow.holds Try.pinned (OpenSpec.upto fnExactEqualLedgersSpec)

/-- 'laws.FnExactIsOverloaded', WHERE WHAT IT READS IS OF BULK AT MOST 1048576: true; the input reads as it did. -/
def fnExactIsOverloadedUptoRow : OpenClaim := { program := "ytefkjkbipkcncaa", sum := "8f5d13e1788512dd66d51fab8c9b4360cadaa53b4164546930f5d152ee6240f4", func := "loop.example/g00513/laws.FnExactIsOverloaded", spec := "fnExactIsOverloaded", apart := false, narrowed := true }
def FnExactIsOverloadedUptoSaid : Prop := fnExactIsOverloadedUptoRow.holds Try.pinned (OpenSpec.upto fnExactIsOverloadedSpec)

/-- 'laws.FnExactCutCapacity', WHERE WHAT IT READS IS OF BULK AT MOST 1048576: true; the input reads as it did. -/
def fnExactCutCapacityUptoRow : OpenClaim := { program := "ytefkjkbipkcncaa", sum := "8f5d13e1788512dd66d51fab8c9b4360cadaa53b4164546930f5d152ee6240f4", func := "loop.example/g00513/laws.FnExactCutCapacity", spec := "fnExactCutCapacity", apart := false, narrowed := true }
def FnExactCutCapacityUptoSaid : Prop := fnExactCutCapacityUptoRow.holds Try.pinned (OpenSpec.upto fnExactCutCapacitySpec)

/-- 'laws.FnExactNewPrices', WHERE WHAT IT READS IS OF BULK AT MOST 1048576: true; the input reads as it did. -/
def fnExactNewPricesUptoRow : OpenClaim := { program := "ytefkjkbipkcncaa", sum := "8f5d13e1788512dd66d51fab8c9b4360cadaa53b4164546930f5d152ee6240f4", func := "loop.example/g00513/laws.FnExactNewPrices", spec := "fnExactNewPrices", apart := false, narrowed := true }
def FnExactNewPricesUptoSaid : Prop := fnExactNewPricesUptoRow.holds Try.pinned (OpenSpec.upto fnExactNewPricesSpec)

/-- 'laws.FnExactFlowValue', WHERE WHAT IT READS IS OF BULK AT MOST 1048576: true; the input reads as it did. -/
def fnExactFlowValueUptoRow : OpenClaim := { program := "ytefkjkbipkcncaa", sum := "8f5d13e1788512dd66d51fab8c9b4360cadaa53b4164546930f5d152ee6240f4", func := "loop.example/g00513/laws.FnExactFlowValue", spec := "fnExactFlowValue", apart := false, narrowed := true }
def FnExactFlowValueUptoSaid : Prop := fnExactFlowValueUptoRow.holds Try.pinned (OpenSpec.upto fnExactFlowValueSpec)

/-- 'laws.FnExactUpdatePrices', WHERE WHAT IT READS IS OF BULK AT MOST 1048576: true; the input reads as it did. -/
def fnExactUpdatePricesUptoRow : OpenClaim := { program := "ytefkjkbipkcncaa", sum := "8f5d13e1788512dd66d51fab8c9b4360cadaa53b4164546930f5d152ee6240f4", func := "loop.example/g00513/laws.FnExactUpdatePrices", spec := "fnExactUpdatePrices", unfollowed := true, recurses := true, apart := false, narrowed := true }
def FnExactUpdatePricesUptoSaid : Prop := fnExactUpdatePricesUptoRow.holds Try.pinned (OpenSpec.upto fnExactUpdatePricesSpec)

/-- 'laws.FnExactIsPath', WHERE WHAT IT READS IS OF BULK AT MOST 1048576: true; the input reads as it did. -/
def fnExactIsPathUptoRow : OpenClaim := { program := "ytefkjkbipkcncaa", sum := "8f5d13e1788512dd66d51fab8c9b4360cadaa53b4164546930f5d152ee6240f4", func := "loop.example/g00513/laws.FnExactIsPath", spec := "fnExactIsPath", unfollowed := true, recurses := true, apart := false, narrowed := true }
def FnExactIsPathUptoSaid : Prop := fnExactIsPathUptoRow.holds Try.pinned (OpenSpec.upto fnExactIsPathSpec)

/-- 'laws.FnExactPathCapacity', WHERE WHAT IT READS IS OF BULK AT MOST 1048576: true; the input reads as it did. -/
def fnExactPathCapacityUptoRow : OpenClaim := { program := "ytefkjkbipkcncaa", sum := "8f5d13e1788512dd66d51fab8c9b4360cadaa53b4164546930f5d152ee6240f4", func := "loop.example/g00513/laws.FnExactPathCapacity", spec := "fnExactPathCapacity", unfollowed := true, recurses := true, apart := false, narrowed := true }
def FnExactPathCapacityUptoSaid : Prop := fnExactPathCapacityUptoRow.holds Try.pinned (OpenSpec.upto fnExactPathCapacitySpec)

/-- 'laws.FnExactPathPrice', WHERE WHAT IT READS IS OF BULK AT MOST 1048576: true; the input reads as it did. -/
def fnExactPathPriceUptoRow : OpenClaim := { program := "ytefkjkbipkcncaa", sum := "8f5d13e1788512dd66d51fab8c9b4360cadaa53b4164546930f5d152ee6240f4", func := "loop.example/g00513/laws.FnExactPathPrice", spec := "fnExactPathPrice", unfollowed := true, recurses := true, apart := false, narrowed := true }
def FnExactPathPriceUptoSaid : Prop := fnExactPathPriceUptoRow.holds Try.pinned (OpenSpec.upto fnExactPathPriceSpec)

/-- 'laws.FnExactEdgeLoads', WHERE WHAT IT READS IS OF BULK AT MOST 1048576: true; the input reads as it did. -/
def fnExactEdgeLoadsUptoRow : OpenClaim := { program := "ytefkjkbipkcncaa", sum := "8f5d13e1788512dd66d51fab8c9b4360cadaa53b4164546930f5d152ee6240f4", func := "loop.example/g00513/laws.FnExactEdgeLoads", spec := "fnExactEdgeLoads", unfollowed := true, recurses := true, apart := false, narrowed := true }
def FnExactEdgeLoadsUptoSaid : Prop := fnExactEdgeLoadsUptoRow.holds Try.pinned (OpenSpec.upto fnExactEdgeLoadsSpec)

end Rows
end Go.Proofs.Ytefkjkbipkcncaa
