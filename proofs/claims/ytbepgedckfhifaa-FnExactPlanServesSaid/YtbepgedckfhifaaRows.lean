/-
  No cell of these rows narrows 'for every input' (looked for: loops, veiled, ifaces, maps, wideKeys, modest, calm, conditions, laid).
  DERIVED. THE GIVEN ROWS OF THIS SEAT. 4 by the template 'for every input the law returns true; each argument reads behind the call as it read before'; 0 by the template 'total and deterministic' (their statements: YtbepgedckfhifaaTotals.lean).
  GIVEN WITH THE SEED: the statements are not yours to turn. If you find one false, say at which input.
  Laid BY PROGRAM, IN A SANDBOX (cutbox-rows.mjs): the forced cells as the released guide's own fill.sh prints them over the translation 0340eac9ada3217c… (all of the seat's roots in one cut). By AI agents, Wed Nov 11 2026. No macro, syntax, notation, axiom, sorry.
-/
import Derived.Test.YtbepgedckfhifaaChecked
import GoSem.Claim
import GoSem.ClaimJoined
import GoSem.ClaimMapViews
import Derived.JoinedTies
import Derived.KernelRfl
namespace Go.Proofs.Ytbepgedckfhifaa
/- THE CELL 'sum', in the pinned program and in every row, IS THE sha256 OF THE DUMP (.gsa) THAT YtbepgedckfhifaaProg.lean LOADS. Nothing in Lean hashes anything: it is a label: what it is worth is what the hold of that sum in a sandbox is worth. -/
noncomputable def Try.pinned : Pinned := { name := "ytbepgedckfhifaa", sum := "0340eac9ada3217c2854fb4dfe0bbc2254903660d4d83adea232407e01395b61", checked := Try.checked }
namespace Rows
def none {H : Type} : Left H := { results := [], args := [] }

/-- 'laws.FnExactEdgePackets': WHATEVER THE INPUT: true; the input reads as it did. -/
def fnExactEdgePacketsSpec : ChangeSpec := { name := "fnExactEdgePackets", fn := fun _ => fun
  | [d1, d2, d3, d4] => { results := [.lit (.bool true)], args := [d1, d2, d3, d4] }
  | _ => none }
def fnExactEdgePacketsRow : OpenClaim := { program := "ytbepgedckfhifaa", sum := "0340eac9ada3217c2854fb4dfe0bbc2254903660d4d83adea232407e01395b61", func := "loop.example/g00513/laws.FnExactEdgePackets", spec := "fnExactEdgePackets", apart := false }
def FnExactEdgePacketsSaid : Prop := fnExactEdgePacketsRow.holds Try.pinned (OpenSpec.ofChange fnExactEdgePacketsSpec)

/-- ITS FALSE NEIGHBOUR: 'it returns false'. Refute it at one input. -/
def fnExactEdgePacketsWrong : ChangeSpec := { name := "fnExactEdgePackets", fn := fun _ => fun
  | [d1, d2, d3, d4] => { results := [.lit (.bool false)], args := [d1, d2, d3, d4] }
  | _ => none }
def FnExactEdgePacketsWrongFalsely : Prop := fnExactEdgePacketsRow.holds Try.pinned (OpenSpec.ofChange fnExactEdgePacketsWrong)

/-- 'laws.FnExactMakePlan': WHATEVER THE INPUT: true; the input reads as it did. -/
def fnExactMakePlanSpec : ChangeSpec := { name := "fnExactMakePlan", fn := fun _ => fun
  | [d1, d2, d3, d4] => { results := [.lit (.bool true)], args := [d1, d2, d3, d4] }
  | _ => none }
def fnExactMakePlanRow : OpenClaim := { program := "ytbepgedckfhifaa", sum := "0340eac9ada3217c2854fb4dfe0bbc2254903660d4d83adea232407e01395b61", func := "loop.example/g00513/laws.FnExactMakePlan", spec := "fnExactMakePlan", unfollowed := true, recurses := true, apart := false }
def FnExactMakePlanSaid : Prop := fnExactMakePlanRow.holds Try.pinned (OpenSpec.ofChange fnExactMakePlanSpec)

/-- ITS FALSE NEIGHBOUR: 'it returns false'. Refute it at one input. -/
def fnExactMakePlanWrong : ChangeSpec := { name := "fnExactMakePlan", fn := fun _ => fun
  | [d1, d2, d3, d4] => { results := [.lit (.bool false)], args := [d1, d2, d3, d4] }
  | _ => none }
def FnExactMakePlanWrongFalsely : Prop := fnExactMakePlanRow.holds Try.pinned (OpenSpec.ofChange fnExactMakePlanWrong)

/-- 'laws.FnExactNodeRank': WHATEVER THE INPUT: true; the input reads as it did. -/
def fnExactNodeRankSpec : ChangeSpec := { name := "fnExactNodeRank", fn := fun _ => fun
  | [d1, d2, d3] => { results := [.lit (.bool true)], args := [d1, d2, d3] }
  | _ => none }
def fnExactNodeRankRow : OpenClaim := { program := "ytbepgedckfhifaa", sum := "0340eac9ada3217c2854fb4dfe0bbc2254903660d4d83adea232407e01395b61", func := "loop.example/g00513/laws.FnExactNodeRank", spec := "fnExactNodeRank", inPlace := ["slices.overlaps[[]int]"], unfollowed := true, recurses := true, apart := false }
def FnExactNodeRankSaid : Prop := fnExactNodeRankRow.holds Try.pinned (OpenSpec.ofChange fnExactNodeRankSpec)

/-- ITS FALSE NEIGHBOUR: 'it returns false'. Refute it at one input. -/
def fnExactNodeRankWrong : ChangeSpec := { name := "fnExactNodeRank", fn := fun _ => fun
  | [d1, d2, d3] => { results := [.lit (.bool false)], args := [d1, d2, d3] }
  | _ => none }
def FnExactNodeRankWrongFalsely : Prop := fnExactNodeRankRow.holds Try.pinned (OpenSpec.ofChange fnExactNodeRankWrong)

/-- 'laws.FnExactPlanServes': WHATEVER THE INPUT: true; the input reads as it did. -/
def fnExactPlanServesSpec : ChangeSpec := { name := "fnExactPlanServes", fn := fun _ => fun
  | [d1, d2, d3] => { results := [.lit (.bool true)], args := [d1, d2, d3] }
  | _ => none }
def fnExactPlanServesRow : OpenClaim := { program := "ytbepgedckfhifaa", sum := "0340eac9ada3217c2854fb4dfe0bbc2254903660d4d83adea232407e01395b61", func := "loop.example/g00513/laws.FnExactPlanServes", spec := "fnExactPlanServes", inPlace := ["slices.overlaps[[]int]"], unfollowed := true, recurses := true, apart := false }
def FnExactPlanServesSaid : Prop := fnExactPlanServesRow.holds Try.pinned (OpenSpec.ofChange fnExactPlanServesSpec)

/-- ITS FALSE NEIGHBOUR: 'it returns false'. Refute it at one input. -/
def fnExactPlanServesWrong : ChangeSpec := { name := "fnExactPlanServes", fn := fun _ => fun
  | [d1, d2, d3] => { results := [.lit (.bool false)], args := [d1, d2, d3] }
  | _ => none }
def FnExactPlanServesWrongFalsely : Prop := fnExactPlanServesRow.holds Try.pinned (OpenSpec.ofChange fnExactPlanServesWrong)

/- THE SECOND FORM. 'bulk': how many values and letters a reading holds, each counted each time it is reached (what is shared counts as often as it is met; a slice's spare places count too). A statement '..UptoSaid' is the law's where the arguments, and the package variables that the reading takes, are together of bulk at most 1048576: NARROWER than '..Said'. Prove '..Said' where nothing that the law and all that it calls make is longer than what came in: it says more and counts as full. Else prove '..UptoSaid'. A law counts once. -/
mutual
def uptoBulk {H : Type} : DataW H → Nat
  | .lit (.string bytes) => bytes.length + 1
  | .lit _ => 1
  | .nil => 1
  | .ptr d => uptoBulk d + 1
  | .slice elems spare => uptoBulkAll elems + uptoBulkAll spare + 1
  | .agg parts => uptoBulkAll parts + 1
  | .iface _ d => uptoBulk d + 1
  | .map entries => uptoBulkEntries entries + 1
  | .held _ => 1
def uptoBulkAll {H : Type} : List (DataW H) → Nat
  | [] => 0
  | d :: r => uptoBulk d + uptoBulkAll r
def uptoBulkEntries {H : Type} : List (Lit × DataW H) → Nat
  | [] => 0
  | x :: r => uptoBulkEntry x + uptoBulkEntries r
def uptoBulkEntry {H : Type} : Lit × DataW H → Nat
  | (.string bytes, d) => bytes.length + uptoBulk d + 1
  | (_, d) => uptoBulk d + 1
 end
def uptoSmall : (H : Type) → List (DataW H) → Bool := fun _ ds => decide (uptoBulkAll ds ≤ 1048576)
def OpenSpec.upto (s : _root_.Go.ChangeSpec) : _root_.Go.OpenSpec := { _root_.Go.OpenSpec.ofChange s with cond := some uptoSmall }

/-- 'laws.FnExactEdgePackets', WHERE WHAT IT READS IS OF BULK AT MOST 1048576: true; the input reads as it did. -/
def fnExactEdgePacketsUptoRow : OpenClaim := { program := "ytbepgedckfhifaa", sum := "0340eac9ada3217c2854fb4dfe0bbc2254903660d4d83adea232407e01395b61", func := "loop.example/g00513/laws.FnExactEdgePackets", spec := "fnExactEdgePackets", apart := false, narrowed := true }
def FnExactEdgePacketsUptoSaid : Prop := fnExactEdgePacketsUptoRow.holds Try.pinned (OpenSpec.upto fnExactEdgePacketsSpec)

/-- 'laws.FnExactMakePlan', WHERE WHAT IT READS IS OF BULK AT MOST 1048576: true; the input reads as it did. -/
def fnExactMakePlanUptoRow : OpenClaim := { program := "ytbepgedckfhifaa", sum := "0340eac9ada3217c2854fb4dfe0bbc2254903660d4d83adea232407e01395b61", func := "loop.example/g00513/laws.FnExactMakePlan", spec := "fnExactMakePlan", unfollowed := true, recurses := true, apart := false, narrowed := true }
def FnExactMakePlanUptoSaid : Prop := fnExactMakePlanUptoRow.holds Try.pinned (OpenSpec.upto fnExactMakePlanSpec)

/-- 'laws.FnExactNodeRank', WHERE WHAT IT READS IS OF BULK AT MOST 1048576: true; the input reads as it did. -/
def fnExactNodeRankUptoRow : OpenClaim := { program := "ytbepgedckfhifaa", sum := "0340eac9ada3217c2854fb4dfe0bbc2254903660d4d83adea232407e01395b61", func := "loop.example/g00513/laws.FnExactNodeRank", spec := "fnExactNodeRank", inPlace := ["slices.overlaps[[]int]"], unfollowed := true, recurses := true, apart := false, narrowed := true }
def FnExactNodeRankUptoSaid : Prop := fnExactNodeRankUptoRow.holds Try.pinned (OpenSpec.upto fnExactNodeRankSpec)

/-- 'laws.FnExactPlanServes', WHERE WHAT IT READS IS OF BULK AT MOST 1048576: true; the input reads as it did. -/
def fnExactPlanServesUptoRow : OpenClaim := { program := "ytbepgedckfhifaa", sum := "0340eac9ada3217c2854fb4dfe0bbc2254903660d4d83adea232407e01395b61", func := "loop.example/g00513/laws.FnExactPlanServes", spec := "fnExactPlanServes", inPlace := ["slices.overlaps[[]int]"], unfollowed := true, recurses := true, apart := false, narrowed := true }
def FnExactPlanServesUptoSaid : Prop := fnExactPlanServesUptoRow.holds Try.pinned (OpenSpec.upto fnExactPlanServesSpec)

end Rows
end Go.Proofs.Ytbepgedckfhifaa
