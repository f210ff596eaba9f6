/-
  No cell of these rows narrows 'for every input' (looked for: loops, veiled, ifaces, maps, wideKeys, modest, calm, conditions, laid).
  DERIVED. THE GIVEN ROWS OF THIS SEAT. 12 by the template 'for every input the law returns true; each argument reads behind the call as it read before'; 0 by the template 'total and deterministic' (their statements: YtekelmhlpinimaaTotals.lean).
  GIVEN WITH THE SEED: the statements are not yours to turn. If you find one false, say at which input.
  Laid BY PROGRAM, IN A SANDBOX (cutbox-rows.mjs): the forced cells as the released guide's own fill.sh prints them over the translation 0a85b6fd97833dd6… (all of the seat's roots in one cut). By AI agents, Wed Nov 11 2026. No macro, syntax, notation, axiom, sorry.
-/
import Derived.Test.YtekelmhlpinimaaChecked
import GoSem.Claim
import GoSem.ClaimJoined
import GoSem.ClaimMapViews
import Derived.JoinedTies
import Derived.KernelRfl
namespace Go.Proofs.Ytekelmhlpinimaa
/- THE CELL 'sum', in the pinned program and in every row, IS THE sha256 OF THE DUMP (.gsa) THAT YtekelmhlpinimaaProg.lean LOADS. Nothing in Lean hashes anything: it is a label: what it is worth is what the hold of that sum in a sandbox is worth. -/
noncomputable def Try.pinned : Pinned := { name := "ytekelmhlpinimaa", sum := "0a85b6fd97833dd65a74ca3efe2171b46722d43793f19b0a15e11cee879d8e18", checked := Try.checked }
namespace Rows
def none {H : Type} : Left H := { results := [], args := [] }

/-- 'laws.FnExactGroupKey': WHATEVER THE INPUT: true; the input reads as it did. -/
def fnExactGroupKeySpec : ChangeSpec := { name := "fnExactGroupKey", fn := fun _ => fun
  | [d1, d2] => { results := [.lit (.bool true)], args := [d1, d2] }
  | _ => none }
def fnExactGroupKeyRow : OpenClaim := { program := "ytekelmhlpinimaa", sum := "0a85b6fd97833dd65a74ca3efe2171b46722d43793f19b0a15e11cee879d8e18", func := "loop.example/g00513/laws.FnExactGroupKey", spec := "fnExactGroupKey", apart := false }
def FnExactGroupKeySaid : Prop := fnExactGroupKeyRow.holds Try.pinned (OpenSpec.ofChange fnExactGroupKeySpec)

/-- ITS FALSE NEIGHBOUR: 'it returns false'. Refute it at one input. -/
def fnExactGroupKeyWrong : ChangeSpec := { name := "fnExactGroupKey", fn := fun _ => fun
  | [d1, d2] => { results := [.lit (.bool false)], args := [d1, d2] }
  | _ => none }
def FnExactGroupKeyWrongFalsely : Prop := fnExactGroupKeyRow.holds Try.pinned (OpenSpec.ofChange fnExactGroupKeyWrong)

/-- 'laws.FnExactMemberKey': WHATEVER THE INPUT: true; the input reads as it did. -/
def fnExactMemberKeySpec : ChangeSpec := { name := "fnExactMemberKey", fn := fun _ => fun
  | [d1, d2] => { results := [.lit (.bool true)], args := [d1, d2] }
  | _ => none }
def fnExactMemberKeyRow : OpenClaim := { program := "ytekelmhlpinimaa", sum := "0a85b6fd97833dd65a74ca3efe2171b46722d43793f19b0a15e11cee879d8e18", func := "loop.example/g00513/laws.FnExactMemberKey", spec := "fnExactMemberKey", apart := false }
def FnExactMemberKeySaid : Prop := fnExactMemberKeyRow.holds Try.pinned (OpenSpec.ofChange fnExactMemberKeySpec)

/-- ITS FALSE NEIGHBOUR: 'it returns false'. Refute it at one input. -/
def fnExactMemberKeyWrong : ChangeSpec := { name := "fnExactMemberKey", fn := fun _ => fun
  | [d1, d2] => { results := [.lit (.bool false)], args := [d1, d2] }
  | _ => none }
def FnExactMemberKeyWrongFalsely : Prop := fnExactMemberKeyRow.holds Try.pinned (OpenSpec.ofChange fnExactMemberKeyWrong)

/-- 'laws.FnExactNodeKey': WHATEVER THE INPUT: true; the input reads as it did. -/
def fnExactNodeKeySpec : ChangeSpec := { name := "fnExactNodeKey", fn := fun _ => fun
  | [d1, d2] => { results := [.lit (.bool true)], args := [d1, d2] }
  | _ => none }
def fnExactNodeKeyRow : OpenClaim := { program := "ytekelmhlpinimaa", sum := "0a85b6fd97833dd65a74ca3efe2171b46722d43793f19b0a15e11cee879d8e18", func := "loop.example/g00513/laws.FnExactNodeKey", spec := "fnExactNodeKey", apart := false }
def FnExactNodeKeySaid : Prop := fnExactNodeKeyRow.holds Try.pinned (OpenSpec.ofChange fnExactNodeKeySpec)

/-- ITS FALSE NEIGHBOUR: 'it returns false'. Refute it at one input. -/
def fnExactNodeKeyWrong : ChangeSpec := { name := "fnExactNodeKey", fn := fun _ => fun
  | [d1, d2] => { results := [.lit (.bool false)], args := [d1, d2] }
  | _ => none }
def FnExactNodeKeyWrongFalsely : Prop := fnExactNodeKeyRow.holds Try.pinned (OpenSpec.ofChange fnExactNodeKeyWrong)

/-- 'laws.FnExactIsValidGroup': WHATEVER THE INPUT: true; the input reads as it did. -/
def fnExactIsValidGroupSpec : ChangeSpec := { name := "fnExactIsValidGroup", fn := fun _ => fun
  | [d] => { results := [.lit (.bool true)], args := [d] }
  | _ => none }
def fnExactIsValidGroupRow : OpenClaim := { program := "ytekelmhlpinimaa", sum := "0a85b6fd97833dd65a74ca3efe2171b46722d43793f19b0a15e11cee879d8e18", func := "loop.example/g00513/laws.FnExactIsValidGroup", spec := "fnExactIsValidGroup", apart := false }
def FnExactIsValidGroupSaid : Prop := fnExactIsValidGroupRow.holds Try.pinned (OpenSpec.ofChange fnExactIsValidGroupSpec)

/-- ITS FALSE NEIGHBOUR: 'it returns false'. Refute it at one input. -/
def fnExactIsValidGroupWrong : ChangeSpec := { name := "fnExactIsValidGroup", fn := fun _ => fun
  | [d] => { results := [.lit (.bool false)], args := [d] }
  | _ => none }
def FnExactIsValidGroupWrongFalsely : Prop := fnExactIsValidGroupRow.holds Try.pinned (OpenSpec.ofChange fnExactIsValidGroupWrong)

/-- 'laws.FnExactUnwrapKey': WHATEVER THE INPUT: true; the input reads as it did. -/
def fnExactUnwrapKeySpec : ChangeSpec := { name := "fnExactUnwrapKey", fn := fun _ => fun
  | [d1, d2] => { results := [.lit (.bool true)], args := [d1, d2] }
  | _ => none }
def fnExactUnwrapKeyRow : OpenClaim := { program := "ytekelmhlpinimaa", sum := "0a85b6fd97833dd65a74ca3efe2171b46722d43793f19b0a15e11cee879d8e18", func := "loop.example/g00513/laws.FnExactUnwrapKey", spec := "fnExactUnwrapKey", apart := false }
def FnExactUnwrapKeySaid : Prop := fnExactUnwrapKeyRow.holds Try.pinned (OpenSpec.ofChange fnExactUnwrapKeySpec)

/-- ITS FALSE NEIGHBOUR: 'it returns false'. Refute it at one input. -/
def fnExactUnwrapKeyWrong : ChangeSpec := { name := "fnExactUnwrapKey", fn := fun _ => fun
  | [d1, d2] => { results := [.lit (.bool false)], args := [d1, d2] }
  | _ => none }
def FnExactUnwrapKeyWrongFalsely : Prop := fnExactUnwrapKeyRow.holds Try.pinned (OpenSpec.ofChange fnExactUnwrapKeyWrong)

/-- 'laws.FnExactDecryptFromGroup': WHATEVER THE INPUT: true; the input reads as it did. -/
def fnExactDecryptFromGroupSpec : ChangeSpec := { name := "fnExactDecryptFromGroup", fn := fun _ => fun
  | [d1, d2, d3] => { results := [.lit (.bool true)], args := [d1, d2, d3] }
  | _ => none }
def fnExactDecryptFromGroupRow : OpenClaim := { program := "ytekelmhlpinimaa", sum := "0a85b6fd97833dd65a74ca3efe2171b46722d43793f19b0a15e11cee879d8e18", func := "loop.example/g00513/laws.FnExactDecryptFromGroup", spec := "fnExactDecryptFromGroup", apart := false }
def FnExactDecryptFromGroupSaid : Prop := fnExactDecryptFromGroupRow.holds Try.pinned (OpenSpec.ofChange fnExactDecryptFromGroupSpec)

/-- ITS FALSE NEIGHBOUR: 'it returns false'. Refute it at one input. -/
def fnExactDecryptFromGroupWrong : ChangeSpec := { name := "fnExactDecryptFromGroup", fn := fun _ => fun
  | [d1, d2, d3] => { results := [.lit (.bool false)], args := [d1, d2, d3] }
  | _ => none }
def FnExactDecryptFromGroupWrongFalsely : Prop := fnExactDecryptFromGroupRow.holds Try.pinned (OpenSpec.ofChange fnExactDecryptFromGroupWrong)

/-- 'laws.FnExactEncryptForGroup': WHATEVER THE INPUT: true; the input reads as it did. -/
def fnExactEncryptForGroupSpec : ChangeSpec := { name := "fnExactEncryptForGroup", fn := fun _ => fun
  | [d1, d2, d3] => { results := [.lit (.bool true)], args := [d1, d2, d3] }
  | _ => none }
def fnExactEncryptForGroupRow : OpenClaim := { program := "ytekelmhlpinimaa", sum := "0a85b6fd97833dd65a74ca3efe2171b46722d43793f19b0a15e11cee879d8e18", func := "loop.example/g00513/laws.FnExactEncryptForGroup", spec := "fnExactEncryptForGroup", apart := false }
def FnExactEncryptForGroupSaid : Prop := fnExactEncryptForGroupRow.holds Try.pinned (OpenSpec.ofChange fnExactEncryptForGroupSpec)

/-- ITS FALSE NEIGHBOUR: 'it returns false'. Refute it at one input. -/
def fnExactEncryptForGroupWrong : ChangeSpec := { name := "fnExactEncryptForGroup", fn := fun _ => fun
  | [d1, d2, d3] => { results := [.lit (.bool false)], args := [d1, d2, d3] }
  | _ => none }
def FnExactEncryptForGroupWrongFalsely : Prop := fnExactEncryptForGroupRow.holds Try.pinned (OpenSpec.ofChange fnExactEncryptForGroupWrong)

/-- 'laws.FnExactWrapKeys': WHATEVER THE INPUT: true; the input reads as it did. -/
def fnExactWrapKeysSpec : ChangeSpec := { name := "fnExactWrapKeys", fn := fun _ => fun
  | [d] => { results := [.lit (.bool true)], args := [d] }
  | _ => none }
def fnExactWrapKeysRow : OpenClaim := { program := "ytekelmhlpinimaa", sum := "0a85b6fd97833dd65a74ca3efe2171b46722d43793f19b0a15e11cee879d8e18", func := "loop.example/g00513/laws.FnExactWrapKeys", spec := "fnExactWrapKeys", apart := false }
def FnExactWrapKeysSaid : Prop := fnExactWrapKeysRow.holds Try.pinned (OpenSpec.ofChange fnExactWrapKeysSpec)

/-- ITS FALSE NEIGHBOUR: 'it returns false'. Refute it at one input. -/
def fnExactWrapKeysWrong : ChangeSpec := { name := "fnExactWrapKeys", fn := fun _ => fun
  | [d] => { results := [.lit (.bool false)], args := [d] }
  | _ => none }
def FnExactWrapKeysWrongFalsely : Prop := fnExactWrapKeysRow.holds Try.pinned (OpenSpec.ofChange fnExactWrapKeysWrong)

/-- 'laws.FnGroupKeys': WHATEVER THE INPUT: true; the input reads as it did. -/
def fnGroupKeysSpec : ChangeSpec := { name := "fnGroupKeys", fn := fun _ => fun
  | [d] => { results := [.lit (.bool true)], args := [d] }
  | _ => none }
def fnGroupKeysRow : OpenClaim := { program := "ytekelmhlpinimaa", sum := "0a85b6fd97833dd65a74ca3efe2171b46722d43793f19b0a15e11cee879d8e18", func := "loop.example/g00513/laws.FnGroupKeys", spec := "fnGroupKeys", apart := false }
def FnGroupKeysSaid : Prop := fnGroupKeysRow.holds Try.pinned (OpenSpec.ofChange fnGroupKeysSpec)

/-- ITS FALSE NEIGHBOUR: 'it returns false'. Refute it at one input. -/
def fnGroupKeysWrong : ChangeSpec := { name := "fnGroupKeys", fn := fun _ => fun
  | [d] => { results := [.lit (.bool false)], args := [d] }
  | _ => none }
def FnGroupKeysWrongFalsely : Prop := fnGroupKeysRow.holds Try.pinned (OpenSpec.ofChange fnGroupKeysWrong)

/-- 'laws.FnExactLinkMAC': WHATEVER THE INPUT: true; the input reads as it did. -/
def fnExactLinkMACSpec : ChangeSpec := { name := "fnExactLinkMAC", fn := fun _ => fun
  | [d1, d2] => { results := [.lit (.bool true)], args := [d1, d2] }
  | _ => none }
def fnExactLinkMACRow : OpenClaim := { program := "ytekelmhlpinimaa", sum := "0a85b6fd97833dd65a74ca3efe2171b46722d43793f19b0a15e11cee879d8e18", func := "loop.example/g00513/laws.FnExactLinkMAC", spec := "fnExactLinkMAC", apart := false }
def FnExactLinkMACSaid : Prop := fnExactLinkMACRow.holds Try.pinned (OpenSpec.ofChange fnExactLinkMACSpec)

/-- ITS FALSE NEIGHBOUR: 'it returns false'. Refute it at one input. -/
def fnExactLinkMACWrong : ChangeSpec := { name := "fnExactLinkMAC", fn := fun _ => fun
  | [d1, d2] => { results := [.lit (.bool false)], args := [d1, d2] }
  | _ => none }
def FnExactLinkMACWrongFalsely : Prop := fnExactLinkMACRow.holds Try.pinned (OpenSpec.ofChange fnExactLinkMACWrong)

/-- 'laws.FnExactIsSignedBySender': WHATEVER THE INPUT: true; the input reads as it did. -/
def fnExactIsSignedBySenderSpec : ChangeSpec := { name := "fnExactIsSignedBySender", fn := fun _ => fun
  | [d1, d2] => { results := [.lit (.bool true)], args := [d1, d2] }
  | _ => none }
def fnExactIsSignedBySenderRow : OpenClaim := { program := "ytekelmhlpinimaa", sum := "0a85b6fd97833dd65a74ca3efe2171b46722d43793f19b0a15e11cee879d8e18", func := "loop.example/g00513/laws.FnExactIsSignedBySender", spec := "fnExactIsSignedBySender", apart := false }
def FnExactIsSignedBySenderSaid : Prop := fnExactIsSignedBySenderRow.holds Try.pinned (OpenSpec.ofChange fnExactIsSignedBySenderSpec)

/-- ITS FALSE NEIGHBOUR: 'it returns false'. Refute it at one input. -/
def fnExactIsSignedBySenderWrong : ChangeSpec := { name := "fnExactIsSignedBySender", fn := fun _ => fun
  | [d1, d2] => { results := [.lit (.bool false)], args := [d1, d2] }
  | _ => none }
def FnExactIsSignedBySenderWrongFalsely : Prop := fnExactIsSignedBySenderRow.holds Try.pinned (OpenSpec.ofChange fnExactIsSignedBySenderWrong)

/-- 'laws.FnExactEqualLinkPackets': WHATEVER THE INPUT: true; the input reads as it did. -/
def fnExactEqualLinkPacketsSpec : ChangeSpec := { name := "fnExactEqualLinkPackets", fn := fun _ => fun
  | [d1, d2] => { results := [.lit (.bool true)], args := [d1, d2] }
  | _ => none }
def fnExactEqualLinkPacketsRow : OpenClaim := { program := "ytekelmhlpinimaa", sum := "0a85b6fd97833dd65a74ca3efe2171b46722d43793f19b0a15e11cee879d8e18", func := "loop.example/g00513/laws.FnExactEqualLinkPackets", spec := "fnExactEqualLinkPackets", apart := false }
def FnExactEqualLinkPacketsSaid : Prop := fnExactEqualLinkPacketsRow.holds Try.pinned (OpenSpec.ofChange fnExactEqualLinkPacketsSpec)

/-- ITS FALSE NEIGHBOUR: 'it returns false'. Refute it at one input. -/
def fnExactEqualLinkPacketsWrong : ChangeSpec := { name := "fnExactEqualLinkPackets", fn := fun _ => fun
  | [d1, d2] => { results := [.lit (.bool false)], args := [d1, d2] }
  | _ => none }
def FnExactEqualLinkPacketsWrongFalsely : Prop := fnExactEqualLinkPacketsRow.holds Try.pinned (OpenSpec.ofChange fnExactEqualLinkPacketsWrong)

/- THE SECOND FORM. 'bulk': how many values and letters a reading holds, each counted each time it is reached (what is shared counts as often as it is met; a slice's spare places count too). A statement '..UptoSaid' is the law's where the arguments, and the package variables that the reading takes, are together of bulk at most 1048576: NARROWER than '..Said'. Prove '..Said' where nothing that the law and all that it calls make is longer than what came in: it says more and counts as full. Else prove '..UptoSaid'. A law counts once. -/
mutual
def uptoBulk {H : Type} : DataW H → Nat
  | .lit (.string bytes) => bytes.length + 1
  | .lit _ => 1
  | .nil => 1
  | .ptr d => uptoBulk d + 1
  | .slice elems spare => uptoBulkAll elems + uptoBulkAll spare + 1
  | .agg parts => uptoBulkAll parts + 1
  | .iface _ d => uptoBulk d + 1
  | .map entries => uptoBulkEntries entries + 1
  | .held _ => 1
def uptoBulkAll {H : Type} : List (DataW H) → Nat
  | [] => 0
  | d :: r => uptoBulk d + uptoBulkAll r
def uptoBulkEntries {H : Type} : List (Lit × DataW H) → Nat
  | [] => 0
  | x :: r => uptoBulkEntry x + uptoBulkEntries r
def uptoBulkEntry {H : Type} : Lit × DataW H → Nat
  | (.string bytes, d) => bytes.length + uptoBulk d + 1
  | (_, d) => uptoBulk d + 1
 end
def uptoSmall : (H : Type) → List (DataW H) → Bool := fun _ ds => decide (uptoBulkAll ds ≤ 1048576)
def OpenSpec.upto (s : _root_.Go.ChangeSpec) : _root_.Go.OpenSpec := { _root_.Go.OpenSpec.ofChange s with cond := some uptoSmall }

/-- 'laws.FnExactGroupKey', WHERE WHAT IT READS IS OF BULK AT MOST 1048576: true; the input reads as it did. -/
def fnExactGroupKeyUptoRow : OpenClaim := { program := "ytekelmhlpinimaa", sum := "0a85b6fd97833dd65a74ca3efe2171b46722d43793f19b0a15e11cee879d8e18", func := "loop.example/g00513/laws.FnExactGroupKey", spec := "fnExactGroupKey", apart := false, narrowed := true }
def FnExactGroupKeyUptoSaid : Prop := fnExactGroupKeyUptoRow.holds Try.pinned (OpenSpec.upto fnExactGroupKeySpec)

/-- 'laws.FnExactMemberKey', WHERE WHAT IT READS IS OF BULK AT MOST 1048576: true; the input reads as it did. -/
def fnExactMemberKeyUptoRow : OpenClaim := { program := "ytekelmhlpinimaa", sum := "0a85b6fd97833dd65a74ca3efe2171b46722d43793f19b0a15e11cee879d8e18", func := "loop.example/g00513/laws.FnExactMemberKey", spec := "fnExactMemberKey", apart := false, narrowed := true }
def FnExactMemberKeyUptoSaid : Prop := fnExactMemberKeyUptoRow.holds Try.pinned (OpenSpec.upto fnExactMemberKeySpec)

/-- 'laws.FnExactNodeKey', WHERE WHAT IT READS IS OF BULK AT MOST 1048576: true; the input reads as it did. -/
def fnExactNodeKeyUptoRow : OpenClaim := { program := "ytekelmhlpinimaa", sum := "0a85b6fd97833dd65a74ca3efe2171b46722d43793f19b0a15e11cee879d8e18", func := "loop.example/g00513/laws.FnExactNodeKey", spec := "fnExactNodeKey", apart := false, narrowed := true }
def FnExactNodeKeyUptoSaid : Prop := fnExactNodeKeyUptoRow.holds Try.pinned (OpenSpec.upto fnExactNodeKeySpec)

/-- 'laws.FnExactIsValidGroup', WHERE WHAT IT READS IS OF BULK AT MOST 1048576: true; the input reads as it did. -/
def fnExactIsValidGroupUptoRow : OpenClaim := { program := "ytekelmhlpinimaa", sum := "0a85b6fd97833dd65a74ca3efe2171b46722d43793f19b0a15e11cee879d8e18", func := "loop.example/g00513/laws.FnExactIsValidGroup", spec := "fnExactIsValidGroup", apart := false, narrowed := true }
def FnExactIsValidGroupUptoSaid : Prop := fnExactIsValidGroupUptoRow.holds Try.pinned (OpenSpec.upto fnExactIsValidGroupSpec)

/-- 'laws.FnExactUnwrapKey', WHERE WHAT IT READS IS OF BULK AT MOST 1048576: true; the input reads as it did. -/
def fnExactUnwrapKeyUptoRow : OpenClaim := { program := "ytekelmhlpinimaa", sum := "0a85b6fd97833dd65a74ca3efe2171b46722d43793f19b0a15e11cee879d8e18", func := "loop.example/g00513/laws.FnExactUnwrapKey", spec := "fnExactUnwrapKey", apart := false, narrowed := true }
def FnExactUnwrapKeyUptoSaid : Prop := fnExactUnwrapKeyUptoRow.holds Try.pinned (OpenSpec.upto fnExactUnwrapKeySpec)

/-- 'laws.FnExactDecryptFromGroup', WHERE WHAT IT READS IS OF BULK AT MOST 1048576: true; the input reads as it did. -/
def fnExactDecryptFromGroupUptoRow : OpenClaim := { program := "ytekelmhlpinimaa", sum := "0a85b6fd97833dd65a74ca3efe2171b46722d43793f19b0a15e11cee879d8e18", func := "loop.example/g00513/laws.FnExactDecryptFromGroup", spec := "fnExactDecryptFromGroup", apart := false, narrowed := true }
def FnExactDecryptFromGroupUptoSaid : Prop := fnExactDecryptFromGroupUptoRow.holds Try.pinned (OpenSpec.upto fnExactDecryptFromGroupSpec)

/-- 'laws.FnExactEncryptForGroup', WHERE WHAT IT READS IS OF BULK AT MOST 1048576: true; the input reads as it did. -/
def fnExactEncryptForGroupUptoRow : OpenClaim := { program := "ytekelmhlpinimaa", sum := "0a85b6fd97833dd65a74ca3efe2171b46722d43793f19b0a15e11cee879d8e18", func := "loop.example/g00513/laws.FnExactEncryptForGroup", spec := "fnExactEncryptForGroup", apart := false, narrowed := true }
def FnExactEncryptForGroupUptoSaid : Prop := fnExactEncryptForGroupUptoRow.holds Try.pinned (OpenSpec.upto fnExactEncryptForGroupSpec)

/-- 'laws.FnExactWrapKeys', WHERE WHAT IT READS IS OF BULK AT MOST 1048576: true; the input reads as it did. -/
def fnExactWrapKeysUptoRow : OpenClaim := { program := "ytekelmhlpinimaa", sum := "0a85b6fd97833dd65a74ca3efe2171b46722d43793f19b0a15e11cee879d8e18", func := "loop.example/g00513/laws.FnExactWrapKeys", spec := "fnExactWrapKeys", apart := false, narrowed := true }
def FnExactWrapKeysUptoSaid : Prop := fnExactWrapKeysUptoRow.holds Try.pinned (OpenSpec.upto fnExactWrapKeysSpec)

/-- 'laws.FnGroupKeys', WHERE WHAT IT READS IS OF BULK AT MOST 1048576: true; the input reads as it did. -/
def fnGroupKeysUptoRow : OpenClaim := { program := "ytekelmhlpinimaa", sum := "0a85b6fd97833dd65a74ca3efe2171b46722d43793f19b0a15e11cee879d8e18", func := "loop.example/g00513/laws.FnGroupKeys", spec := "fnGroupKeys", apart := false, narrowed := true }
def FnGroupKeysUptoSaid : Prop := fnGroupKeysUptoRow.holds Try.pinned (OpenSpec.upto fnGroupKeysSpec)

/-- 'laws.FnExactLinkMAC', WHERE WHAT IT READS IS OF BULK AT MOST 1048576: true; the input reads as it did. -/
def fnExactLinkMACUptoRow : OpenClaim := { program := "ytekelmhlpinimaa", sum := "0a85b6fd97833dd65a74ca3efe2171b46722d43793f19b0a15e11cee879d8e18", func := "loop.example/g00513/laws.FnExactLinkMAC", spec := "fnExactLinkMAC", apart := false, narrowed := true }
def FnExactLinkMACUptoSaid : Prop := fnExactLinkMACUptoRow.holds Try.pinned (OpenSpec.upto fnExactLinkMACSpec)

/-- 'laws.FnExactIsSignedBySender', WHERE WHAT IT READS IS OF BULK AT MOST 1048576: true; the input reads as it did. -/
def fnExactIsSignedBySenderUptoRow : OpenClaim := { program := "ytekelmhlpinimaa", sum := "0a85b6fd97833dd65a74ca3efe2171b46722d43793f19b0a15e11cee879d8e18", func := "loop.example/g00513/laws.FnExactIsSignedBySender", spec := "fnExactIsSignedBySender", apart := false, narrowed := true }
def FnExactIsSignedBySenderUptoSaid : Prop := fnExactIsSignedBySenderUptoRow.holds Try.pinned (OpenSpec.upto fnExactIsSignedBySenderSpec)

/-- 'laws.FnExactEqualLinkPackets', WHERE WHAT IT READS IS OF BULK AT MOST 1048576: true; the input reads as it did. -/
def fnExactEqualLinkPacketsUptoRow : OpenClaim := { program := "ytekelmhlpinimaa", sum := "0a85b6fd97833dd65a74ca3efe2171b46722d43793f19b0a15e11cee879d8e18", func := "loop.example/g00513/laws.FnExactEqualLinkPackets", spec := "fnExactEqualLinkPackets", apart := false, narrowed := true }
def FnExactEqualLinkPacketsUptoSaid : Prop := fnExactEqualLinkPacketsUptoRow.holds Try.pinned (OpenSpec.upto fnExactEqualLinkPacketsSpec)

end Rows
end Go.Proofs.Ytekelmhlpinimaa
