/-
  No cell of these rows narrows 'for every input' (looked for: loops, veiled, ifaces, maps, wideKeys, modest, calm, conditions, laid).
  DERIVED. THE GIVEN ROWS OF THIS SEAT. 9 by the template 'for every input the law returns true; each argument reads behind the call as it read before'; 0 by the template 'total and deterministic' (their statements: YtbncmiglhjfcdaaTotals.lean).
  GIVEN WITH THE SEED: the statements are not yours to turn. If you find one false, say at which input.
  Laid BY PROGRAM, IN A SANDBOX (cutbox-rows.mjs): the forced cells as the released guide's own fill.sh prints them over the translation c01117189e4abb25… (all of the seat's roots in one cut). By AI agents, Wed Nov 11 2026. No macro, syntax, notation, axiom, sorry.
-/
import Derived.Test.YtbncmiglhjfcdaaChecked
import GoSem.Claim
import GoSem.ClaimJoined
import GoSem.ClaimMapViews
import Derived.JoinedTies
import Derived.KernelRfl
namespace Go.Proofs.Ytbncmiglhjfcdaa
/- THE CELL 'sum', in the pinned program and in every row, IS THE sha256 OF THE DUMP (.gsa) THAT YtbncmiglhjfcdaaProg.lean LOADS. Nothing in Lean hashes anything: it is a label: what it is worth is what the hold of that sum in a sandbox is worth. -/
noncomputable def Try.pinned : Pinned := { name := "ytbncmiglhjfcdaa", sum := "c01117189e4abb25b16c083f93f2a56647d68fc54ed54ae90ab853b1b77a32a0", checked := Try.checked }
namespace Rows
def none {H : Type} : Left H := { results := [], args := [] }

/-- 'laws.FnExactDecryptFromGroup': WHATEVER THE INPUT: true; the input reads as it did. -/
def fnExactDecryptFromGroupSpec : ChangeSpec := { name := "fnExactDecryptFromGroup", fn := fun _ => fun
  | [d1, d2, d3] => { results := [.lit (.bool true)], args := [d1, d2, d3] }
  | _ => none }
def fnExactDecryptFromGroupRow : OpenClaim := { program := "ytbncmiglhjfcdaa", sum := "c01117189e4abb25b16c083f93f2a56647d68fc54ed54ae90ab853b1b77a32a0", func := "loop.example/g00513/laws.FnExactDecryptFromGroup", spec := "fnExactDecryptFromGroup", apart := false }
def FnExactDecryptFromGroupSaid : Prop := fnExactDecryptFromGroupRow.holds Try.pinned (OpenSpec.ofChange fnExactDecryptFromGroupSpec)

/-- ITS FALSE NEIGHBOUR: 'it returns false'. Refute it at one input. -/
def fnExactDecryptFromGroupWrong : ChangeSpec := { name := "fnExactDecryptFromGroup", fn := fun _ => fun
  | [d1, d2, d3] => { results := [.lit (.bool false)], args := [d1, d2, d3] }
  | _ => none }
def FnExactDecryptFromGroupWrongFalsely : Prop := fnExactDecryptFromGroupRow.holds Try.pinned (OpenSpec.ofChange fnExactDecryptFromGroupWrong)

/-- 'laws.FnExactEncryptForGroup': WHATEVER THE INPUT: true; the input reads as it did. -/
def fnExactEncryptForGroupSpec : ChangeSpec := { name := "fnExactEncryptForGroup", fn := fun _ => fun
  | [d1, d2, d3] => { results := [.lit (.bool true)], args := [d1, d2, d3] }
  | _ => none }
def fnExactEncryptForGroupRow : OpenClaim := { program := "ytbncmiglhjfcdaa", sum := "c01117189e4abb25b16c083f93f2a56647d68fc54ed54ae90ab853b1b77a32a0", func := "loop.example/g00513/laws.FnExactEncryptForGroup", spec := "fnExactEncryptForGroup", apart := false }
def FnExactEncryptForGroupSaid : Prop := fnExactEncryptForGroupRow.holds Try.pinned (OpenSpec.ofChange fnExactEncryptForGroupSpec)

/-- ITS FALSE NEIGHBOUR: 'it returns false'. Refute it at one input. -/
def fnExactEncryptForGroupWrong : ChangeSpec := { name := "fnExactEncryptForGroup", fn := fun _ => fun
  | [d1, d2, d3] => { results := [.lit (.bool false)], args := [d1, d2, d3] }
  | _ => none }
def FnExactEncryptForGroupWrongFalsely : Prop := fnExactEncryptForGroupRow.holds Try.pinned (OpenSpec.ofChange fnExactEncryptForGroupWrong)

/-- 'laws.FnExactWrapKeys': WHATEVER THE INPUT: true; the input reads as it did. -/
def fnExactWrapKeysSpec : ChangeSpec := { name := "fnExactWrapKeys", fn := fun _ => fun
  | [d] => { results := [.lit (.bool true)], args := [d] }
  | _ => none }
def fnExactWrapKeysRow : OpenClaim := { program := "ytbncmiglhjfcdaa", sum := "c01117189e4abb25b16c083f93f2a56647d68fc54ed54ae90ab853b1b77a32a0", func := "loop.example/g00513/laws.FnExactWrapKeys", spec := "fnExactWrapKeys", apart := false }
def FnExactWrapKeysSaid : Prop := fnExactWrapKeysRow.holds Try.pinned (OpenSpec.ofChange fnExactWrapKeysSpec)

/-- ITS FALSE NEIGHBOUR: 'it returns false'. Refute it at one input. -/
def fnExactWrapKeysWrong : ChangeSpec := { name := "fnExactWrapKeys", fn := fun _ => fun
  | [d] => { results := [.lit (.bool false)], args := [d] }
  | _ => none }
def FnExactWrapKeysWrongFalsely : Prop := fnExactWrapKeysRow.holds Try.pinned (OpenSpec.ofChange fnExactWrapKeysWrong)

/-- 'laws.FnExactLinkMAC': WHATEVER THE INPUT: true; the input reads as it did. -/
def fnExactLinkMACSpec : ChangeSpec := { name := "fnExactLinkMAC", fn := fun _ => fun
  | [d1, d2] => { results := [.lit (.bool true)], args := [d1, d2] }
  | _ => none }
def fnExactLinkMACRow : OpenClaim := { program := "ytbncmiglhjfcdaa", sum := "c01117189e4abb25b16c083f93f2a56647d68fc54ed54ae90ab853b1b77a32a0", func := "loop.example/g00513/laws.FnExactLinkMAC", spec := "fnExactLinkMAC", apart := false }
def FnExactLinkMACSaid : Prop := fnExactLinkMACRow.holds Try.pinned (OpenSpec.ofChange fnExactLinkMACSpec)

/-- ITS FALSE NEIGHBOUR: 'it returns false'. Refute it at one input. -/
def fnExactLinkMACWrong : ChangeSpec := { name := "fnExactLinkMAC", fn := fun _ => fun
  | [d1, d2] => { results := [.lit (.bool false)], args := [d1, d2] }
  | _ => none }
def FnExactLinkMACWrongFalsely : Prop := fnExactLinkMACRow.holds Try.pinned (OpenSpec.ofChange fnExactLinkMACWrong)

/-- 'laws.FnExactIsSignedBySender': WHATEVER THE INPUT: true; the input reads as it did. -/
def fnExactIsSignedBySenderSpec : ChangeSpec := { name := "fnExactIsSignedBySender", fn := fun _ => fun
  | [d1, d2] => { results := [.lit (.bool true)], args := [d1, d2] }
  | _ => none }
def fnExactIsSignedBySenderRow : OpenClaim := { program := "ytbncmiglhjfcdaa", sum := "c01117189e4abb25b16c083f93f2a56647d68fc54ed54ae90ab853b1b77a32a0", func := "loop.example/g00513/laws.FnExactIsSignedBySender", spec := "fnExactIsSignedBySender", apart := false }
def FnExactIsSignedBySenderSaid : Prop := fnExactIsSignedBySenderRow.holds Try.pinned (OpenSpec.ofChange fnExactIsSignedBySenderSpec)

/-- ITS FALSE NEIGHBOUR: 'it returns false'. Refute it at one input. -/
def fnExactIsSignedBySenderWrong : ChangeSpec := { name := "fnExactIsSignedBySender", fn := fun _ => fun
  | [d1, d2] => { results := [.lit (.bool false)], args := [d1, d2] }
  | _ => none }
def FnExactIsSignedBySenderWrongFalsely : Prop := fnExactIsSignedBySenderRow.holds Try.pinned (OpenSpec.ofChange fnExactIsSignedBySenderWrong)

/-- 'laws.FnExactEqualLinkPackets': WHATEVER THE INPUT: true; the input reads as it did. -/
def fnExactEqualLinkPacketsSpec : ChangeSpec := { name := "fnExactEqualLinkPackets", fn := fun _ => fun
  | [d1, d2] => { results := [.lit (.bool true)], args := [d1, d2] }
  | _ => none }
def fnExactEqualLinkPacketsRow : OpenClaim := { program := "ytbncmiglhjfcdaa", sum := "c01117189e4abb25b16c083f93f2a56647d68fc54ed54ae90ab853b1b77a32a0", func := "loop.example/g00513/laws.FnExactEqualLinkPackets", spec := "fnExactEqualLinkPackets", apart := false }
def FnExactEqualLinkPacketsSaid : Prop := fnExactEqualLinkPacketsRow.holds Try.pinned (OpenSpec.ofChange fnExactEqualLinkPacketsSpec)

/-- ITS FALSE NEIGHBOUR: 'it returns false'. Refute it at one input. -/
def fnExactEqualLinkPacketsWrong : ChangeSpec := { name := "fnExactEqualLinkPackets", fn := fun _ => fun
  | [d1, d2] => { results := [.lit (.bool false)], args := [d1, d2] }
  | _ => none }
def FnExactEqualLinkPacketsWrongFalsely : Prop := fnExactEqualLinkPacketsRow.holds Try.pinned (OpenSpec.ofChange fnExactEqualLinkPacketsWrong)

/-- 'laws.FnGroupKeys': WHATEVER THE INPUT: true; the input reads as it did. -/
def fnGroupKeysSpec : ChangeSpec := { name := "fnGroupKeys", fn := fun _ => fun
  | [d] => { results := [.lit (.bool true)], args := [d] }
  | _ => none }
def fnGroupKeysRow : OpenClaim := { program := "ytbncmiglhjfcdaa", sum := "c01117189e4abb25b16c083f93f2a56647d68fc54ed54ae90ab853b1b77a32a0", func := "loop.example/g00513/laws.FnGroupKeys", spec := "fnGroupKeys", apart := false }
def FnGroupKeysSaid : Prop := fnGroupKeysRow.holds Try.pinned (OpenSpec.ofChange fnGroupKeysSpec)

/-- ITS FALSE NEIGHBOUR: 'it returns false'. Refute it at one input. -/
def fnGroupKeysWrong : ChangeSpec := { name := "fnGroupKeys", fn := fun _ => fun
  | [d] => { results := [.lit (.bool false)], args := [d] }
  | _ => none }
def FnGroupKeysWrongFalsely : Prop := fnGroupKeysRow.holds Try.pinned (OpenSpec.ofChange fnGroupKeysWrong)

/-- 'laws.FnExactIsProof': WHATEVER THE INPUT: true; the input reads as it did. -/
def fnExactIsProofSpec : ChangeSpec := { name := "fnExactIsProof", fn := fun _ => fun
  | [d1, d2, d3, d4] => { results := [.lit (.bool true)], args := [d1, d2, d3, d4] }
  | _ => none }
def fnExactIsProofRow : OpenClaim := { program := "ytbncmiglhjfcdaa", sum := "c01117189e4abb25b16c083f93f2a56647d68fc54ed54ae90ab853b1b77a32a0", func := "loop.example/g00513/laws.FnExactIsProof", spec := "fnExactIsProof", unfollowed := true, recurses := true, apart := false }
def FnExactIsProofSaid : Prop := fnExactIsProofRow.holds Try.pinned (OpenSpec.ofChange fnExactIsProofSpec)

/-- ITS FALSE NEIGHBOUR: 'it returns false'. Refute it at one input. -/
def fnExactIsProofWrong : ChangeSpec := { name := "fnExactIsProof", fn := fun _ => fun
  | [d1, d2, d3, d4] => { results := [.lit (.bool false)], args := [d1, d2, d3, d4] }
  | _ => none }
def FnExactIsProofWrongFalsely : Prop := fnExactIsProofRow.holds Try.pinned (OpenSpec.ofChange fnExactIsProofWrong)

/-- 'laws.FnExactFirstPolluter': WHATEVER THE INPUT: true; the input reads as it did. -/
def fnExactFirstPolluterSpec : ChangeSpec := { name := "fnExactFirstPolluter", fn := fun _ => fun
  | [d1, d2, d3, d4] => { results := [.lit (.bool true)], args := [d1, d2, d3, d4] }
  | _ => none }
def fnExactFirstPolluterRow : OpenClaim := { program := "ytbncmiglhjfcdaa", sum := "c01117189e4abb25b16c083f93f2a56647d68fc54ed54ae90ab853b1b77a32a0", func := "loop.example/g00513/laws.FnExactFirstPolluter", spec := "fnExactFirstPolluter", unfollowed := true, recurses := true, apart := false }
def FnExactFirstPolluterSaid : Prop := fnExactFirstPolluterRow.holds Try.pinned (OpenSpec.ofChange fnExactFirstPolluterSpec)

/-- ITS FALSE NEIGHBOUR: 'it returns false'. Refute it at one input. -/
def fnExactFirstPolluterWrong : ChangeSpec := { name := "fnExactFirstPolluter", fn := fun _ => fun
  | [d1, d2, d3, d4] => { results := [.lit (.bool false)], args := [d1, d2, d3, d4] }
  | _ => none }
def FnExactFirstPolluterWrongFalsely : Prop := fnExactFirstPolluterRow.holds Try.pinned (OpenSpec.ofChange fnExactFirstPolluterWrong)

/- THE SECOND FORM. 'bulk': how many values and letters a reading holds, each counted each time it is reached (what is shared counts as often as it is met; a slice's spare places count too). A statement '..UptoSaid' is the law's where the arguments, and the package variables that the reading takes, are together of bulk at most 1048576: NARROWER than '..Said'. Prove '..Said' where nothing that the law and all that it calls make is longer than what came in: it says more and counts as full. Else prove '..UptoSaid'. A law counts once. -/
mutual
def uptoBulk {H : Type} : DataW H → Nat
  | .lit (.string bytes) => bytes.length + 1
  | .lit _ => 1
  | .nil => 1
  | .ptr d => uptoBulk d + 1
  | .slice elems spare => uptoBulkAll elems + uptoBulkAll spare + 1
  | .agg parts => uptoBulkAll parts + 1
  | .iface _ d => uptoBulk d + 1
  | .map entries => uptoBulkEntries entries + 1
  | .held _ => 1
def uptoBulkAll {H : Type} : List (DataW H) → Nat
  | [] => 0
  | d :: r => uptoBulk d + uptoBulkAll r
def uptoBulkEntries {H : Type} : List (Lit × DataW H) → Nat
  | [] => 0
  | x :: r => uptoBulkEntry x + uptoBulkEntries r
def uptoBulkEntry {H : Type} : Lit × DataW H → Nat
  | (.string bytes, d) => bytes.length + uptoBulk d + 1
  | (_, d) => uptoBulk d + 1
 end
def uptoSmall : (H : Type) → List (DataW H) → Bool := fun _ ds => decide (uptoBulkAll ds ≤ 1048576)
def OpenSpec.upto (s : _root_.Go.ChangeSpec) : _root_.Go.OpenSpec := { _root_.Go.OpenSpec.ofChange s with cond := some uptoSmall }

/-- 'laws.FnExactDecryptFromGroup', WHERE WHAT IT READS IS OF BULK AT MOST 1048576: true; the input reads as it did. -/
def fnExactDecryptFromGroupUptoRow : OpenClaim := { program := "ytbncmiglhjfcdaa", sum := "c01117189e4abb25b16c083f93f2a56647d68fc54ed54ae90ab853b1b77a32a0", func := "loop.example/g00513/laws.FnExactDecryptFromGroup", spec := "fnExactDecryptFromGroup", apart := false, narrowed := true }
def FnExactDecryptFromGroupUptoSaid : Prop := fnExactDecryptFromGroupUptoRow.holds Try.pinned (OpenSpec.upto fnExactDecryptFromGroupSpec)

/-- 'laws.FnExactEncryptForGroup', WHERE WHAT IT READS IS OF BULK AT MOST 1048576: true; the input reads as it did. -/
def fnExactEncryptForGroupUptoRow : OpenClaim := { program := "ytbncmiglhjfcdaa", sum := "c01117189e4abb25b16c083f93f2a56647d68fc54ed54ae90ab853b1b77a32a0", func := "loop.example/g00513/laws.FnExactEncryptForGroup", spec := "fnExactEncryptForGroup", apart := false, narrowed := true }
def FnExactEncryptForGroupUptoSaid : Prop := fnExactEncryptForGroupUptoRow.holds Try.pinned (OpenSpec.upto fnExactEncryptForGroupSpec)

/-- 'laws.FnExactWrapKeys', WHERE WHAT IT READS IS OF BULK AT MOST 1048576: true; the input reads as it did. -/
def fnExactWrapKeysUptoRow : OpenClaim := { program := "ytbncmiglhjfcdaa", sum := "c01117189e4abb25b16c083f93f2a56647d68fc54ed54ae90ab853b1b77a32a0", func := "loop.example/g00513/laws.FnExactWrapKeys", spec := "fnExactWrapKeys", apart := false, narrowed := true }
def FnExactWrapKeysUptoSaid : Prop := fnExactWrapKeysUptoRow.holds Try.pinned (OpenSpec.upto fnExactWrapKeysSpec)

/-- 'laws.FnExactLinkMAC', WHERE WHAT IT READS IS OF BULK AT MOST 1048576: true; the input reads as it did. -/
def fnExactLinkMACUptoRow : OpenClaim := { program := "ytbncmiglhjfcdaa", sum := "c01117189e4abb25b16c083f93f2a56647d68fc54ed54ae90ab853b1b77a32a0", func := "loop.example/g00513/laws.FnExactLinkMAC", spec := "fnExactLinkMAC", apart := false, narrowed := true }
def FnExactLinkMACUptoSaid : Prop := fnExactLinkMACUptoRow.holds Try.pinned (OpenSpec.upto fnExactLinkMACSpec)

/-- 'laws.FnExactIsSignedBySender', WHERE WHAT IT READS IS OF BULK AT MOST 1048576: true; the input reads as it did. -/
def fnExactIsSignedBySenderUptoRow : OpenClaim := { program := "ytbncmiglhjfcdaa", sum := "c01117189e4abb25b16c083f93f2a56647d68fc54ed54ae90ab853b1b77a32a0", func := "loop.example/g00513/laws.FnExactIsSignedBySender", spec := "fnExactIsSignedBySender", apart := false, narrowed := true }
def FnExactIsSignedBySenderUptoSaid : Prop := fnExactIsSignedBySenderUptoRow.holds Try.pinned (OpenSpec.upto fnExactIsSignedBySenderSpec)

/-- 'laws.FnExactEqualLinkPackets', WHERE WHAT IT READS IS OF BULK AT MOST 1048576: true; the input reads as it did. -/
def fnExactEqualLinkPacketsUptoRow : OpenClaim := { program := "ytbncmiglhjfcdaa", sum := "c01117189e4abb25b16c083f93f2a56647d68fc54ed54ae90ab853b1b77a32a0", func := "loop.example/g00513/laws.FnExactEqualLinkPackets", spec := "fnExactEqualLinkPackets", apart := false, narrowed := true }
def FnExactEqualLinkPacketsUptoSaid : Prop := fnExactEqualLinkPacketsUptoRow.holds Try.pinned (OpenSpec.upto fnExactEqualLinkPacketsSpec)

/-- 'laws.FnGroupKeys', WHERE WHAT IT READS IS OF BULK AT MOST 1048576: true; the input reads as it did. -/
def fnGroupKeysUptoRow : OpenClaim := { program := "ytbncmiglhjfcdaa", sum := "c01117189e4abb25b16c083f93f2a56647d68fc54ed54ae90ab853b1b77a32a0", func := "loop.example/g00513/laws.FnGroupKeys", spec := "fnGroupKeys", apart := false, narrowed := true }
def FnGroupKeysUptoSaid : Prop := fnGroupKeysUptoRow.holds Try.pinned (OpenSpec.upto fnGroupKeysSpec)

/-- 'laws.FnExactIsProof', WHERE WHAT IT READS IS OF BULK AT MOST 1048576: true; the input reads as it did. -/
def fnExactIsProofUptoRow : OpenClaim := { program := "ytbncmiglhjfcdaa", sum := "c01117189e4abb25b16c083f93f2a56647d68fc54ed54ae90ab853b1b77a32a0", func := "loop.example/g00513/laws.FnExactIsProof", spec := "fnExactIsProof", unfollowed := true, recurses := true, apart := false, narrowed := true }
def FnExactIsProofUptoSaid : Prop := fnExactIsProofUptoRow.holds Try.pinned (OpenSpec.upto fnExactIsProofSpec)

/-- 'laws.FnExactFirstPolluter', WHERE WHAT IT READS IS OF BULK AT MOST 1048576: true; the input reads as it did. -/
def fnExactFirstPolluterUptoRow : OpenClaim := { program := "ytbncmiglhjfcdaa", sum := "c01117189e4abb25b16c083f93f2a56647d68fc54ed54ae90ab853b1b77a32a0", func := "loop.example/g00513/laws.FnExactFirstPolluter", spec := "fnExactFirstPolluter", unfollowed := true, recurses := true, apart := false, narrowed := true }
def FnExactFirstPolluterUptoSaid : Prop := fnExactFirstPolluterUptoRow.holds Try.pinned (OpenSpec.upto fnExactFirstPolluterSpec)

end Rows
end Go.Proofs.Ytbncmiglhjfcdaa
