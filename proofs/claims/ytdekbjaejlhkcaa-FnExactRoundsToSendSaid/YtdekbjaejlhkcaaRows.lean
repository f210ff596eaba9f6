/-
  No cell of these rows narrows 'for every input' (looked for: loops, veiled, ifaces, maps, wideKeys, modest, calm, conditions, laid).
  DERIVED. THE GIVEN ROWS OF THIS SEAT. 8 by the template 'for every input the law returns true; each argument reads behind the call as it read before'; 0 by the template 'total and deterministic' (their statements: YtdekbjaejlhkcaaTotals.lean).
  GIVEN WITH THE SEED: the statements are not yours to turn. If you find one false, say at which input.
  Laid BY PROGRAM, IN A SANDBOX (cutbox-rows.mjs): the forced cells as the released guide's own fill.sh prints them over the translation 126db1801133df1f… (all of the seat's roots in one cut). By AI agents, Wed Nov 11 2026. No macro, syntax, notation, axiom, sorry.
-/
import Derived.Test.YtdekbjaejlhkcaaChecked
import GoSem.Claim
import GoSem.ClaimJoined
import GoSem.ClaimMapViews
import Derived.JoinedTies
import Derived.KernelRfl
namespace Go.Proofs.Ytdekbjaejlhkcaa
/- THE CELL 'sum', in the pinned program and in every row, IS THE sha256 OF THE DUMP (.gsa) THAT YtdekbjaejlhkcaaProg.lean LOADS. Nothing in Lean hashes anything: it is a label: what it is worth is what the hold of that sum in a sandbox is worth. -/
noncomputable def Try.pinned : Pinned := { name := "ytdekbjaejlhkcaa", sum := "126db1801133df1f9b9bb9486f65b8f91d5145a96b396ab0ae310bbd809452cb", checked := Try.checked }
namespace Rows
def none {H : Type} : Left H := { results := [], args := [] }

/-- 'laws.FnExactRateForPrice': WHATEVER THE INPUT: true; the input reads as it did. -/
def fnExactRateForPriceSpec : ChangeSpec := { name := "fnExactRateForPrice", fn := fun _ => fun
  | [d] => { results := [.lit (.bool true)], args := [d] }
  | _ => none }
def fnExactRateForPriceRow : OpenClaim := { program := "ytdekbjaejlhkcaa", sum := "126db1801133df1f9b9bb9486f65b8f91d5145a96b396ab0ae310bbd809452cb", func := "loop.example/g00513/laws.FnExactRateForPrice", spec := "fnExactRateForPrice", apart := false }
def FnExactRateForPriceSaid : Prop := fnExactRateForPriceRow.holds Try.pinned (OpenSpec.ofChange fnExactRateForPriceSpec)

/-- ITS FALSE NEIGHBOUR: 'it returns false'. Refute it at one input. -/
def fnExactRateForPriceWrong : ChangeSpec := { name := "fnExactRateForPrice", fn := fun _ => fun
  | [d] => { results := [.lit (.bool false)], args := [d] }
  | _ => none }
def FnExactRateForPriceWrongFalsely : Prop := fnExactRateForPriceRow.holds Try.pinned (OpenSpec.ofChange fnExactRateForPriceWrong)

/-- 'laws.FnExactIsValidControl': WHATEVER THE INPUT: true; the input reads as it did. -/
def fnExactIsValidControlSpec : ChangeSpec := { name := "fnExactIsValidControl", fn := fun _ => fun
  | [d] => { results := [.lit (.bool true)], args := [d] }
  | _ => none }
def fnExactIsValidControlRow : OpenClaim := { program := "ytdekbjaejlhkcaa", sum := "126db1801133df1f9b9bb9486f65b8f91d5145a96b396ab0ae310bbd809452cb", func := "loop.example/g00513/laws.FnExactIsValidControl", spec := "fnExactIsValidControl", apart := false }
def FnExactIsValidControlSaid : Prop := fnExactIsValidControlRow.holds Try.pinned (OpenSpec.ofChange fnExactIsValidControlSpec)

/-- ITS FALSE NEIGHBOUR: 'it returns false'. Refute it at one input. -/
def fnExactIsValidControlWrong : ChangeSpec := { name := "fnExactIsValidControl", fn := fun _ => fun
  | [d] => { results := [.lit (.bool false)], args := [d] }
  | _ => none }
def FnExactIsValidControlWrongFalsely : Prop := fnExactIsValidControlRow.holds Try.pinned (OpenSpec.ofChange fnExactIsValidControlWrong)

/-- 'laws.FnExactNewRateControl': WHATEVER THE INPUT: true; the input reads as it did. -/
def fnExactNewRateControlSpec : ChangeSpec := { name := "fnExactNewRateControl", fn := fun _ => fun
  | [d] => { results := [.lit (.bool true)], args := [d] }
  | _ => none }
def fnExactNewRateControlRow : OpenClaim := { program := "ytdekbjaejlhkcaa", sum := "126db1801133df1f9b9bb9486f65b8f91d5145a96b396ab0ae310bbd809452cb", func := "loop.example/g00513/laws.FnExactNewRateControl", spec := "fnExactNewRateControl", apart := false }
def FnExactNewRateControlSaid : Prop := fnExactNewRateControlRow.holds Try.pinned (OpenSpec.ofChange fnExactNewRateControlSpec)

/-- ITS FALSE NEIGHBOUR: 'it returns false'. Refute it at one input. -/
def fnExactNewRateControlWrong : ChangeSpec := { name := "fnExactNewRateControl", fn := fun _ => fun
  | [d] => { results := [.lit (.bool false)], args := [d] }
  | _ => none }
def FnExactNewRateControlWrongFalsely : Prop := fnExactNewRateControlRow.holds Try.pinned (OpenSpec.ofChange fnExactNewRateControlWrong)

/-- 'laws.FnExactRoundsToSend': WHATEVER THE INPUT: true; the input reads as it did. -/
def fnExactRoundsToSendSpec : ChangeSpec := { name := "fnExactRoundsToSend", fn := fun _ => fun
  | [d1, d2] => { results := [.lit (.bool true)], args := [d1, d2] }
  | _ => none }
def fnExactRoundsToSendRow : OpenClaim := { program := "ytdekbjaejlhkcaa", sum := "126db1801133df1f9b9bb9486f65b8f91d5145a96b396ab0ae310bbd809452cb", func := "loop.example/g00513/laws.FnExactRoundsToSend", spec := "fnExactRoundsToSend", apart := false }
def FnExactRoundsToSendSaid : Prop := fnExactRoundsToSendRow.holds Try.pinned (OpenSpec.ofChange fnExactRoundsToSendSpec)

/-- ITS FALSE NEIGHBOUR: 'it returns false'. Refute it at one input. -/
def fnExactRoundsToSendWrong : ChangeSpec := { name := "fnExactRoundsToSend", fn := fun _ => fun
  | [d1, d2] => { results := [.lit (.bool false)], args := [d1, d2] }
  | _ => none }
def FnExactRoundsToSendWrongFalsely : Prop := fnExactRoundsToSendRow.holds Try.pinned (OpenSpec.ofChange fnExactRoundsToSendWrong)

/-- 'laws.FnExactTakeCredit': WHATEVER THE INPUT: true; the input reads as it did. -/
def fnExactTakeCreditSpec : ChangeSpec := { name := "fnExactTakeCredit", fn := fun _ => fun
  | [d] => { results := [.lit (.bool true)], args := [d] }
  | _ => none }
def fnExactTakeCreditRow : OpenClaim := { program := "ytdekbjaejlhkcaa", sum := "126db1801133df1f9b9bb9486f65b8f91d5145a96b396ab0ae310bbd809452cb", func := "loop.example/g00513/laws.FnExactTakeCredit", spec := "fnExactTakeCredit", apart := false }
def FnExactTakeCreditSaid : Prop := fnExactTakeCreditRow.holds Try.pinned (OpenSpec.ofChange fnExactTakeCreditSpec)

/-- ITS FALSE NEIGHBOUR: 'it returns false'. Refute it at one input. -/
def fnExactTakeCreditWrong : ChangeSpec := { name := "fnExactTakeCredit", fn := fun _ => fun
  | [d] => { results := [.lit (.bool false)], args := [d] }
  | _ => none }
def FnExactTakeCreditWrongFalsely : Prop := fnExactTakeCreditRow.holds Try.pinned (OpenSpec.ofChange fnExactTakeCreditWrong)

/-- 'laws.FnExactLowerCeiling': WHATEVER THE INPUT: true; the input reads as it did. -/
def fnExactLowerCeilingSpec : ChangeSpec := { name := "fnExactLowerCeiling", fn := fun _ => fun
  | [d1, d2] => { results := [.lit (.bool true)], args := [d1, d2] }
  | _ => none }
def fnExactLowerCeilingRow : OpenClaim := { program := "ytdekbjaejlhkcaa", sum := "126db1801133df1f9b9bb9486f65b8f91d5145a96b396ab0ae310bbd809452cb", func := "loop.example/g00513/laws.FnExactLowerCeiling", spec := "fnExactLowerCeiling", apart := false }
def FnExactLowerCeilingSaid : Prop := fnExactLowerCeilingRow.holds Try.pinned (OpenSpec.ofChange fnExactLowerCeilingSpec)

/-- ITS FALSE NEIGHBOUR: 'it returns false'. Refute it at one input. -/
def fnExactLowerCeilingWrong : ChangeSpec := { name := "fnExactLowerCeiling", fn := fun _ => fun
  | [d1, d2] => { results := [.lit (.bool false)], args := [d1, d2] }
  | _ => none }
def FnExactLowerCeilingWrongFalsely : Prop := fnExactLowerCeilingRow.holds Try.pinned (OpenSpec.ofChange fnExactLowerCeilingWrong)

/-- 'laws.FnExactEndRound': WHATEVER THE INPUT: true; the input reads as it did. -/
def fnExactEndRoundSpec : ChangeSpec := { name := "fnExactEndRound", fn := fun _ => fun
  | [d1, d2] => { results := [.lit (.bool true)], args := [d1, d2] }
  | _ => none }
def fnExactEndRoundRow : OpenClaim := { program := "ytdekbjaejlhkcaa", sum := "126db1801133df1f9b9bb9486f65b8f91d5145a96b396ab0ae310bbd809452cb", func := "loop.example/g00513/laws.FnExactEndRound", spec := "fnExactEndRound", apart := false }
def FnExactEndRoundSaid : Prop := fnExactEndRoundRow.holds Try.pinned (OpenSpec.ofChange fnExactEndRoundSpec)

/-- ITS FALSE NEIGHBOUR: 'it returns false'. Refute it at one input. -/
def fnExactEndRoundWrong : ChangeSpec := { name := "fnExactEndRound", fn := fun _ => fun
  | [d1, d2] => { results := [.lit (.bool false)], args := [d1, d2] }
  | _ => none }
def FnExactEndRoundWrongFalsely : Prop := fnExactEndRoundRow.holds Try.pinned (OpenSpec.ofChange fnExactEndRoundWrong)

/-- 'laws.FnRateControl': WHATEVER THE INPUT: true; the input reads as it did. -/
def fnRateControlSpec : ChangeSpec := { name := "fnRateControl", fn := fun _ => fun
  | [d] => { results := [.lit (.bool true)], args := [d] }
  | _ => none }
def fnRateControlRow : OpenClaim := { program := "ytdekbjaejlhkcaa", sum := "126db1801133df1f9b9bb9486f65b8f91d5145a96b396ab0ae310bbd809452cb", func := "loop.example/g00513/laws.FnRateControl", spec := "fnRateControl", apart := false }
def FnRateControlSaid : Prop := fnRateControlRow.holds Try.pinned (OpenSpec.ofChange fnRateControlSpec)

/-- ITS FALSE NEIGHBOUR: 'it returns false'. Refute it at one input. -/
def fnRateControlWrong : ChangeSpec := { name := "fnRateControl", fn := fun _ => fun
  | [d] => { results := [.lit (.bool false)], args := [d] }
  | _ => none }
def FnRateControlWrongFalsely : Prop := fnRateControlRow.holds Try.pinned (OpenSpec.ofChange fnRateControlWrong)

/- THE SECOND FORM. 'bulk': how many values and letters a reading holds, each counted each time it is reached (what is shared counts as often as it is met; a slice's spare places count too). A statement '..UptoSaid' is the law's where the arguments, and the package variables that the reading takes, are together of bulk at most 1048576: NARROWER than '..Said'. Prove '..Said' where nothing that the law and all that it calls make is longer than what came in: it says more and counts as full. Else prove '..UptoSaid'. A law counts once. -/
mutual
def uptoBulk {H : Type} : DataW H → Nat
  | .lit (.string bytes) => bytes.length + 1
  | .lit _ => 1
  | .nil => 1
  | .ptr d => uptoBulk d + 1
  | .slice elems spare => uptoBulkAll elems + uptoBulkAll spare + 1
  | .agg parts => uptoBulkAll parts + 1
  | .iface _ d => uptoBulk d + 1
  | .map entries => uptoBulkEntries entries + 1
  | .held _ => 1
def uptoBulkAll {H : Type} : List (DataW H) → Nat
  | [] => 0
  | d :: r => uptoBulk d + uptoBulkAll r
def uptoBulkEntries {H : Type} : List (Lit × DataW H) → Nat
  | [] => 0
  | x :: r => uptoBulkEntry x + uptoBulkEntries r
def uptoBulkEntry {H : Type} : Lit × DataW H → Nat
  | (.string bytes, d) => bytes.length + uptoBulk d + 1
  | (_, d) => uptoBulk d + 1
 end
def uptoSmall : (H : Type) → List (DataW H) → Bool := fun _ ds => decide (uptoBulkAll ds ≤ 1048576)
def OpenSpec.upto (s : _root_.Go.ChangeSpec) : _root_.Go.OpenSpec := { _root_.Go.OpenSpec.ofChange s with cond := some uptoSmall }

/-- 'laws.FnExactRateForPrice', WHERE WHAT IT READS IS OF BULK AT MOST 1048576: true; the input reads as it did. -/
def fnExactRateForPriceUptoRow : OpenClaim := { program := "ytdekbjaejlhkcaa", sum := "126db1801133df1f9b9bb9486f65b8f91d5145a96b396ab0ae310bbd809452cb", func := "loop.example/g00513/laws.FnExactRateForPrice", spec := "fnExactRateForPrice", apart := false, narrowed := true }
def FnExactRateForPriceUptoSaid : Prop := fnExactRateForPriceUptoRow.holds Try.pinned (OpenSpec.upto fnExactRateForPriceSpec)

/-- 'laws.FnExactIsValidControl', WHERE WHAT IT READS IS OF BULK AT MOST 1048576: true; the input reads as it did. -/
def fnExactIsValidControlUptoRow : OpenClaim := { program := "ytdekbjaejlhkcaa", sum := "126db1801133df1f9b9bb9486f65b8f91d5145a96b396ab0ae310bbd809452cb", func := "loop.example/g00513/laws.FnExactIsValidControl", spec := "fnExactIsValidControl", apart := false, narrowed := true }
def FnExactIsValidControlUptoSaid : Prop := fnExactIsValidControlUptoRow.holds Try.pinned (OpenSpec.upto fnExactIsValidControlSpec)

/-- 'laws.FnExactNewRateControl', WHERE WHAT IT READS IS OF BULK AT MOST 1048576: true; the input reads as it did. -/
def fnExactNewRateControlUptoRow : OpenClaim := { program := "ytdekbjaejlhkcaa", sum := "126db1801133df1f9b9bb9486f65b8f91d5145a96b396ab0ae310bbd809452cb", func := "loop.example/g00513/laws.FnExactNewRateControl", spec := "fnExactNewRateControl", apart := false, narrowed := true }
def FnExactNewRateControlUptoSaid : Prop := fnExactNewRateControlUptoRow.holds Try.pinned (OpenSpec.upto fnExactNewRateControlSpec)

/-- 'laws.FnExactRoundsToSend', WHERE WHAT IT READS IS OF BULK AT MOST 1048576: true; the input reads as it did. -/
def fnExactRoundsToSendUptoRow : OpenClaim := { program := "ytdekbjaejlhkcaa", sum := "126db1801133df1f9b9bb9486f65b8f91d5145a96b396ab0ae310bbd809452cb", func := "loop.example/g00513/laws.FnExactRoundsToSend", spec := "fnExactRoundsToSend", apart := false, narrowed := true }
def FnExactRoundsToSendUptoSaid : Prop := fnExactRoundsToSendUptoRow.holds Try.pinned (OpenSpec.upto fnExactRoundsToSendSpec)

/-- 'laws.FnExactTakeCredit', WHERE WHAT IT READS IS OF BULK AT MOST 1048576: true; the input reads as it did. -/
def fnExactTakeCreditUptoRow : OpenClaim := { program := "ytdekbjaejlhkcaa", sum := "126db1801133df1f9b9bb9486f65b8f91d5145a96b396ab0ae310bbd809452cb", func := "loop.example/g00513/laws.FnExactTakeCredit", spec := "fnExactTakeCredit", apart := false, narrowed := true }
def FnExactTakeCreditUptoSaid : Prop := fnExactTakeCreditUptoRow.holds Try.pinned (OpenSpec.upto fnExactTakeCreditSpec)

/-- 'laws.FnExactLowerCeiling', WHERE WHAT IT READS IS OF BULK AT MOST 1048576: true; the input reads as it did. -/
def fnExactLowerCeilingUptoRow : OpenClaim := { program := "ytdekbjaejlhkcaa", sum := "126db1801133df1f9b9bb9486f65b8f91d5145a96b396ab0ae310bbd809452cb", func := "loop.example/g00513/laws.FnExactLowerCeiling", spec := "fnExactLowerCeiling", apart := false, narrowed := true }
def FnExactLowerCeilingUptoSaid : Prop := fnExactLowerCeilingUptoRow.holds Try.pinned (OpenSpec.upto fnExactLowerCeilingSpec)

/-- 'laws.FnExactEndRound', WHERE WHAT IT READS IS OF BULK AT MOST 1048576: true; the input reads as it did. -/
def fnExactEndRoundUptoRow : OpenClaim := { program := "ytdekbjaejlhkcaa", sum := "126db1801133df1f9b9bb9486f65b8f91d5145a96b396ab0ae310bbd809452cb", func := "loop.example/g00513/laws.FnExactEndRound", spec := "fnExactEndRound", apart := false, narrowed := true }
def FnExactEndRoundUptoSaid : Prop := fnExactEndRoundUptoRow.holds Try.pinned (OpenSpec.upto fnExactEndRoundSpec)

/-- 'laws.FnRateControl', WHERE WHAT IT READS IS OF BULK AT MOST 1048576: true; the input reads as it did. -/
def fnRateControlUptoRow : OpenClaim := { program := "ytdekbjaejlhkcaa", sum := "126db1801133df1f9b9bb9486f65b8f91d5145a96b396ab0ae310bbd809452cb", func := "loop.example/g00513/laws.FnRateControl", spec := "fnRateControl", apart := false, narrowed := true }
def FnRateControlUptoSaid : Prop := fnRateControlUptoRow.holds Try.pinned (OpenSpec.upto fnRateControlSpec)

end Rows
end Go.Proofs.Ytdekbjaejlhkcaa
