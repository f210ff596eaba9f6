/-
  DERIVED. GIVEN WITH THE SEED: THE CARDS: each row of YtaopjdeigpiejaaDoorRows.lean that lists a variable, with what it lists TIED to the program's text (the seventh form; the later family's looks); each row that meets fmt, with fmt's text TOLD by the authors' own Lean function (tested against real Go, not proved from fmt's source: count such statements apart). THE CARD IS WHAT COUNTS. Prove the row's statement (the work); the ties are given (YtaopjdeigpiejaaDoorTie.lean); close each card by the builder's one call (the guide's Derived/Test/ToyasCard.lean, 'card_holds'). Laid BY PROGRAM, IN A SANDBOX (cutbox-door.mjs). By AI agents, Wed Nov 11 2026. No macro, syntax, notation, axiom, sorry.
-/
import Derived.Test.YtaopjdeigpiejaaDoorRows
import GoSem.ClaimSeven
namespace Go.Proofs.YtaopjdeigpiejaaDoor
namespace Rows

/-- THE TIED CARD OF 'laws.FnExactFormatPath'. -/
def fnExactFormatPathCard : Claim7 := { stood := { row := fnExactFormatPathRow, standIns := [], harness := (true, "e524490d0c0cf748bc4ce4db361dfe8889c279eb77b9b275002a728cdb4fc683"), looks := false }, kinds := [], alts := [], laidByText := true, laidKinds := [.data, .data, .data], laidTests := true, laidLooks := .later }
def FnExactFormatPathCardSaid : Prop := Claim7.holds Tryd.pinned (.plain (OpenSpec.ofChange fnExactFormatPathSpec)) fnExactFormatPathCard

/-- THE SECOND FORM's CARD OF 'laws.FnExactFormatPath'. -/
def fnExactFormatPathUptoCard : Claim7 := { stood := { row := fnExactFormatPathUptoRow, standIns := [], harness := (true, "e524490d0c0cf748bc4ce4db361dfe8889c279eb77b9b275002a728cdb4fc683"), looks := false }, kinds := [], alts := [], laidByText := true, laidKinds := [.data, .data, .data], laidTests := true, laidLooks := .later }
def FnExactFormatPathUptoCardSaid : Prop := Claim7.holds Tryd.pinned (.plain (OpenSpec.upto fnExactFormatPathSpec)) fnExactFormatPathUptoCard
end Rows
end Go.Proofs.YtaopjdeigpiejaaDoor
