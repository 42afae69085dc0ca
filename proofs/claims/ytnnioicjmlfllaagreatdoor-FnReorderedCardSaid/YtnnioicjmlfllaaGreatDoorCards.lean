/-
  DERIVED. GIVEN WITH THE SEED: THE CARDS: each row of YtnnioicjmlfllaaGreatDoorRows.lean that lists a variable, with what it lists TIED to the program's text (the seventh form; the later family's looks); each row that meets fmt, with fmt's text TOLD by the authors' own Lean function (tested against real Go, not proved from fmt's source: count such statements apart). THE CARD IS WHAT COUNTS. Prove the row's statement (the work); the ties are given (YtnnioicjmlfllaaGreatDoorTie.lean); close each card by the builder's one call (the guide's Derived/Test/ToyasCard.lean, 'card_holds'). Laid BY PROGRAM, IN A SANDBOX (cutbox-door.mjs). By AI agents, Wed Nov 11 2026. No macro, syntax, notation, axiom, sorry.
-/
import Derived.Test.YtnnioicjmlfllaaGreatDoorRows
import GoSem.ClaimSeven
namespace Go.Proofs.YtnnioicjmlfllaaGreatDoor
namespace Rows

/-- THE TIED CARD OF 'laws.FnReordered'. -/
def fnReorderedCard : Claim7 := { stood := { row := fnReorderedRow, standIns := [], harness := (true, "73f5e54a6279d3c64a1720a50074547d7cfa1d129b0d1a0a2c98850f0ffefa47"), looks := true }, kinds := [], alts := [], laidByText := true, laidKinds := [.data, .data, .data, .data, .sentinel, .sentinel, .listed, .data, .pinned], laidTests := true, laidLooks := .later }
def FnReorderedCardSaid : Prop := Claim7.holds Tryz.pinned (.plain (OpenSpec.ofChange fnReorderedSpec)) fnReorderedCard

/-- THE TIED CARD OF 'laws.FnSteps'. -/
def fnStepsCard : Claim7 := { stood := { row := fnStepsRow, standIns := [], harness := (true, "73f5e54a6279d3c64a1720a50074547d7cfa1d129b0d1a0a2c98850f0ffefa47"), looks := true }, kinds := [], alts := [], laidByText := true, laidKinds := [.data, .data, .data, .data, .sentinel, .sentinel, .pinned], laidTests := true, laidLooks := .later }
def FnStepsCardSaid : Prop := Claim7.holds Tryz.pinned (.plain (OpenSpec.ofChange fnStepsSpec)) fnStepsCard

/-- THE SECOND FORM's CARD OF 'laws.FnReordered'. -/
def fnReorderedUptoCard : Claim7 := { stood := { row := fnReorderedUptoRow, standIns := [], harness := (true, "73f5e54a6279d3c64a1720a50074547d7cfa1d129b0d1a0a2c98850f0ffefa47"), looks := true }, kinds := [], alts := [], laidByText := true, laidKinds := [.data, .data, .data, .data, .sentinel, .sentinel, .listed, .data, .pinned], laidTests := true, laidLooks := .later }
def FnReorderedUptoCardSaid : Prop := Claim7.holds Tryz.pinned (.plain (OpenSpec.upto fnReorderedSpec)) fnReorderedUptoCard

/-- THE SECOND FORM's CARD OF 'laws.FnSteps'. -/
def fnStepsUptoCard : Claim7 := { stood := { row := fnStepsUptoRow, standIns := [], harness := (true, "73f5e54a6279d3c64a1720a50074547d7cfa1d129b0d1a0a2c98850f0ffefa47"), looks := true }, kinds := [], alts := [], laidByText := true, laidKinds := [.data, .data, .data, .data, .sentinel, .sentinel, .pinned], laidTests := true, laidLooks := .later }
def FnStepsUptoCardSaid : Prop := Claim7.holds Tryz.pinned (.plain (OpenSpec.upto fnStepsSpec)) fnStepsUptoCard
end Rows
end Go.Proofs.YtnnioicjmlfllaaGreatDoor
