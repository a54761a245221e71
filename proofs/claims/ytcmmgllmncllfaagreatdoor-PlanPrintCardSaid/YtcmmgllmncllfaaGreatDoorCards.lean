/-
  DERIVED. GIVEN WITH THE SEED: THE CARDS: each row of YtcmmgllmncllfaaGreatDoorRows.lean that lists a variable, with what it lists TIED to the program's text (the seventh form; the later family's looks); each row that meets fmt, with fmt's text TOLD by the authors' own Lean function (tested against real Go, not proved from fmt's source: count such statements apart). THE CARD IS WHAT COUNTS. Prove the row's statement (the work); the ties are given (YtcmmgllmncllfaaGreatDoorTie.lean); close each card by the builder's one call (the guide's Derived/Test/ToyasCard.lean, 'card_holds'). Laid BY PROGRAM, IN A SANDBOX (cutbox-door.mjs). By AI agents, Wed Nov 11 2026. No macro, syntax, notation, axiom, sorry.
-/
import Derived.Test.YtcmmgllmncllfaaGreatDoorRows
import GoSem.ClaimSeven
namespace Go.Proofs.YtcmmgllmncllfaaGreatDoor
namespace Rows

/-- THE TIED CARD OF 'carrefourlaw17.PlanPrint'. -/
def planPrintCard : Claim7 := { stood := { row := planPrintRow, standIns := [], harness := (true, "cb0248fb8b646eecd2e4a553de99fe6d8f6b027103573d2f4d0b76515b60fd7c"), looks := true }, kinds := [], alts := [], laidByText := true, laidKinds := [.data, .data, .data, .sentinel, .sentinel], laidTests := true, laidLooks := .later }
def PlanPrintCardSaid : Prop := Claim7.holds Tryz.pinned (.plain (OpenSpec.ofChange planPrintSpec)) planPrintCard

/-- THE TIED CARD OF 'carrefourlaw17.PlanBack'. -/
def planBackCard : Claim7 := { stood := { row := planBackRow, standIns := [], harness := (true, "cb0248fb8b646eecd2e4a553de99fe6d8f6b027103573d2f4d0b76515b60fd7c"), looks := true }, kinds := [], alts := [], laidByText := true, laidKinds := [.data, .data, .data, .sentinel, .sentinel], laidTests := true, laidLooks := .later }
def PlanBackCardSaid : Prop := Claim7.holds Tryz.pinned (.plain (OpenSpec.ofChange planBackSpec)) planBackCard

/-- THE TIED CARD OF 'carrefourlaw17.PlanRead'. -/
def planReadCard : Claim7 := { stood := { row := planReadRow, standIns := [], harness := (true, "cb0248fb8b646eecd2e4a553de99fe6d8f6b027103573d2f4d0b76515b60fd7c"), looks := true }, kinds := [], alts := [], laidByText := true, laidKinds := [.data, .data, .data, .sentinel, .sentinel], laidTests := true, laidLooks := .later }
def PlanReadCardSaid : Prop := Claim7.holds Tryz.pinned (.plain (OpenSpec.ofChange planReadSpec)) planReadCard

/-- THE SECOND FORM's CARD OF 'carrefourlaw17.PlanPrint'. -/
def planPrintUptoCard : Claim7 := { stood := { row := planPrintUptoRow, standIns := [], harness := (true, "cb0248fb8b646eecd2e4a553de99fe6d8f6b027103573d2f4d0b76515b60fd7c"), looks := true }, kinds := [], alts := [], laidByText := true, laidKinds := [.data, .data, .data, .sentinel, .sentinel], laidTests := true, laidLooks := .later }
def PlanPrintUptoCardSaid : Prop := Claim7.holds Tryz.pinned (.plain (OpenSpec.upto planPrintSpec)) planPrintUptoCard

/-- THE SECOND FORM's CARD OF 'carrefourlaw17.PlanBack'. -/
def planBackUptoCard : Claim7 := { stood := { row := planBackUptoRow, standIns := [], harness := (true, "cb0248fb8b646eecd2e4a553de99fe6d8f6b027103573d2f4d0b76515b60fd7c"), looks := true }, kinds := [], alts := [], laidByText := true, laidKinds := [.data, .data, .data, .sentinel, .sentinel], laidTests := true, laidLooks := .later }
def PlanBackUptoCardSaid : Prop := Claim7.holds Tryz.pinned (.plain (OpenSpec.upto planBackSpec)) planBackUptoCard

/-- THE SECOND FORM's CARD OF 'carrefourlaw17.PlanRead'. -/
def planReadUptoCard : Claim7 := { stood := { row := planReadUptoRow, standIns := [], harness := (true, "cb0248fb8b646eecd2e4a553de99fe6d8f6b027103573d2f4d0b76515b60fd7c"), looks := true }, kinds := [], alts := [], laidByText := true, laidKinds := [.data, .data, .data, .sentinel, .sentinel], laidTests := true, laidLooks := .later }
def PlanReadUptoCardSaid : Prop := Claim7.holds Tryz.pinned (.plain (OpenSpec.upto planReadSpec)) planReadUptoCard
end Rows
end Go.Proofs.YtcmmgllmncllfaaGreatDoor
