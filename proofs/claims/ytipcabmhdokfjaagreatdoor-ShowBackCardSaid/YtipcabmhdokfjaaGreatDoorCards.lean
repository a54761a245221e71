/-
  DERIVED. GIVEN WITH THE SEED: THE CARDS: each row of YtipcabmhdokfjaaGreatDoorRows.lean that lists a variable, with what it lists TIED to the program's text (the seventh form; the later family's looks); each row that meets fmt, with fmt's text TOLD by the authors' own Lean function (tested against real Go, not proved from fmt's source: count such statements apart). THE CARD IS WHAT COUNTS. Prove the row's statement (the work); the ties are given (YtipcabmhdokfjaaGreatDoorTie.lean); close each card by the builder's one call (the guide's Derived/Test/ToyasCard.lean, 'card_holds'). Laid BY PROGRAM, IN A SANDBOX (cutbox-door.mjs). By AI agents, Wed Nov 11 2026. No macro, syntax, notation, axiom, sorry.
-/
import Derived.Test.YtipcabmhdokfjaaGreatDoorRows
import GoSem.ClaimSeven
namespace Go.Proofs.YtipcabmhdokfjaaGreatDoor
namespace Rows

/-- THE TIED CARD OF 'carrefourlaw06.ShowNets'. -/
def showNetsCard : Claim7 := { stood := { row := showNetsRow, standIns := [], harness := (true, "c51f4b0a991a6239354c8cc10a7bcc6862b2bbf8394d47cf5d078073d34a9ee9"), looks := true }, kinds := [], alts := [], laidByText := true, laidKinds := [.data, .data, .data, .sentinel, .sentinel], laidTests := true, laidLooks := .later }
def ShowNetsCardSaid : Prop := Claim7.holds Tryz.pinned (.plain (OpenSpec.ofChange showNetsSpec)) showNetsCard

/-- THE TIED CARD OF 'carrefourlaw06.ShowApart'. -/
def showApartCard : Claim7 := { stood := { row := showApartRow, standIns := [], harness := (true, "c51f4b0a991a6239354c8cc10a7bcc6862b2bbf8394d47cf5d078073d34a9ee9"), looks := true }, kinds := [], alts := [], laidByText := true, laidKinds := [.data, .data, .data, .sentinel, .sentinel], laidTests := true, laidLooks := .later }
def ShowApartCardSaid : Prop := Claim7.holds Tryz.pinned (.plain (OpenSpec.ofChange showApartSpec)) showApartCard

/-- THE TIED CARD OF 'carrefourlaw06.ShowBack'. -/
def showBackCard : Claim7 := { stood := { row := showBackRow, standIns := [], harness := (true, "c51f4b0a991a6239354c8cc10a7bcc6862b2bbf8394d47cf5d078073d34a9ee9"), looks := true }, kinds := [], alts := [], laidByText := true, laidKinds := [.data, .data, .data, .handle, .sentinel, .sentinel], laidTests := true, laidLooks := .later }
def ShowBackCardSaid : Prop := Claim7.holds Tryz.pinned (.plain (OpenSpec.ofChange showBackSpec)) showBackCard

/-- THE TIED CARD OF 'carrefourlaw06.ShowRead'. -/
def showReadCard : Claim7 := { stood := { row := showReadRow, standIns := [], harness := (true, "c51f4b0a991a6239354c8cc10a7bcc6862b2bbf8394d47cf5d078073d34a9ee9"), looks := true }, kinds := [], alts := [], laidByText := true, laidKinds := [.data, .data, .data, .handle, .sentinel, .sentinel], laidTests := true, laidLooks := .later }
def ShowReadCardSaid : Prop := Claim7.holds Tryz.pinned (.plain (OpenSpec.ofChange showReadSpec)) showReadCard

/-- THE SECOND FORM's CARD OF 'carrefourlaw06.ShowNets'. -/
def showNetsUptoCard : Claim7 := { stood := { row := showNetsUptoRow, standIns := [], harness := (true, "c51f4b0a991a6239354c8cc10a7bcc6862b2bbf8394d47cf5d078073d34a9ee9"), looks := true }, kinds := [], alts := [], laidByText := true, laidKinds := [.data, .data, .data, .sentinel, .sentinel], laidTests := true, laidLooks := .later }
def ShowNetsUptoCardSaid : Prop := Claim7.holds Tryz.pinned (.plain (OpenSpec.upto showNetsSpec)) showNetsUptoCard

/-- THE SECOND FORM's CARD OF 'carrefourlaw06.ShowApart'. -/
def showApartUptoCard : Claim7 := { stood := { row := showApartUptoRow, standIns := [], harness := (true, "c51f4b0a991a6239354c8cc10a7bcc6862b2bbf8394d47cf5d078073d34a9ee9"), looks := true }, kinds := [], alts := [], laidByText := true, laidKinds := [.data, .data, .data, .sentinel, .sentinel], laidTests := true, laidLooks := .later }
def ShowApartUptoCardSaid : Prop := Claim7.holds Tryz.pinned (.plain (OpenSpec.upto showApartSpec)) showApartUptoCard

/-- THE SECOND FORM's CARD OF 'carrefourlaw06.ShowBack'. -/
def showBackUptoCard : Claim7 := { stood := { row := showBackUptoRow, standIns := [], harness := (true, "c51f4b0a991a6239354c8cc10a7bcc6862b2bbf8394d47cf5d078073d34a9ee9"), looks := true }, kinds := [], alts := [], laidByText := true, laidKinds := [.data, .data, .data, .handle, .sentinel, .sentinel], laidTests := true, laidLooks := .later }
def ShowBackUptoCardSaid : Prop := Claim7.holds Tryz.pinned (.plain (OpenSpec.upto showBackSpec)) showBackUptoCard

/-- THE SECOND FORM's CARD OF 'carrefourlaw06.ShowRead'. -/
def showReadUptoCard : Claim7 := { stood := { row := showReadUptoRow, standIns := [], harness := (true, "c51f4b0a991a6239354c8cc10a7bcc6862b2bbf8394d47cf5d078073d34a9ee9"), looks := true }, kinds := [], alts := [], laidByText := true, laidKinds := [.data, .data, .data, .handle, .sentinel, .sentinel], laidTests := true, laidLooks := .later }
def ShowReadUptoCardSaid : Prop := Claim7.holds Tryz.pinned (.plain (OpenSpec.upto showReadSpec)) showReadUptoCard
end Rows
end Go.Proofs.YtipcabmhdokfjaaGreatDoor
