/-
  DERIVED. GIVEN WITH THE SEED: THE CARDS: each row of YtghmhkpgdmgepaaGreatDoorRows.lean that lists a variable, with what it lists TIED to the program's text (the seventh form; the later family's looks); each row that meets fmt, with fmt's text TOLD by the authors' own Lean function (tested against real Go, not proved from fmt's source: count such statements apart). THE CARD IS WHAT COUNTS. Prove the row's statement (the work); the ties are given (YtghmhkpgdmgepaaGreatDoorTie.lean); close each card by the builder's one call (the guide's Derived/Test/ToyasCard.lean, 'card_holds'). Laid BY PROGRAM, IN A SANDBOX (cutbox-door.mjs). By AI agents, Wed Nov 11 2026. No macro, syntax, notation, axiom, sorry.
-/
import Derived.Test.YtghmhkpgdmgepaaGreatDoorRows
import GoSem.ClaimSeven
namespace Go.Proofs.YtghmhkpgdmgepaaGreatDoor
namespace Rows

/-- THE TIED CARD OF 'carrefourlaw36.DeviceText'. -/
def deviceTextCard : Claim7 := { stood := { row := deviceTextRow, standIns := [], harness := (true, "7faf043955b8813a721997bcb86555997201f3f93f70c963569d9f68c453ba49"), looks := true }, kinds := [], alts := [], laidByText := true, laidKinds := [.data, .data, .data, .sentinel, .sentinel], laidTests := true, laidLooks := .later }
def DeviceTextCardSaid : Prop := Claim7.holds Tryz.pinned (.plain (OpenSpec.ofChange deviceTextSpec)) deviceTextCard

/-- THE SECOND FORM's CARD OF 'carrefourlaw36.DeviceText'. -/
def deviceTextUptoCard : Claim7 := { stood := { row := deviceTextUptoRow, standIns := [], harness := (true, "7faf043955b8813a721997bcb86555997201f3f93f70c963569d9f68c453ba49"), looks := true }, kinds := [], alts := [], laidByText := true, laidKinds := [.data, .data, .data, .sentinel, .sentinel], laidTests := true, laidLooks := .later }
def DeviceTextUptoCardSaid : Prop := Claim7.holds Tryz.pinned (.plain (OpenSpec.upto deviceTextSpec)) deviceTextUptoCard
end Rows
end Go.Proofs.YtghmhkpgdmgepaaGreatDoor
