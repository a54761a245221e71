/-
  DERIVED. GIVEN WITH THE SEED: THE CARDS: each row of YtipcdjgcomclkaaGreatDoorRows.lean that lists a variable, with what it lists TIED to the program's text (the seventh form; the later family's looks); each row that meets fmt, with fmt's text TOLD by the authors' own Lean function (tested against real Go, not proved from fmt's source: count such statements apart). THE CARD IS WHAT COUNTS. Prove the row's statement (the work); the ties are given (YtipcdjgcomclkaaGreatDoorTie.lean); close each card by the builder's one call (the guide's Derived/Test/ToyasCard.lean, 'card_holds'). Laid BY PROGRAM, IN A SANDBOX (cutbox-door.mjs). By AI agents, Wed Nov 11 2026. No macro, syntax, notation, axiom, sorry.
-/
import Derived.Test.YtipcdjgcomclkaaGreatDoorRows
import GoSem.ClaimSeven
namespace Go.Proofs.YtipcdjgcomclkaaGreatDoor
namespace Rows

/-- THE TIED CARD OF 'carrefourlaw05.NetBlanks'. -/
def netBlanksCard : Claim7 := { stood := { row := netBlanksRow, standIns := [], harness := (true, "3162b2a2c81936fb04d75c10eb1d578ac5013c8557eced4cffcc283ab88fc983"), looks := true }, kinds := [], alts := [], laidByText := true, laidKinds := [.data, .data, .data, .handle, .sentinel, .sentinel], laidTests := true, laidLooks := .later }
def NetBlanksCardSaid : Prop := Claim7.holds Tryz.pinned (.plain (OpenSpec.ofChange netBlanksSpec)) netBlanksCard

/-- THE TIED CARD OF 'carrefourlaw05.NetBounds'. -/
def netBoundsCard : Claim7 := { stood := { row := netBoundsRow, standIns := [], harness := (true, "3162b2a2c81936fb04d75c10eb1d578ac5013c8557eced4cffcc283ab88fc983"), looks := true }, kinds := [], alts := [], laidByText := true, laidKinds := [.data, .data, .data, .handle, .sentinel, .sentinel], laidTests := true, laidLooks := .later }
def NetBoundsCardSaid : Prop := Claim7.holds Tryz.pinned (.plain (OpenSpec.ofChange netBoundsSpec)) netBoundsCard

/-- THE TIED CARD OF 'carrefourlaw05.NetNodes'. -/
def netNodesCard : Claim7 := { stood := { row := netNodesRow, standIns := [], harness := (true, "3162b2a2c81936fb04d75c10eb1d578ac5013c8557eced4cffcc283ab88fc983"), looks := true }, kinds := [], alts := [], laidByText := true, laidKinds := [.data, .data, .data, .handle, .sentinel, .sentinel], laidTests := true, laidLooks := .later }
def NetNodesCardSaid : Prop := Claim7.holds Tryz.pinned (.plain (OpenSpec.ofChange netNodesSpec)) netNodesCard

/-- THE SECOND FORM's CARD OF 'carrefourlaw05.NetBlanks'. -/
def netBlanksUptoCard : Claim7 := { stood := { row := netBlanksUptoRow, standIns := [], harness := (true, "3162b2a2c81936fb04d75c10eb1d578ac5013c8557eced4cffcc283ab88fc983"), looks := true }, kinds := [], alts := [], laidByText := true, laidKinds := [.data, .data, .data, .handle, .sentinel, .sentinel], laidTests := true, laidLooks := .later }
def NetBlanksUptoCardSaid : Prop := Claim7.holds Tryz.pinned (.plain (OpenSpec.upto netBlanksSpec)) netBlanksUptoCard

/-- THE SECOND FORM's CARD OF 'carrefourlaw05.NetBounds'. -/
def netBoundsUptoCard : Claim7 := { stood := { row := netBoundsUptoRow, standIns := [], harness := (true, "3162b2a2c81936fb04d75c10eb1d578ac5013c8557eced4cffcc283ab88fc983"), looks := true }, kinds := [], alts := [], laidByText := true, laidKinds := [.data, .data, .data, .handle, .sentinel, .sentinel], laidTests := true, laidLooks := .later }
def NetBoundsUptoCardSaid : Prop := Claim7.holds Tryz.pinned (.plain (OpenSpec.upto netBoundsSpec)) netBoundsUptoCard

/-- THE SECOND FORM's CARD OF 'carrefourlaw05.NetNodes'. -/
def netNodesUptoCard : Claim7 := { stood := { row := netNodesUptoRow, standIns := [], harness := (true, "3162b2a2c81936fb04d75c10eb1d578ac5013c8557eced4cffcc283ab88fc983"), looks := true }, kinds := [], alts := [], laidByText := true, laidKinds := [.data, .data, .data, .handle, .sentinel, .sentinel], laidTests := true, laidLooks := .later }
def NetNodesUptoCardSaid : Prop := Claim7.holds Tryz.pinned (.plain (OpenSpec.upto netNodesSpec)) netNodesUptoCard
end Rows
end Go.Proofs.YtipcdjgcomclkaaGreatDoor
