/-
  No cell of these rows narrows 'for every input' (looked for: loops, veiled, ifaces, maps, wideKeys, modest, calm, conditions, laid).
  DERIVED. THE GIVEN ROWS OF THIS SEAT. 7 by the template 'for every input the law returns true; each argument reads behind the call as it read before'; 0 by the template 'total and deterministic' (their statements: YtnhnckhkfdoadaaTotals.lean).
  GIVEN WITH THE SEED: the statements are not yours to turn. If you find one false, say at which input.
  Laid BY PROGRAM, IN A SANDBOX (cutbox-rows.mjs): the forced cells as the released guide's own fill.sh prints them over the translation fc45edf89c690fba… (all of the seat's roots in one cut). By AI agents, Wed Nov 11 2026. No macro, syntax, notation, axiom, sorry.
-/
import Derived.Test.YtnhnckhkfdoadaaChecked
import GoSem.Claim
import GoSem.ClaimJoined
import GoSem.ClaimMapViews
import Derived.JoinedTies
import Derived.KernelRfl
namespace Go.Proofs.Ytnhnckhkfdoadaa
/- THE CELL 'sum', in the pinned program and in every row, IS THE sha256 OF THE DUMP (.gsa) THAT YtnhnckhkfdoadaaProg.lean LOADS. Nothing in Lean hashes anything: it is a label: what it is worth is what the hold of that sum in a sandbox is worth. -/
noncomputable def Try.pinned : Pinned := { name := "ytnhnckhkfdoadaa", sum := "fc45edf89c690fbadc03471eaad3d58f4a6533277be4b632f9a255d76d89cff1", checked := Try.checked }
namespace Rows
def none {H : Type} : Left H := { results := [], args := [] }

/-- 'carrefourlaw08.ClearTimes': WHATEVER THE INPUT: true; the input reads as it did. -/
def clearTimesSpec : ChangeSpec := { name := "clearTimes", fn := fun _ => fun
  | [d1, d2, d3] => { results := [.lit (.bool true)], args := [d1, d2, d3] }
  | _ => none }
def clearTimesRow : OpenClaim := { program := "ytnhnckhkfdoadaa", sum := "fc45edf89c690fbadc03471eaad3d58f4a6533277be4b632f9a255d76d89cff1", func := "carrefour/carrefourlaw08.ClearTimes", spec := "clearTimes", unfollowed := true, recurses := true, apart := false }
def ClearTimesSaid : Prop := clearTimesRow.holds Try.pinned (OpenSpec.ofChange clearTimesSpec)

/-- ITS FALSE NEIGHBOUR: 'it returns false'. Refute it at one input. -/
def clearTimesWrong : ChangeSpec := { name := "clearTimes", fn := fun _ => fun
  | [d1, d2, d3] => { results := [.lit (.bool false)], args := [d1, d2, d3] }
  | _ => none }
def ClearTimesWrongFalsely : Prop := clearTimesRow.holds Try.pinned (OpenSpec.ofChange clearTimesWrong)

/-- 'carrefourlaw08.ClearEnough': WHATEVER THE INPUT: true; the input reads as it did. -/
def clearEnoughSpec : ChangeSpec := { name := "clearEnough", fn := fun _ => fun
  | [d1, d2, d3] => { results := [.lit (.bool true)], args := [d1, d2, d3] }
  | _ => none }
def clearEnoughRow : OpenClaim := { program := "ytnhnckhkfdoadaa", sum := "fc45edf89c690fbadc03471eaad3d58f4a6533277be4b632f9a255d76d89cff1", func := "carrefour/carrefourlaw08.ClearEnough", spec := "clearEnough", unfollowed := true, recurses := true, apart := false }
def ClearEnoughSaid : Prop := clearEnoughRow.holds Try.pinned (OpenSpec.ofChange clearEnoughSpec)

/-- ITS FALSE NEIGHBOUR: 'it returns false'. Refute it at one input. -/
def clearEnoughWrong : ChangeSpec := { name := "clearEnough", fn := fun _ => fun
  | [d1, d2, d3] => { results := [.lit (.bool false)], args := [d1, d2, d3] }
  | _ => none }
def ClearEnoughWrongFalsely : Prop := clearEnoughRow.holds Try.pinned (OpenSpec.ofChange clearEnoughWrong)

/-- 'carrefourlaw08.ClearGrows': WHATEVER THE INPUT: true; the input reads as it did. -/
def clearGrowsSpec : ChangeSpec := { name := "clearGrows", fn := fun _ => fun
  | [d1, d2, d3] => { results := [.lit (.bool true)], args := [d1, d2, d3] }
  | _ => none }
def clearGrowsRow : OpenClaim := { program := "ytnhnckhkfdoadaa", sum := "fc45edf89c690fbadc03471eaad3d58f4a6533277be4b632f9a255d76d89cff1", func := "carrefour/carrefourlaw08.ClearGrows", spec := "clearGrows", unfollowed := true, recurses := true, apart := false }
def ClearGrowsSaid : Prop := clearGrowsRow.holds Try.pinned (OpenSpec.ofChange clearGrowsSpec)

/-- ITS FALSE NEIGHBOUR: 'it returns false'. Refute it at one input. -/
def clearGrowsWrong : ChangeSpec := { name := "clearGrows", fn := fun _ => fun
  | [d1, d2, d3] => { results := [.lit (.bool false)], args := [d1, d2, d3] }
  | _ => none }
def ClearGrowsWrongFalsely : Prop := clearGrowsRow.holds Try.pinned (OpenSpec.ofChange clearGrowsWrong)

/-- 'carrefourlaw27.ChangeWays': WHATEVER THE INPUT: true; the input reads as it did. -/
def changeWaysSpec : ChangeSpec := { name := "changeWays", fn := fun _ => fun
  | [d] => { results := [.lit (.bool true)], args := [d] }
  | _ => none }
def changeWaysRow : OpenClaim := { program := "ytnhnckhkfdoadaa", sum := "fc45edf89c690fbadc03471eaad3d58f4a6533277be4b632f9a255d76d89cff1", func := "carrefour/carrefourlaw27.ChangeWays", spec := "changeWays", unfollowed := true, recurses := true, apart := false }
def ChangeWaysSaid : Prop := changeWaysRow.holds Try.pinned (OpenSpec.ofChange changeWaysSpec)

/-- ITS FALSE NEIGHBOUR: 'it returns false'. Refute it at one input. -/
def changeWaysWrong : ChangeSpec := { name := "changeWays", fn := fun _ => fun
  | [d] => { results := [.lit (.bool false)], args := [d] }
  | _ => none }
def ChangeWaysWrongFalsely : Prop := changeWaysRow.holds Try.pinned (OpenSpec.ofChange changeWaysWrong)

/-- 'carrefourlaw27.ChangeApply': WHATEVER THE INPUT: true; the input reads as it did. -/
def changeApplySpec : ChangeSpec := { name := "changeApply", fn := fun _ => fun
  | [d1, d2, d3] => { results := [.lit (.bool true)], args := [d1, d2, d3] }
  | _ => none }
def changeApplyRow : OpenClaim := { program := "ytnhnckhkfdoadaa", sum := "fc45edf89c690fbadc03471eaad3d58f4a6533277be4b632f9a255d76d89cff1", func := "carrefour/carrefourlaw27.ChangeApply", spec := "changeApply", unfollowed := true, recurses := true, apart := false }
def ChangeApplySaid : Prop := changeApplyRow.holds Try.pinned (OpenSpec.ofChange changeApplySpec)

/-- ITS FALSE NEIGHBOUR: 'it returns false'. Refute it at one input. -/
def changeApplyWrong : ChangeSpec := { name := "changeApply", fn := fun _ => fun
  | [d1, d2, d3] => { results := [.lit (.bool false)], args := [d1, d2, d3] }
  | _ => none }
def ChangeApplyWrongFalsely : Prop := changeApplyRow.holds Try.pinned (OpenSpec.ofChange changeApplyWrong)

/-- 'carrefourlaw27.ChangeLeads': WHATEVER THE INPUT: true; the input reads as it did. -/
def changeLeadsSpec : ChangeSpec := { name := "changeLeads", fn := fun _ => fun
  | [d] => { results := [.lit (.bool true)], args := [d] }
  | _ => none }
def changeLeadsRow : OpenClaim := { program := "ytnhnckhkfdoadaa", sum := "fc45edf89c690fbadc03471eaad3d58f4a6533277be4b632f9a255d76d89cff1", func := "carrefour/carrefourlaw27.ChangeLeads", spec := "changeLeads", unfollowed := true, recurses := true, apart := false }
def ChangeLeadsSaid : Prop := changeLeadsRow.holds Try.pinned (OpenSpec.ofChange changeLeadsSpec)

/-- ITS FALSE NEIGHBOUR: 'it returns false'. Refute it at one input. -/
def changeLeadsWrong : ChangeSpec := { name := "changeLeads", fn := fun _ => fun
  | [d] => { results := [.lit (.bool false)], args := [d] }
  | _ => none }
def ChangeLeadsWrongFalsely : Prop := changeLeadsRow.holds Try.pinned (OpenSpec.ofChange changeLeadsWrong)

/-- 'carrefourlaw27.ChangeBack': WHATEVER THE INPUT: true; the input reads as it did. -/
def changeBackSpec : ChangeSpec := { name := "changeBack", fn := fun _ => fun
  | [d] => { results := [.lit (.bool true)], args := [d] }
  | _ => none }
def changeBackRow : OpenClaim := { program := "ytnhnckhkfdoadaa", sum := "fc45edf89c690fbadc03471eaad3d58f4a6533277be4b632f9a255d76d89cff1", func := "carrefour/carrefourlaw27.ChangeBack", spec := "changeBack", unfollowed := true, recurses := true, apart := false }
def ChangeBackSaid : Prop := changeBackRow.holds Try.pinned (OpenSpec.ofChange changeBackSpec)

/-- ITS FALSE NEIGHBOUR: 'it returns false'. Refute it at one input. -/
def changeBackWrong : ChangeSpec := { name := "changeBack", fn := fun _ => fun
  | [d] => { results := [.lit (.bool false)], args := [d] }
  | _ => none }
def ChangeBackWrongFalsely : Prop := changeBackRow.holds Try.pinned (OpenSpec.ofChange changeBackWrong)

/- THE SECOND FORM. 'bulk': how many values and letters a reading holds, each counted each time it is reached (what is shared counts as often as it is met; a slice's spare places count too). A statement '..UptoSaid' is the law's where the arguments, and the package variables that the reading takes, are together of bulk at most 1048576: NARROWER than '..Said'. Prove '..Said' where nothing that the law and all that it calls make is longer than what came in: it says more and counts as full. Else prove '..UptoSaid'. A law counts once. -/
mutual
def uptoBulk {H : Type} : DataW H → Nat
  | .lit (.string bytes) => bytes.length + 1
  | .lit _ => 1
  | .nil => 1
  | .ptr d => uptoBulk d + 1
  | .slice elems spare => uptoBulkAll elems + uptoBulkAll spare + 1
  | .agg parts => uptoBulkAll parts + 1
  | .iface _ d => uptoBulk d + 1
  | .map entries => uptoBulkEntries entries + 1
  | .held _ => 1
def uptoBulkAll {H : Type} : List (DataW H) → Nat
  | [] => 0
  | d :: r => uptoBulk d + uptoBulkAll r
def uptoBulkEntries {H : Type} : List (Lit × DataW H) → Nat
  | [] => 0
  | x :: r => uptoBulkEntry x + uptoBulkEntries r
def uptoBulkEntry {H : Type} : Lit × DataW H → Nat
  | (.string bytes, d) => bytes.length + uptoBulk d + 1
  | (_, d) => uptoBulk d + 1
 end
def uptoSmall : (H : Type) → List (DataW H) → Bool := fun _ ds => decide (uptoBulkAll ds ≤ 1048576)
def OpenSpec.upto (s : _root_.Go.ChangeSpec) : _root_.Go.OpenSpec := { _root_.Go.OpenSpec.ofChange s with cond := some uptoSmall }

/-- 'carrefourlaw08.ClearTimes', WHERE WHAT IT READS IS OF BULK AT MOST 1048576: true; the input reads as it did. -/
def clearTimesUptoRow : OpenClaim := { program := "ytnhnckhkfdoadaa", sum := "fc45edf89c690fbadc03471eaad3d58f4a6533277be4b632f9a255d76d89cff1", func := "carrefour/carrefourlaw08.ClearTimes", spec := "clearTimes", unfollowed := true, recurses := true, apart := false, narrowed := true }
def ClearTimesUptoSaid : Prop := clearTimesUptoRow.holds Try.pinned (OpenSpec.upto clearTimesSpec)

/-- 'carrefourlaw08.ClearEnough', WHERE WHAT IT READS IS OF BULK AT MOST 1048576: true; the input reads as it did. -/
def clearEnoughUptoRow : OpenClaim := { program := "ytnhnckhkfdoadaa", sum := "fc45edf89c690fbadc03471eaad3d58f4a6533277be4b632f9a255d76d89cff1", func := "carrefour/carrefourlaw08.ClearEnough", spec := "clearEnough", unfollowed := true, recurses := true, apart := false, narrowed := true }
def ClearEnoughUptoSaid : Prop := clearEnoughUptoRow.holds Try.pinned (OpenSpec.upto clearEnoughSpec)

/-- 'carrefourlaw08.ClearGrows', WHERE WHAT IT READS IS OF BULK AT MOST 1048576: true; the input reads as it did. -/
def clearGrowsUptoRow : OpenClaim := { program := "ytnhnckhkfdoadaa", sum := "fc45edf89c690fbadc03471eaad3d58f4a6533277be4b632f9a255d76d89cff1", func := "carrefour/carrefourlaw08.ClearGrows", spec := "clearGrows", unfollowed := true, recurses := true, apart := false, narrowed := true }
def ClearGrowsUptoSaid : Prop := clearGrowsUptoRow.holds Try.pinned (OpenSpec.upto clearGrowsSpec)

/-- 'carrefourlaw27.ChangeWays', WHERE WHAT IT READS IS OF BULK AT MOST 1048576: true; the input reads as it did. -/
def changeWaysUptoRow : OpenClaim := { program := "ytnhnckhkfdoadaa", sum := "fc45edf89c690fbadc03471eaad3d58f4a6533277be4b632f9a255d76d89cff1", func := "carrefour/carrefourlaw27.ChangeWays", spec := "changeWays", unfollowed := true, recurses := true, apart := false, narrowed := true }
def ChangeWaysUptoSaid : Prop := changeWaysUptoRow.holds Try.pinned (OpenSpec.upto changeWaysSpec)

/-- 'carrefourlaw27.ChangeApply', WHERE WHAT IT READS IS OF BULK AT MOST 1048576: true; the input reads as it did. -/
def changeApplyUptoRow : OpenClaim := { program := "ytnhnckhkfdoadaa", sum := "fc45edf89c690fbadc03471eaad3d58f4a6533277be4b632f9a255d76d89cff1", func := "carrefour/carrefourlaw27.ChangeApply", spec := "changeApply", unfollowed := true, recurses := true, apart := false, narrowed := true }
def ChangeApplyUptoSaid : Prop := changeApplyUptoRow.holds Try.pinned (OpenSpec.upto changeApplySpec)

/-- 'carrefourlaw27.ChangeLeads', WHERE WHAT IT READS IS OF BULK AT MOST 1048576: true; the input reads as it did. -/
def changeLeadsUptoRow : OpenClaim := { program := "ytnhnckhkfdoadaa", sum := "fc45edf89c690fbadc03471eaad3d58f4a6533277be4b632f9a255d76d89cff1", func := "carrefour/carrefourlaw27.ChangeLeads", spec := "changeLeads", unfollowed := true, recurses := true, apart := false, narrowed := true }
def ChangeLeadsUptoSaid : Prop := changeLeadsUptoRow.holds Try.pinned (OpenSpec.upto changeLeadsSpec)

/-- 'carrefourlaw27.ChangeBack', WHERE WHAT IT READS IS OF BULK AT MOST 1048576: true; the input reads as it did. -/
def changeBackUptoRow : OpenClaim := { program := "ytnhnckhkfdoadaa", sum := "fc45edf89c690fbadc03471eaad3d58f4a6533277be4b632f9a255d76d89cff1", func := "carrefour/carrefourlaw27.ChangeBack", spec := "changeBack", unfollowed := true, recurses := true, apart := false, narrowed := true }
def ChangeBackUptoSaid : Prop := changeBackUptoRow.holds Try.pinned (OpenSpec.upto changeBackSpec)

end Rows
end Go.Proofs.Ytnhnckhkfdoadaa
