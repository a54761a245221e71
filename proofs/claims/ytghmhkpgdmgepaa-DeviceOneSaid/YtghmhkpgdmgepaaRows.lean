/-
  No cell of these rows narrows 'for every input' (looked for: loops, veiled, ifaces, maps, wideKeys, modest, calm, conditions, laid).
  DERIVED. THE GIVEN ROWS OF THIS SEAT. 2 by the template 'for every input the law returns true; each argument reads behind the call as it read before'; 0 by the template 'total and deterministic' (their statements: YtghmhkpgdmgepaaTotals.lean).
  GIVEN WITH THE SEED: the statements are not yours to turn. If you find one false, say at which input.
  Laid BY PROGRAM, IN A SANDBOX (cutbox-rows.mjs): the forced cells as the released guide's own fill.sh prints them over the translation 5873bb094200b7cb… (all of the seat's roots in one cut). By AI agents, Wed Nov 11 2026. No macro, syntax, notation, axiom, sorry.
-/
import Derived.Test.YtghmhkpgdmgepaaChecked
import GoSem.Claim
import GoSem.ClaimJoined
import GoSem.ClaimMapViews
import Derived.JoinedTies
import Derived.KernelRfl
namespace Go.Proofs.Ytghmhkpgdmgepaa
/- THE CELL 'sum', in the pinned program and in every row, IS THE sha256 OF THE DUMP (.gsa) THAT YtghmhkpgdmgepaaProg.lean LOADS. Nothing in Lean hashes anything: it is a label: what it is worth is what the hold of that sum in a sandbox is worth. -/
noncomputable def Try.pinned : Pinned := { name := "ytghmhkpgdmgepaa", sum := "5873bb094200b7cb7020ae7e36145e3bb44e99b9b3557b868cd2cce54eee9756", checked := Try.checked }
namespace Rows
def none {H : Type} : Left H := { results := [], args := [] }

/-- 'carrefourlaw36.DeviceEncode': WHATEVER THE INPUT: true; the input reads as it did. -/
def deviceEncodeSpec : ChangeSpec := { name := "deviceEncode", fn := fun _ => fun
  | [d] => { results := [.lit (.bool true)], args := [d] }
  | _ => none }
def deviceEncodeRow : OpenClaim := { program := "ytghmhkpgdmgepaa", sum := "5873bb094200b7cb7020ae7e36145e3bb44e99b9b3557b868cd2cce54eee9756", func := "carrefour/carrefourlaw36.DeviceEncode", spec := "deviceEncode", unfollowed := true, recurses := true, apart := false }
def DeviceEncodeSaid : Prop := deviceEncodeRow.holds Try.pinned (OpenSpec.ofChange deviceEncodeSpec)

/-- ITS FALSE NEIGHBOUR: 'it returns false'. Refute it at one input. -/
def deviceEncodeWrong : ChangeSpec := { name := "deviceEncode", fn := fun _ => fun
  | [d] => { results := [.lit (.bool false)], args := [d] }
  | _ => none }
def DeviceEncodeWrongFalsely : Prop := deviceEncodeRow.holds Try.pinned (OpenSpec.ofChange deviceEncodeWrong)

/-- 'carrefourlaw36.DeviceOne': WHATEVER THE INPUT: true; the input reads as it did. -/
def deviceOneSpec : ChangeSpec := { name := "deviceOne", fn := fun _ => fun
  | [d] => { results := [.lit (.bool true)], args := [d] }
  | _ => none }
def deviceOneRow : OpenClaim := { program := "ytghmhkpgdmgepaa", sum := "5873bb094200b7cb7020ae7e36145e3bb44e99b9b3557b868cd2cce54eee9756", func := "carrefour/carrefourlaw36.DeviceOne", spec := "deviceOne", unfollowed := true, recurses := true, apart := false }
def DeviceOneSaid : Prop := deviceOneRow.holds Try.pinned (OpenSpec.ofChange deviceOneSpec)

/-- ITS FALSE NEIGHBOUR: 'it returns false'. Refute it at one input. -/
def deviceOneWrong : ChangeSpec := { name := "deviceOne", fn := fun _ => fun
  | [d] => { results := [.lit (.bool false)], args := [d] }
  | _ => none }
def DeviceOneWrongFalsely : Prop := deviceOneRow.holds Try.pinned (OpenSpec.ofChange deviceOneWrong)

/- THE SECOND FORM. 'bulk': how many values and letters a reading holds, each counted each time it is reached (what is shared counts as often as it is met; a slice's spare places count too). A statement '..UptoSaid' is the law's where the arguments, and the package variables that the reading takes, are together of bulk at most 1048576: NARROWER than '..Said'. Prove '..Said' where nothing that the law and all that it calls make is longer than what came in: it says more and counts as full. Else prove '..UptoSaid'. A law counts once. -/
mutual
def uptoBulk {H : Type} : DataW H → Nat
  | .lit (.string bytes) => bytes.length + 1
  | .lit _ => 1
  | .nil => 1
  | .ptr d => uptoBulk d + 1
  | .slice elems spare => uptoBulkAll elems + uptoBulkAll spare + 1
  | .agg parts => uptoBulkAll parts + 1
  | .iface _ d => uptoBulk d + 1
  | .map entries => uptoBulkEntries entries + 1
  | .held _ => 1
def uptoBulkAll {H : Type} : List (DataW H) → Nat
  | [] => 0
  | d :: r => uptoBulk d + uptoBulkAll r
def uptoBulkEntries {H : Type} : List (Lit × DataW H) → Nat
  | [] => 0
  | x :: r => uptoBulkEntry x + uptoBulkEntries r
def uptoBulkEntry {H : Type} : Lit × DataW H → Nat
  | (.string bytes, d) => bytes.length + uptoBulk d + 1
  | (_, d) => uptoBulk d + 1
 end
def uptoSmall : (H : Type) → List (DataW H) → Bool := fun _ ds => decide (uptoBulkAll ds ≤ 1048576)
def OpenSpec.upto (s : _root_.Go.ChangeSpec) : _root_.Go.OpenSpec := { _root_.Go.OpenSpec.ofChange s with cond := some uptoSmall }

/-- 'carrefourlaw36.DeviceEncode', WHERE WHAT IT READS IS OF BULK AT MOST 1048576: true; the input reads as it did. -/
def deviceEncodeUptoRow : OpenClaim := { program := "ytghmhkpgdmgepaa", sum := "5873bb094200b7cb7020ae7e36145e3bb44e99b9b3557b868cd2cce54eee9756", func := "carrefour/carrefourlaw36.DeviceEncode", spec := "deviceEncode", unfollowed := true, recurses := true, apart := false, narrowed := true }
def DeviceEncodeUptoSaid : Prop := deviceEncodeUptoRow.holds Try.pinned (OpenSpec.upto deviceEncodeSpec)

/-- 'carrefourlaw36.DeviceOne', WHERE WHAT IT READS IS OF BULK AT MOST 1048576: true; the input reads as it did. -/
def deviceOneUptoRow : OpenClaim := { program := "ytghmhkpgdmgepaa", sum := "5873bb094200b7cb7020ae7e36145e3bb44e99b9b3557b868cd2cce54eee9756", func := "carrefour/carrefourlaw36.DeviceOne", spec := "deviceOne", unfollowed := true, recurses := true, apart := false, narrowed := true }
def DeviceOneUptoSaid : Prop := deviceOneUptoRow.holds Try.pinned (OpenSpec.upto deviceOneSpec)

end Rows
end Go.Proofs.Ytghmhkpgdmgepaa
