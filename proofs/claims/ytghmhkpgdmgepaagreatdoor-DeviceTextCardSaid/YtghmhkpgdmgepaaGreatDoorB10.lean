/- DeviceText: for every input the law returns true, and its arguments read as before: the row out of the walk, and its card. -/
import Derived.Test.YtghmhkpgdmgepaaGreatDoorRows
import Derived.Test.YtghmhkpgdmgepaaGreatDoorTie
import Derived.Test.YtghmhkpgdmgepaaGreatDoorCards
import Derived.Test.YtghmhkpgdmgepaaGreatDoorB9
import Derived.Test.YtghmhkpgdmgepaaGreatDoorB3
import Derived.WalkKit
import Derived.ProofKit
import Derived.OpenShut
import Derived.ShutString
import Derived.ChangeOld
import Derived.Below
import Derived.SizedLaws
import Derived.LaidMore
import Derived.Stop.Joined
import Derived.Stop.LaidErr
import Derived.Lib.LaidTab
/-! Joined, names shortened: LawDeviceText. -/
namespace Go.Proofs.YtghmhkpgdmgepaaGreatDoor.deviceText
open Go.ChangeShapes Go.WideShapes Go.ChangeAt Go.WideMaps Go.WideElems Go.RowKit
open Go.ChangeMaps (open_string shut_string)
set_option linter.unusedVariables false
set_option linter.unusedSimpArgs false
theorem own : ownKnob Tryz.prog.godebug = none := by kernel_rfl
theorem laidOut : laidOutB Tryz.prog = true := by kernel_rfl
def laid : List (String × DataW Unit) := [("math/bits.deBruijn32tab", Rows.laid_math_bits_deBruijn32tab), ("math/bits.deBruijn64tab", Rows.laid_math_bits_deBruijn64tab), ("internal/strconv.uint64pow10", Rows.laid_internal_strconv_uint64pow10), ("strconv.ErrRange", Rows.laid_strconv_ErrRange), ("strconv.ErrSyntax", Rows.laid_strconv_ErrSyntax)]
theorem A16 (os : Os) (args : Array Value) : laidMetH Tryz.prog laid ((World.doorLaid Tryz.prog 62 os).forCall (fun _ _ => 0) ⟨#[], args, []⟩).memory :=
  laidMetH_of_parts3 (fuel := 8) (laidMet_of_run' 8 (by kernel_rfl) (by kernel_rfl)) (by kernel_rfl) (by kernel_rfl)
set_option maxRecDepth 100000 in
theorem lifted (os : Os) (started : os.Started) (H : Type) (enc : TypeId × Value → H) :
    ReturnsInHanded {} Tryz.checked os 3 .any (fun w args => (Rows.deviceTextSpec.pre enc Tryz.prog Tryz.f3 [] false w args ∧ laidMetH Tryz.prog laid w) ∧ sizedMet enc Tryz.prog Tryz.f3 (OpenSpec.ofChange Rows.deviceTextSpec) false w args) (Rows.deviceTextSpec.post enc Tryz.prog Tryz.f3 false true false false) := by
  refine returnsInHanded_of_change_and (C := Tryz.checked) (X := fun w _ => laidMetH Tryz.prog laid w) (fun _ _ _ hh h => h.of_heap hh) own started (by kernel_rfl) Tryz.func3
    (ChangeSpec.witness_shaped (enc := enc) (C := Tryz.checked) (os := os) (X := fun w _ => laidMetH Tryz.prog laid w) false (World.doorLaid Tryz.prog 62 os) #[.slice none 0 0] 8 rfl (World.shaped_of_RefB (by kernel_rfl) (by kernel_rfl)) (by kernel_rfl) (by kernel_rfl) (by kernel_rfl) (A16 os _)) ?_
  intro W base args ds gs before hval0 hW _ _ hL _
  have hval : ∀ (j : Nat) t v, Tryz.f3.params[j]? = some t → args[j]? = some v → Value.okWide Tryz.prog W .any base t v := hval0
  have hW' := hW
  obtain ⟨p, q, hA0, hV, rfl, hfz, hnd⟩ := hW
  have hA : DataW.TrodAll enc Tryz.prog W 0 (fun _ => true) true Tryz.f3.params.toList args.toList ds p := hA0
  rw [Tryz.params3] at hA hval
  obtain ⟨v0, vs0, d0, ds0, p0, q0, hargs, rfl, rfl, h0, r0⟩ := trodAll_cons hA
  obtain ⟨rfl, rfl, rfl⟩ := trodAll_nil r0
  obtain rfl : args = #[v0] := by cases args; simp_all
  obtain ⟨rfl, rfl⟩ := trodVars_none hV
  have k0 := h0
  have lt0 : ∀ x ∈ p0, x.block < W.heap.size := by obtain ⟨m, hm⟩ := k0; exact DataW.trod_lt m _ _ _ hm
  obtain ⟨z0, g0⟩ : ∃ z : (YtghmhkpgdmgepaaGreatDoorV.Ty.den (.slice (.int .u8))), YtghmhkpgdmgepaaGreatDoorV.Rep W (fun b => b < W.heap.size) (.slice (.int .u8)) z v0.cells.toList := by
    obtain ⟨fuel, hf⟩ := h0
    exact YtghmhkpgdmgepaaGreatDoorV.Bb4 (fun _ h => h) 14 22 _ (by kernel_rfl) _ _ _ hf
  obtain ⟨a0, len0, cap0, e0⟩ := okWide_slice Tryz.underlying22 (hval 0 22 v0 rfl rfl)
  rw [e0] at g0
  clear hA0 hval0
  have hlm : laidMet Tryz.prog laid W := by
    have h := hL
    rw [MakeChecks.laidMetH_plain _ _ _ (by kernel_rfl)] at h
    exact h
  have hT : Lib.TabIs Tryz.prog W "internal/strconv.uint64pow10" .u64 Lib.pow10Tab := Lib.tabIs_of_head (rest := _) (g := 0) (t := 177) (e := 88) (n := 20) (by kernel_rfl) (by kernel_rfl) Tryz.underlying177 Tryz.underlying88 (by kernel_rfl) (by kernel_rfl) (laidMet.tail (laidMet.tail hlm))
  have hg : ∀ x ∈ YtghmhkpgdmgepaaGreatDoorV.gTab, ∃ et fr, W.heap[x.1]? = some (.cells x.2 et fr) := by
    intro x hx
    obtain rfl := List.mem_singleton.1 hx
    unfold Lib.TabIs World.var? at hT
    rw [show Tryz.prog.globalNamed "internal/strconv.uint64pow10" = some 0 by kernel_rfl, Option.bind_some] at hT
    split at hT
    · rename_i cs et fr hh
      cases hT
      exact ⟨_, _, hh⟩
    · cases hT
  obtain ⟨k, hk⟩ := YtghmhkpgdmgepaaGreatDoorV.deviceText_pure z0
  refine (YtghmhkpgdmgepaaGreatDoorV.Bce (YtghmhkpgdmgepaaGreatDoorV.A12 k) rfl rfl (x := z0) hk hg (vals := [v0]) fun G s h1 h2 => (.cons (by rw [e0]; exact YtghmhkpgdmgepaaGreatDoorV.Bak (p := ⟨(.slice (.int .u8)), z0⟩) (g0.mono fun b hb => ⟨⟨hb, id, YtghmhkpgdmgepaaGreatDoorV.Pp h1 h2⟩, rfl⟩)) .nil)).mono fun e W' ⟨he, bel⟩ => ?_
  subst he
  exact ⟨_, rfl, _, _, _, [], _, [], hW', trodAll_mk1 (shut_bool Tryz.underlying4 _), (trodAll_cons_mk (Below.trod laidOut (by kernel_rfl) (of_decide_eq_true (by kernel_rfl)) k0 bel lt0) trodAll_mk0), rfl, bel.frame _, fun h => by cases h⟩
theorem over : Rows.deviceTextRow.holds Tryz.pinned (OpenSpec.ofChange Rows.deviceTextSpec) :=
  OpenClaim.holds_of_wide 3 Tryz.f3 rfl rfl rfl rfl rfl rfl rfl ⟨rfl, rfl, rfl, rfl, rfl⟩ rfl rfl rfl rfl rfl (by kernel_rfl) Tryz.func3 (by kernel_rfl)
    (of_decide_eq_true (by kernel_rfl)) (by unfold Func.isWrapper; first | (rw [if_pos (by decide +kernel)]; kernel_rfl) | (rw [if_neg (by decide +kernel)]; exact ⟨rfl, rfl⟩))
    (fun os started H enc _ => lifted os started H enc)
theorem proved : Rows.DeviceTextCardSaid :=
  Claim7.holds_tied_plain_at .later [] [.data, .data, .data, .sentinel, .sentinel] true (true, "7faf043955b8813a721997bcb86555997201f3f93f70c963569d9f68c453ba49") true
    over (fun _ h => by cases h) (by kernel_rfl) (fun _ h => by cases h) deviceText_row_tie rfl ⟨rfl, rfl⟩ (by kernel_rfl) rfl
    (fun f fn hf hfn => by
      obtain rfl : f = 3 := Option.some.inj ((show Tryz.prog.funcNamed "carrefour/carrefourlaw36.DeviceText" = some 3 by kernel_rfl).symm.trans hf) |>.symm
      obtain rfl : fn = Tryz.f3 := (Option.some.inj (Tryz.func3.symm.trans hfn)).symm
      exact ⟨by kernel_rfl, fun j t ht => by
        rw [Tryz.params3] at ht
        have hm : t ∈ [22] := by simpa using Array.mem_of_getElem? ht
        have hall : ([22].all fun u => !Tryz.prog.wantsStandIn u) = true := by kernel_rfl
        exact (show Tryz.prog.wantsStandIn t = false by simpa using List.all_eq_true.1 hall t hm)⟩)
    (by kernel_rfl)
end Go.Proofs.YtghmhkpgdmgepaaGreatDoor.deviceText
namespace Go.Proofs.YtghmhkpgdmgepaaGreatDoor
theorem deviceText_holds : Rows.DeviceTextCardSaid := deviceText.proved
end Go.Proofs.YtghmhkpgdmgepaaGreatDoor
