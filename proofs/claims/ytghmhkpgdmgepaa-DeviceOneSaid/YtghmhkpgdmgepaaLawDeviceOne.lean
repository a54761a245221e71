/- DeviceOne: for every input the law returns true, and its arguments read as before: the row out of the walk, and its card. -/
import Derived.Test.YtghmhkpgdmgepaaRows
import Derived.Test.YtghmhkpgdmgepaaD5
import Derived.Test.YtghmhkpgdmgepaaDevOne
import Derived.WalkKit
import Derived.ProofKit
import Derived.OpenShut
import Derived.ShutString
import Derived.ChangeOld
import Derived.Below
import Derived.SizedLaws
namespace Go.Proofs.Ytghmhkpgdmgepaa.deviceOne
open Go.ChangeShapes Go.WideShapes Go.ChangeAt Go.RowKit
open Go.ChangeMaps (open_string shut_string)
set_option linter.unusedVariables false
set_option linter.unusedSimpArgs false
theorem own : ownKnob Try.prog.godebug = none := by kernel_rfl
theorem laidOut : laidOutB Try.prog = true := by kernel_rfl
set_option maxRecDepth 100000 in
theorem lifted (os : Os) (started : os.Started) (H : Type) (enc : TypeId × Value → H) :
    ReturnsInHanded {} Try.checked os 4 .any (Rows.deviceOneSpec.pre6 enc Try.prog Try.f4 Rows.deviceOneRow.domain false) (Rows.deviceOneSpec.post enc Try.prog Try.f4 false true false false) := by
  refine returnsInHanded_of_change_sized (C := Try.checked) own started (by kernel_rfl) Try.func4
    (ChangeSpec.witness6 (enc := enc) (C := Try.checked) false ⟨#[], #[.slice none 0 0], []⟩ 8 (by kernel_rfl) (by kernel_rfl) (by kernel_rfl) (by kernel_rfl)) ?_
  intro W base args ds gs before hval0 hW hcnd hsz0 _
  have hval : ∀ (j : Nat) t v, Try.f4.params[j]? = some t → args[j]? = some v → Value.okWide Try.prog W .any base t v := hval0
  have hW' := hW
  obtain ⟨p, q, hA0, hV, rfl, hfz, hnd⟩ := hW
  have hA : DataW.TrodAll enc Try.prog W 0 (fun _ => true) true Try.f4.params.toList args.toList ds p := hA0
  rw [Try.params4] at hA hval
  obtain ⟨v0, vs0, d0, ds0, p0, q0, hargs, rfl, rfl, h0, r0⟩ := trodAll_cons hA
  obtain ⟨rfl, rfl, rfl⟩ := trodAll_nil r0
  obtain rfl : args = #[v0] := by cases args; simp_all
  obtain ⟨rfl, rfl⟩ := trodVars_none hV
  have k0 := h0
  have lt0 : ∀ x ∈ p0, x.block < W.heap.size := by obtain ⟨m, hm⟩ := k0; exact DataW.trod_lt m _ _ _ hm
  obtain ⟨z0, g0⟩ : ∃ z : (YtghmhkpgdmgepaaV.Ty.den (.slice (.int .u8))), YtghmhkpgdmgepaaV.Rep W (fun b => b < W.heap.size) (.slice (.int .u8)) z v0.cells.toList := by
    obtain ⟨fuel, hf⟩ := h0
    exact YtghmhkpgdmgepaaV.rep_trod (fun _ h => h) 14 28 _ (by kernel_rfl) _ _ _ hf
  obtain ⟨a0, len0, cap0, e0⟩ := okWide_slice Try.underlying28 (hval 0 28 v0 rfl rfl)
  rw [e0] at g0
  clear hA0 hval0
  obtain ⟨k, hk⟩ := YtghmhkpgdmgepaaV.deviceOne_pure z0 g0.wf
  refine (YtghmhkpgdmgepaaV.root_walk (YtghmhkpgdmgepaaV.c4_ok k) rfl rfl (x := z0) hk (vals := [v0]) fun G s h1 h2 => (.cons (by rw [e0]; exact YtghmhkpgdmgepaaV.ha_leaf_mk (p := ⟨(.slice (.int .u8)), z0⟩) (g0.mono fun b hb => ⟨⟨hb, id, YtghmhkpgdmgepaaV.not_live h1 h2⟩, rfl⟩)) .nil)).mono fun e W' ⟨he, bel⟩ => ?_
  subst he
  exact ⟨_, rfl, _, _, _, [], _, [], hW', trodAll_mk1 (shut_bool Try.underlying4 _), (trodAll_cons_mk (Below.trod laidOut (by kernel_rfl) (of_decide_eq_true (by kernel_rfl)) k0 bel lt0) trodAll_mk0), rfl, bel.frame _, fun h => by cases h⟩
theorem over : Rows.deviceOneRow.holds Try.pinned (OpenSpec.ofChange Rows.deviceOneSpec) :=
  OpenClaim.holds_of_wide 4 Try.f4 rfl rfl rfl rfl rfl rfl rfl ⟨rfl, rfl, rfl, rfl, rfl⟩ rfl rfl rfl rfl rfl (by kernel_rfl) Try.func4 (by kernel_rfl)
    (of_decide_eq_true (by kernel_rfl)) (by unfold Func.isWrapper; first | (rw [if_pos (by decide +kernel)]; kernel_rfl) | (rw [if_neg (by decide +kernel)]; exact ⟨rfl, rfl⟩))
    (fun os started H enc _ => lifted os started H enc)
theorem proved : Rows.DeviceOneSaid := over
end Go.Proofs.Ytghmhkpgdmgepaa.deviceOne
namespace Go.Proofs.Ytghmhkpgdmgepaa
/-- The row, under a short name, for the claim. -/
theorem deviceOne_holds : Rows.DeviceOneSaid := deviceOne.proved
end Go.Proofs.Ytghmhkpgdmgepaa
