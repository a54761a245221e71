/- NetNodes: for every input the law returns true, and its arguments read as before: the row out of the walk, and its card. -/
import Derived.Test.YtipcdjgcomclkaaGreatDoorRows
import Derived.Test.YtipcdjgcomclkaaGreatDoorTie
import Derived.Test.YtipcdjgcomclkaaGreatDoorCards
import Derived.Test.YtipcdjgcomclkaaGreatDoorF9
import Derived.Test.YtipcdjgcomclkaaGreatDoorF3
import Derived.WalkKit
import Derived.ProofKit
import Derived.OpenShut
import Derived.ShutString
import Derived.ChangeOld
import Derived.Below
import Derived.SizedLaws
import Derived.LaidMore
import Derived.Stop.Joined
import Derived.Stop.LaidErr
import Derived.Lib.LaidTab
/-! Joined, names shortened: LawNetNodes. -/
namespace Go.Proofs.YtipcdjgcomclkaaGreatDoor.netNodes
open Go.ChangeShapes Go.WideShapes Go.ChangeAt Go.WideMaps Go.WideElems Go.RowKit
open Go.ChangeMaps (open_string shut_string)
set_option linter.unusedVariables false
set_option linter.unusedSimpArgs false
theorem own : ownKnob Tryz.prog.godebug = none := by kernel_rfl
theorem Bpy : laidOutB Tryz.prog = true := by kernel_rfl
def laid : List (String × DataW Unit) := [("math/bits.deBruijn32tab", Rows.laid_math_bits_deBruijn32tab), ("math/bits.deBruijn64tab", Rows.laid_math_bits_deBruijn64tab), ("internal/strconv.uint64pow10", Rows.laid_internal_strconv_uint64pow10), ("errors.errorType", Rows.laid_errors_errorType), ("strconv.ErrRange", Rows.laid_strconv_ErrRange), ("strconv.ErrSyntax", Rows.laid_strconv_ErrSyntax)]
theorem Bi9 : ((List.range Tryz.prog.types.size).filter fun t => Tryz.prog.rowNamed t [101, 114, 114, 111, 114]) = [62] := by kernel_rfl
theorem A6i (os : Os) (args : Array Value) : laidMetH Tryz.prog laid ((World.doorLaid Tryz.prog 69 os).forCall (fun _ _ => 0) ⟨#[], args, []⟩).memory :=
  laidMetH_of_parts3 (fuel := 8) (laidMet_of_run' 8 (by kernel_rfl) (by kernel_rfl)) (by kernel_rfl) (by kernel_rfl)
set_option maxRecDepth 100000 in
theorem lifted (os : Os) (started : os.Started) (H : Type) (enc : TypeId × Value → H) :
    ReturnsInHanded {} Tryz.checked os 5 .any (fun w args => (Rows.netNodesSpec.pre enc Tryz.prog Tryz.f5 [] false w args ∧ laidMetH Tryz.prog laid w) ∧ sizedMet enc Tryz.prog Tryz.f5 (OpenSpec.ofChange Rows.netNodesSpec) false w args) (Rows.netNodesSpec.post enc Tryz.prog Tryz.f5 false true false false) := by
  refine returnsInHanded_of_change_and (C := Tryz.checked) (X := fun w _ => laidMetH Tryz.prog laid w) (fun _ _ _ hh h => h.of_heap hh) own started (by kernel_rfl) Tryz.func5
    (ChangeSpec.witness_shaped (enc := enc) (C := Tryz.checked) (os := os) (X := fun w _ => laidMetH Tryz.prog laid w) false (World.doorLaid Tryz.prog 69 os) #[.slice none 0 0, .slice none 0 0] 8 rfl (World.shaped_of_RefB (by kernel_rfl) (by kernel_rfl)) (by kernel_rfl) (by kernel_rfl) (by kernel_rfl) (A6i os _)) ?_
  intro W base args ds gs before hval0 hW _ _ hL _
  have hval : ∀ (j : Nat) t v, Tryz.f5.params[j]? = some t → args[j]? = some v → Value.okWide Tryz.prog W .any base t v := hval0
  have hW' := hW
  obtain ⟨p, q, hA0, hV, rfl, hfz, hnd⟩ := hW
  have hA : DataW.TrodAll enc Tryz.prog W 0 (fun _ => true) true Tryz.f5.params.toList args.toList ds p := hA0
  rw [Tryz.params5] at hA hval
  obtain ⟨v0, vs0, d0, ds0, p0, q0, hargs, rfl, rfl, h0, r0⟩ := trodAll_cons hA
  obtain ⟨v1, vs1, d1, ds1, p1, q1, rfl, rfl, rfl, h1, r1⟩ := trodAll_cons r0
  obtain ⟨rfl, rfl, rfl⟩ := trodAll_nil r1
  obtain rfl : args = #[v0, v1] := by cases args; simp_all
  obtain ⟨rfl, rfl⟩ := trodVars_none hV
  have k0 := h0
  have lt0 : ∀ x ∈ p0, x.block < W.heap.size := by obtain ⟨m, hm⟩ := k0; exact DataW.trod_lt m _ _ _ hm
  obtain ⟨z0, g0⟩ : ∃ z : (YtipcdjgcomclkaaGreatDoorV.Ty.den (.slice (.int .u8))), YtipcdjgcomclkaaGreatDoorV.Rep W (fun b => b < W.heap.size) (.slice (.int .u8)) z v0.cells.toList := by
    obtain ⟨fuel, hf⟩ := h0
    exact YtipcdjgcomclkaaGreatDoorV.Bi1 (fun _ h => h) 14 22 _ (by kernel_rfl) _ _ _ hf
  obtain ⟨a0, len0, cap0, e0⟩ := okWide_slice Tryz.underlying22 (hval 0 22 v0 rfl rfl)
  rw [e0] at g0
  have k1 := h1
  have lt1 : ∀ x ∈ p1, x.block < W.heap.size := by obtain ⟨m, hm⟩ := k1; exact DataW.trod_lt m _ _ _ hm
  obtain ⟨z1, g1⟩ : ∃ z : (YtipcdjgcomclkaaGreatDoorV.Ty.den (.slice (.int .u8))), YtipcdjgcomclkaaGreatDoorV.Rep W (fun b => b < W.heap.size) (.slice (.int .u8)) z v1.cells.toList := by
    obtain ⟨fuel, hf⟩ := h1
    exact YtipcdjgcomclkaaGreatDoorV.Bi1 (fun _ h => h) 14 22 _ (by kernel_rfl) _ _ _ hf
  obtain ⟨a1, len1, cap1, e1⟩ := okWide_slice Tryz.underlying22 (hval 1 22 v1 rfl rfl)
  rw [e1] at g1
  clear hA0 hval0
  have hH : laidMet Tryz.prog (laid.filter fun x => x.2.handleName?.isNone) W ∧ handlesMet Tryz.prog [("errors.errorType", Rows.laid_errors_errorType)] W := hL
  have hlm : laidMet Tryz.prog (laid.filter fun x => x.2.handleName?.isNone) W := hH.1
  have hg : ∀ x ∈ YtipcdjgcomclkaaGreatDoorV.gTab, ∃ et fr, W.heap[x.1]? = some (.cells x.2 et fr) := by
    intro x hx
    · obtain rfl := List.mem_singleton.1 hx
      obtain ⟨name, u, ty, e1, e2, e3, e4, e5⟩ := hH.2 _ (List.mem_singleton.2 rfl)
      have en : name = [101, 114, 114, 111, 114] := (Option.some.inj e1).symm
      subst en
      have hm : ty ∈ (List.range Tryz.prog.types.size).filter fun t => Tryz.prog.rowNamed t [101, 114, 114, 111, 114] := List.mem_filter.2 ⟨List.mem_range.2 e3, e4⟩
      rw [Bi9] at hm
      obtain rfl := List.mem_singleton.1 hm
      have eu : some 153 = some u := (show (Tryz.prog.cutTypes.find? (·.1 == "internal/reflectlite.rtype")).map (·.2) = some 153 by kernel_rfl).symm.trans e2
      obtain rfl := Option.some.inj eu
      have eh : typeHandle Tryz.prog 62 = .pointer (some ⟨6, 62, none⟩) := by kernel_rfl
      rw [eh] at e5
      unfold World.var? at e5
      rw [show Tryz.prog.globalNamed "errors.errorType" = some 0 by kernel_rfl, Option.bind_some] at e5
      split at e5
      · rename_i cs et fr hh
        cases e5
        exact ⟨_, _, hh⟩
      · cases e5
  obtain ⟨k, hk⟩ := YtipcdjgcomclkaaGreatDoorV.netNodes_pure (z0, z1)
  refine (YtipcdjgcomclkaaGreatDoorV.Bi8 (YtipcdjgcomclkaaGreatDoorV.Bqf k) rfl rfl (x := (z0, z1)) hk hg (vals := [v0, v1]) fun G s h1 h2 => (.cons (by rw [e0]; exact YtipcdjgcomclkaaGreatDoorV.Bfe (p := ⟨(.slice (.int .u8)), z0⟩) (g0.mono fun b hb => ⟨⟨hb, id, YtipcdjgcomclkaaGreatDoorV.M6 h1 h2⟩, rfl⟩)) (.cons (by rw [e1]; exact YtipcdjgcomclkaaGreatDoorV.Bfe (p := ⟨(.slice (.int .u8)), z1⟩) (g1.mono fun b hb => ⟨⟨hb, id, YtipcdjgcomclkaaGreatDoorV.M6 h1 h2⟩, rfl⟩)) .nil))).mono fun e W' ⟨he, bel⟩ => ?_
  subst he
  exact ⟨_, rfl, _, _, _, [], _, [], hW', trodAll_mk1 (shut_bool Tryz.underlying4 _), (trodAll_cons_mk (Below.trod Bpy (by kernel_rfl) (of_decide_eq_true (by kernel_rfl)) k0 bel lt0) (trodAll_cons_mk (Below.trod Bpy (by kernel_rfl) (of_decide_eq_true (by kernel_rfl)) k1 bel lt1) trodAll_mk0)), rfl, bel.frame _, fun h => by cases h⟩
theorem over : Rows.netNodesRow.holds Tryz.pinned (OpenSpec.ofChange Rows.netNodesSpec) :=
  OpenClaim.holds_of_wide 5 Tryz.f5 rfl rfl rfl rfl rfl rfl rfl ⟨rfl, rfl, rfl, rfl, rfl⟩ rfl rfl rfl rfl rfl (by kernel_rfl) Tryz.func5 (by kernel_rfl)
    (of_decide_eq_true (by kernel_rfl)) (by unfold Func.isWrapper; first | (rw [if_pos (by decide +kernel)]; kernel_rfl) | (rw [if_neg (by decide +kernel)]; exact ⟨rfl, rfl⟩))
    (fun os started H enc _ => lifted os started H enc)
theorem proved : Rows.NetNodesCardSaid :=
  Claim7.holds_tied_plain_at .later [] [.data, .data, .data, .handle, .sentinel, .sentinel] true (true, "3162b2a2c81936fb04d75c10eb1d578ac5013c8557eced4cffcc283ab88fc983") true
    over (fun _ h => by cases h) (by kernel_rfl) (fun _ h => by cases h) netNodes_row_tie rfl ⟨rfl, rfl⟩ (by kernel_rfl) rfl
    (fun f fn hf hfn => by
      obtain rfl : f = 5 := Option.some.inj ((show Tryz.prog.funcNamed "carrefour/carrefourlaw05.NetNodes" = some 5 by kernel_rfl).symm.trans hf) |>.symm
      obtain rfl : fn = Tryz.f5 := (Option.some.inj (Tryz.func5.symm.trans hfn)).symm
      exact ⟨by kernel_rfl, fun j t ht => by
        rw [Tryz.params5] at ht
        have hm : t ∈ [22, 22] := by simpa using Array.mem_of_getElem? ht
        have hall : ([22, 22].all fun u => !Tryz.prog.wantsStandIn u) = true := by kernel_rfl
        exact (show Tryz.prog.wantsStandIn t = false by simpa using List.all_eq_true.1 hall t hm)⟩)
    (by kernel_rfl)
end Go.Proofs.YtipcdjgcomclkaaGreatDoor.netNodes
namespace Go.Proofs.YtipcdjgcomclkaaGreatDoor
theorem netNodes_holds : Rows.NetNodesCardSaid := netNodes.proved
end Go.Proofs.YtipcdjgcomclkaaGreatDoor
