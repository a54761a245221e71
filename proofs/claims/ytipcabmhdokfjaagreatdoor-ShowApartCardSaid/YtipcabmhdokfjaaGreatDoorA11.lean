/- ShowApart: for every input the law returns true, and its arguments read as before: the row out of the walk, and its card. -/
import Derived.Test.YtipcabmhdokfjaaGreatDoorRows
import Derived.Test.YtipcabmhdokfjaaGreatDoorTie
import Derived.Test.YtipcabmhdokfjaaGreatDoorCards
import Derived.Test.YtipcabmhdokfjaaGreatDoorA10
import Derived.Test.YtipcabmhdokfjaaGreatDoorA3
import Derived.WalkKit
import Derived.ProofKit
import Derived.OpenShut
import Derived.ShutString
import Derived.ChangeOld
import Derived.Below
import Derived.SizedLaws
import Derived.LaidMore
import Derived.Stop.Joined
import Derived.Stop.LaidErr
import Derived.Lib.LaidTab
/-! Texts of the proof, joined: LawShowApart. -/
namespace Go.Proofs.YtipcabmhdokfjaaGreatDoor.showApart
open Go.ChangeShapes Go.WideShapes Go.ChangeAt Go.WideMaps Go.WideElems Go.RowKit
open Go.ChangeMaps (open_string shut_string)
set_option linter.unusedVariables false
set_option linter.unusedSimpArgs false
theorem own : ownKnob Tryz.prog.godebug = none := by kernel_rfl
theorem laidOut : laidOutB Tryz.prog = true := by kernel_rfl
def laid : List (String × DataW Unit) := [("math/bits.deBruijn32tab", Rows.laid_math_bits_deBruijn32tab), ("math/bits.deBruijn64tab", Rows.laid_math_bits_deBruijn64tab), ("internal/strconv.uint64pow10", Rows.laid_internal_strconv_uint64pow10), ("strconv.ErrRange", Rows.laid_strconv_ErrRange), ("strconv.ErrSyntax", Rows.laid_strconv_ErrSyntax)]
theorem door_met (os : Os) (args : Array Value) : laidMetH Tryz.prog laid ((World.doorLaid Tryz.prog 69 os).forCall (fun _ _ => 0) ⟨#[], args, []⟩).memory :=
  laidMetH_of_parts3 (fuel := 8) (laidMet_of_run' 8 (by kernel_rfl) (by kernel_rfl)) (by kernel_rfl) (by kernel_rfl)
set_option maxRecDepth 100000 in
theorem lifted (os : Os) (started : os.Started) (H : Type) (enc : TypeId × Value → H) :
    ReturnsInHanded {} Tryz.checked os 4 .any (fun w args => (Rows.showApartSpec.pre enc Tryz.prog Tryz.f4 [] false w args ∧ laidMetH Tryz.prog laid w) ∧ sizedMet enc Tryz.prog Tryz.f4 (OpenSpec.ofChange Rows.showApartSpec) false w args) (Rows.showApartSpec.post enc Tryz.prog Tryz.f4 false true false false) := by
  refine returnsInHanded_of_change_and (C := Tryz.checked) (X := fun w _ => laidMetH Tryz.prog laid w) (fun _ _ _ hh h => h.of_heap hh) own started (by kernel_rfl) Tryz.func4
    (ChangeSpec.witness_shaped (enc := enc) (C := Tryz.checked) (os := os) (X := fun w _ => laidMetH Tryz.prog laid w) false (World.doorLaid Tryz.prog 69 os) #[.agg #[.int .i64 0, .int .i64 0, .int .i64 0, .int .i64 0, .int .i64 0, .slice none 0 0, .slice none 0 0, .int .i64 0, .int .i64 0], .agg #[.int .i64 0, .int .i64 0, .int .i64 0, .int .i64 0, .int .i64 0, .slice none 0 0, .slice none 0 0, .int .i64 0, .int .i64 0]] 8 rfl (World.shaped_of_RefB (by kernel_rfl) (by kernel_rfl)) (by kernel_rfl) (by kernel_rfl) (by kernel_rfl) (door_met os _)) ?_
  intro W base args ds gs before hval0 hW _ _ hL _
  have hval : ∀ (j : Nat) t v, Tryz.f4.params[j]? = some t → args[j]? = some v → Value.okWide Tryz.prog W .any base t v := hval0
  have hW' := hW
  obtain ⟨p, q, hA0, hV, rfl, hfz, hnd⟩ := hW
  have hA : DataW.TrodAll enc Tryz.prog W 0 (fun _ => true) true Tryz.f4.params.toList args.toList ds p := hA0
  rw [Tryz.params4] at hA hval
  obtain ⟨v0, vs0, d0, ds0, p0, q0, hargs, rfl, rfl, h0, r0⟩ := trodAll_cons hA
  obtain ⟨v1, vs1, d1, ds1, p1, q1, rfl, rfl, rfl, h1, r1⟩ := trodAll_cons r0
  obtain ⟨rfl, rfl, rfl⟩ := trodAll_nil r1
  obtain rfl : args = #[v0, v1] := by cases args; simp_all
  obtain ⟨rfl, rfl⟩ := trodVars_none hV
  have k0 := h0
  have lt0 : ∀ x ∈ p0, x.block < W.heap.size := by obtain ⟨m, hm⟩ := k0; exact DataW.trod_lt m _ _ _ hm
  obtain ⟨z0, g0⟩ : ∃ z : (YtipcabmhdokfjaaGreatDoorV.Ty.den (.cons (.int .i64) (.cons (.int .i64) (.cons (.int .i64) (.cons (.cons (.int .i64) (.cons (.int .i64) .nil)) (.cons (.slice (.cons .str (.cons (.slice (.cons .str (.cons (.int .i64) (.cons (.int .i64) (.cons (.cons (.int .i64) (.cons (.int .i64) .nil)) (.cons (.int .i64) (.cons (.int .i64) (.cons (.int .i64) (.cons (.int .i64) (.cons (.int .i64) (.cons (.int .i64) .nil))))))))))) (.cons (.slice (.cons .str (.cons .str (.cons (.int .i64) (.cons (.int .i64) (.cons (.int .i64) (.cons (.int .i64) .nil))))))) (.cons (.slice (.cons .str (.cons (.slice .str) (.cons (.int .i64) .nil)))) (.cons (.slice (.cons (.slice (.cons .bool (.cons (.slice .str) .nil))) .nil)) (.cons (.slice (.cons .str (.cons .str (.cons (.int .i64) .nil)))) (.cons (.int .i64) .nil)))))))) (.cons (.slice (.cons .str (.cons .str (.cons .str (.cons (.int .i64) (.cons (.int .i64) (.cons (.int .i64) .nil))))))) (.cons (.int .i64) (.cons (.int .i64) .nil))))))))), YtipcabmhdokfjaaGreatDoorV.Rep W (fun b => b < W.heap.size) (.cons (.int .i64) (.cons (.int .i64) (.cons (.int .i64) (.cons (.cons (.int .i64) (.cons (.int .i64) .nil)) (.cons (.slice (.cons .str (.cons (.slice (.cons .str (.cons (.int .i64) (.cons (.int .i64) (.cons (.cons (.int .i64) (.cons (.int .i64) .nil)) (.cons (.int .i64) (.cons (.int .i64) (.cons (.int .i64) (.cons (.int .i64) (.cons (.int .i64) (.cons (.int .i64) .nil))))))))))) (.cons (.slice (.cons .str (.cons .str (.cons (.int .i64) (.cons (.int .i64) (.cons (.int .i64) (.cons (.int .i64) .nil))))))) (.cons (.slice (.cons .str (.cons (.slice .str) (.cons (.int .i64) .nil)))) (.cons (.slice (.cons (.slice (.cons .bool (.cons (.slice .str) .nil))) .nil)) (.cons (.slice (.cons .str (.cons .str (.cons (.int .i64) .nil)))) (.cons (.int .i64) .nil)))))))) (.cons (.slice (.cons .str (.cons .str (.cons .str (.cons (.int .i64) (.cons (.int .i64) (.cons (.int .i64) .nil))))))) (.cons (.int .i64) (.cons (.int .i64) .nil)))))))) z v0.cells.toList := by
    obtain ⟨fuel, hf⟩ := h0
    exact YtipcabmhdokfjaaGreatDoorV.rep_trod (fun _ h => h) 14 27 _ (by kernel_rfl) _ _ _ hf
  obtain ⟨cs0, e0⟩ := YtipcabmhdokfjaaGreatDoorV.okW_agg (P := Tryz.prog) (by rw [Tryz.underlying27]) (hval 0 27 v0 rfl rfl)
  rw [e0] at g0
  have k1 := h1
  have lt1 : ∀ x ∈ p1, x.block < W.heap.size := by obtain ⟨m, hm⟩ := k1; exact DataW.trod_lt m _ _ _ hm
  obtain ⟨z1, g1⟩ : ∃ z : (YtipcabmhdokfjaaGreatDoorV.Ty.den (.cons (.int .i64) (.cons (.int .i64) (.cons (.int .i64) (.cons (.cons (.int .i64) (.cons (.int .i64) .nil)) (.cons (.slice (.cons .str (.cons (.slice (.cons .str (.cons (.int .i64) (.cons (.int .i64) (.cons (.cons (.int .i64) (.cons (.int .i64) .nil)) (.cons (.int .i64) (.cons (.int .i64) (.cons (.int .i64) (.cons (.int .i64) (.cons (.int .i64) (.cons (.int .i64) .nil))))))))))) (.cons (.slice (.cons .str (.cons .str (.cons (.int .i64) (.cons (.int .i64) (.cons (.int .i64) (.cons (.int .i64) .nil))))))) (.cons (.slice (.cons .str (.cons (.slice .str) (.cons (.int .i64) .nil)))) (.cons (.slice (.cons (.slice (.cons .bool (.cons (.slice .str) .nil))) .nil)) (.cons (.slice (.cons .str (.cons .str (.cons (.int .i64) .nil)))) (.cons (.int .i64) .nil)))))))) (.cons (.slice (.cons .str (.cons .str (.cons .str (.cons (.int .i64) (.cons (.int .i64) (.cons (.int .i64) .nil))))))) (.cons (.int .i64) (.cons (.int .i64) .nil))))))))), YtipcabmhdokfjaaGreatDoorV.Rep W (fun b => b < W.heap.size) (.cons (.int .i64) (.cons (.int .i64) (.cons (.int .i64) (.cons (.cons (.int .i64) (.cons (.int .i64) .nil)) (.cons (.slice (.cons .str (.cons (.slice (.cons .str (.cons (.int .i64) (.cons (.int .i64) (.cons (.cons (.int .i64) (.cons (.int .i64) .nil)) (.cons (.int .i64) (.cons (.int .i64) (.cons (.int .i64) (.cons (.int .i64) (.cons (.int .i64) (.cons (.int .i64) .nil))))))))))) (.cons (.slice (.cons .str (.cons .str (.cons (.int .i64) (.cons (.int .i64) (.cons (.int .i64) (.cons (.int .i64) .nil))))))) (.cons (.slice (.cons .str (.cons (.slice .str) (.cons (.int .i64) .nil)))) (.cons (.slice (.cons (.slice (.cons .bool (.cons (.slice .str) .nil))) .nil)) (.cons (.slice (.cons .str (.cons .str (.cons (.int .i64) .nil)))) (.cons (.int .i64) .nil)))))))) (.cons (.slice (.cons .str (.cons .str (.cons .str (.cons (.int .i64) (.cons (.int .i64) (.cons (.int .i64) .nil))))))) (.cons (.int .i64) (.cons (.int .i64) .nil)))))))) z v1.cells.toList := by
    obtain ⟨fuel, hf⟩ := h1
    exact YtipcabmhdokfjaaGreatDoorV.rep_trod (fun _ h => h) 14 27 _ (by kernel_rfl) _ _ _ hf
  obtain ⟨cs1, e1⟩ := YtipcabmhdokfjaaGreatDoorV.okW_agg (P := Tryz.prog) (by rw [Tryz.underlying27]) (hval 1 27 v1 rfl rfl)
  rw [e1] at g1
  clear hA0 hval0
  have hlm : laidMet Tryz.prog laid W := by
    have h := hL
    rw [MakeChecks.laidMetH_plain _ _ _ (by kernel_rfl)] at h
    exact h
  have hT : Lib.TabIs Tryz.prog W "internal/strconv.uint64pow10" .u64 Lib.pow10Tab := Lib.tabIs_of_head (rest := _) (g := 1) (t := 290) (e := 190) (n := 20) (by kernel_rfl) (by kernel_rfl) Tryz.underlying290 Tryz.underlying190 (by kernel_rfl) (by kernel_rfl) (laidMet.tail (laidMet.tail hlm))
  have hg : ∀ x ∈ YtipcabmhdokfjaaGreatDoorV.gTab, ∃ et fr, W.heap[x.1]? = some (.cells x.2 et fr) := by
    intro x hx
    obtain rfl := List.mem_singleton.1 hx
    unfold Lib.TabIs World.var? at hT
    rw [show Tryz.prog.globalNamed "internal/strconv.uint64pow10" = some 1 by kernel_rfl, Option.bind_some] at hT
    split at hT
    · rename_i cs et fr hh
      cases hT
      exact ⟨_, _, hh⟩
    · cases hT
  obtain ⟨k, hk⟩ := YtipcabmhdokfjaaGreatDoorV.showApart_pure (z0.1, z0.2.1, z0.2.2.1, z0.2.2.2.1.1, z0.2.2.2.1.2.1, z0.2.2.2.2.1, z0.2.2.2.2.2.1, z0.2.2.2.2.2.2.1, z0.2.2.2.2.2.2.2.1, z1.1, z1.2.1, z1.2.2.1, z1.2.2.2.1.1, z1.2.2.2.1.2.1, z1.2.2.2.2.1, z1.2.2.2.2.2.1, z1.2.2.2.2.2.2.1, z1.2.2.2.2.2.2.2.1)
  refine (YtipcabmhdokfjaaGreatDoorV.root_walk (YtipcabmhdokfjaaGreatDoorV.cw06ShowApart_ok k) rfl rfl (x := (z0.1, z0.2.1, z0.2.2.1, z0.2.2.2.1.1, z0.2.2.2.1.2.1, z0.2.2.2.2.1, z0.2.2.2.2.2.1, z0.2.2.2.2.2.2.1, z0.2.2.2.2.2.2.2.1, z1.1, z1.2.1, z1.2.2.1, z1.2.2.2.1.1, z1.2.2.2.1.2.1, z1.2.2.2.2.1, z1.2.2.2.2.2.1, z1.2.2.2.2.2.2.1, z1.2.2.2.2.2.2.2.1)) hk hg (vals := [v0, v1]) fun G s h1 h2 => (.cons (by rw [e0]; exact YtipcabmhdokfjaaGreatDoorV.ha_agg_mk (t := (.cons (.int .i64) (.cons (.int .i64) (.cons (.int .i64) (.cons (.cons (.int .i64) (.cons (.int .i64) .nil)) (.cons (.slice (.cons .str (.cons (.slice (.cons .str (.cons (.int .i64) (.cons (.int .i64) (.cons (.cons (.int .i64) (.cons (.int .i64) .nil)) (.cons (.int .i64) (.cons (.int .i64) (.cons (.int .i64) (.cons (.int .i64) (.cons (.int .i64) (.cons (.int .i64) .nil))))))))))) (.cons (.slice (.cons .str (.cons .str (.cons (.int .i64) (.cons (.int .i64) (.cons (.int .i64) (.cons (.int .i64) .nil))))))) (.cons (.slice (.cons .str (.cons (.slice .str) (.cons (.int .i64) .nil)))) (.cons (.slice (.cons (.slice (.cons .bool (.cons (.slice .str) .nil))) .nil)) (.cons (.slice (.cons .str (.cons .str (.cons (.int .i64) .nil)))) (.cons (.int .i64) .nil)))))))) (.cons (.slice (.cons .str (.cons .str (.cons .str (.cons (.int .i64) (.cons (.int .i64) (.cons (.int .i64) .nil))))))) (.cons (.int .i64) (.cons (.int .i64) .nil))))))))) (g0.mono fun b hb => ⟨⟨hb, id, YtipcabmhdokfjaaGreatDoorV.not_live h1 h2⟩, rfl⟩)) (.cons (by rw [e1]; exact YtipcabmhdokfjaaGreatDoorV.ha_agg_mk (t := (.cons (.int .i64) (.cons (.int .i64) (.cons (.int .i64) (.cons (.cons (.int .i64) (.cons (.int .i64) .nil)) (.cons (.slice (.cons .str (.cons (.slice (.cons .str (.cons (.int .i64) (.cons (.int .i64) (.cons (.cons (.int .i64) (.cons (.int .i64) .nil)) (.cons (.int .i64) (.cons (.int .i64) (.cons (.int .i64) (.cons (.int .i64) (.cons (.int .i64) (.cons (.int .i64) .nil))))))))))) (.cons (.slice (.cons .str (.cons .str (.cons (.int .i64) (.cons (.int .i64) (.cons (.int .i64) (.cons (.int .i64) .nil))))))) (.cons (.slice (.cons .str (.cons (.slice .str) (.cons (.int .i64) .nil)))) (.cons (.slice (.cons (.slice (.cons .bool (.cons (.slice .str) .nil))) .nil)) (.cons (.slice (.cons .str (.cons .str (.cons (.int .i64) .nil)))) (.cons (.int .i64) .nil)))))))) (.cons (.slice (.cons .str (.cons .str (.cons .str (.cons (.int .i64) (.cons (.int .i64) (.cons (.int .i64) .nil))))))) (.cons (.int .i64) (.cons (.int .i64) .nil))))))))) (g1.mono fun b hb => ⟨⟨hb, id, YtipcabmhdokfjaaGreatDoorV.not_live h1 h2⟩, rfl⟩)) .nil))).mono fun e W' ⟨he, bel⟩ => ?_
  subst he
  exact ⟨_, rfl, _, _, _, [], _, [], hW', trodAll_mk1 (shut_bool Tryz.underlying4 _), (trodAll_cons_mk (Below.trod laidOut (by kernel_rfl) (of_decide_eq_true (by kernel_rfl)) k0 bel lt0) (trodAll_cons_mk (Below.trod laidOut (by kernel_rfl) (of_decide_eq_true (by kernel_rfl)) k1 bel lt1) trodAll_mk0)), rfl, bel.frame _, fun h => by cases h⟩
theorem over : Rows.showApartRow.holds Tryz.pinned (OpenSpec.ofChange Rows.showApartSpec) :=
  OpenClaim.holds_of_wide 4 Tryz.f4 rfl rfl rfl rfl rfl rfl rfl ⟨rfl, rfl, rfl, rfl, rfl⟩ rfl rfl rfl rfl rfl (by kernel_rfl) Tryz.func4 (by kernel_rfl)
    (of_decide_eq_true (by kernel_rfl)) (by unfold Func.isWrapper; first | (rw [if_pos (by decide +kernel)]; kernel_rfl) | (rw [if_neg (by decide +kernel)]; exact ⟨rfl, rfl⟩))
    (fun os started H enc _ => lifted os started H enc)
theorem proved : Rows.ShowApartCardSaid :=
  Claim7.holds_tied_plain_at .later [] [.data, .data, .data, .sentinel, .sentinel] true (true, "c51f4b0a991a6239354c8cc10a7bcc6862b2bbf8394d47cf5d078073d34a9ee9") true
    over (fun _ h => by cases h) (by kernel_rfl) (fun _ h => by cases h) showApart_row_tie rfl ⟨rfl, rfl⟩ (by kernel_rfl) rfl
    (fun f fn hf hfn => by
      obtain rfl : f = 4 := Option.some.inj ((show Tryz.prog.funcNamed "carrefour/carrefourlaw06.ShowApart" = some 4 by kernel_rfl).symm.trans hf) |>.symm
      obtain rfl : fn = Tryz.f4 := (Option.some.inj (Tryz.func4.symm.trans hfn)).symm
      exact ⟨by kernel_rfl, fun j t ht => by
        rw [Tryz.params4] at ht
        have hm : t ∈ [27, 27] := by simpa using Array.mem_of_getElem? ht
        have hall : ([27, 27].all fun u => !Tryz.prog.wantsStandIn u) = true := by kernel_rfl
        exact (show Tryz.prog.wantsStandIn t = false by simpa using List.all_eq_true.1 hall t hm)⟩)
    (by kernel_rfl)
end Go.Proofs.YtipcabmhdokfjaaGreatDoor.showApart
namespace Go.Proofs.YtipcabmhdokfjaaGreatDoor
/-- The row, under a short name, for the claim. -/
theorem showApart_holds : Rows.ShowApartCardSaid := showApart.proved
end Go.Proofs.YtipcabmhdokfjaaGreatDoor
