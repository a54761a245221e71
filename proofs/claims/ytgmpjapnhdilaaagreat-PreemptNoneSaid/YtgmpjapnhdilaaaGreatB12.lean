/- PreemptNone: for every input the law returns true, and its arguments read as before: the row out of the walk, and its card. -/
import Derived.Test.YtgmpjapnhdilaaaGreatRows
import Derived.Test.YtgmpjapnhdilaaaGreatB11
import Derived.Test.YtgmpjapnhdilaaaGreatB4
import Derived.WalkKit
import Derived.ProofKit
import Derived.OpenShut
import Derived.ShutString
import Derived.ChangeOld
import Derived.Below
import Derived.SizedLaws
/-! Joined, names shortened: LawPreemptNone. -/
namespace Go.Proofs.YtgmpjapnhdilaaaGreat.preemptNone
open Go.ChangeShapes Go.WideShapes Go.ChangeAt Go.RowKit
open Go.ChangeMaps (open_string shut_string)
set_option linter.unusedVariables false
set_option linter.unusedSimpArgs false
theorem own : ownKnob Tryz.prog.godebug = none := by kernel_rfl
theorem An7 : laidOutB Tryz.prog = true := by kernel_rfl
set_option maxRecDepth 100000 in
theorem lifted (os : Os) (started : os.Started) (H : Type) (enc : TypeId × Value → H) :
    ReturnsInHanded {} Tryz.checked os 3 .any (Rows.preemptNoneSpec.pre6 enc Tryz.prog Tryz.f3 Rows.preemptNoneRow.domain false) (Rows.preemptNoneSpec.post enc Tryz.prog Tryz.f3 false true false false) := by
  refine returnsInHanded_of_change_sized (C := Tryz.checked) own started (by kernel_rfl) Tryz.func3
    (ChangeSpec.witness6 (enc := enc) (C := Tryz.checked) false ⟨#[], #[.agg #[.string ByteArray.empty, .slice none 0 0, .slice none 0 0, .slice none 0 0, .slice none 0 0, .slice none 0 0, .int .i64 0], .agg #[.string ByteArray.empty, .int .i64 0, .slice none 0 0, .int .i64 0, .int .i64 0], .int .i64 0], []⟩ 8 (by kernel_rfl) (by kernel_rfl) (by kernel_rfl) (by kernel_rfl)) ?_
  intro W base args ds gs before hval0 hW hcnd hsz0 _
  have hval : ∀ (j : Nat) t v, Tryz.f3.params[j]? = some t → args[j]? = some v → Value.okWide Tryz.prog W .any base t v := hval0
  have hW' := hW
  obtain ⟨p, q, hA0, hV, rfl, hfz, hnd⟩ := hW
  have hA : DataW.TrodAll enc Tryz.prog W 0 (fun _ => true) true Tryz.f3.params.toList args.toList ds p := hA0
  rw [Tryz.params3] at hA hval
  obtain ⟨v0, vs0, d0, ds0, p0, q0, hargs, rfl, rfl, h0, r0⟩ := trodAll_cons hA
  obtain ⟨v1, vs1, d1, ds1, p1, q1, rfl, rfl, rfl, h1, r1⟩ := trodAll_cons r0
  obtain ⟨v2, vs2, d2, ds2, p2, q2, rfl, rfl, rfl, h2, r2⟩ := trodAll_cons r1
  obtain ⟨rfl, rfl, rfl⟩ := trodAll_nil r2
  obtain rfl : args = #[v0, v1, v2] := by cases args; simp_all
  obtain ⟨rfl, rfl⟩ := trodVars_none hV
  have k0 := h0
  have lt0 : ∀ x ∈ p0, x.block < W.heap.size := by obtain ⟨m, hm⟩ := k0; exact DataW.trod_lt m _ _ _ hm
  obtain ⟨z0, g0⟩ : ∃ z : (YtgmpjapnhdilaaaGreatV.Ty.den (.cons .str (.cons (.slice (.cons .str (.cons (.int .i64) (.cons (.int .i64) (.cons (.cons (.int .i64) (.cons (.int .i64) .nil)) (.cons (.int .i64) (.cons (.int .i64) (.cons (.int .i64) (.cons (.int .i64) (.cons (.int .i64) (.cons (.int .i64) .nil))))))))))) (.cons (.slice (.cons .str (.cons .str (.cons (.int .i64) (.cons (.int .i64) (.cons (.int .i64) (.cons (.int .i64) .nil))))))) (.cons (.slice (.cons .str (.cons (.slice .str) (.cons (.int .i64) .nil)))) (.cons (.slice (.cons (.slice (.cons .bool (.cons (.slice .str) .nil))) .nil)) (.cons (.slice (.cons .str (.cons .str (.cons (.int .i64) .nil)))) (.cons (.int .i64) .nil)))))))), YtgmpjapnhdilaaaGreatV.Rep W (fun b => b < W.heap.size) (.cons .str (.cons (.slice (.cons .str (.cons (.int .i64) (.cons (.int .i64) (.cons (.cons (.int .i64) (.cons (.int .i64) .nil)) (.cons (.int .i64) (.cons (.int .i64) (.cons (.int .i64) (.cons (.int .i64) (.cons (.int .i64) (.cons (.int .i64) .nil))))))))))) (.cons (.slice (.cons .str (.cons .str (.cons (.int .i64) (.cons (.int .i64) (.cons (.int .i64) (.cons (.int .i64) .nil))))))) (.cons (.slice (.cons .str (.cons (.slice .str) (.cons (.int .i64) .nil)))) (.cons (.slice (.cons (.slice (.cons .bool (.cons (.slice .str) .nil))) .nil)) (.cons (.slice (.cons .str (.cons .str (.cons (.int .i64) .nil)))) (.cons (.int .i64) .nil))))))) z v0.cells.toList := by
    obtain ⟨fuel, hf⟩ := h0
    exact YtgmpjapnhdilaaaGreatV.Ao1 (fun _ h => h) 14 28 _ (by kernel_rfl) _ _ _ hf
  obtain ⟨cs0, e0⟩ := YtgmpjapnhdilaaaGreatV.A40 (P := Tryz.prog) (by rw [Tryz.underlying28]) (hval 0 28 v0 rfl rfl)
  rw [e0] at g0
  have k1 := h1
  have lt1 : ∀ x ∈ p1, x.block < W.heap.size := by obtain ⟨m, hm⟩ := k1; exact DataW.trod_lt m _ _ _ hm
  obtain ⟨z1, g1⟩ : ∃ z : (YtgmpjapnhdilaaaGreatV.Ty.den (.cons .str (.cons (.int .i64) (.cons (.slice (.cons (.slice (.slice (.cons .str (.cons (.int .i64) (.cons (.int .i64) (.cons (.int .i64) (.cons (.slice (.cons .str (.cons (.int .i64) (.cons (.int .i64) .nil)))) .nil))))))) .nil)) (.cons (.cons (.int .i64) (.cons (.int .i64) .nil)) .nil))))), YtgmpjapnhdilaaaGreatV.Rep W (fun b => b < W.heap.size) (.cons .str (.cons (.int .i64) (.cons (.slice (.cons (.slice (.slice (.cons .str (.cons (.int .i64) (.cons (.int .i64) (.cons (.int .i64) (.cons (.slice (.cons .str (.cons (.int .i64) (.cons (.int .i64) .nil)))) .nil))))))) .nil)) (.cons (.cons (.int .i64) (.cons (.int .i64) .nil)) .nil)))) z v1.cells.toList := by
    obtain ⟨fuel, hf⟩ := h1
    exact YtgmpjapnhdilaaaGreatV.Ao1 (fun _ h => h) 14 33 _ (by kernel_rfl) _ _ _ hf
  obtain ⟨cs1, e1⟩ := YtgmpjapnhdilaaaGreatV.A40 (P := Tryz.prog) (by rw [Tryz.underlying33]) (hval 1 33 v1 rfl rfl)
  rw [e1] at g1
  have k2 := h2
  have lt2 : ∀ x ∈ p2, x.block < W.heap.size := by obtain ⟨m, hm⟩ := k2; exact DataW.trod_lt m _ _ _ hm
  obtain ⟨z2, g2⟩ : ∃ z : (YtgmpjapnhdilaaaGreatV.Ty.den (.int .i64)), YtgmpjapnhdilaaaGreatV.Rep W (fun b => b < W.heap.size) (.int .i64) z v2.cells.toList := by
    obtain ⟨fuel, hf⟩ := h2
    exact YtgmpjapnhdilaaaGreatV.Ao1 (fun _ h => h) 14 2 _ (by kernel_rfl) _ _ _ hf
  obtain ⟨a2, e2, _⟩ := open_int Tryz.underlying2 (hval 2 2 v2 rfl rfl) k2
  rw [e2] at g2
  clear hA0 hval0
  have hg : ∀ x ∈ YtgmpjapnhdilaaaGreatV.gTab, ∃ et fr, W.heap[x.1]? = some (.cells x.2 et fr) := by intro x hx; cases hx
  obtain ⟨k, hk⟩ := YtgmpjapnhdilaaaGreatV.preemptNone_pure (z0.1, z0.2.1, z0.2.2.1, z0.2.2.2.1, z0.2.2.2.2.1, z0.2.2.2.2.2.1, z0.2.2.2.2.2.2.1, z1.1, z1.2.1, z1.2.2.1, z1.2.2.2.1.1, z1.2.2.2.1.2.1, z2)
  refine (YtgmpjapnhdilaaaGreatV.Bi9 (YtgmpjapnhdilaaaGreatV.Bcr k) rfl rfl (x := (z0.1, z0.2.1, z0.2.2.1, z0.2.2.2.1, z0.2.2.2.2.1, z0.2.2.2.2.2.1, z0.2.2.2.2.2.2.1, z1.1, z1.2.1, z1.2.2.1, z1.2.2.2.1.1, z1.2.2.2.1.2.1, z2)) hk hg (vals := [v0, v1, v2]) fun G s h1 h2 => (.cons (by rw [e0]; exact YtgmpjapnhdilaaaGreatV.A32 (t := (.cons .str (.cons (.slice (.cons .str (.cons (.int .i64) (.cons (.int .i64) (.cons (.cons (.int .i64) (.cons (.int .i64) .nil)) (.cons (.int .i64) (.cons (.int .i64) (.cons (.int .i64) (.cons (.int .i64) (.cons (.int .i64) (.cons (.int .i64) .nil))))))))))) (.cons (.slice (.cons .str (.cons .str (.cons (.int .i64) (.cons (.int .i64) (.cons (.int .i64) (.cons (.int .i64) .nil))))))) (.cons (.slice (.cons .str (.cons (.slice .str) (.cons (.int .i64) .nil)))) (.cons (.slice (.cons (.slice (.cons .bool (.cons (.slice .str) .nil))) .nil)) (.cons (.slice (.cons .str (.cons .str (.cons (.int .i64) .nil)))) (.cons (.int .i64) .nil)))))))) (g0.mono fun b hb => ⟨⟨hb, id, YtgmpjapnhdilaaaGreatV.K5 h1 h2⟩, rfl⟩)) (.cons (by rw [e1]; exact YtgmpjapnhdilaaaGreatV.A32 (t := (.cons .str (.cons (.int .i64) (.cons (.slice (.cons (.slice (.slice (.cons .str (.cons (.int .i64) (.cons (.int .i64) (.cons (.int .i64) (.cons (.slice (.cons .str (.cons (.int .i64) (.cons (.int .i64) .nil)))) .nil))))))) .nil)) (.cons (.cons (.int .i64) (.cons (.int .i64) .nil)) .nil))))) (g1.mono fun b hb => ⟨⟨hb, id, YtgmpjapnhdilaaaGreatV.K5 h1 h2⟩, rfl⟩)) (.cons (by rw [e2]; exact YtgmpjapnhdilaaaGreatV.Bht (p := ⟨(.int .i64), z2⟩) (g2.mono fun b hb => ⟨⟨hb, id, YtgmpjapnhdilaaaGreatV.K5 h1 h2⟩, rfl⟩)) .nil)))).mono fun e W' ⟨he, bel⟩ => ?_
  subst he
  exact ⟨_, rfl, _, _, _, [], _, [], hW', trodAll_mk1 (shut_bool Tryz.underlying4 _), (trodAll_cons_mk (Below.trod An7 (by kernel_rfl) (of_decide_eq_true (by kernel_rfl)) k0 bel lt0) (trodAll_cons_mk (Below.trod An7 (by kernel_rfl) (of_decide_eq_true (by kernel_rfl)) k1 bel lt1) (trodAll_cons_mk (Below.trod An7 (by kernel_rfl) (of_decide_eq_true (by kernel_rfl)) k2 bel lt2) trodAll_mk0))), rfl, bel.frame _, fun h => by cases h⟩
theorem over : Rows.preemptNoneRow.holds Tryz.pinned (OpenSpec.ofChange Rows.preemptNoneSpec) :=
  OpenClaim.holds_of_wide 3 Tryz.f3 rfl rfl rfl rfl rfl rfl rfl ⟨rfl, rfl, rfl, rfl, rfl⟩ rfl rfl rfl rfl rfl (by kernel_rfl) Tryz.func3 (by kernel_rfl)
    (of_decide_eq_true (by kernel_rfl)) (by unfold Func.isWrapper; first | (rw [if_pos (by decide +kernel)]; kernel_rfl) | (rw [if_neg (by decide +kernel)]; exact ⟨rfl, rfl⟩))
    (fun os started H enc _ => lifted os started H enc)
theorem proved : Rows.PreemptNoneSaid := over
end Go.Proofs.YtgmpjapnhdilaaaGreat.preemptNone
namespace Go.Proofs.YtgmpjapnhdilaaaGreat
theorem preemptNone_holds : Rows.PreemptNoneSaid := preemptNone.proved
end Go.Proofs.YtgmpjapnhdilaaaGreat
