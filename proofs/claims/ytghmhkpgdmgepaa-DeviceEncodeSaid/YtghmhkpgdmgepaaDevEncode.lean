import Derived.Test.YtghmhkpgdmgepaaDevK
import Derived.Test.YtghmhkpgdmgepaaDevAw
import Derived.Test.YtghmhkpgdmgepaaV30
/-! DeviceEncode, the plain law. -/
set_option linter.unusedVariables false
set_option linter.unusedSimpArgs false
namespace Go.Proofs.YtghmhkpgdmgepaaV
open Go Go.RowKit

theorem i64_wf {n : Int} (h : (Lit.int .i64 n).wf = true) : I64 n := by
  have h2 : IntKind.min .i64 ≤ n ∧ n ≤ 9223372036854775807 := by simpa [Lit.wf] using h
  rw [show IntKind.min .i64 = -9223372036854775808 from rfl] at h2
  exact h2
abbrev TyW : Ty := (.cons .str (.cons (.int .i64) (.cons (.int .i64) .nil)))
abbrev TyS : Ty := (.cons .str (.cons (.int .i64) (.cons (.int .i64) (.cons (.int .i64) (.cons (.slice TyW) .nil)))))
abbrev TyP : Ty := (.cons (.slice (.slice TyS)) .nil)
abbrev Ty2 : Ty := (.cons (.int .i64) (.cons (.int .i64) .nil))
abbrev TyT : Ty := (.cons .str (.cons (.int .i64) (.cons (.slice TyP) (.cons Ty2 .nil))))
abbrev TyPlan : Ty := (.cons (.int .i64) (.cons (.slice TyT) (.cons Ty2 (.cons Ty2 (.cons .bool (.cons (.int .i64) .nil))))))
theorem wfW {x : YT0} (h : WfD TyW x) : OkW x := by
  obtain ⟨h1, h2, h3, _⟩ := h
  exact ⟨h1.2, i64_wf h2, i64_wf h3⟩
theorem wfS {x : YT1} (h : WfD TyS x) : OkS x := by
  obtain ⟨h1, h2, h3, h4, h5, _⟩ := h
  exact ⟨h1.2, i64_wf h2, i64_wf h3, i64_wf h4, fun y hy => wfW (h5.2 y hy)⟩
theorem wfP {x : (List (List YT1)) × Unit} (h : WfD TyP x) : OkP x := by
  obtain ⟨h1, _⟩ := h
  exact fun r hr y hy => wfS ((h1.2 r hr).2 y hy)
theorem wfT {x : YT3} (h : WfD TyT x) : OkT x := by
  obtain ⟨h1, h2, h3, ⟨h4, h5, _⟩, _⟩ := h
  exact ⟨h1.2, i64_wf h2, i64_wf h4, i64_wf h5, fun y hy => wfP (h3.2 y hy)⟩

theorem encode_law (K : Nat) (hk : 120 ≤ K) (ha : c8 K () = some true) (a0 : Int) (l : List YT3) (a2 a3 a4 a5 : Int) (a6 : Bool) (a7 : Int) (h0 : I64 a0) (ht : ∀ x ∈ l, OkT x) (hl : l.length ≤ maxLen) (h2 : I64 a2) (h3 : I64 a3) (h4 : I64 a4) (h5 : I64 a5) (h7 : I64 a7) :
    c3 K (a0, l, a2, a3, a4, a5, a6, a7) = some true := by
  unfold c3
  rw [f3_e, f3_t]
  obtain ⟨b, hb⟩ := few_tot K (by omega) a0 l a2 a3 a4 a5 a6 a7
  rw [hb, Option.bind_some, enc_w K (by omega) a0 l a2 a3 a4 a5 a6 a7 h0 ht h2 h3 h4 h5 h7, enc_r K (by omega) a0 l a2 a3 a4 a5 a6 a7 h0 ht hl h2 h3 h4 h5 h7]
  cases b with
  | false => rfl
  | true =>
    unfold encV
    cases plE a0 l a2 a3 a4 a5 a6 a7 with
    | none => simp only [mch, Option.bind_some, beq_self_eq_true, cond_true, Bool.not_true, cond_false, ha]
    | some c => simp only [mch, Option.bind_some, beq_self_eq_true, cond_true, Bool.not_true, cond_false, ha]

theorem deviceEncode_pure (z : TyPlan.den) (h : WfD TyPlan z) : ∃ k, c3 k (z.1, z.2.1, z.2.2.1.1, z.2.2.1.2.1, z.2.2.2.1.1, z.2.2.2.1.2.1, z.2.2.2.2.1, z.2.2.2.2.2.1) = some true := by
  obtain ⟨h0, hl, ⟨h2, h3, _⟩, ⟨h4, h5, _⟩, _, h7, _⟩ := h
  exact ⟨130, encode_law 130 (by omega) aw_true z.1 z.2.1 z.2.2.1.1 z.2.2.1.2.1 z.2.2.2.1.1 z.2.2.2.1.2.1 z.2.2.2.2.1 z.2.2.2.2.2.1 (i64_wf h0) (fun x hx => wfT (hl.2 x hx)) hl.1 (i64_wf h2) (i64_wf h3) (i64_wf h4) (i64_wf h5) (i64_wf h7)⟩
end Go.Proofs.YtghmhkpgdmgepaaV
