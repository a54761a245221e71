import Derived.Test.YtghmhkpgdmgepaaD5
import Derived.Test.YtghmhkpgdmgepaaDevS
import Derived.Test.YtghmhkpgdmgepaaDevAw
import Derived.Test.YtghmhkpgdmgepaaV30
/-! DeviceOne, the plain law. -/
set_option linter.unusedVariables false
set_option linter.unusedSimpArgs false
namespace Go.Proofs.YtghmhkpgdmgepaaV
open Go Go.RowKit

theorem same_zero : c10 130 (0, [], 0, 0, 0, 0, false, 0, 0, [], 0, 0, 0, 0, false, 0) = some true := by kernel_rfl
theorem one_law (K : Nat) (hK : 120 ≤ K) (ha : c8 K () = some true) (hz : c10 K (0, [], 0, 0, 0, 0, false, 0, 0, [], 0, 0, 0, 0, false, 0) = some true) (b : List Int) (hb : ∀ x ∈ b, 0 ≤ x ∧ x ≤ 255) : c4 K b = some true := by
  unfold c4
  rw [f4_e, f4_t, cd]
  by_cases hl : (b.length : Int) > 6000
  · rw [if_pos hl]
  · rw [if_neg hl]
    rcases plan_g K (by omega) b ⟨hb, by omega⟩ with ⟨o, h1, hS⟩ | ⟨c, a, h1, hc, ha1, ha2⟩
    · have h9 : c9 K b = some (o.1, o.2.1, o.2.2.1, o.2.2.2.1, o.2.2.2.2.1, o.2.2.2.2.2.1, o.2.2.2.2.2.2.1, 0, 0, o.2.2.2.2.2.2.2.2.2) := by
        unfold c9
        rw [f9_e, f9_t, h1]; rfl
      obtain ⟨e1, e2, e3, e4⟩ := hS
      rw [h9]
      simp only [Option.bind_some]
      rw [cbne, if_pos rfl, enc_w K hK _ _ _ _ _ _ _ _ (e3 _ (by simp)) e4 (e3 _ (by simp)) (e3 _ (by simp)) (e3 _ (by simp)) (e3 _ (by simp)) (e3 _ (by simp)), e1]
      unfold encV
      simp only [mch, Option.bind_some]
      rw [← e2]
      simp only [beq_self_eq_true, cond_true, ha, Option.bind_some]
    · have h9 : c9 K b = some (0, 0, 0, 0, 0, false, 0, c, a, []) := by
        unfold c9
        rw [f9_e, f9_t, h1]; rfl
      rw [h9]
      simp only [Option.bind_some]
      rw [cbne, if_neg hc, cd, if_pos (by omega), cd, if_pos ha2, hz]
      simp only [Option.bind_some, cond_true, ha]
theorem deviceOne_pure (z : (Ty.slice (.int .u8)).den) (h : WfD (.slice (.int .u8)) z) : ∃ k, c4 k z = some true := by
  refine ⟨130, one_law 130 (by omega) aw_true same_zero z fun x hx => ?_⟩
  have h1 : (Lit.int .u8 x).wf = true := h.2 x hx
  have h2 : IntKind.min .u8 ≤ x ∧ x ≤ IntKind.max .u8 := by simpa [Lit.wf] using h1
  rw [show IntKind.min .u8 = 0 from rfl, show IntKind.max .u8 = 255 from rfl] at h2
  exact h2
end Go.Proofs.YtghmhkpgdmgepaaV
