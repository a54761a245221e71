import Derived.Test.YtjbijifjlmmnpaaDoorLxQ
import Derived.Test.YtjbijifjlmmnpaaDoorLxAw
import Derived.Test.YtjbijifjlmmnpaaDoorV30
/-! LexRight, the plain law. -/
set_option linter.unusedVariables false
set_option linter.unusedSimpArgs false
namespace Go.Proofs.YtjbijifjlmmnpaaDoorV
open Go Go.RowKit
theorem lexRight_pure (z : Tk) (h : WfD (.cons (.int .i64) (.cons .str (.cons (.int .i64) (.cons (.int .i64) .nil)))) z) : ∃ k, c6 k (z.1, z.2.1, z.2.2.1, z.2.2.2.1) = some true := by
  obtain ⟨K, hK⟩ : ∃ K, K = 70000 := ⟨_, rfl⟩
  have ha : c9 K () = some true := hK ▸ awake_true
  refine ⟨K, ?_⟩
  unfold c6
  rw [f6_e, f6_t, cd]
  by_cases hl : z.2.1.length > 5000
  · rw [if_pos (by omega)]
  · rw [if_neg (by omega), right_some K _ _ _ _ (by omega) (by omega), Option.bind_some, rright_some K _ _ _ _ (by omega) (by omega), Option.bind_some, beq_self_eq_true, cond_true, reserved_some, Option.bind_some, rreserved_some K _ (by omega), Option.bind_some, beq_self_eq_true, cond_true, ha]
    rfl
end Go.Proofs.YtjbijifjlmmnpaaDoorV
