import Derived.Test.YtnhnckhkfdoadaaBase
import Derived.ProofKit
import Derived.OpenShut
/-! Arrays of int64 that came in, opened. -/
set_option linter.unusedVariables false
set_option linter.unusedSimpArgs false
namespace Go.Proofs.Ytnhnckhkfdoadaa.Arr
open Go.RowKit
variable {H : Type} {enc : TypeId × Value → H} {P : Program} {w : World} {base : Nat} {spare : Nat → Bool} {held : Bool}

theorem open_arr {n fuel : Nat} {t e : TypeId} {cs : List Value} {x : DataW H × List MemPlace} (ht : P.underlying t = some (.array n e)) (he : P.underlying e = some (.int .i64)) (hc : P.cellsOf e = 1) (hct : P.cellsOf t = n)
    (h : DataW.trod enc P w base spare held fuel t cs = some x) : ∃ zs : List Int, zs.length = n ∧ cs = zs.map (Value.int .i64) ∧ ∀ z ∈ zs, (Lit.int .i64 z).wf = true := by
  obtain ⟨xs, m, _, ex, hl, hlx, hel⟩ := DataW.trod_array ht h
  rw [hct] at hl
  have key : ∀ k, k ≤ n → ∃ zs : List Int, zs.length = k ∧ cs.take k = zs.map (Value.int .i64) ∧ ∀ z ∈ zs, (Lit.int .i64 z).wf = true := by
    intro k
    induction k with
    | zero => intro _; exact ⟨[], rfl, by simp, by simp⟩
    | succ k ih =>
      intro hk
      obtain ⟨zs, h1, h2, h3⟩ := ih (by omega)
      have hE := hel k (by omega)
      rw [hc, Nat.mul_one, List.getElem?_eq_getElem (by omega)] at hE
      obtain ⟨z, e1, e2, e3⟩ := DataW.trod_int he hE
      refine ⟨zs ++ [z], by simp [h1], ?_, ?_⟩
      · rw [List.take_succ_eq_append_getElem (by omega), h2, List.map_append]
        congr 1
        have h0 : ((cs.drop k).take 1)[0]? = some (.int .i64 z) := by rw [e1]; rfl
        have h4 : cs[k]? = some (Value.int .i64 z) := by simpa using h0
        rw [List.getElem?_eq_getElem (by omega)] at h4
        simp [Option.some.inj h4]
      · intro y hy
        rcases List.mem_append.1 hy with hy | hy
        · exact h3 y hy
        · simp at hy; subst hy; exact e3
  obtain ⟨zs, h1, h2, h3⟩ := key n (Nat.le_refl _)
  exact ⟨zs, h1, by rw [← h2, List.take_of_length_le (by omega)], h3⟩
end Go.Proofs.Ytnhnckhkfdoadaa.Arr
