import Derived.Test.YtghmhkpgdmgepaaDevR
/-! Device: the plan that is read, and Decode. -/
set_option linter.unusedVariables false
set_option linter.unusedSimpArgs false
namespace Go.Proofs.YtghmhkpgdmgepaaV
open Go Go.RowKit

theorem window_g (K : Nat) (hK : 100 ≤ K) (b : List Int) (hb : Bytes b) (i : Nat) (hi : i ≤ b.length) : Good (c30 K (b, (i : Int))) b.length fun o => ∃ j : Nat, o.2.2 = (b, (j : Int)) ∧ i ≤ j ∧ j ≤ b.length ∧ (0 ≤ o.1 ∧ o.1 ≤ 9223372036854775807) ∧ (0 ≤ o.2.1 ∧ o.2.1 ≤ 9223372036854775807) ∧ vi o.1.toNat ++ vi o.2.1.toNat = seg b i j := by
  unfold c30
  rw [f30_e, f30_t]
  refine Good.bind (num_g K hK b hb i hi) fun o2 ho2 => ?_
  obtain ⟨j2, b1, b2, b3, b4, b5, b6⟩ := ho2
  rw [b1]
  refine Good.bind (num_g K hK b hb j2 b3) fun o3 ho3 => ?_
  obtain ⟨j3, d1, d2, d3, d4, d5, d6⟩ := ho3
  rw [d1]
  exact .ok ⟨j3, rfl, by omega, d3, ⟨b4, b5⟩, ⟨d4, d5⟩, by rw [b6, d6, seg_app b2 d2 d3]⟩

abbrev PlanO : Type := (Int) × (Int) × (Int) × (Int) × (Int) × (Bool) × (Int) × (List (Int)) × (Int) × (List (YT3))
/-- The plan that was read has these bytes. -/
def PlanS (b : List Int) (o : PlanO) : Prop :=
  plE o.1 o.2.2.2.2.2.2.2.2.2 o.2.1 o.2.2.1 o.2.2.2.1 o.2.2.2.2.1 o.2.2.2.2.2.1 o.2.2.2.2.2.2.1 = some (seg b 3 b.length) ∧ b = [67, 70, 1] ++ seg b 3 b.length ∧
  (∀ x ∈ [o.1, o.2.1, o.2.2.1, o.2.2.2.1, o.2.2.2.2.1, o.2.2.2.2.2.2.1], I64 x) ∧ ∀ x ∈ o.2.2.2.2.2.2.2.2.2, OkT x
theorem numE1 {x : Int} (hx : 0 ≤ x) : numE [x] = some (vi x.toNat) := by simp [numE, show ¬ x < 0 by omega]
theorem numE4 {x y z w : Int} (hx : 0 ≤ x) (hy : 0 ≤ y) (hz : 0 ≤ z) (hw : 0 ≤ w) : numE [x, y, z, w] = some ((vi x.toNat ++ vi y.toNat) ++ (vi z.toNat ++ vi w.toNat)) := by
  simp [numE, show ¬ x < 0 by omega, show ¬ y < 0 by omega, show ¬ z < 0 by omega, show ¬ w < 0 by omega]
theorem plan_loop (K : Nat) (hK : 100 ≤ K) (b : List Int) (hb : Bytes b) : ∀ (m t j : Nat), t + m = 3 → m < j → t ≤ b.length → seg b 0 t = ([67, 70, 1] : List Int).take t →
    Good (f19_l2 K (c26 K) (c27 K) (c28 K) (c30 K) j 3 (t : Int) b (t : Int) 0 0 0 0 0 false 0 [67, 70, 1]) b.length (PlanS b) := by
  have hlen := hb.2
  intro m
  induction m with
  | zero =>
    intro t j ht hj htl hs
    obtain ⟨j, rfl⟩ : ∃ t, j = t + 1 := ⟨j - 1, by omega⟩
    obtain rfl : t = 3 := by omega
    rw [f19_el2, f19_tl2, cd, if_neg (by omega)]
    refine Good.bind (num_g K hK b hb 3 htl) fun o1 ho1 => ?_
    obtain ⟨j1, a1, a2, a3, a4, a5, a6⟩ := ho1
    rw [a1]
    refine Good.bind (timings_g K hK b hb j1 a3) fun o2 ho2 => ?_
    obtain ⟨j2, b0, b1, b2, b3, b4, b5⟩ := ho2
    rw [b0, b1]
    refine Good.bind (window_g K hK b hb j2 b3) fun o3 ho3 => ?_
    obtain ⟨j3, d1, d2, d3, d4, d5, d6⟩ := ho3
    rw [d1]
    refine Good.bind (window_g K hK b hb j3 d3) fun o4 ho4 => ?_
    obtain ⟨j4, e1, e2, e3, e4, e5, e6⟩ := ho4
    rw [e1]
    refine Good.bind (next_g K b hb j4 e3) fun o5 ho5 => ?_
    obtain ⟨hlt, rfl⟩ := ho5
    simp only []
    have hy := byte_at hb j4 hlt
    have hsy := seg_one hlt
    generalize hyy : b.getD j4 0 = y at hy hsy ⊢
    rw [cd]
    by_cases hy1 : y > 1
    · rw [if_pos hy1]; exact .err (by decide) (by omega) (by omega)
    · rw [if_neg hy1, f19_ej15, f19_tj15]
      refine Good.bind (num_g K hK b hb (j4 + 1) (by omega)) fun o6 ho6 => ?_
      obtain ⟨j6, g1, g2, g3, g4, g5, g6⟩ := ho6
      rw [g1]
      simp only []
      rw [cd]
      by_cases hend : (j6 : Int) < (b.length : Int)
      · rw [if_pos hend]; exact .err (by decide) (by omega) (by omega)
      · rw [if_neg hend]
        have hj6 : j6 = b.length := by omega
        subst hj6
        refine .ok ⟨?_, ?_, ?_, b5⟩
        · show plE o1.1 o2.2.2 o3.1 o3.2.1 o4.1 o4.2.1 (y == 1) o6.1 = _
          unfold plE
          have hbit : (if (y == 1) = true then (1 : Int) else 0) = y := by
            by_cases h1 : y = 1
            · subst h1; rfl
            · have h0 : y = 0 := by omega
              subst h0; rfl
          rw [numE1 a4, b4, numE4 d4.1 d5.1 e4.1 e5.1, numE1 g4, hbit, app2_some, d6, e6, app2_some, app2_some, app2_some, a6, g6, seg_app d2 e2 e3, ← hsy, seg_app (by omega) g2 (Nat.le_refl _), seg_app (by omega) (by omega) (Nat.le_refl _), seg_app b2 (by omega) (Nat.le_refl _), seg_app a2 (by omega) (Nat.le_refl _)]
        · have h1 := seg_app (b := b) (i := 0) (j := 3) (k := b.length) (by omega) htl (Nat.le_refl _)
          rw [hs] at h1
          have h2 : seg b 0 b.length = b := by simp [seg]
          rw [h2] at h1
          exact h1.symm
        · intro x hx
          simp at hx
          rcases hx with rfl | rfl | rfl | rfl | rfl | rfl
          · exact i64_of a4 a5
          · exact i64_of d4.1 d4.2
          · exact i64_of d5.1 d5.2
          · exact i64_of e4.1 e4.2
          · exact i64_of e5.1 e5.2
          · exact i64_of g4 g5
  | succ m ih =>
    intro t j ht hj htl hs
    obtain ⟨j, rfl⟩ : ∃ t, j = t + 1 := ⟨j - 1, by omega⟩
    rw [f19_el2, f19_tl2, cd, if_pos (by omega), cinB, if_pos (by simp; omega)]
    refine Good.bind (next_g K b hb t htl) fun o ho => ?_
    obtain ⟨hlt, rfl⟩ := ho
    simp only []
    rw [cbne, rdI_nat]
    by_cases h : b.getD t 0 = ([67, 70, 1] : List Int).getD t 0
    · rw [if_pos h, suc_nat, w64 (by omega)]
      refine ih (t + 1) j (by omega) (by omega) (by omega) ?_
      have h1 := seg_app (b := b) (i := 0) (j := t) (k := t + 1) (by omega) (by omega) (by omega)
      rw [← h1, hs, seg_one hlt, h]
      have ht3 : t = 0 ∨ t = 1 ∨ t = 2 := by omega
      rcases ht3 with rfl | rfl | rfl <;> rfl
    · rw [if_neg h]; exact .err (by decide) (by omega) (by omega)
theorem plan_g (K : Nat) (hK : 100 ≤ K) (b : List Int) (hb : Bytes b) : Good (c19 K (b, 0)) b.length (PlanS b) := by
  unfold c19
  rw [f19_e, f19_t]
  exact plan_loop K hK b hb 3 0 K rfl (by omega) (by omega) (by rw [seg_self]; rfl)
end Go.Proofs.YtghmhkpgdmgepaaV
