import Derived.Test.YtghmhkpgdmgepaaDevI
/-! Device: the document's plan is the plain one. -/
set_option linter.unusedVariables false
set_option linter.unusedSimpArgs false
namespace Go.Proofs.YtghmhkpgdmgepaaV
open Go Go.RowKit

theorem encV_none {b : List Int} : encV none b = some ((1 : Int), []) := rfl
theorem enc_r (k : Nat) (hk : 120 ≤ k) (a0 : Int) (l : List YT3) (a2 a3 a4 a5 : Int) (a6 : Bool) (a7 : Int) (h0 : I64 a0) (hl : ∀ x ∈ l, OkT x) (hll : l.length ≤ maxLen) (h2 : I64 a2) (h3 : I64 a3) (h4 : I64 a4) (h5 : I64 a5) (h7 : I64 a7) :
    c7 k (a0, l, a2, a3, a4, a5, a6, a7) = encV (plE a0 l a2 a3 a4 a5 a6 a7) [67, 70, 1] := by
  unfold c7
  rw [f7_e, f7_t, bad_r k _ (by simp; omega) (by simp)]
  simp only [Option.bind_some]
  unfold plE
  cases hb : badB [a0, a2, a3, a4, a5, a7] with
  | true =>
    rw [cond_true]
    by_cases n0 : a0 < 0
    · rw [show numE [a0] = none by simp [numE, n0]]; rfl
    · by_cases n2 : badB [a2, a3, a4, a5] = true
      · rw [numE_bad n2]
        cases numE [a0] <;> cases putE 12 timingE l <;> rfl
      · have n7 : a7 < 0 := by
          simp only [badB] at hb n2
          repeat' split at hb
          all_goals first | omega | simp_all
        rw [show numE [a7] = none by simp [numE, n7]]
        cases numE [a0] <;> cases putE 12 timingE l <;> cases numE [a2, a3, a4, a5] <;> rfl
  | false =>
    rw [cond_false, cd]
    obtain ⟨g1, _⟩ := numE_ok hb
    have p0 := g1 a0 (by simp); have p2 := g1 a2 (by simp); have p3 := g1 a3 (by simp); have p4 := g1 a4 (by simp); have p5 := g1 a5 (by simp); have p7 := g1 a7 (by simp)
    have v0 := vi_len9 (n := a0.toNat) (by have := h0.2; omega)
    have v2 := vi_len9 (n := a2.toNat) (by have := h2.2; omega)
    have v3 := vi_len9 (n := a3.toNat) (by have := h3.2; omega)
    have v4 := vi_len9 (n := a4.toNat) (by have := h4.2; omega)
    have v5 := vi_len9 (n := a5.toNat) (by have := h5.2; omega)
    have v7 := vi_len9 (n := a7.toNat) (by have := h7.2; omega)
    have n1 : ∀ {x : Int}, 0 ≤ x → numE [x] = some (vi x.toNat) := by
      intro x hx
      simp [numE, show ¬ x < 0 by omega]
    have n4 : numE [a2, a3, a4, a5] = some (vi a2.toNat ++ (vi a3.toNat ++ (vi a4.toNat ++ vi a5.toNat))) := by
      simp [numE, show ¬ a2 < 0 by omega, show ¬ a3 < 0 by omega, show ¬ a4 < 0 by omega, show ¬ a5 < 0 by omega]
    rw [n1 p0, n1 p7, n4]
    unfold putE
    by_cases h : 12 < l.length
    · rw [if_pos (by omega), if_pos h]; rfl
    · have lv := vl1 (n := l.length) (by omega)
      rw [if_neg (by omega), if_neg h, num_r k (by omega) _ p0 h0.2, num_r k (by omega) _ (by omega) (by omega)]
      simp only [Option.bind_some, Int.toNat_natCast, cappB]
      rw [if_pos (by (try simp only [List.length_append, List.length_cons, List.length_nil]); omega), if_pos (by (try simp only [List.length_append, List.length_cons, List.length_nil]); omega)]
      have hm : l.length * 15000 ≤ 12 * 15000 := Nat.mul_le_mul_right _ (by omega)
      have := ref_loop l timingE 15000 300000 (fun j i o => f7_l6 k (c15 k) (c16 k) (c17 k) (c16a k) j i a0 l a2 a3 a4 a5 a6 a7 o) (some ((1 : Int), [])) (fun b => some ((0 : Int), b ++ (vi a2.toNat ++ (vi a3.toNat ++ (vi a4.toNat ++ vi a5.toNat))) ++ [if a6 then (1 : Int) else 0] ++ vi a7.toNat)) (fun j i y o hy ho => by
        have hlt := get_lt hy
        have hyt := hl y (List.mem_of_getElem? hy)
        rw [f7_el6, f7_tl6, cd, if_pos (by omega), cinB, if_pos (by omega), rdA_nat, getD_some hy, timing_r k hk y hyt]
        cases hs : timingE y with
        | none => rfl
        | some c =>
          have := timing_len hyt c hs
          simp only [mch, Option.bind_some, List.nil_append, Bool.not_true, cond_false, cappB]
          rw [if_pos (by omega), suc_nat, w64 (by omega)])
        (fun j o ho => by
          rw [f7_el6, f7_tl6, cd, if_neg (by omega), num_r k (by omega) _ p2 h2.2, num_r k (by omega) _ p3 h3.2, num_r k (by omega) _ p4 h4.2, num_r k (by omega) _ p5 h5.2]
          simp only [Option.bind_some, cappB]
          rw [if_pos (by (try simp only [List.length_append]); omega), if_pos (by (try simp only [List.length_append]); omega), if_pos (by (try simp only [List.length_append]); omega), if_pos (by (try simp only [List.length_append]); omega)]
          have hj : ∀ z : Int, f7_j19 k (c15 k) (c16 k) (c17 k) (c16a k) z a0 l a2 a3 a4 a5 a6 a7 ((((o ++ vi a2.toNat) ++ vi a3.toNat) ++ vi a4.toNat) ++ vi a5.toNat) = some ((0 : Int), o ++ (vi a2.toNat ++ (vi a3.toNat ++ (vi a4.toNat ++ vi a5.toNat))) ++ [z] ++ vi a7.toNat) := by
            intro z
            rw [f7_ej19, f7_tj19, cappB, if_pos (by (try simp only [List.length_append, List.length_cons, List.length_nil]); omega), num_ra k (by omega) _ p7 h7.2]
            simp only [Option.bind_some, cappB]
            rw [if_pos (by (try simp only [List.length_append, List.length_cons, List.length_nil]); omega)]
            simp
          rw [hj, hj]
          cases a6 <;> rfl)
        (fun y hy => timing_len (hl y hy)) l [] (([67, 70, 1] ++ vi a0.toNat) ++ vi l.length) k rfl (by omega) (by (try simp only [List.length_append, List.length_cons, List.length_nil]); omega)
      simp only [List.length_nil] at this
      rw [show ((0 : Nat) : Int) = 0 from rfl] at this
      rw [this]
      unfold encV
      rw [mch_app2, mch_some, mch_app2, mch_app2, one_count, mch_some]
      refine mch_congr fun c hc => ?_
      simp [mch, app2]
end Go.Proofs.YtghmhkpgdmgepaaV
