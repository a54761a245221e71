import Derived.Test.YtghmhkpgdmgepaaDevG
/-! Device: the document's slots, timings, plans. -/
set_option linter.unusedVariables false
set_option linter.unusedSimpArgs false
namespace Go.Proofs.YtghmhkpgdmgepaaV
open Go Go.RowKit

theorem nameE_some {s : List Int} (h : ¬ 24 < s.length) : nameE s = some (vi s.length ++ s) := by unfold nameE; rw [if_neg h]
theorem nameE_none {s : List Int} (h : 24 < s.length) : nameE s = none := by unfold nameE; rw [if_pos h]
theorem mch_none {R : Type} {fin : List Int → Option R} {bad : Option R} {b : List Int} : mch none fin bad b = bad := rfl
theorem app2_none {x : Option (List Int)} : app2 x none = none := by cases x <;> rfl
theorem app2_some {a b : List Int} : app2 (some a) (some b) = some (a ++ b) := rfl
theorem mch_some {R : Type} {c : List Int} {fin : List Int → Option R} {bad : Option R} {b : List Int} : mch (some c) fin bad b = fin (b ++ c) := rfl
theorem vl1 {n : Nat} (h : n < 128) : (vi n).length = 1 := by rw [vi_small h]; rfl

theorem slot_r (k : Nat) (hk : 120 ≤ k) (x : YT1) (hx : OkS x) : c25 k (x.1, x.2.1, x.2.2.1, x.2.2.2.1, x.2.2.2.2.1) = mch (slotE x) (fun b => some (true, b)) (some (false, [])) [] := by
  obtain ⟨s, a, b, c, ws, u⟩ := x
  obtain ⟨hs, ha, hb, hc, hw⟩ := hx
  simp only [] at hs ha hb hc hw ⊢
  unfold c25
  rw [f25_e, f25_t, cd]
  unfold slotE
  simp only []
  by_cases h1 : 24 < s.length
  · rw [if_pos (by omega), nameE_none h1]; rfl
  · rw [if_neg (by omega), bad_r k _ (by simp; omega) (by simp), nameE_some h1]
    simp only [Option.bind_some]
    cases h2 : badB [a, b, c] with
    | true => rw [numE_bad h2]; rfl
    | false =>
      obtain ⟨g1, g2⟩ := numE_ok h2
      have ga := g1 a (by simp); have gb := g1 b (by simp); have gc := g1 c (by simp)
      have la := vi_len9 (n := a.toNat) (by have := ha.2; omega)
      have lb := vi_len9 (n := b.toNat) (by have := hb.2; omega)
      have lc := vi_len9 (n := c.toNat) (by have := hc.2; omega)
      have ln := vl1 (n := s.length) (by omega)
      rw [cond_false, cd, g2]
      unfold putE
      by_cases h3 : 8 < ws.length
      · rw [if_pos (by omega), if_pos h3]; rfl
      · have lw := vl1 (n := ws.length) (by omega)
        rw [if_neg (by omega), if_neg h3, name_r k (by omega) s (by omega), num_r k (by omega) a ga ha.2, num_r k (by omega) b gb hb.2, num_r k (by omega) c gc hc.2, num_r k (by omega) (ws.length : Int) (by omega) (by omega)]
        simp only [Option.bind_some, Int.toNat_natCast, cappB]
        rw [if_pos (by simp only [List.length_append]; omega), if_pos (by simp only [List.length_append]; omega), if_pos (by simp only [List.length_append]; omega), if_pos (by simp only [List.length_append]; omega)]
        have hl : (numE [(ws.length : Int)]) = some (vi ws.length) := by simp [numE]
        rw [hl, mch_app2, mch_some, mch_app2, mch_some, mch_app2, mch_some]
        have hm : ws.length * 43 ≤ 8 * 43 := Nat.mul_le_mul_right _ (by omega)
        have := ref_loop ws walkE 43 10000 (fun j i o => f25_l9 k (c15 k) (c24 k) (c16 k) j i s a b c ws o) (some (false, [])) (fun b => some (true, b)) (fun j i y o hy ho => by
          have hlt := get_lt hy
          obtain ⟨k1, k2, k3⟩ := hw y (List.mem_of_getElem? hy)
          rw [f25_el9, f25_tl9, cd, if_pos (by omega), cinB, if_pos (by omega), rdA_nat, getD_some hy, cd]
          unfold walkE
          by_cases q1 : 24 < y.1.length
          · rw [if_pos (by omega), nameE_none q1]; rfl
          · have ly := vl1 (n := y.1.length) (by omega)
            rw [if_neg (by omega), bad_r k _ (by simp; omega) (by simp), nameE_some q1]
            simp only [Option.bind_some]
            cases q2 : badB [y.2.1, y.2.2.1] with
            | true => rw [numE_bad q2]; rfl
            | false =>
              obtain ⟨p1, p2⟩ := numE_ok q2
              have pa := p1 y.2.1 (by simp); have pb := p1 y.2.2.1 (by simp)
              have l1 := vi_len9 (n := y.2.1.toNat) (by have := k2.2; omega)
              have l2 := vi_len9 (n := y.2.2.1.toNat) (by have := k3.2; omega)
              rw [cond_false, p2, name_r k (by omega) _ (by omega), num_r k (by omega) _ pa k2.2, num_r k (by omega) _ pb k3.2]
              simp only [Option.bind_some, cappB]
              rw [if_pos (by simp only [List.length_append]; omega), if_pos (by simp only [List.length_append]; omega), if_pos (by simp only [List.length_append]; omega), suc_nat, w64 (by omega), mch_app2, mch_some, mch_some]
              simp) (fun j o ho => by rw [f25_el9, f25_tl9, cd, if_neg (by omega)]) (fun y hy => walk_len (hw y hy)) ws [] (((((vi s.length ++ s) ++ vi a.toNat) ++ vi b.toNat) ++ vi c.toNat) ++ vi ws.length) k rfl (by omega) (by simp only [List.length_append]; omega)
        simp only [List.length_nil] at this
        rw [show ((0 : Nat) : Int) = 0 from rfl] at this
        rw [this]
        simp
end Go.Proofs.YtghmhkpgdmgepaaV
