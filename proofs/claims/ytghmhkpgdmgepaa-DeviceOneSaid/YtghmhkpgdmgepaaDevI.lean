import Derived.Test.YtghmhkpgdmgepaaDevH
/-! Device: the document's timings; both plans. -/
set_option linter.unusedVariables false
set_option linter.unusedSimpArgs false
namespace Go.Proofs.YtghmhkpgdmgepaaV
open Go Go.RowKit

theorem one_count {n : Nat} : numE [(n : Int)] = some (vi n) := by simp [numE]

theorem slots_r (k : Nat) (hk : 120 ≤ k) (j9 j16 : Nat) (i : Int) (rows : List (List YT1)) (hrn : rows.length ≤ 100) (ri : Nat) (ring : List YT1) (hri : rows[ri]? = some ring) (hr : OkR ring) (hrl : ring.length ≤ 4) (s : List Int) (a : Int) (sp : List ((List (List YT1)) × Unit)) (a6 a7 : Int) (o : List Int) (ho : o.length ≤ 700000) :
    f17_l22 k (c15 k) (c24 k) (c16 k) (c25 k) j9 j16 k i rows (ri : Int) 0 s a sp a6 a7 o = mch (seqE slotE ring) (fun b => f17_l16 k (c15 k) (c24 k) (c16 k) (c25 k) j9 j16 i rows ((ri + 1 : Nat) : Int) s a sp a6 a7 b) (some (false, [])) o := by
  have hlt := get_lt hri
  have hm : ring.length * 400 ≤ 4 * 400 := Nat.mul_le_mul_right _ (by omega)
  have := ref_loop ring slotE 400 800000 (fun j t o => f17_l22 k (c15 k) (c24 k) (c16 k) (c25 k) j9 j16 j i rows (ri : Int) t s a sp a6 a7 o) (some (false, [])) (fun b => f17_l16 k (c15 k) (c24 k) (c16 k) (c25 k) j9 j16 i rows ((ri + 1 : Nat) : Int) s a sp a6 a7 b)
    (fun j t y o hy ho => by
      have hlt2 := get_lt hy
      have hys := hr y (List.mem_of_getElem? hy)
      rw [f17_el22, f17_tl22, cinB, if_pos (by omega), rdA_nat, getD_some hri, cd, if_pos (by omega), cinB, if_pos (by omega), cinB, if_pos (by omega), rdA_nat, getD_some hy, slot_r k hk y hys]
      cases hs : slotE y with
      | none => rfl
      | some c =>
        have := slot_len hys c hs
        simp only [mch, Option.bind_some, List.nil_append, Bool.not_true, cond_false, cappB]
        rw [if_pos (by omega), suc_nat, w64 (by omega)])
    (fun j o ho => by rw [f17_el22, f17_tl22, cinB, if_pos (by omega), rdA_nat, getD_some hri, cd, if_neg (by omega), suc_nat, w64 (by omega)])
    (fun y hy => slot_len (hr y hy)) ring [] o k rfl (by omega) (by omega)
  exact this

theorem rings_r (k : Nat) (hk : 120 ≤ k) (j9 : Nat) (i : Nat) (hi : i ≤ 100) (rows : List (List YT1)) (hrn : rows.length ≤ 2) (hr : ∀ r ∈ rows, OkR r) (s : List Int) (a : Int) (sp : List ((List (List YT1)) × Unit)) (a6 a7 : Int) (o : List Int) (ho : o.length ≤ 500000) :
    f17_l16 k (c15 k) (c24 k) (c16 k) (c25 k) j9 k (i : Int) rows 0 s a sp a6 a7 o = mch (seqE ringE rows) (fun b => f17_l9 k (c15 k) (c24 k) (c16 k) (c25 k) j9 ((i + 1 : Nat) : Int) s a sp a6 a7 b) (some (false, [])) o := by
  have hm : rows.length * 1700 ≤ 2 * 1700 := Nat.mul_le_mul_right _ (by omega)
  have := ref_loop rows ringE 1700 600000 (fun j t o => f17_l16 k (c15 k) (c24 k) (c16 k) (c25 k) j9 j (i : Int) rows t s a sp a6 a7 o) (some (false, [])) (fun b => f17_l9 k (c15 k) (c24 k) (c16 k) (c25 k) j9 ((i + 1 : Nat) : Int) s a sp a6 a7 b)
    (fun j t y o hy ho => by
      have hlt2 := get_lt hy
      have hys := hr y (List.mem_of_getElem? hy)
      rw [f17_el16, f17_tl16, cd, if_pos (by omega), cinB, if_pos (by omega), rdA_nat, getD_some hy, cd]
      unfold ringE putE
      by_cases h : 4 < y.length
      · rw [if_pos (by omega), if_pos h]; rfl
      · have lv := vl1 (n := y.length) (by omega)
        rw [if_neg (by omega), if_neg h, cinB, if_pos (by omega), num_r k (by omega) _ (by omega) (by omega)]
        simp only [Option.bind_some, Int.toNat_natCast, cappB]
        rw [if_pos (by omega), slots_r k hk j9 j (i : Int) rows (by omega) t y hy hys (by omega) _ _ _ _ _ _ (by simp only [List.length_append]; omega), mch_app2, one_count, mch_some])
    (fun j o ho => by rw [f17_el16, f17_tl16, cd, if_neg (by omega), suc_nat, w64 (by omega)])
    (fun y hy => ring_len (hr y hy)) rows [] o k rfl (by omega) (by omega)
  exact this

theorem timing_r (k : Nat) (hk : 120 ≤ k) (x : YT3) (hx : OkT x) : c17 k (x.1, x.2.1, x.2.2.1, x.2.2.2.1.1, x.2.2.2.1.2.1) = mch (timingE x) (fun b => some (true, b)) (some (false, [])) [] := by
  obtain ⟨s, a, sp, ⟨b, c, u⟩, u2⟩ := x
  obtain ⟨hs, ha, hb, hc, hw⟩ := hx
  simp only [] at hs ha hb hc hw ⊢
  unfold c17
  rw [f17_e, f17_t, cd]
  unfold timingE
  simp only []
  by_cases h1 : 24 < s.length
  · rw [if_pos (by omega), nameE_none h1]; rfl
  · rw [if_neg (by omega), bad_r k _ (by simp; omega) (by simp), nameE_some h1]
    simp only [Option.bind_some]
    cases h2 : badB [a, b, c] with
    | true => rw [numE_bad h2]; rfl
    | false =>
      obtain ⟨g1, g2⟩ := numE_ok h2
      have ga := g1 a (by simp); have gb := g1 b (by simp); have gc := g1 c (by simp)
      have la := vi_len9 (n := a.toNat) (by have := ha.2; omega)
      have lb := vi_len9 (n := b.toNat) (by have := hb.2; omega)
      have lc := vi_len9 (n := c.toNat) (by have := hc.2; omega)
      have ln := vl1 (n := s.length) (by omega)
      rw [cond_false, cd, g2]
      unfold putE
      by_cases h3 : 4 < sp.length
      · rw [if_pos (by omega), if_pos h3]; rfl
      · have lw := vl1 (n := sp.length) (by omega)
        rw [if_neg (by omega), if_neg h3, name_r k (by omega) s (by omega), num_r k (by omega) a ga ha.2, num_r k (by omega) b gb hb.2, num_r k (by omega) c gc hc.2, num_r k (by omega) (sp.length : Int) (by omega) (by omega)]
        simp only [Option.bind_some, Int.toNat_natCast, cappB]
        rw [if_pos (by simp only [List.length_append]; omega), if_pos (by simp only [List.length_append]; omega), if_pos (by simp only [List.length_append]; omega), if_pos (by simp only [List.length_append]; omega)]
        rw [one_count, mch_app2, mch_some, mch_app2, mch_some, mch_app2, mch_some]
        have hm : sp.length * 3500 ≤ 4 * 3500 := Nat.mul_le_mul_right _ (by omega)
        have := ref_loop sp spanE 3500 400000 (fun j i o => f17_l9 k (c15 k) (c24 k) (c16 k) (c25 k) j i s a sp b c o) (some (false, [])) (fun b => some (true, b)) (fun j i y o hy ho => by
          have hlt := get_lt hy
          have hyp := hw y (List.mem_of_getElem? hy)
          rw [f17_el9, f17_tl9, cd, if_pos (by omega), cinB, if_pos (by omega), rdA_nat, getD_some hy, cd]
          unfold spanE putE
          by_cases q1 : 2 < y.1.length
          · rw [if_pos (by omega), if_pos q1]; rfl
          · have ly := vl1 (n := y.1.length) (by omega)
            rw [if_neg (by omega), if_neg q1, num_r k (by omega) _ (by omega) (by omega)]
            simp only [Option.bind_some, Int.toNat_natCast, cappB]
            rw [if_pos (by omega), rings_r k hk j i (by omega) y.1 (by omega) hyp _ _ _ _ _ _ (by simp only [List.length_append]; omega), mch_app2, one_count, mch_some]) (fun j o ho => by rw [f17_el9, f17_tl9, cd, if_neg (by omega)]) (fun y hy => span_len (hw y hy)) sp [] (((((vi s.length ++ s) ++ vi a.toNat) ++ vi b.toNat) ++ vi c.toNat) ++ vi sp.length) k rfl (by omega) (by simp only [List.length_append]; omega)
        simp only [List.length_nil] at this
        rw [show ((0 : Nat) : Int) = 0 from rfl] at this
        rw [this]
        simp

/-- The bytes of a plan. -/
def plE (a0 : Int) (l : List YT3) (a2 a3 a4 a5 : Int) (a6 : Bool) (a7 : Int) : Option (List Int) :=
  app2 (numE [a0]) (app2 (putE 12 timingE l) (app2 (numE [a2, a3, a4, a5]) (app2 (some [if a6 then (1 : Int) else 0]) (numE [a7]))))
def encV (x : Option (List Int)) (b : List Int) : Option (Int × List Int) := mch x (fun b => some ((0 : Int), b)) (some ((1 : Int), [])) b
theorem wr_mch {R : Type} {x : Option (List Int)} {b : List Int} {f : List Int → Option R} {g : Option R} : (wr b x).bind (orP f (fun _ => g)) = mch x f g b := by cases x <;> rfl
theorem i64s4 {a b c d : Int} (ha : I64 a) (hb : I64 b) (hc : I64 c) (hd : I64 d) : ∀ x ∈ [a, b, c, d], I64 x := by
  intro x hx; simp at hx; rcases hx with rfl | rfl | rfl | rfl <;> assumption
theorem i64s1 {a : Int} (ha : I64 a) : ∀ x ∈ [a], I64 x := by intro x hx; simp at hx; subst hx; exact ha
theorem enc_w (k : Nat) (hk : 120 ≤ k) (a0 : Int) (l : List YT3) (a2 a3 a4 a5 : Int) (a6 : Bool) (a7 : Int) (h0 : I64 a0) (hl : ∀ x ∈ l, OkT x) (h2 : I64 a2) (h3 : I64 a3) (h4 : I64 a4) (h5 : I64 a5) (h7 : I64 a7) :
    c6 k (a0, l, a2, a3, a4, a5, a6, a7) = encV (plE a0 l a2 a3 a4 a5 a6 a7) [67, 70, 1] := by
  unfold c6
  rw [f6_e, f6_t, num_w k (by omega) _ (i64s1 h0) (by simp) _ (by simp), wr_mch]
  unfold encV plE
  rw [mch_app2]
  refine mch_congr fun c1 e1 => ?_
  have l1 := numE_len (i64s1 h0) e1
  simp only [List.length_cons, List.length_nil] at l1
  rw [timings_w k hk l hl _ (by simp only [List.length_append, List.length_cons, List.length_nil]; omega), wr_mch, mch_app2]
  refine mch_congr fun c2 e2 => ?_
  have l2 := timings_len hl _ e2
  rw [num_w k (by omega) _ (i64s4 h2 h3 h4 h5) (by simp) _ (by simp only [List.length_append, List.length_cons, List.length_nil]; omega), wr_mch, mch_app2]
  refine mch_congr fun c3 e3 => ?_
  have l3 := numE_len (i64s4 h2 h3 h4 h5) e3
  simp only [List.length_cons, List.length_nil] at l3
  rw [mch_app2, mch_some]
  cases a6 with
  | true =>
    simp only [cond_true, if_true, cappB]
    rw [if_pos (by simp only [List.length_append, List.length_cons, List.length_nil]; omega), num_w k (by omega) _ (i64s1 h7) (by simp) _ (by simp only [List.length_append, List.length_cons, List.length_nil]; omega), wr_mch]
  | false =>
    simp only [cond_false, Bool.false_eq_true, if_false, cappB]
    rw [if_pos (by simp only [List.length_append, List.length_cons, List.length_nil]; omega), num_w k (by omega) _ (i64s1 h7) (by simp) _ (by simp only [List.length_append, List.length_cons, List.length_nil]; omega), wr_mch]
end Go.Proofs.YtghmhkpgdmgepaaV
