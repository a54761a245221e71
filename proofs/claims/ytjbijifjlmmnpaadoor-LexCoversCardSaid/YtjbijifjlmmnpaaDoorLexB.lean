import Derived.Test.YtjbijifjlmmnpaaDoorLexA
/-! Lex, the plain law, 2: what lies between tokens. -/
set_option linter.unusedVariables false
set_option linter.unusedSimpArgs false
namespace Go.Proofs.YtjbijifjlmmnpaaDoorV
open Go Go.RowKit

/-- Behind blanks and remarks. -/
noncomputable def skp (k : Nat) (b : List Int) : Nat → Nat → Nat
  | 0, i => i
  | j + 1, i => if i < b.length then
      (if kd k (b.getD i 0) = 2 then
        (match fstI 10 (b.drop i) with
        | some n => skp k b j (i + n)
        | none => skp k b j b.length)
      else if kd k (b.getD i 0) = 1 then skp k b j (i + 1) else i)
    else i

theorem skip_loop (k : Nat) (b : List Int) (hk : b.length < k) (hl : b.length < 1000000) : ∀ (j i : Nat), i ≤ b.length → b.length - i < j → f18_l0 k (c24 k) (c25 k) j b (i : Int) = some (b, (skp k b j i : Int))
  | 0, i, _, h => by omega
  | j + 1, i, hi, h => by
    rw [f18_el0, f18_tl0, skp]
    by_cases hlt : i < b.length
    · rw [if_pos hlt, show decide ((i : Int) < ((b.length : Nat) : Int)) = true by simp; omega, cond_true, kind_at k b i hlt, Option.bind_some]
      by_cases h2 : kd k (b.getD i 0) = 2
      · rw [if_pos h2]
        simp only [h2, beq_self_eq_true, cond_true]
        rw [cutB_nat (by omega) (Nat.le_refl _), cond_true, cutL_nat, List.take_length, index_some k _ _ (by rw [List.length_drop]; omega) (by rw [List.length_drop]; omega), Option.bind_some]
        cases hf : fstI 10 (b.drop i) with
        | none =>
          simp only []
          rw [show decide ((-1 : Int) ≥ 0) = false by decide, cond_false]
          exact skip_loop k b hk hl j b.length (Nat.le_refl _) (by omega)
        | some n =>
          obtain ⟨n1, n2⟩ := fstI_lt hf
          rw [List.length_drop] at n1
          simp only []
          rw [show decide ((n : Int) ≥ 0) = true by simp, cond_true, w64 (by omega) (by omega), show ((i : Int) + (n : Int)) = ((i + n : Nat) : Int) by simp]
          have hn : n ≠ 0 := by
            rintro rfl
            have e : (b.drop i).getD 0 0 = b.getD i 0 := by simp [List.getD_eq_getElem?_getD]
            rw [e] at n2
            rw [n2, kd_nl] at h2
            omega
          exact skip_loop k b hk hl j (i + n) (by omega) (by omega)
      · rw [if_neg h2]
        dsimp only
        rw [show (kd k (b.getD i 0) == 2) = false by simpa using h2, cond_false]
        by_cases h1 : kd k (b.getD i 0) = 1
        · rw [if_pos h1, show (kd k (b.getD i 0) == 1) = true by simpa using h1, cond_true, w64 (by omega) (by omega), show ((i : Int) + 1) = ((i + 1 : Nat) : Int) by simp]
          exact skip_loop k b hk hl j (i + 1) (by omega) (by omega)
        · rw [if_neg h1, show (kd k (b.getD i 0) == 1) = false by simpa using h1, cond_false]
    · rw [if_neg hlt, show decide ((i : Int) < ((b.length : Nat) : Int)) = false by simp; omega, cond_false]

theorem skp_spec (k : Nat) (b : List Int) : ∀ (j i : Nat), i ≤ b.length → b.length - i < j → i ≤ skp k b j i ∧ skp k b j i ≤ b.length ∧ (skp k b j i < b.length → kd k (b.getD (skp k b j i) 0) ≠ 1 ∧ kd k (b.getD (skp k b j i) 0) ≠ 2)
  | 0, i, _, h => by omega
  | j + 1, i, hi, h => by
    rw [skp]
    by_cases hlt : i < b.length
    · rw [if_pos hlt]
      by_cases h2 : kd k (b.getD i 0) = 2
      · rw [if_pos h2]
        cases hf : fstI 10 (b.drop i) with
        | none =>
          have := skp_spec k b j b.length (Nat.le_refl _) (by omega)
          exact ⟨by simp only []; omega, this.2⟩
        | some n =>
          obtain ⟨n1, n2⟩ := fstI_lt hf
          rw [List.length_drop] at n1
          have hn : n ≠ 0 := by
            rintro rfl
            have e : (b.drop i).getD 0 0 = b.getD i 0 := by simp [List.getD_eq_getElem?_getD]
            rw [e] at n2
            rw [n2, kd_nl] at h2
            omega
          have := skp_spec k b j (i + n) (by omega) (by omega)
          exact ⟨by simp only []; omega, this.2⟩
      · rw [if_neg h2]
        by_cases h1 : kd k (b.getD i 0) = 1
        · rw [if_pos h1]
          have := skp_spec k b j (i + 1) (by omega) (by omega)
          exact ⟨by omega, this.2⟩
        · rw [if_neg h1]
          exact ⟨Nat.le_refl _, hi, fun _ => ⟨h1, h2⟩⟩
    · rw [if_neg hlt]
      exact ⟨Nat.le_refl _, hi, fun h => absurd h hlt⟩

theorem gap_getD (b : List Int) {at' p i : Nat} (h1 : at' ≤ i) (h2 : i < p) (h3 : p ≤ b.length) : ((b.take p).drop at').getD (i - at') 0 = b.getD i 0 := by
  simp only [List.getD_eq_getElem?_getD, List.getElem?_drop, List.getElem?_take]
  rw [show at' + (i - at') = i by omega, if_pos h2]

/-- What lies between, by itself: nothing but what is skipped. -/
theorem skp_gap (k : Nat) (b : List Int) (at' : Nat) : ∀ (j i p : Nat), at' ≤ i → i ≤ b.length → b.length - i < j → skp k b j i = p → skp k ((b.take p).drop at') j (i - at') = p - at'
  | 0, i, p, _, _, h, _ => by omega
  | j + 1, i, p, ha, hi, h, hp => by
    have hs := skp_spec k b (j + 1) i hi h
    rw [hp] at hs
    obtain ⟨s1, s2, s3⟩ := hs
    have hlen : ((b.take p).drop at').length = p - at' := by rw [List.length_drop, List.length_take]; omega
    rw [skp] at hp ⊢
    rw [hlen]
    by_cases hlt : i < b.length
    · rw [if_pos hlt] at hp
      by_cases hip : i = p
      · subst hip
        rw [if_neg (by omega)]
      · rw [if_pos (by omega), gap_getD b ha (by omega) s2]
        by_cases h2 : kd k (b.getD i 0) = 2
        · rw [if_pos h2] at hp ⊢
          have hd : ((b.take p).drop at').drop (i - at') = (b.drop i).take (p - i) := by
            rw [List.drop_drop, show at' + (i - at') = i by omega, List.drop_take]
          rw [hd]
          cases hf : fstI 10 (b.drop i) with
          | none =>
            rw [hf] at hp
            simp only [] at hp
            have hpl : p = b.length := by
              have := skp_spec k b j b.length (Nat.le_refl _) (by omega)
              omega
            have e : (b.drop i).take (p - i) = b.drop i := by
              apply List.take_of_length_le
              rw [List.length_drop]
              omega
            rw [e, hf]
            simp only []
            have := skp_gap k b at' j b.length p (by omega) (Nat.le_refl _) (by omega) hp
            rw [← hpl] at this
            exact this
          | some n =>
            obtain ⟨n1, n2⟩ := fstI_lt hf
            rw [List.length_drop] at n1
            rw [hf] at hp
            simp only [] at hp
            have hn : n ≠ 0 := by
              rintro rfl
              have e : (b.drop i).getD 0 0 = b.getD i 0 := by simp [List.getD_eq_getElem?_getD]
              rw [e] at n2
              rw [n2, kd_nl] at h2
              omega
            have hnl : b.getD (i + n) 0 = 10 := by
              rw [← n2]
              simp [List.getD_eq_getElem?_getD]
            have hs2 := skp_spec k b j (i + n) (by omega) (by omega)
            rw [hp] at hs2
            have hlt2 : i + n < p := by
              rcases Nat.lt_or_ge (i + n) p with h' | h'
              · exact h'
              · have e : i + n = p := by omega
                have := s3 (by omega)
                rw [← e, hnl, kd_nl] at this
                exact absurd rfl this.1
            rw [fstI_take hf (by omega)]
            simp only []
            have := skp_gap k b at' j (i + n) p (by omega) (by omega) (by omega) hp
            rw [show i - at' + n = i + n - at' by omega]
            exact this
        · rw [if_neg h2] at hp ⊢
          by_cases h1 : kd k (b.getD i 0) = 1
          · rw [if_pos h1] at hp ⊢
            rw [show i - at' + 1 = i + 1 - at' by omega]
            exact skp_gap k b at' j (i + 1) p (by omega) (by omega) (by omega) hp
          · rw [if_neg h1] at hp
            exact absurd hp hip
    · rw [if_neg hlt] at hp
      rw [if_neg (by omega)]
      omega

/-- More fuel tells the same. -/
theorem skp_fuel (k : Nat) (b : List Int) : ∀ (j j' i : Nat), i ≤ b.length → b.length - i < j → b.length - i < j' → skp k b j i = skp k b j' i
  | 0, j', i, _, h, _ => by omega
  | j + 1, 0, i, _, _, h => by omega
  | j + 1, j' + 1, i, hi, h, h' => by
    rw [skp, skp]
    by_cases hlt : i < b.length
    · rw [if_pos hlt, if_pos hlt]
      by_cases h2 : kd k (b.getD i 0) = 2
      · rw [if_pos h2, if_pos h2]
        cases hf : fstI 10 (b.drop i) with
        | none => exact skp_fuel k b j j' b.length (Nat.le_refl _) (by omega) (by omega)
        | some n =>
          obtain ⟨n1, n2⟩ := fstI_lt hf
          rw [List.length_drop] at n1
          have hn : n ≠ 0 := by
            rintro rfl
            have e : (b.drop i).getD 0 0 = b.getD i 0 := by simp [List.getD_eq_getElem?_getD]
            rw [e] at n2
            rw [n2, kd_nl] at h2
            omega
          exact skp_fuel k b j j' (i + n) (by omega) (by omega) (by omega)
      · rw [if_neg h2, if_neg h2]
        by_cases h1 : kd k (b.getD i 0) = 1
        · rw [if_pos h1, if_pos h1]
          exact skp_fuel k b j j' (i + 1) (by omega) (by omega) (by omega)
        · rw [if_neg h1, if_neg h1]
    · rw [if_neg hlt, if_neg hlt]

noncomputable def skipTo (k : Nat) (b : List Int) (i : Nat) : Nat := skp k b (b.length + 1) i
theorem skip_some (k : Nat) (b : List Int) (hk : b.length < k) (hl : b.length < 1000000) (i : Nat) (hi : i ≤ b.length) : c18 k (b, (i : Int)) = some (b, (skipTo k b i : Int)) := by
  unfold c18
  rw [f18_e, f18_t, skip_loop k b hk hl k i hi (by omega)]
  rw [skipTo, skp_fuel k b k (b.length + 1) i hi (by omega) (by omega)]
theorem skipTo_spec (k : Nat) (b : List Int) (i : Nat) (hi : i ≤ b.length) : i ≤ skipTo k b i ∧ skipTo k b i ≤ b.length ∧ (skipTo k b i < b.length → kd k (b.getD (skipTo k b i) 0) ≠ 1 ∧ kd k (b.getD (skipTo k b i) 0) ≠ 2) := skp_spec k b _ i hi (by omega)
theorem skipTo_gap (k : Nat) (b : List Int) (i : Nat) (hi : i ≤ b.length) : skipTo k ((b.take (skipTo k b i)).drop i) 0 = skipTo k b i - i := by
  have hs := skipTo_spec k b i hi
  have h := skp_gap k b i (b.length + 1) i (skipTo k b i) (Nat.le_refl _) hi (by omega) rfl
  have hlen : ((b.take (skipTo k b i)).drop i).length = skipTo k b i - i := by rw [List.length_drop, List.length_take]; omega
  rw [Nat.sub_self] at h
  rw [← h]
  exact skp_fuel k _ _ _ 0 (Nat.zero_le _) (by omega) (by omega)
end Go.Proofs.YtjbijifjlmmnpaaDoorV
