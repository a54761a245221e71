import Derived.Test.YtjbijifjlmmnpaaDoorLxP
/-! Lexing: the reference's functions are the plain ones; which tokens are right, which words are reserved. -/
set_option linter.unusedVariables false
set_option linter.unusedSimpArgs false
namespace Go.Proofs.YtjbijifjlmmnpaaDoorV
open Go Go.RowKit

theorem rskip3 (k : Nat) (b : List Int) (hl : b.length < 1000000) (j1 i0 : Nat) (H : ∀ i, i0 < i → i ≤ b.length → f28_l1 k j1 b (i : Int) = some ((b.length - (drp false (b.drop i)).length : Nat) : Int)) :
    ∀ (j i : Nat), i0 < i → i ≤ b.length → b.length - i < j → f28_l3 k j1 j b (i : Int) = some ((b.length - (drp true (b.drop i)).length : Nat) : Int)
  | 0, i, _, _, h => by omega
  | j + 1, i, h0, hi, h => by
    rw [f28_el3, f28_tl3, cd, cinB, cbne, rdI_nat]
    by_cases hlt : i < b.length
    · rw [if_pos (by omega), if_pos (by omega), drop_getD hlt, drp]
      by_cases hn : b.getD i 0 = 10
      · rw [if_pos hn, if_pos hn, H i h0 hi, drop_getD hlt, drp, hn]
        rfl
      · rw [if_neg hn, if_neg hn, w64 (by omega), suc_nat]
        exact rskip3 k b hl j1 i0 H j (i + 1) (by omega) (by omega) (by omega)
    · rw [if_neg (by omega), H i h0 hi, @List.drop_eq_nil_of_le _ b i (by omega)]
      simp [drp]
theorem rskip1 (k : Nat) (b : List Int) (hk : b.length < k) (hl : b.length < 1000000) : ∀ (j i : Nat), i ≤ b.length → b.length - i < j → f28_l1 k j b (i : Int) = some ((b.length - (drp false (b.drop i)).length : Nat) : Int)
  | 0, i, _, h => by omega
  | j + 1, i, hi, h => by
    rw [f28_el1, f28_tl1]
    simp only [cd, cinB, cbeq, rdI_nat]
    by_cases hlt : i < b.length
    · rw [if_pos (by omega)]
      simp only [if_pos (show (0 : Int) ≤ (i : Int) ∧ (i : Int) < (b.length : Int) by omega)]
      have IH := rskip1 k b hk hl j (i + 1) (by omega) (by omega)
      rw [w64 (by omega), suc_nat, IH, drop_getD hlt, drp]
      by_cases h35 : b.getD i 0 = 35
      · rw [if_pos h35, if_pos h35]
        obtain ⟨k', rfl⟩ : ∃ k', k = k' + 1 := ⟨k - 1, by omega⟩
        rw [f28_el3, f28_tl3, cd, cinB, cbne, rdI_nat, if_pos (by omega), if_pos (by omega), if_neg (by omega), w64 (by omega), suc_nat]
        exact rskip3 _ b hl j i (fun i' h1 h2 => rskip1 _ b hk hl j i' h2 (by omega)) k' (i + 1) (by omega) (by omega) (by omega)
      · rw [if_neg h35, if_neg h35]
        unfold isBlank
        simp only [decide_eq_true_eq]
        have e : b.length - (b.getD i 0 :: b.drop (i + 1)).length = i := by rw [List.length_cons, List.length_drop]; omega
        by_cases h1 : b.getD i 0 = 32
        · rw [if_pos h1, if_pos (by omega)]
        · rw [if_neg h1]
          by_cases h2 : b.getD i 0 = 9
          · rw [if_pos h2, if_pos (by omega)]
          · rw [if_neg h2]
            by_cases h3 : b.getD i 0 = 10
            · rw [if_pos h3, if_pos (by omega)]
            · rw [if_neg h3]
              by_cases h4 : b.getD i 0 = 13
              · rw [if_pos h4, if_pos (by omega)]
              · rw [if_neg h4, if_neg (by omega), e]
    · rw [if_neg (by omega), @List.drop_eq_nil_of_le _ b i (by omega)]
      simp [drp]
      omega
theorem rskip_some (k : Nat) (b : List Int) (hk : b.length < k) (hl : b.length < 1000000) (i : Nat) (hi : i ≤ b.length) : c28 k (b, (i : Int)) = some ((b.length - (drp false (b.drop i)).length : Nat) : Int) := by
  unfold c28
  rw [f28_e, f28_t, rskip1 k b hk hl k i hi (by omega)]
theorem small_some (k : Nat) (a : Int) : c38 k a = some (isSmall a) := by
  unfold c38 isSmall
  rw [f38_e, f38_t]
  by_cases h : a ≥ 97
  · simp [h]
  · have : ¬ 97 ≤ a := by omega
    simp [h]
theorem digit_some (k : Nat) (a : Int) : c39 k a = some (isDig a) := by
  unfold c39 isDig
  rw [f39_e, f39_t]
  by_cases h : a ≥ 48
  · simp [h]
  · simp [h]
theorem sign_some (k : Nat) (a : Int) : c40 k a = some (isSign a) := by
  unfold c40 isSign
  rw [f40_e, f40_t]
  simp only [cbeq]
  repeat' (first | (refine iteS (fun _ => ?_) (fun _ => ?_)))
  all_goals (refine congrArg some ?_; rw [Bool.eq_iff_iff]; simp; try omega)

theorem rword (k : Nat) (b : List Int) (hl : b.length < 1000000) (s : Nat) (x3 : Int) (x4 : List Int) (x5 x6 : Int) :
    ∀ (j i : Nat), s ≤ i → i ≤ b.length → b.length - i < j → f29_l3 k (c38 k) (c39 k) (c40 k) j b (s : Int) (i : Int) x3 x4 x5 x6 =
      (if 24 < i + ((b.drop i).takeWhile isWord).length - s then some (0, [], 0, 0, 4) else some (1, (b.take (i + ((b.drop i).takeWhile isWord).length)).drop s, 0, (s : Int), 0))
  | 0, i, _, _, h => by omega
  | j + 1, i, hs, hi, h => by
    have fin : ∀ n : Nat, n = i → (if 24 < n - s then some ((0 : Int), ([] : List Int), (0 : Int), (0 : Int), (4 : Int)) else if (0 : Int) ≤ (s : Int) ∧ (s : Int) ≤ (i : Int) ∧ (i : Int) ≤ (b.length : Int) then some (1, cutL b (s : Int) (i : Int), 0, (s : Int), 0) else none) = (if 24 < n - s then some (0, [], 0, 0, 4) else some (1, (b.take n).drop s, 0, (s : Int), 0)) := by
      rintro n rfl
      rw [if_pos (by omega : (0 : Int) ≤ (s : Int) ∧ (s : Int) ≤ (n : Int) ∧ (n : Int) ≤ (b.length : Int)), cutL_nat]
    rw [f29_el3, f29_tl3]
    simp only [cd, cinB, cbeq, rdI_nat, ccutB]
    rw [w64 (n := (i : Int) - (s : Int)) (by omega)]
    have e24 : ((i : Int) - (s : Int) > 24) = (24 < i - s) := by rw [eq_iff_iff]; omega
    simp only [e24]
    by_cases hlt : i < b.length
    · rw [if_pos (by omega)]
      simp only [if_pos (show (0 : Int) ≤ (i : Int) ∧ (i : Int) < (b.length : Int) by omega)]
      rw [small_some, Option.bind_some, digit_some, Option.bind_some, w64 (n := (i : Int) + 1) (by omega), suc_nat, drop_getD hlt, List.takeWhile_cons]
      have IH := rword k b hl s x3 x4 x5 x6 j (i + 1) (by omega) (by omega) (by omega)
      rw [show i + 1 + ((b.drop (i + 1)).takeWhile isWord).length = i + (((b.drop (i + 1)).takeWhile isWord).length + 1) by omega] at IH
      rw [IH]
      cases hw : isWord (b.getD i 0) with
      | true =>
        simp only [if_true, List.length_cons]
        unfold isWord at hw
        cases h1 : isSmall (b.getD i 0) with
        | true => rw [cond_true]
        | false =>
          rw [cond_false]
          cases h2 : isDig (b.getD i 0) with
          | true => rw [cond_true]
          | false =>
            rw [cond_false]
            rw [h1, h2] at hw
            rw [if_pos (by simpa using hw)]
      | false =>
        unfold isWord at hw
        simp only [Bool.or_eq_false_iff, decide_eq_false_iff_not] at hw
        rw [hw.1, cond_false, hw.2.1, cond_false, if_neg hw.2.2]
        simp only [Bool.false_eq_true, if_false, List.length_nil]
        exact fin _ rfl
    · rw [if_neg (by omega), @List.drop_eq_nil_of_le _ b i (by omega)]
      simp only [List.takeWhile_nil, List.length_nil]
      exact fin _ rfl

theorem rnum (k : Nat) (b : List Int) (hl : b.length < 1000000) (s : Nat) (x4 : Int) (x5 : List Int) (x6 x7 : Int) :
    ∀ (j i : Nat) (v : Int), s ≤ i → i ≤ b.length → b.length - i < j → (i - s ≤ 18 → 0 ≤ v ∧ v < 10 ^ (i - s)) → f29_l10 k (c38 k) (c39 k) (c40 k) j b (s : Int) (i : Int) v x4 x5 x6 x7 =
      (if 18 < i + ((b.drop i).takeWhile isDig).length - s then some (0, [], 0, 0, 4) else some (2, (b.take (i + ((b.drop i).takeWhile isDig).length)).drop s, ((b.drop i).takeWhile isDig).foldl (fun v c => 10 * v + (c - 48)) v, (s : Int), 0))
  | 0, i, v, _, _, h, _ => by omega
  | j + 1, i, v, hs, hi, h, hv => by
    have fin : ∀ n : Nat, n = i → (if 18 < n - s then some ((0 : Int), ([] : List Int), (0 : Int), (0 : Int), (4 : Int)) else if (0 : Int) ≤ (s : Int) ∧ (s : Int) ≤ (i : Int) ∧ (i : Int) ≤ (b.length : Int) then some (2, cutL b (s : Int) (i : Int), v, (s : Int), 0) else none) = (if 18 < n - s then some (0, [], 0, 0, 4) else some (2, (b.take n).drop s, v, (s : Int), 0)) := by
      rintro n rfl
      rw [if_pos (by omega : (0 : Int) ≤ (s : Int) ∧ (s : Int) ≤ (n : Int) ∧ (n : Int) ≤ (b.length : Int)), cutL_nat]
    rw [f29_el10, f29_tl10]
    simp only [cd, cinB, cbeq, rdI_nat, ccutB]
    rw [w64 (n := (i : Int) - (s : Int)) (by omega)]
    have e24 : ((i : Int) - (s : Int) > 18) = (18 < i - s) := by rw [eq_iff_iff]; omega
    have e25 : ((i : Int) - (s : Int) < 18) = (i - s < 18) := by rw [eq_iff_iff]; omega
    simp only [e24, e25]
    by_cases hlt : i < b.length
    · rw [if_pos (by omega)]
      simp only [if_pos (show (0 : Int) ≤ (i : Int) ∧ (i : Int) < (b.length : Int) by omega)]
      rw [digit_some, Option.bind_some, w64 (n := (i : Int) + 1) (by omega), suc_nat, drop_getD hlt, List.takeWhile_cons]
      cases hw : isDig (b.getD i 0) with
      | true =>
        have hd := hw
        unfold isDig at hd
        simp only [Bool.and_eq_true, decide_eq_true_eq] at hd
        simp only [if_true, List.length_cons, cond_true, List.foldl_cons]
        by_cases h18 : i - s < 18
        · obtain ⟨v1, v2⟩ := hv (by omega)
          have v3 : v < 10 ^ 17 := Int.lt_of_lt_of_le v2 (by exact_mod_cast Nat.pow_le_pow_right (by decide) (by omega : i - s ≤ 17))
          have v4 : 10 * v + (b.getD i 0 - 48) < 10 ^ (i + 1 - s) := by
            rw [show i + 1 - s = (i - s) + 1 by omega, Int.pow_succ]
            omega
          rw [if_pos h18, wu8 (by omega), w64 (n := 10 * v) (by omega), w64 (n := b.getD i 0 - 48) (by omega), w64 (n := 10 * v + (b.getD i 0 - 48)) (by omega)]
          have IH := rnum k b hl s x4 x5 x6 x7 j (i + 1) (10 * v + (b.getD i 0 - 48)) (by omega) (by omega) (by omega) (fun _ => ⟨by omega, v4⟩)
          rw [show i + 1 + ((b.drop (i + 1)).takeWhile isDig).length = i + (((b.drop (i + 1)).takeWhile isDig).length + 1) by omega] at IH
          exact IH
        · rw [if_neg h18]
          have IH := rnum k b hl s x4 x5 x6 x7 j (i + 1) v (by omega) (by omega) (by omega) (fun h => by omega)
          rw [IH, if_pos (by omega), if_pos (by omega)]
      | false =>
        simp only [Bool.false_eq_true, if_false, List.length_nil, cond_false, List.foldl_nil]
        exact fin _ rfl
    · rw [if_neg (by omega), @List.drop_eq_nil_of_le _ b i (by omega)]
      simp only [List.takeWhile_nil, List.length_nil, List.foldl_nil]
      exact fin _ rfl

theorem one_some (k : Nat) (b : List Int) (hk : b.length < k) (hl : b.length < 1000000) (i : Nat) (hi : i < b.length) :
    ∃ q : Int, c29 k (b, (i : Int)) = some ((tok1 (b.drop i)).2.1, (tok1 (b.drop i)).2.2.1, (tok1 (b.drop i)).2.2.2.1, q, (tok1 (b.drop i)).1) ∧ ((tok1 (b.drop i)).1 = 0 → q = (i : Int)) := by
  have e0 := drop_getD hi
  unfold c29
  rw [f29_e, f29_t]
  simp only [cinB, rdI_nat]
  simp only [if_pos (show (0 : Int) ≤ (i : Int) ∧ (i : Int) < (b.length : Int) by omega)]
  rw [small_some, Option.bind_some, digit_some, Option.bind_some, sign_some, Option.bind_some]
  rw [rword k b hl i _ _ _ _ k i (Nat.le_refl _) (by omega) (by omega), rnum k b hl i _ _ _ _ k i 0 (Nat.le_refl _) (by omega) (by omega) (fun _ => by rw [Nat.sub_self]; decide)]
  rw [take_drop_while, take_drop_while, Nat.add_sub_cancel_left, Nat.add_sub_cancel_left]
  cases h1 : isSmall (b.getD i 0) with
  | true =>
    have et : tok1 (b.drop i) = if 24 < ((b.drop i).takeWhile isWord).length then (4, 0, [], 0, []) else (0, 1, (b.drop i).takeWhile isWord, 0, (b.drop i).dropWhile isWord) := by
      rw [e0, tok1, if_pos h1]
    rw [et, cond_true]
    split
    · exact ⟨_, rfl, fun h => by simp at h⟩
    · exact ⟨_, rfl, fun _ => rfl⟩
  | false =>
    rw [cond_false]
    cases h2 : isDig (b.getD i 0) with
    | true =>
      have et : tok1 (b.drop i) = if 18 < ((b.drop i).takeWhile isDig).length then (4, 0, [], 0, []) else (0, 2, (b.drop i).takeWhile isDig, valD ((b.drop i).takeWhile isDig), (b.drop i).dropWhile isDig) := by
        rw [e0, tok1, if_neg (by rw [h1]; exact Bool.false_ne_true), if_pos h2]
      rw [et, cond_true]
      split
      · exact ⟨_, rfl, fun h => by simp at h⟩
      · exact ⟨_, rfl, fun _ => rfl⟩
    | false =>
      rw [cond_false]
      have et : tok1 (b.drop i) = if isSign (b.getD i 0) then (0, 3, [b.getD i 0], 0, b.drop (i + 1)) else (40, 0, [], 0, []) := by
        rw [e0, tok1, if_neg (by rw [h1]; exact Bool.false_ne_true), if_neg (by rw [h2]; exact Bool.false_ne_true)]
      rw [et]
      cases h3 : isSign (b.getD i 0) with
      | true =>
        rw [cond_true, w64 (by omega), ccutB, if_pos (by omega), suc_nat, cutL_nat]
        have e1 : (b.take (i + 1)).drop i = [b.getD i 0] := by
          rw [List.drop_take, e0, show i + 1 - i = 1 by omega]; rfl
        rw [e1]
        exact ⟨_, rfl, fun _ => rfl⟩
      | false =>
        rw [cond_false]
        exact ⟨_, rfl, fun h => by simp at h⟩

theorem rtokens_loop (k : Nat) (b : List Int) (hk : b.length < k) (hl : b.length < 1000000) : ∀ (j i : Nat) (out : List Tk), i ≤ b.length → b.length - i < j → out.length ≤ i → drp false (b.drop i) = b.drop i →
    f20_l5 k (c28 k) (c29 k) j b (i : Int) out = some ((lx b.length j (b.drop i)).1, (lx b.length j (b.drop i)).2.1, if (lx b.length j (b.drop i)).1 = 0 then out ++ (lx b.length j (b.drop i)).2.2 else [])
  | 0, i, out, _, h, _, _ => by omega
  | j + 1, i, out, hi, h, ho, hd => by
    rw [f20_el5, f20_tl5, cd, lx, hd]
    by_cases hlt : i < b.length
    · rw [if_pos (by omega)]
      obtain ⟨q, e, hq⟩ := one_some k b hk hl i hlt
      rw [e, Option.bind_some]
      have el : b.length - (b.drop i).length = i := by rw [List.length_drop]; omega
      have e0 := drop_getD hlt
      generalize hx : b.getD i 0 = x at e0
      generalize hr : b.drop (i + 1) = r at e0
      have hlr : r.length = b.length - (i + 1) := by rw [← hr, List.length_drop]
      rw [e0] at el hq
      rw [e0]
      dsimp only
      rw [cbne]
      by_cases h0 : (tok1 (x :: r)).1 = 0
      · have hr1 := tok1_rest h0
        obtain ⟨s1, s2, s3, s4⟩ := tok1_spec h0
        have s5 := congrArg List.length s1
        rw [List.length_append, List.length_cons] at s5
        simp only [if_pos h0]
        rw [cappB, if_pos (by simp only [List.length_cons, List.length_nil]; omega), hq h0, w64 (by omega)]
        generalize hp : i + (tok1 (x :: r)).2.2.1.length = p
        have hpq : b.drop p = (tok1 (x :: r)).2.2.2.2 := by
          rw [← hp, ← List.drop_drop, e0]
          have s6 := congrArg (List.drop (tok1 (x :: r)).2.2.1.length) s1
          rw [List.drop_left] at s6
          exact s6.symm
        have hpl : p ≤ b.length := by omega
        rw [show (i : Int) + (((tok1 (x :: r)).2.2.1.length : Nat) : Int) = (p : Int) by omega, rskip_some k b hk hl p hpl, Option.bind_some, hpq]
        have hdl := drp_len false (tok1 (x :: r)).2.2.2.2
        have hdd := drp_drp (tok1 (x :: r)).2.2.2.2 false
        have hsuf : drp false (tok1 (x :: r)).2.2.2.2 <:+ b := (drp_suf false _).trans (hpq ▸ List.drop_suffix p b)
        have hdr : b.drop (b.length - (drp false (tok1 (x :: r)).2.2.2.2).length) = drp false (tok1 (x :: r)).2.2.2.2 := (List.suffix_iff_eq_drop.1 hsuf).symm
        have := rtokens_loop k b hk hl j (b.length - (drp false (tok1 (x :: r)).2.2.2.2).length) (out ++ [((tok1 (x :: r)).2.1, ((tok1 (x :: r)).2.2.1, ((tok1 (x :: r)).2.2.2.1, ((i : Int), ()))))]) (by omega) (by omega) (by rw [List.length_append]; simp only [List.length_cons, List.length_nil]; omega) (by rw [hdr, hdd])
        rw [hdr] at this
        rw [this]
        have hsame : lx b.length j (drp false (tok1 (x :: r)).2.2.2.2) = lx b.length j (tok1 (x :: r)).2.2.2.2 := by
          cases j with
          | zero => rfl
          | succ j => rw [lx, lx, hdd]
        rw [hsame]
        by_cases h1 : (lx b.length j (tok1 (x :: r)).2.2.2.2).1 = 0
        · have hz := lx_err _ _ _ h1
          simp only [if_pos h1, h1, hz, el]
          simp
        · simp only [if_neg h1]
      · simp only [if_neg h0, el]
    · rw [if_neg (by omega), @List.drop_eq_nil_of_le _ b i (by omega), cappB, if_pos (by simp only [List.length_cons, List.length_nil]; omega)]
      have : i = b.length := by omega
      subst this
      rfl
theorem lx_nil (n : Nat) : ∀ (f : Nat) (s : List Int), (if (lx n f s).1 = 0 then (lx n f s).2.2 else []) = (lx n f s).2.2 := by
  intro f s
  split
  · rfl
  · rename_i h
    cases f with
    | zero => exact absurd rfl h
    | succ f =>
      rw [lx] at h ⊢
      cases hd : drp false s with
      | nil => rw [hd] at h; exact absurd rfl h
      | cons x r =>
        rw [hd] at h
        simp only [] at h ⊢
        split
        · rename_i h0
          rw [if_pos h0] at h
          split
          · rename_i h1; rw [if_pos h1] at h; exact absurd rfl h
          · rfl
        · rfl
theorem rtokens_some (k : Nat) (b : List Int) (hk : b.length < k) (hm : b.length < 1000000) : c20 k b = some (toks b) := by
  unfold c20 toks
  rw [f20_e, f20_t, cd]
  by_cases hl : 65536 < b.length
  · rw [if_pos (by omega), if_pos hl]
  · have hdd := drp_drp b false
    have hdl := drp_len false b
    have hdr : b.drop (b.length - (drp false b).length) = drp false b := (List.suffix_iff_eq_drop.1 (drp_suf false b)).symm
    have h0 := rskip_some k b hk (by omega) 0 (Nat.zero_le _)
    rw [List.drop_zero] at h0
    rw [if_neg (by omega), if_neg hl, show (0 : Int) = ((0 : Nat) : Int) from rfl, h0, Option.bind_some, rtokens_loop k b hk (by omega) k _ [] (by omega) (by omega) (Nat.zero_le _) (by rw [hdr, hdd])]
    have hsame : lx b.length k (drp false b) = lx b.length (b.length + 1) b := by
      rw [lx_fuel _ (b.length + 1) k b (by omega) (by omega)]
      cases k with
      | zero => rfl
      | succ j => rw [lx, lx, hdd]
    rw [hdr, hsame, List.nil_append, lx_nil]
end Go.Proofs.YtjbijifjlmmnpaaDoorV
