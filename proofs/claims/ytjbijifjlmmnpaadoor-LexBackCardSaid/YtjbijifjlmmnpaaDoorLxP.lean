import Derived.Test.YtjbijifjlmmnpaaDoorG
import Derived.Test.YtjbijifjlmmnpaaDoorLxS
import Derived.Test.YtjbijifjlmmnpaaDoorVL
/-! Lexing: the program's functions are the plain ones. -/
set_option linter.unusedVariables false
set_option linter.unusedSimpArgs false
namespace Go.Proofs.YtjbijifjlmmnpaaDoorV
open Go Go.RowKit

/-- What kind a byte is. -/
def kdS (a : Int) : Int := if isSmall a then 3 else if isDig a then 4 else if isBlank a then 1 else if a = 35 then 2 else if a = 95 then 6 else if isSign a then 5 else 0
theorem kind_some (k : Nat) (a : Int) : c33 k a = some (kdS a) := by
  unfold c33
  rw [f33_e, f33_t, f33_ej10, f33_tj10, f33_ej14, f33_tj14]
  simp only [cd, cbeq]
  unfold kdS isSmall isDig isBlank isSign
  simp only [Bool.and_eq_true, decide_eq_true_eq]
  repeat' (first | (exfalso; omega) | (refine iteS (fun _ => ?_) (fun _ => ?_)))
  all_goals (refine congrArg some ?_; repeat' (first | rfl | (exfalso; omega) | (refine iteR (fun _ => ?_) (fun _ => ?_))))
theorem kd1 (a : Int) : kdS a = 1 ↔ isBlank a = true := by
  unfold kdS isSmall isDig isBlank isSign
  simp only [Bool.and_eq_true, decide_eq_true_eq]
  repeat' split
  all_goals first | omega
theorem kd2 (a : Int) : kdS a = 2 ↔ a = 35 := by
  unfold kdS isSmall isDig isBlank isSign
  simp only [Bool.and_eq_true, decide_eq_true_eq]
  repeat' split
  all_goals first | omega
theorem kd3 (a : Int) : kdS a = 3 ↔ isSmall a = true := by
  unfold kdS isSmall isDig isBlank isSign
  simp only [Bool.and_eq_true, decide_eq_true_eq]
  repeat' split
  all_goals first | omega
theorem kd4 (a : Int) : kdS a = 4 ↔ isDig a = true := by
  unfold kdS isSmall isDig isBlank isSign
  simp only [Bool.and_eq_true, decide_eq_true_eq]
  repeat' split
  all_goals first | omega
theorem kd5 (a : Int) : kdS a = 5 ↔ isSign a = true := by
  unfold kdS isSmall isDig isBlank isSign
  simp only [Bool.and_eq_true, decide_eq_true_eq]
  repeat' split
  all_goals first | omega
theorem kd6 (a : Int) : kdS a = 6 ↔ a = 95 := by
  unfold kdS isSmall isDig isBlank isSign
  simp only [Bool.and_eq_true, decide_eq_true_eq]
  repeat' split
  all_goals first | omega

theorem kind_at (k : Nat) (b : List Int) (i : Nat) (h : i < b.length) : c24 k (b, (i : Int)) = some (kdS (b.getD i 0), b, (i : Int)) := by
  unfold c24
  rw [f24_e, f24_t, cinB, if_pos (by omega), rdI_nat, kind_some]; rfl
theorem kindA_at (k : Nat) (b : List Int) (i : Nat) (h : i < b.length) : c24a k (b, (i : Int)) = some (kdS (b.getD i 0)) := by
  unfold c24a
  rw [f24a_e, f24a_t, cinB, if_pos (by omega), rdI_nat, kind_some]; rfl

/-- The first place of a value. -/
def fstI (v : Int) : List Int → Option Nat
  | [] => none
  | x :: r => if v = x then some 0 else (fstI v r).map (· + 1)
theorem index_loop (k : Nat) (l : List Int) (v : Int) (hl : l.length < 9223372036854775807) : ∀ (j i : Nat), i ≤ l.length → l.length - i < j →
    f25_l2 k j l v (l.length : Int) (i : Int) = some (match fstI v (l.drop i) with | some n => ((i + n : Nat) : Int) | none => -1)
  | 0, i, _, h => by omega
  | j + 1, i, hi, h => by
    rw [f25_el2, f25_tl2, cd, cinB, rdI_nat]
    by_cases hlt : i < l.length
    · rw [if_pos (by omega), if_pos (by omega), drop_getD hlt, fstI, cbeq]
      split
      · rfl
      · rw [w64 (by omega), suc_nat, index_loop k l v hl j (i + 1) (by omega) (by omega)]
        cases fstI v (l.drop (i + 1)) with
        | none => rfl
        | some n => simp only [Option.map_some]; congr 2; omega
    · have hi2 : i = l.length := by omega
      rw [if_neg (by omega)]
      subst hi2
      simp [fstI]
theorem index_some (k : Nat) (l : List Int) (v : Int) (hk : l.length < k) (hl : l.length < 9223372036854775807) : c25 k (l, v) = some (match fstI v l with | some n => (n : Int) | none => -1) := by
  unfold c25
  rw [f25_e, f25_t]
  have := index_loop k l v hl k 0 (by omega) (by omega)
  simpa using this
theorem fst_nl : ∀ (s : List Int), drp true s = match fstI 10 s with | some n => drp false (s.drop n) | none => []
  | [] => rfl
  | x :: r => by
    rw [drp, fstI]
    by_cases h : x = 10
    · subst h; simp [drp, isBlank]
    · rw [if_neg h, if_neg (fun e => h e.symm), fst_nl r]
      cases fstI 10 r <;> rfl
theorem fstI_lt {v : Int} : ∀ {l : List Int} {n : Nat}, fstI v l = some n → n < l.length ∧ l.getD n 0 = v
  | [], n, h => by cases h
  | x :: r, n, h => by
    simp only [fstI] at h
    split at h
    · rename_i e; cases h; exact ⟨by simp, by simp [e]⟩
    · obtain ⟨m, hm, rfl⟩ := Option.map_eq_some_iff.1 h
      have := fstI_lt hm
      exact ⟨by simp; omega, by simpa using this.2⟩

/-- Where what is left begins. -/
def posOf (b : List Int) (s : List Int) : Nat := b.length - s.length
theorem skip_loop (k : Nat) (b : List Int) (hk : b.length < k) (hl : b.length < 1000000) : ∀ (j i : Nat), i ≤ b.length → b.length - i < j → f18_l0 k (c24 k) (c25 k) j b (i : Int) = some (b, ((b.length - (drp false (b.drop i)).length : Nat) : Int))
  | 0, i, _, h => by omega
  | j + 1, i, hi, h => by
    rw [f18_el0, f18_tl0, cd]
    by_cases hlt : i < b.length
    · rw [if_pos (by omega), kind_at k b i hlt, Option.bind_some]
      dsimp only
      rw [cbeq, cbeq, ccutB, if_pos (by omega : (0 : Int) ≤ i ∧ (i : Int) ≤ ((b.length : Nat) : Int) ∧ ((b.length : Nat) : Int) ≤ ((b.length : Nat) : Int)), cutL_nat, List.take_length, drop_getD hlt]
      simp only [kd1, kd2, drp]
      split
      · rename_i h2
        rw [fst_nl, ← drop_getD hlt, index_some k _ _ (by rw [List.length_drop]; omega) (by rw [List.length_drop]; omega), Option.bind_some, drop_getD hlt, fstI, if_neg (by omega)]
        cases hf : fstI 10 (b.drop (i + 1)) with
        | none =>
          simp only [Option.map_none, cd]
          rw [if_neg (by omega), skip_loop k b hk hl j b.length (Nat.le_refl _) (by omega)]
          simp [drp]
        | some n =>
          obtain ⟨n1, n2⟩ := fstI_lt hf
          rw [List.length_drop] at n1
          simp only [Option.map_some, cd]
          have hpos : ((n + 1 : Nat) : Int) ≥ 0 := by omega
          have hw : -9223372036854775808 ≤ (i : Int) + ((n + 1 : Nat) : Int) ∧ (i : Int) + ((n + 1 : Nat) : Int) ≤ 9223372036854775807 := by omega
          rw [if_pos hpos, w64 hw, show ((i : Int) + ((n + 1 : Nat) : Int)) = ((i + (n + 1) : Nat) : Int) by simp, skip_loop k b hk hl j (i + (n + 1)) (by omega) (by omega), List.drop_drop]
          rw [show i + 1 + n = i + (n + 1) by omega]
      · split
        · rw [w64 (by omega), suc_nat]
          exact skip_loop k b hk hl j (i + 1) (by omega) (by omega)
        · rw [← drop_getD hlt, List.length_drop]
          congr 3
          omega
    · rw [if_neg (by omega), List.drop_eq_nil_of_le (by omega)]
      simp [drp]
      omega
theorem skip_some (k : Nat) (b : List Int) (hk : b.length < k) (hl : b.length < 1000000) (i : Nat) (hi : i ≤ b.length) : c18 k (b, (i : Int)) = some (b, ((b.length - (drp false (b.drop i)).length : Nat) : Int)) := by
  unfold c18
  rw [f18_e, f18_t, skip_loop k b hk hl k i hi (by omega)]

/-- Passing bytes as long as they may be passed. -/
theorem pass_loop (k : Nat) (b : List Int) (g : Int → Option Bool) (p : Int → Bool) (hg : ∀ x, g (kdS x) = some (p x)) (L : Nat → Int → List Int → Int → Option (List Int × List Int × Int))
    (hL : ∀ j a0 a1 a2, L (j + 1) a0 a1 a2 = f34_tl2 (c24a k) g (L j) a0 a1 a2) (hl : b.length < 1000000) (s : Nat) :
    ∀ (j i : Nat), s ≤ i → i ≤ b.length → b.length - i < j → L j (s : Int) b (i : Int) = some ((b.take (i + ((b.drop i).takeWhile p).length)).drop s, b, ((i + ((b.drop i).takeWhile p).length : Nat) : Int))
  | 0, i, _, _, h => by omega
  | j + 1, i, hs, hi, h => by
    rw [hL, f34_tl2, cd]
    by_cases hlt : i < b.length
    · rw [if_pos (by omega), kindA_at k b i hlt, Option.bind_some, hg, Option.bind_some, drop_getD hlt, List.takeWhile_cons]
      cases hp : p (b.getD i 0) with
      | true =>
        rw [cond_true, w64 (by omega), suc_nat, pass_loop k b g p hg L hL hl s j (i + 1) (by omega) (by omega) (by omega)]
        simp only [if_true, List.length_cons]
        rw [show i + 1 + ((b.drop (i + 1)).takeWhile p).length = i + (((b.drop (i + 1)).takeWhile p).length + 1) by omega]
      | false =>
        rw [cond_false, ccutB, if_pos (by omega), cutL_nat]
        simp
    · rw [if_neg (by omega), ccutB, if_pos (by omega), cutL_nat, @List.drop_eq_nil_of_le _ b i (by omega)]
      simp
theorem take_drop_while (p : Int → Bool) (b : List Int) (i : Nat) : (b.take (i + ((b.drop i).takeWhile p).length)).drop i = (b.drop i).takeWhile p := by
  rw [List.drop_take]
  simp only [Nat.add_sub_cancel_left]
  exact (List.prefix_iff_eq_take.1 (List.takeWhile_prefix p)).symm
theorem pass_word (k : Nat) (b : List Int) (hk : b.length < k) (hl : b.length < 1000000) (i : Nat) (hi : i ≤ b.length) :
    c34 k (b, (i : Int)) = some ((b.drop i).takeWhile isWord, b, ((i + ((b.drop i).takeWhile isWord).length : Nat) : Int)) := by
  have := pass_loop k b (c35 k) isWord (fun x => by
    unfold c35
    rw [f35_e, f35_t, cbeq, cbeq]
    unfold isWord
    have h6 : (kdS x == 6) = decide (x = 95) := by
      rw [Bool.eq_iff_iff]; simp [kd6]
    rw [h6]
    simp only [kd3, kd4]
    cases isSmall x <;> cases isDig x <;> simp) (fun j => f34_l2 k (c24a k) (c35 k) j) (fun j a0 a1 a2 => f34_el2 k (c24a k) (c35 k) j a0 a1 a2) hl i k i (Nat.le_refl _) (by omega) (by omega)
  unfold c34
  rw [f34_e, f34_t]
  rw [take_drop_while] at this
  exact this
theorem pass_num (k : Nat) (b : List Int) (hk : b.length < k) (hl : b.length < 1000000) (i : Nat) (hi : i ≤ b.length) :
    c34a k (b, (i : Int)) = some ((b.drop i).takeWhile isDig, b, ((i + ((b.drop i).takeWhile isDig).length : Nat) : Int)) := by
  have := pass_loop k b (c36 k) isDig (fun x => by
    unfold c36
    rw [f36_e, f36_t]
    congr 1
    rw [Bool.eq_iff_iff]; simp [kd4]) (fun j => f34a_l2 k (c24a k) (c36 k) j) (fun j a0 a1 a2 => f34a_el2 k (c24a k) (c36 k) j a0 a1 a2) hl i k i (Nat.le_refl _) (by omega) (by omega)
  unfold c34a
  rw [f34a_e, f34a_t]
  rw [take_drop_while] at this
  exact this

theorem mem_tw {p : Int → Bool} : ∀ {l : List Int} {x : Int}, x ∈ l.takeWhile p → p x = true
  | [], x, h => by simp at h
  | y :: l, x, h => by
    rw [List.takeWhile_cons] at h
    split at h
    · rename_i hp
      rcases List.mem_cons.1 h with rfl | h
      · exact hp
      · exact mem_tw h
    · cases h
/-! #### a number of 18 digits at most -/
theorem parseU_ok : ∀ (l : List Int) (acc m : Nat), acc < 10 ^ m → m + l.length ≤ 18 → (∀ c ∈ l, isDig c = true) →
    ∃ u : Nat, Lib.parseUintM (2 ^ 64 - 1) acc (u8s l) = .ok u ∧ u < 10 ^ 18 ∧ (u : Int) = l.foldl (fun v c => 10 * v + (c - 48)) (acc : Int)
  | [], acc, m, h1, h2, _ => ⟨acc, rfl, Nat.lt_of_lt_of_le h1 (Nat.pow_le_pow_right (by decide) (by simpa using h2)), rfl⟩
  | c :: r, acc, m, h1, h2, h3 => by
    have hc := h3 c (by simp)
    unfold isDig at hc
    simp only [Bool.and_eq_true, decide_eq_true_eq] at hc
    have hu : (UInt8.ofNat c.toNat).toNat = c.toNat := by rw [UInt8.toNat_ofNat']; omega
    have hm : m ≤ 17 := by simp at h2; omega
    have ha : acc < 10 ^ 17 := Nat.lt_of_lt_of_le h1 (Nat.pow_le_pow_right (by decide) hm)
    have hb : acc * 10 + (c.toNat - 48) < 10 ^ (m + 1) := by
      rw [Nat.pow_succ]
      omega
    have hb2 : acc * 10 + (c.toNat - 48) < 10 ^ 18 := Nat.lt_of_lt_of_le hb (Nat.pow_le_pow_right (by decide) (by omega))
    obtain ⟨u, e1, e2, e3⟩ := parseU_ok r (acc * 10 + (c.toNat - 48)) (m + 1) hb (by simp at h2; omega) fun x hx => h3 x (by simp [hx])
    refine ⟨u, ?_, e2, ?_⟩
    · show Lib.parseUintM _ _ (UInt8.ofNat c.toNat :: u8s r) = _
      simp only [Lib.parseUintM]
      rw [hu, if_pos (by omega), if_neg (by omega), if_neg (by omega)]
      exact e1
    · rw [e3, List.foldl_cons]
      congr 1
      omega
theorem valD_lt : ∀ (l : List Int) (acc : Int) (m : Nat), 0 ≤ acc → acc < 10 ^ m → (∀ c ∈ l, isDig c = true) → 0 ≤ l.foldl (fun v c => 10 * v + (c - 48)) acc ∧ l.foldl (fun v c => 10 * v + (c - 48)) acc < 10 ^ (m + l.length)
  | [], acc, m, h0, h1, _ => ⟨h0, by simpa using h1⟩
  | c :: r, acc, m, h0, h1, h3 => by
    have hc := h3 c (by simp)
    unfold isDig at hc
    simp only [Bool.and_eq_true, decide_eq_true_eq] at hc
    have := valD_lt r (10 * acc + (c - 48)) (m + 1) (by omega) (by rw [Int.pow_succ]; omega) fun x hx => h3 x (by simp [hx])
    rw [List.foldl_cons, List.length_cons, show m + (r.length + 1) = m + 1 + r.length by omega]
    exact this
theorem parseInt_digits {l : List Int} (h0 : l ≠ []) (h1 : l.length ≤ 18) (h2 : ∀ x ∈ l, isDig x = true) : parseInt (l, 10, 64) = some (valD l, true) := by
  unfold parseInt
  rw [if_pos ⟨rfl, rfl, by simp only; omega⟩]
  obtain ⟨u, hu, hlt, hv⟩ := parseU_ok l 0 0 (by decide) (by simpa using h1) h2
  have : Lib.parseIntB 64 (u8s l) = .ok (u : Int) := by
    cases l with
    | nil => exact absurd rfl h0
    | cons x r =>
      have hc := h2 x (by simp)
      unfold isDig at hc
      simp only [Bool.and_eq_true, decide_eq_true_eq] at hc
      have hx : (UInt8.ofNat x.toNat).toNat = x.toNat := by rw [UInt8.toNat_ofNat']; omega
      have hl : u8s (x :: r) = UInt8.ofNat x.toNat :: u8s r := rfl
      rw [hl] at hu ⊢
      have e1 : ¬ ((UInt8.ofNat x.toNat).toNat = 43 ∨ (UInt8.ofNat x.toNat).toNat = 45) := by omega
      have e2 : ¬ ((UInt8.ofNat x.toNat).toNat = 45) := by omega
      simp only [Lib.parseIntB, Lib.parseUintB, if_neg e1]
      rw [if_neg (by simp), hu]
      simp only [e2]
      rw [if_neg (by simp; omega), if_neg (by simp)]
      simp
  rw [this]
  simp only []
  have hv2 : (u : Int) = valD l := hv
  rw [if_pos, hv2]
  · have h1 : (u : Int) < 10 ^ 18 := by exact_mod_cast hlt
    simp only [Lit.wf, Bool.and_eq_true, decide_eq_true_eq]
    constructor
    · exact Int.le_trans (by decide) (Int.natCast_nonneg u)
    · exact Int.le_trans (Int.le_of_lt h1) (by decide)

/-- The program's token. -/
theorem token_some (k : Nat) (b : List Int) (hk : b.length < k) (hl : b.length < 1000000) (i : Nat) (hi : i < b.length) (hx : b.getD i 0 ≠ 35) (hb : isBlank (b.getD i 0) = false) :
    ∃ q : Int, c19 k (b, (i : Int)) = some ((tok1 (b.drop i)).2.1, (tok1 (b.drop i)).2.2.1, (tok1 (b.drop i)).2.2.2.1, 0, (tok1 (b.drop i)).1, b, q) ∧ ((tok1 (b.drop i)).1 = 0 → q = ((b.length - (tok1 (b.drop i)).2.2.2.2.length : Nat) : Int)) := by
  have e0 := drop_getD hi
  have elen : (b.drop i).length = b.length - i := List.length_drop
  unfold c19
  rw [f19_e, f19_t, kind_at k b i hi, Option.bind_some]
  dsimp only
  rw [cbeq, cbeq, cbeq]
  simp only [kd3, kd4, kd5]
  split
  · rename_i h3
    have hw := List.takeWhile_append_dropWhile (p := isWord) (l := b.drop i)
    have hw2 := congrArg List.length hw
    rw [List.length_append, elen] at hw2
    unfold c26
    rw [f26_e, f26_t, pass_word k b hk hl i (by omega), Option.bind_some]
    simp only [cd]
    have et : tok1 (b.drop i) = if 24 < ((b.drop i).takeWhile isWord).length then (4, 0, [], 0, []) else (0, 1, (b.drop i).takeWhile isWord, 0, (b.drop i).dropWhile isWord) := by
      rw [e0, tok1, if_pos h3]
    rw [et]
    by_cases h24 : 24 < ((b.drop i).takeWhile isWord).length
    · rw [if_pos (by omega), if_pos h24]
      exact ⟨_, rfl, fun h => by simp at h⟩
    · rw [if_neg (by omega), if_neg h24]
      exact ⟨_, rfl, fun _ => by simp only []; omega⟩
  · rename_i h3
    split
    · rename_i h4
      have hw := List.takeWhile_append_dropWhile (p := isDig) (l := b.drop i)
      have hw2 := congrArg List.length hw
      rw [List.length_append, elen] at hw2
      unfold c27
      rw [f27_e, f27_t, pass_num k b hk hl i (by omega), Option.bind_some]
      simp only [cd]
      have et : tok1 (b.drop i) = if 18 < ((b.drop i).takeWhile isDig).length then (4, 0, [], 0, []) else (0, 2, (b.drop i).takeWhile isDig, valD ((b.drop i).takeWhile isDig), (b.drop i).dropWhile isDig) := by
        rw [e0, tok1, if_neg h3, if_pos h4]
      rw [et]
      by_cases h18 : 18 < ((b.drop i).takeWhile isDig).length
      · rw [if_pos (by omega), if_pos h18]
        exact ⟨_, rfl, fun h => by simp at h⟩
      · rw [if_neg (by omega), if_neg h18]
        rw [show c37 k ((b.drop i).takeWhile isDig, 10, 64) = some (valD ((b.drop i).takeWhile isDig), true) from parseInt_digits (by rw [e0, List.takeWhile_cons, if_pos h4]; simp) (by omega) (fun x hx => mem_tw hx), Option.bind_some]
        exact ⟨_, rfl, fun _ => by simp only []; omega⟩
    · rename_i h4
      have et : tok1 (b.drop i) = if isSign (b.getD i 0) then (0, 3, [b.getD i 0], 0, b.drop (i + 1)) else (40, 0, [], 0, []) := by
        rw [e0, tok1, if_neg h3, if_neg h4]
      rw [et]
      split
      · rename_i h5
        rw [w64 (n := (i : Int) + 1) (by omega), w64 (by omega), ccutB, if_pos (by omega), suc_nat]
        rw [show (((i + 1 : Nat) : Int) - 1) = (i : Int) by omega, cutL_nat]
        refine ⟨_, ?_, fun _ => rfl⟩
        have e1 : (b.take (i + 1)).drop i = [b.getD i 0] := by
          rw [List.drop_take, e0, show i + 1 - i = 1 by omega]; rfl
        rw [e1]
        congr 7
        simp only [List.length_drop]
        omega
      · exact ⟨_, rfl, fun h => by simp at h⟩

theorem tokens_loop (k : Nat) (b : List Int) (hk : b.length < k) (hl : b.length < 1000000) : ∀ (j i : Nat) (out : List Tk), i ≤ b.length → b.length - i < j → out.length ≤ i →
    f8_l5 k (c18 k) (c19 k) j b b (i : Int) out = some ((lx b.length j (b.drop i)).1, (lx b.length j (b.drop i)).2.1, if (lx b.length j (b.drop i)).1 = 0 then out ++ (lx b.length j (b.drop i)).2.2 else [])
  | 0, i, out, _, h, _ => by omega
  | j + 1, i, out, hi, h, ho => by
    have hd := drp_len false (b.drop i)
    have hsuf := (drp_suf false (b.drop i)).trans (List.drop_suffix i b)
    rw [List.length_drop] at hd
    rw [f8_el5, f8_tl5, skip_some k b hk hl i hi, Option.bind_some, lx]
    cases hs : drp false (b.drop i) with
    | nil =>
      dsimp only
      rw [List.length_nil, Nat.sub_zero, cbeq, if_pos rfl, cappB, if_pos (by simp only [List.length_cons, List.length_nil]; omega)]
      rfl
    | cons x r =>
      rw [hs] at hd hsuf
      obtain ⟨h35, hbl⟩ := drp_head false _ hs
      have hsuf2 := List.suffix_iff_eq_drop.1 hsuf
      generalize hp : b.length - (x :: r).length = p at *
      have hlen2 : (x :: r).length ≤ b.length := by omega
      have hpl : p < b.length := by rw [List.length_cons] at hd hp; omega
      have hx : b.getD p 0 = x := by
        have := drop_getD hpl
        rw [← hsuf2] at this
        exact (List.cons.inj this).1.symm
      dsimp only
      rw [cbeq, if_neg (by omega)]
      obtain ⟨q, e, hq⟩ := token_some k b hk hl p hpl (by rw [hx]; exact h35) (by rw [hx]; exact hbl)
      rw [← hsuf2] at e hq
      rw [e, Option.bind_some]
      dsimp only
      rw [cbne]
      by_cases h0 : (tok1 (x :: r)).1 = 0
      · have hr := tok1_rest h0
        obtain ⟨s1, s2, s3, s4⟩ := tok1_spec h0
        simp only [if_pos h0]
        rw [cappB, if_pos (by simp only [List.length_cons, List.length_nil]; omega), hq h0]
        rw [List.length_cons] at hd hp
        have hsub : b.drop (b.length - (tok1 (x :: r)).2.2.2.2.length) = (tok1 (x :: r)).2.2.2.2 := by
          have hs3 : (tok1 (x :: r)).2.2.2.2 <:+ b := (List.suffix_append _ _).trans (s1 ▸ hsuf)
          exact (List.suffix_iff_eq_drop.1 hs3).symm
        have := tokens_loop k b hk hl j (b.length - (tok1 (x :: r)).2.2.2.2.length) (out ++ [((tok1 (x :: r)).2.1, ((tok1 (x :: r)).2.2.1, ((tok1 (x :: r)).2.2.2.1, (((p : Nat) : Int), ()))))]) (by omega) (by omega) (by rw [List.length_append]; simp only [List.length_cons, List.length_nil]; omega)
        rw [hsub] at this
        rw [this]
        by_cases h1 : (lx b.length j (tok1 (x :: r)).2.2.2.2).1 = 0
        · have hz := lx_err _ _ _ h1
          simp only [if_pos h1, h1, hz]
          simp
          omega
        · simp only [if_neg h1]
      · simp only [if_neg h0, hp]
theorem tokens_some (k : Nat) (b : List Int) (hk : b.length < k) (hm : b.length < 1000000) : c8 k b = some (toks b) := by
  unfold c8 toks
  rw [f8_e, f8_t, cd]
  by_cases hl : 65536 < b.length
  · rw [if_pos (by omega), if_pos hl]
  · rw [if_neg (by omega), if_neg hl, show (0 : Int) = ((0 : Nat) : Int) from rfl, tokens_loop k b hk (by omega) k 0 [] (Nat.zero_le _) (by omega) (Nat.zero_le _)]
    rw [List.drop_zero, lx_fuel _ k (b.length + 1) b (by omega) (by omega), List.nil_append]
    have : ∀ (f : Nat) (s : List Int), (if (lx b.length f s).1 = 0 then (lx b.length f s).2.2 else []) = (lx b.length f s).2.2 := by
      intro f s
      split
      · rfl
      · rename_i h
        cases f with
        | zero => exact absurd rfl h
        | succ f =>
          rw [lx] at h ⊢
          cases hd : drp false s with
          | nil => rw [hd] at h; exact absurd rfl h
          | cons x r =>
            rw [hd] at h
            simp only [] at h ⊢
            split
            · rename_i h0
              rw [if_pos h0] at h
              split
              · rename_i h1; rw [if_pos h1] at h; exact absurd rfl h
              · rfl
            · rfl
    rw [this]
end Go.Proofs.YtjbijifjlmmnpaaDoorV
