import Derived.Test.YtjbijifjlmmnpaaDoorLexB
/-! Lex, the plain law, 3: words and numbers. -/
set_option linter.unusedVariables false
set_option linter.unusedSimpArgs false
namespace Go.Proofs.YtjbijifjlmmnpaaDoorV
open Go Go.RowKit

theorem exc {α : Type} {c : Bool} {x y : Option α} {P : α → Prop} (h1 : c = true → ∃ r, x = some r ∧ P r) (h2 : c = false → ∃ r, y = some r ∧ P r) : ∃ r, (bif c then x else y) = some r ∧ P r := by
  cases c
  · exact h2 rfl
  · exact h1 rfl
set_option maxRecDepth 20000 in
theorem kd_digit (k : Nat) (a : Int) (h : kd k a = 4) : 48 ≤ a ∧ a ≤ 57 := by
  have : ∃ r, c33 k a = some r ∧ (r = 4 → 48 ≤ a ∧ a ≤ 57) := by
    unfold c33
    rw [f33_e, f33_t, f33_ej10, f33_tj10, f33_ej14, f33_tj14]
    repeat' (first | (refine ⟨_, rfl, fun e => ?_⟩; first | (exact absurd e (by decide)) | (simp at *; omega)) | (apply exc <;> intro))
  obtain ⟨r, hr, h2⟩ := this
  rw [kind_some] at hr
  cases hr
  exact h2 h

section
variable (k : Nat) (b : List Int)
theorem pass_loop (g : Int → Option Bool) (hg : ∀ x, ∃ r, g x = some r) (L : Nat → Int → List Int → Int → Option (List Int × List Int × Int))
    (hL : ∀ j a0 a1 a2, L (j + 1) a0 a1 a2 = f34_tl2 (c24a k) g (L j) a0 a1 a2) (hl : b.length < 1000000) (s : Nat) :
    ∀ (j i : Nat), s ≤ i → i ≤ b.length → b.length - i < j → ∃ p, i ≤ p ∧ p ≤ b.length ∧ L j (s : Int) b (i : Int) = some ((b.take p).drop s, b, (p : Int)) ∧ (∀ q, i ≤ q → q < p → g (kd k (b.getD q 0)) = some true) ∧ (i < b.length → g (kd k (b.getD i 0)) = some true → i < p)
  | 0, i, _, _, h => by omega
  | j + 1, i, hs, hi, h => by
    rw [hL, f34_tl2]
    have hcut : ∀ p, s ≤ p → p ≤ b.length → (bif cutB (s : Int) (p : Int) b.length then some (cutL b (s : Int) (p : Int), b, (p : Int)) else none) = some ((b.take p).drop s, b, (p : Int)) := fun p h1 h2 => by rw [cutB_nat h1 h2, cutL_nat, cond_true]
    by_cases hlt : i < b.length
    · rw [show decide ((i : Int) < ((b.length : Nat) : Int)) = true by simp; omega, cond_true, kindA_at k b i hlt, Option.bind_some]
      obtain ⟨r, hr⟩ := hg (kd k (b.getD i 0))
      rw [hr, Option.bind_some]
      cases r with
      | true =>
        rw [cond_true, w64 (by omega) (by omega), show ((i : Int) + 1) = ((i + 1 : Nat) : Int) by simp]
        obtain ⟨p, p1, p2, p3, p4, p5⟩ := pass_loop g hg L hL hl s j (i + 1) (by omega) (by omega) (by omega)
        refine ⟨p, by omega, p2, p3, fun q q1 q2 => ?_, fun _ _ => by omega⟩
        by_cases e : q = i
        · subst e; exact hr
        · exact p4 q (by omega) q2
      | false =>
        rw [cond_false, hcut i hs hi]
        exact ⟨i, Nat.le_refl _, hi, rfl, fun q q1 q2 => by omega, fun _ e => by cases e⟩
    · rw [show decide ((i : Int) < ((b.length : Nat) : Int)) = false by simp; omega, cond_false, hcut i hs hi]
      exact ⟨i, Nat.le_refl _, hi, rfl, fun q q1 q2 => by omega, fun e => absurd e hlt⟩
end

theorem word_tot (k : Nat) (x : Int) : ∃ r, c35 k x = some r := by
  unfold c35
  rw [f35_e, f35_t]
  repeat' (first | exact ⟨_, rfl⟩ | apply ex_cond)
theorem word_3 (k : Nat) : c35 k 3 = some true := by
  unfold c35
  rw [f35_e, f35_t]
  rfl
theorem num_tot (k : Nat) (x : Int) : c36 k x = some (x == 4) := by
  unfold c36
  rw [f36_e, f36_t]

theorem pass_word (k : Nat) (b : List Int) (hk : b.length < k) (hl : b.length < 1000000) (i : Nat) (hi : i < b.length) (h3 : kd k (b.getD i 0) = 3) :
    ∃ p, i < p ∧ p ≤ b.length ∧ c34 k (b, (i : Int)) = some ((b.take p).drop i, b, (p : Int)) := by
  obtain ⟨p, p1, p2, p3, p4, p5⟩ := pass_loop k b (c35 k) (word_tot k) (fun j => f34_l2 k (c24a k) (c35 k) j) (fun j a0 a1 a2 => f34_el2 k (c24a k) (c35 k) j a0 a1 a2) hl i k i (Nat.le_refl _) (by omega) (by omega)
  refine ⟨p, p5 hi (by rw [h3, word_3]), p2, ?_⟩
  unfold c34
  rw [f34_e, f34_t]
  exact p3
theorem pass_num (k : Nat) (b : List Int) (hk : b.length < k) (hl : b.length < 1000000) (i : Nat) (hi : i < b.length) (h4 : kd k (b.getD i 0) = 4) :
    ∃ p, i < p ∧ p ≤ b.length ∧ c34a k (b, (i : Int)) = some ((b.take p).drop i, b, (p : Int)) ∧ ∀ q, i ≤ q → q < p → kd k (b.getD q 0) = 4 := by
  obtain ⟨p, p1, p2, p3, p4, p5⟩ := pass_loop k b (c36 k) (fun x => ⟨_, num_tot k x⟩) (fun j => f34a_l2 k (c24a k) (c36 k) j) (fun j a0 a1 a2 => f34a_el2 k (c24a k) (c36 k) j a0 a1 a2) hl i k i (Nat.le_refl _) (by omega) (by omega)
  refine ⟨p, p5 hi (by rw [h4, num_tot]; rfl), p2, ?_, fun q q1 q2 => ?_⟩
  · unfold c34a
    rw [f34a_e, f34a_t]
    exact p3
  · have := p4 q q1 q2
    rw [num_tot] at this
    simpa using this

/-! #### a number of 18 digits at most -/
theorem pow10_mono {m n : Nat} (h : m ≤ n) : 10 ^ m ≤ 10 ^ n := Nat.pow_le_pow_right (by decide) h
theorem parseU_ok : ∀ (l : List UInt8) (acc m : Nat), acc < 10 ^ m → m + l.length ≤ 18 → (∀ c ∈ l, 48 ≤ c.toNat ∧ c.toNat ≤ 57) → ∃ u, Lib.parseUintM (2 ^ 64 - 1) acc l = .ok u ∧ u < 10 ^ 18
  | [], acc, m, h1, h2, _ => ⟨acc, rfl, Nat.lt_of_lt_of_le h1 (pow10_mono (by simpa using h2))⟩
  | c :: r, acc, m, h1, h2, h3 => by
    have hc := h3 c (by simp)
    have hm : m ≤ 17 := by simp at h2; omega
    have ha : acc < 10 ^ 17 := Nat.lt_of_lt_of_le h1 (pow10_mono hm)
    have hb : acc * 10 + (c.toNat - 48) < 10 ^ (m + 1) := by
      rw [Nat.pow_succ]
      omega
    have hb2 : acc * 10 + (c.toNat - 48) < 10 ^ 18 := Nat.lt_of_lt_of_le hb (pow10_mono (by omega))
    simp only [Lib.parseUintM]
    rw [if_pos hc, if_neg (by omega), if_neg (by omega)]
    exact parseU_ok r _ (m + 1) hb (by simp at h2; omega) fun x hx => h3 x (by simp [hx])
theorem parseInt_digits {l : List Int} (h0 : l ≠ []) (h1 : l.length ≤ 18) (h2 : ∀ x ∈ l, 48 ≤ x ∧ x ≤ 57) : ∃ v, parseInt (l, 10, 64) = some (v, true) := by
  unfold parseInt
  rw [if_pos ⟨rfl, rfl, by simp only; omega⟩]
  have hd : ∀ c ∈ u8s l, 48 ≤ c.toNat ∧ c.toNat ≤ 57 := by
    intro c hc
    obtain ⟨x, hx, rfl⟩ := List.mem_map.1 hc
    have := h2 x hx
    have e : (UInt8.ofNat x.toNat).toNat = x.toNat := by
      rw [UInt8.toNat_ofNat']
      omega
    rw [e]
    omega
  obtain ⟨u, hu, hlt⟩ := parseU_ok (u8s l) 0 0 (by decide) (by simpa [u8s] using h1) hd
  have : Lib.parseIntB 64 (u8s l) = .ok (u : Int) := by
    cases hl : u8s l with
    | nil =>
      have : (u8s l).length = 0 := by rw [hl]; rfl
      rw [u8s, List.length_map] at this
      exact absurd (List.length_eq_zero_iff.1 this) h0
    | cons c r =>
      have hc := hd c (by rw [hl]; simp)
      rw [hl] at hu
      have e1 : ¬ (c.toNat = 43 ∨ c.toNat = 45) := by omega
      have e2 : ¬ (c.toNat = 45) := by omega
      simp only [Lib.parseIntB, Lib.parseUintB, if_neg e1]
      rw [if_neg (by simp), hu]
      simp only [e2]
      rw [if_neg (by simp; omega), if_neg (by simp)]
      simp
  rw [this]
  simp only []
  rw [if_pos]
  · exact ⟨_, rfl⟩
  · have h1 : (u : Int) < 10 ^ 18 := by exact_mod_cast hlt
    simp only [Lit.wf, Bool.and_eq_true, decide_eq_true_eq]
    constructor
    · exact Int.le_trans (by decide) (Int.natCast_nonneg u)
    · exact Int.le_trans (Int.le_of_lt h1) (by decide)
end Go.Proofs.YtjbijifjlmmnpaaDoorV
