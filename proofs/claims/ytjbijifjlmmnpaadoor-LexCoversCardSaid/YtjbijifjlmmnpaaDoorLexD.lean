import Derived.Test.YtjbijifjlmmnpaaDoorLexC
/-! Lex, the plain law, 4: Tokens. -/
set_option linter.unusedVariables false
set_option linter.unusedSimpArgs false
namespace Go.Proofs.YtjbijifjlmmnpaaDoorV
open Go Go.RowKit

abbrev Tk := (Int) × ((List Int) × ((Int) × ((Int) × (Unit))))
/-- A token, or an error. -/
def TokOK (k : Nat) (b : List Int) (i : Nat) (r : Option ((Int) × (List Int) × (Int) × (Int) × (Int) × (List (Int)) × (Int))) : Prop :=
  ∃ kind text num err q, r = some (kind, text, num, 0, err, b, q) ∧ (err ≠ 0 ∨ (err = 0 ∧ kind ≠ 0 ∧ ∃ p : Nat, q = (p : Int) ∧ i < p ∧ p ≤ b.length ∧ text = (b.take p).drop i))

theorem word_some (k : Nat) (b : List Int) (hk : b.length < k) (hl : b.length < 1000000) (i : Nat) (hi : i < b.length) (h3 : kd k (b.getD i 0) = 3) : TokOK k b i (c26 k (b, (i : Int))) := by
  obtain ⟨p, p1, p2, p3⟩ := pass_word k b hk hl i hi h3
  unfold c26
  rw [f26_e, f26_t, p3, Option.bind_some]
  dsimp only
  cases decide (((((b.take p).drop i).length : Nat) : Int) > 24) with
  | true => rw [cond_true]; exact ⟨_, _, _, _, _, rfl, .inl (by decide)⟩
  | false => rw [cond_false]; exact ⟨_, _, _, _, _, rfl, .inr ⟨rfl, by decide, p, rfl, p1, p2, rfl⟩⟩
theorem num_some (k : Nat) (b : List Int) (hk : b.length < k) (hl : b.length < 1000000) (i : Nat) (hi : i < b.length) (h4 : kd k (b.getD i 0) = 4) : TokOK k b i (c27 k (b, (i : Int))) := by
  obtain ⟨p, p1, p2, p3, p4⟩ := pass_num k b hk hl i hi h4
  unfold c27
  rw [f27_e, f27_t, p3, Option.bind_some]
  dsimp only
  cases hd : decide (((((b.take p).drop i).length : Nat) : Int) > 18) with
  | true => rw [cond_true]; exact ⟨_, _, _, _, _, rfl, .inl (by decide)⟩
  | false =>
    rw [cond_false]
    have hlen : ((b.take p).drop i).length = p - i := by rw [List.length_drop, List.length_take]; omega
    have hd2 : ((b.take p).drop i).length ≤ 18 := by simp only [decide_eq_false_iff_not] at hd; omega
    obtain ⟨v, hv⟩ := parseInt_digits (l := (b.take p).drop i) (by intro e; rw [e] at hlen; simp at hlen; omega) hd2 (by
      intro x hx
      obtain ⟨n, hn, rfl⟩ := List.mem_iff_getElem.1 hx
      rw [hlen] at hn
      have := p4 (i + n) (by omega) (by omega)
      have e : ((b.take p).drop i)[n] = b.getD (i + n) 0 := by
        rw [List.getElem_drop, List.getElem_take]
        rw [List.getD_eq_getElem?_getD, List.getElem?_eq_getElem (by omega)]
        rfl
      rw [e]
      exact kd_digit k _ this)
    rw [show c37 k ((b.take p).drop i, 10, 64) = some (v, true) from hv, Option.bind_some]
    exact ⟨_, _, _, _, _, rfl, .inr ⟨rfl, by decide, p, rfl, p1, p2, rfl⟩⟩
theorem token_some (k : Nat) (b : List Int) (hk : b.length < k) (hl : b.length < 1000000) (i : Nat) (hi : i < b.length) : TokOK k b i (c19 k (b, (i : Int))) := by
  unfold c19
  rw [f19_e, f19_t, kind_at k b i hi, Option.bind_some]
  dsimp only
  by_cases h3 : kd k (b.getD i 0) = 3
  · rw [show (kd k (b.getD i 0) == 3) = true by simpa using h3, cond_true]
    obtain ⟨kind, text, num, err, q, e, h⟩ := word_some k b hk hl i hi h3
    rw [e]
    exact ⟨_, _, _, _, _, rfl, h⟩
  · rw [show (kd k (b.getD i 0) == 3) = false by simpa using h3, cond_false]
    by_cases h4 : kd k (b.getD i 0) = 4
    · rw [show (kd k (b.getD i 0) == 4) = true by simpa using h4, cond_true]
      obtain ⟨kind, text, num, err, q, e, h⟩ := num_some k b hk hl i hi h4
      rw [e]
      exact ⟨_, _, _, _, _, rfl, h⟩
    · rw [show (kd k (b.getD i 0) == 4) = false by simpa using h4, cond_false]
      cases (kd k (b.getD i 0) == 5) with
      | false => rw [cond_false]; exact ⟨_, _, _, _, _, rfl, .inl (by decide)⟩
      | true =>
        have e1 : IntKind.wrap .i64 ((i : Int) + 1) = ((i + 1 : Nat) : Int) := by rw [w64 (by omega) (by omega)]; simp
        have e2 : IntKind.wrap .i64 (((i + 1 : Nat) : Int) - 1) = (i : Int) := by rw [w64 (by omega) (by omega)]; simp
        rw [cond_true, e1, e2, cutB_nat (by omega) (by omega), cutL_nat, cond_true]
        exact ⟨_, _, _, _, _, rfl, .inr ⟨rfl, by decide, i + 1, rfl, by omega, by omega, rfl⟩⟩

/-- Tokens that follow one another. -/
def Chain (k : Nat) (b : List Int) : Nat → List Tk → Prop
  | _, [] => False
  | i, t :: r => t.2.2.2.1 = (skipTo k b i : Int) ∧ ((r = [] ∧ skipTo k b i = b.length ∧ t.1 = 0 ∧ t.2.1 = []) ∨
      (r ≠ [] ∧ t.1 ≠ 0 ∧ ∃ p', skipTo k b i < p' ∧ p' ≤ b.length ∧ t.2.1 = (b.take p').drop (skipTo k b i) ∧ Chain k b p' r))
theorem Chain.ne {k : Nat} {b : List Int} {i : Nat} {l : List Tk} (h : Chain k b i l) : l ≠ [] := by
  rintro rfl
  exact h

theorem appB_ok {m : Nat} (h : m < 1000000) : appB 40 m 1 = true := by
  have : 1000001 ≤ maxLen := by decide
  unfold appB
  simp
  omega

def TokensOK (k : Nat) (b : List Int) (i : Nat) (out : List Tk) (r : Option ((Int) × (Int) × (List Tk))) : Prop :=
  ∃ e q ts, r = some (e, q, ts) ∧ ((e ≠ 0 ∧ ts = [] ∧ 0 ≤ q ∧ q ≤ (b.length : Int)) ∨ (e = 0 ∧ ∃ rest, ts = out ++ rest ∧ Chain k b i rest))
theorem tokens_loop (k : Nat) (b : List Int) (hk : b.length < k) (hl : b.length < 1000000) : ∀ (j i : Nat) (out : List Tk), i ≤ b.length → b.length - i < j → out.length ≤ i → TokensOK k b i out (f8_l5 k (c18 k) (c19 k) j b b (i : Int) out)
  | 0, i, out, _, h, _ => by omega
  | j + 1, i, out, hi, h, ho => by
    obtain ⟨s1, s2, s3⟩ := skipTo_spec k b i hi
    rw [f8_el5, f8_tl5, skip_some k b hk hl i hi, Option.bind_some]
    dsimp only
    by_cases he : skipTo k b i = b.length
    · rw [show (((skipTo k b i : Nat) : Int) == ((b.length : Nat) : Int)) = true by rw [he]; simp, cond_true]
      rw [show (List.length ([((0 : Int), (([] : List Int), ((0 : Int), (((skipTo k b i : Nat) : Int), ()))))] : List Tk)) = 1 from rfl, appB_ok (by omega), cond_true]
      exact ⟨_, _, _, rfl, .inr ⟨rfl, _, rfl, rfl, .inl ⟨rfl, he, rfl, rfl⟩⟩⟩
    · rw [show (((skipTo k b i : Nat) : Int) == ((b.length : Nat) : Int)) = false by simp; omega, cond_false]
      obtain ⟨kind, text, num, err, q, e, hh⟩ := token_some k b hk hl (skipTo k b i) (by omega)
      rw [e, Option.bind_some]
      dsimp only
      rcases hh with h0 | ⟨h0, h1, p, rfl, h3, h4, h5⟩
      · rw [show (err != 0) = true by simpa using h0, cond_true]
        exact ⟨_, _, _, rfl, .inl ⟨h0, rfl, by omega, by omega⟩⟩
      · subst h0
        rw [show ((0 : Int) != 0) = false by decide, cond_false]
        rw [show (List.length ([(kind, (text, (num, (((skipTo k b i : Nat) : Int), ()))))] : List Tk)) = 1 from rfl, appB_ok (by omega), cond_true]
        obtain ⟨e', q', ts, t1, t2⟩ := tokens_loop k b hk hl j p (out ++ [(kind, (text, (num, (((skipTo k b i : Nat) : Int), ()))))]) h4 (by omega) (by simp; omega)
        refine ⟨e', q', ts, t1, ?_⟩
        rcases t2 with t2 | ⟨t2, rest, t3, t4⟩
        · exact .inl t2
        · exact .inr ⟨t2, _ :: rest, by rw [t3]; simp; rfl, rfl, .inr ⟨t4.ne, h1, p, h3, h4, h5, t4⟩⟩
theorem tokens_some (k : Nat) (b : List Int) (hk : b.length < k) (hl : b.length ≤ 65536) : TokensOK k b 0 [] (c8 k b) := by
  unfold c8
  rw [f8_e, f8_t, show decide (((b.length : Nat) : Int) > 65536) = false by simp; omega, cond_false]
  exact tokens_loop k b hk (by omega) k 0 [] (Nat.zero_le _) (by omega) (Nat.zero_le _)
/-- What lies between tokens has none. -/
theorem tokens_gap (k : Nat) (b : List Int) (i : Nat) (hi : i ≤ b.length) (hk : b.length < k) (hl : b.length ≤ 65536) : ∃ q t, c8 k ((b.take (skipTo k b i)).drop i) = some (0, q, [t]) := by
  have hs := skipTo_spec k b i hi
  have hlen : ((b.take (skipTo k b i)).drop i).length = skipTo k b i - i := by rw [List.length_drop, List.length_take]; omega
  have hg := skipTo_gap k b i hi
  unfold c8
  generalize hgg : (b.take (skipTo k b i)).drop i = g at *
  rw [f8_e, f8_t, show decide (((g.length : Nat) : Int) > 65536) = false by simp; omega, cond_false]
  obtain ⟨m, rfl⟩ : ∃ m, k = m + 1 := ⟨k - 1, by omega⟩
  have h0 := skip_some (m + 1) g (by omega) (by omega) 0 (Nat.zero_le _)
  rw [f8_el5, f8_tl5, show (0 : Int) = ((0 : Nat) : Int) from rfl, h0, Option.bind_some]
  dsimp only
  rw [show (((skipTo (m + 1) g 0 : Nat) : Int) == ((g.length : Nat) : Int)) = true by rw [hg, hlen]; simp, cond_true]
  exact ⟨_, _, rfl⟩
end Go.Proofs.YtjbijifjlmmnpaaDoorV
