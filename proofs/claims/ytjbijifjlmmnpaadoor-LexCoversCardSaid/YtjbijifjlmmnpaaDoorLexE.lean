import Derived.Test.YtjbijifjlmmnpaaDoorLexD
import Derived.Test.YtjbijifjlmmnpaaDoorLexAw
/-! Lex, the plain law, 5: LexCovers. -/
set_option linter.unusedVariables false
set_option linter.unusedSimpArgs false
namespace Go.Proofs.YtjbijifjlmmnpaaDoorV
open Go Go.RowKit

theorem chain_len (k : Nat) (b : List Int) : ∀ (r : List Tk) (i : Nat), i ≤ b.length → Chain k b i r → r.length ≤ b.length - i + 1
  | [], i, hi, h => Nat.zero_le _
  | t :: r, i, hi, h => by
    obtain ⟨h1, h2⟩ := h
    obtain ⟨s1, s2, s3⟩ := skipTo_spec k b i hi
    rcases h2 with ⟨rfl, _⟩ | ⟨_, _, p, p1, p2, _, p3⟩
    · simp
    · have := chain_len k b r p p2 p3
      simp
      omega

theorem covers_step (k : Nat) (b : List Int) (hk : b.length < k) (hl : b.length ≤ 65536) (J : List Int → Int → Int → List Tk → Option Bool) {i n e : Nat} {ts : List Tk} {t : Tk} (hi : i ≤ b.length) (hn : n < ts.length) (ht : ts.getD n ((0 : Int), ([], ((0 : Int), ((0 : Int), ())))) = t) (hts : ts.length < 1000000)
    (h1 : t.2.2.2.1 = (skipTo k b i : Int)) (h2 : t.2.1 = (b.take (skipTo k b i + e)).drop (skipTo k b i)) (h3 : skipTo k b i + e ≤ b.length) (h4 : (t.1 == (0 : Int)) = decide (n + 1 = ts.length)) :
    f3_tl8 (c8 k) (c9 k) J b (i : Int) (n : Int) ts = J b ((skipTo k b i + e : Nat) : Int) ((n + 1 : Nat) : Int) ts := by
  obtain ⟨s1, s2, s3⟩ := skipTo_spec k b i hi
  have hT : rdA ((0 : Int), (([] : List Int), ((0 : Int), ((0 : Int), ())))) ts (Int.toNat (n : Int)) = t := by
    rw [Int.toNat_natCast]
    exact ht
  have hlen : t.2.1.length = e := by rw [h2, List.length_drop, List.length_take]; omega
  unfold f3_tl8
  rw [hT, h1, hlen]
  rw [show decide ((n : Int) < ((ts.length : Nat) : Int)) = true by simp; omega, cond_true, inB_nat hn, cond_true]
  rw [show decide (((skipTo k b i : Nat) : Int) < (i : Int)) = false by simp; omega, cond_false]
  rw [w64 (n := ((b.length : Nat) : Int) - (e : Int)) (by omega) (by omega)]
  rw [show decide (((skipTo k b i : Nat) : Int) > ((b.length : Nat) : Int) - (e : Int)) = false by simp; omega, cond_false]
  rw [w64 (n := ((skipTo k b i : Nat) : Int) + (e : Int)) (by omega) (by omega), show ((skipTo k b i : Nat) : Int) + (e : Int) = ((skipTo k b i + e : Nat) : Int) by simp]
  rw [cutB_nat (by omega) h3, cond_true, cutL_nat, ← h2, beq_self_eq_true]
  simp only [Bool.not_true, cond_false]
  rw [w64 (n := ((ts.length : Nat) : Int) - 1) (by omega) (by omega)]
  rw [h4, show (((n : Nat) : Int) == ((ts.length : Nat) : Int) - 1) = decide (n + 1 = ts.length) by
    rw [Bool.eq_iff_iff]
    simp
    omega]
  rw [beq_self_eq_true]
  simp only [Bool.not_true, cond_false]
  rw [cutB_nat s1 s2, cond_true, cutL_nat]
  obtain ⟨q, t', hg⟩ := tokens_gap k b i hi hk hl
  rw [hg, Option.bind_some]
  dsimp only
  rw [show ((0 : Int) != 0) = false by decide, cond_false, show (((List.length [t'] : Nat) : Int) != 1) = false by rfl, cond_false]
  rw [w64 (n := (n : Int) + 1) (by omega) (by omega)]
  simp

theorem covers_loop (k : Nat) (b : List Int) (hk : b.length < k) (hl : b.length ≤ 65536) (ha : c9 k () = some true) : ∀ (r pre : List Tk) (j i : Nat), i ≤ b.length → (pre ++ r).length < 1000000 → r.length < j → Chain k b i r →
    f3_l8 k (c8 k) (c9 k) j b (i : Int) ((pre.length : Nat) : Int) (pre ++ r) = some true
  | [], pre, j, i, _, _, _, h => h.elim
  | t :: r, pre, 0, i, _, _, h, _ => by omega
  | t :: r, pre, j + 1, i, hi, hts, hj, h => by
    obtain ⟨h1, h2⟩ := h
    obtain ⟨s1, s2, s3⟩ := skipTo_spec k b i hi
    have hn : pre.length < (pre ++ t :: r).length := by simp
    have ht : (pre ++ t :: r).getD pre.length ((0 : Int), ([], ((0 : Int), ((0 : Int), ())))) = t := by simp [List.getD_eq_getElem?_getD]
    rw [f3_el8]
    rcases h2 with ⟨rfl, p1, p2, p3⟩ | ⟨p0, p1, p, p2, p3, p4, p5⟩
    · rw [covers_step k b hk hl _ (e := 0) hi hn ht hts h1 (by rw [p3]; simp) (by omega) (by rw [p2]; simp)]
      obtain ⟨j', rfl⟩ : ∃ j', j = j' + 1 := ⟨j - 1, by simp at hj; omega⟩
      rw [f3_el8]
      unfold f3_tl8
      rw [show decide (((pre.length + 1 : Nat) : Int) < (((pre ++ [t]).length : Nat) : Int)) = false by simp, cond_false]
      rw [show decide ((((pre ++ [t]).length : Nat) : Int) > 0) = true by simp, cond_true]
      rw [show (((skipTo k b i + 0 : Nat) : Int) == ((b.length : Nat) : Int)) = true by rw [p1]; simp, cond_true, ha]
      rfl
    · obtain ⟨e, rfl⟩ : ∃ e, p = skipTo k b i + e := ⟨p - skipTo k b i, by omega⟩
      rw [covers_step k b hk hl _ (e := e) hi hn ht hts h1 p4 p3 (by
        have : r.length ≠ 0 := fun e => p0 (List.length_eq_zero_iff.1 e)
        rw [show (t.1 == 0) = false by simpa using p1]
        simp
        omega)]
      have := covers_loop k b hk hl ha r (pre ++ [t]) j (skipTo k b i + e) p3 (by simpa using hts) (by simp at hj; omega) p5
      simpa using this

theorem lexCovers_pure (l : List Int) (hw : ∀ n ∈ l, (Lit.int .u8 n).wf = true) (hm : l.length ≤ maxLen) : ∃ k, c3 k l = some true := by
  obtain ⟨K, hK⟩ : ∃ K, K = 5010 := ⟨_, rfl⟩
  have ha : c9 K () = some true := hK ▸ awake_true
  refine ⟨K, ?_⟩
  unfold c3
  rw [f3_e, f3_t]
  by_cases hl : l.length ≤ 5000
  · rw [show decide (((l.length : Nat) : Int) > 5000) = false by simp; omega, cond_false]
    obtain ⟨e, q, ts, h1, h2⟩ := tokens_some K l (by omega) (by omega)
    rw [h1, Option.bind_some]
    dsimp only
    rcases h2 with ⟨g1, rfl, g3, g4⟩ | ⟨rfl, rest, hr, g2⟩
    · rw [show (e != 0) = true by simpa using g1, cond_true, show decide (q ≥ 0) = true by simpa using g3, cond_true, show decide (q ≤ ((l.length : Nat) : Int)) = true by simpa using g4, cond_true]
      rw [show (((List.length ([] : List Tk) : Nat) : Int) == 0) = true by rfl, cond_true, ha]
      rfl
    · rw [show ((0 : Int) != 0) = false by decide, cond_false]
      have hlen := chain_len K l rest 0 (Nat.zero_le _) g2
      have := covers_loop K l (by omega) (by omega) ha rest [] K 0 (Nat.zero_le _) (by simp; omega) (by omega) g2
      rw [hr]
      exact this
  · rw [show decide (((l.length : Nat) : Int) > 5000) = true by simp; omega, cond_true]
end Go.Proofs.YtjbijifjlmmnpaaDoorV
