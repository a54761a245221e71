import Derived.Test.YtjbijifjlmmnpaaDoorG3
/-! Lex, the plain law, 1: kinds, the first newline, skip. -/
set_option linter.unusedVariables false
set_option linter.unusedSimpArgs false
namespace Go.Proofs.YtjbijifjlmmnpaaDoorV
open Go Go.RowKit

theorem w64 {n : Int} (h1 : -9223372036854775808 ≤ n) (h2 : n ≤ 9223372036854775807) : IntKind.wrap .i64 n = n := by
  rw [IntKind.wrap_i64]
  omega

theorem inB_nat {i n : Nat} (h : i < n) : inB (i : Int) n = true := by
  unfold inB
  simp
  omega
theorem rdI_nat (l : List Int) (i : Nat) : rdI l (Int.toNat (i : Int)) = l.getD i 0 := by
  simp [rdI]
theorem cutB_nat {i j n : Nat} (h : i ≤ j) (h2 : j ≤ n) : cutB (i : Int) (j : Int) n = true := by
  unfold cutB
  simp
  omega
theorem cutL_nat {α : Type} (l : List α) (i j : Nat) : cutL l (i : Int) (j : Int) = (l.take j).drop i := by
  simp [cutL]

theorem ex_cond {α : Type} {c : Bool} {x y : Option α} (h1 : ∃ r, x = some r) (h2 : ∃ r, y = some r) : ∃ r, (bif c then x else y) = some r := by cases c <;> assumption
/-- What kind a byte is. -/
noncomputable def kd (k : Nat) (a : Int) : Int := (c33 k a).getD 0
theorem kind_some (k : Nat) (a : Int) : c33 k a = some (kd k a) := by
  have : ∃ r, c33 k a = some r := by
    unfold c33
    rw [f33_e, f33_t, f33_ej10, f33_tj10, f33_ej14, f33_tj14]
    repeat' (first | exact ⟨_, rfl⟩ | apply ex_cond)
  obtain ⟨r, hr⟩ := this
  rw [kd, hr]; rfl
theorem kd_nl (k : Nat) : kd k 10 = 1 := by
  have h := kind_some k 10
  unfold c33 at h
  rw [f33_e, f33_t, f33_ej10, f33_tj10, f33_ej14, f33_tj14] at h
  simp at h
  exact h.symm

theorem kind_at (k : Nat) (b : List Int) (i : Nat) (h : i < b.length) : c24 k (b, (i : Int)) = some (kd k (b.getD i 0), b, (i : Int)) := by
  unfold c24
  rw [f24_e, f24_t, inB_nat h, rdI_nat, cond_true, kind_some]
  rfl
theorem kindA_at (k : Nat) (b : List Int) (i : Nat) (h : i < b.length) : c24a k (b, (i : Int)) = some (kd k (b.getD i 0)) := by
  unfold c24a
  rw [f24a_e, f24a_t, inB_nat h, rdI_nat, cond_true, kind_some]
  rfl

/-- The first place of a value. -/
def fstI (v : Int) : List Int → Option Nat
  | [] => none
  | x :: r => if v = x then some 0 else (fstI v r).map (· + 1)
theorem fstI_lt {v : Int} : ∀ {l : List Int} {n : Nat}, fstI v l = some n → n < l.length ∧ l.getD n 0 = v
  | [], n, h => by cases h
  | x :: r, n, h => by
    simp only [fstI] at h
    split at h
    · rename_i e; cases h; exact ⟨by simp, by simp [e]⟩
    · obtain ⟨m, hm, rfl⟩ := Option.map_eq_some_iff.1 h
      have := fstI_lt hm
      exact ⟨by simp; omega, by simpa using this.2⟩
theorem fstI_take {v : Int} : ∀ {l : List Int} {n m : Nat}, fstI v l = some n → n < m → fstI v (l.take m) = some n
  | [], n, m, h, _ => by cases h
  | x :: r, n, 0, h, hm => by omega
  | x :: r, n, m + 1, h, hm => by
    simp only [fstI] at h
    simp only [List.take_succ_cons, fstI]
    split at h
    · rename_i e; rw [if_pos e]; exact h
    · rename_i e
      rw [if_neg e]
      obtain ⟨q, hq, rfl⟩ := Option.map_eq_some_iff.1 h
      rw [fstI_take hq (by omega)]
      rfl
theorem index_loop (k : Nat) (l : List Int) (v : Int) (hl : l.length < 9223372036854775807) : ∀ (j i : Nat), i ≤ l.length → l.length - i < j →
    f25_l2 k j l v (l.length : Int) (i : Int) = some (match fstI v (l.drop i) with | some n => ((i + n : Nat) : Int) | none => -1)
  | 0, i, _, h => by omega
  | j + 1, i, hi, h => by
    rw [f25_el2, f25_tl2]
    by_cases hlt : i < l.length
    · have e1 : decide ((i : Int) < (l.length : Int)) = true := by simp; omega
      rw [e1, inB_nat hlt, rdI_nat, cond_true, cond_true]
      have e2 : l.drop i = l.getD i 0 :: l.drop (i + 1) := by
        rw [List.drop_eq_getElem_cons hlt]
        simp [List.getD_eq_getElem?_getD, List.getElem?_eq_getElem hlt]
      rw [e2, fstI]
      by_cases hv : v = l.getD i 0
      · rw [if_pos hv, show (v == l.getD i 0) = true by simpa using hv, cond_true]
        rfl
      · rw [if_neg hv, show (v == l.getD i 0) = false by simpa using hv, cond_false]
        rw [w64 (by omega) (by omega), show ((i : Int) + 1) = ((i + 1 : Nat) : Int) by simp, index_loop k l v hl j (i + 1) (by omega) (by omega)]
        cases fstI v (l.drop (i + 1)) with
        | none => rfl
        | some n => simp only [Option.map_some]; congr 2; omega
    · have hi2 : i = l.length := by omega
      have e1 : decide ((i : Int) < (l.length : Int)) = false := by simp; omega
      rw [e1, cond_false]
      subst hi2
      simp [fstI]
theorem index_some (k : Nat) (l : List Int) (v : Int) (hk : l.length < k) (hl : l.length < 9223372036854775807) : c25 k (l, v) = some (match fstI v l with | some n => (n : Int) | none => -1) := by
  unfold c25
  rw [f25_e, f25_t]
  have := index_loop k l v hl k 0 (by omega) (by omega)
  simpa using this

end Go.Proofs.YtjbijifjlmmnpaaDoorV
