import Derived.Test.YtnhnckhkfdoadaaWWords
/-! Plain lemmas on numbers, lists and loops with a number of rounds. -/
set_option linter.unusedVariables false
set_option linter.unusedSimpArgs false
namespace Go.Proofs.Ytnhnckhkfdoadaa.Lib
open Go.RowKit Go.Proofs.YtnhnckhkfdoadaaW.PrintWords

theorem w64 {x : Int} (h1 : -9223372036854775808 ≤ x) (h2 : x ≤ 9223372036854775807) : wrap64 x = x := by unfold wrap64; omega
theorem wi {i : Nat} {n : Nat} (h : i < n) (hn : n ≤ 9223372036854775807) : wrap64 ((i : Int) + 1) = ((i + 1 : Nat) : Int) := by unfold wrap64; omega
theorem wi' {i : Nat} {n : Nat} (h : i < n) (hn : n ≤ 9223372036854775807) : wrap64 ((i : Int) + 1) = (i : Int) + 1 := by unfold wrap64; omega
theorem wf64 {x : Int} (h : (Lit.int .i64 x).wf = true) : -9223372036854775808 ≤ x ∧ x ≤ 9223372036854775807 := by
  simp [Lit.wf, IntKind.min, IntKind.max, IntKind.signed, IntKind.bits] at h; omega
theorem rd_nat (l : List Int) (i : Nat) (h : i < l.length) : rd l (i : Int) = l[i] := by simp [rd, h]
theorem rdOf_nat {α : Type} (d : α) (l : List α) (i : Nat) (h : i < l.length) : rdOf d l (i : Int) = l[i] := by simp [rdOf, h]
theorem drop_cons {α : Type} (l : List α) (i : Nat) (h : i < l.length) : l.drop i = l[i] :: l.drop (i + 1) := List.drop_eq_getElem_cons h
theorem drop_end {α : Type} (l : List α) (i : Nat) (h : l.length ≤ i) : l.drop i = [] := List.drop_of_length_le h

/-- The first place from i on, among d, at which q holds; or -1. -/
def idxN (q : Nat → Bool) : Nat → Nat → Int
  | 0, _ => -1
  | d + 1, i => if q i = true then (i : Int) else idxN q d (i + 1)
theorem idxN_spec (q : Nat → Bool) : ∀ d i, (idxN q d i = -1 ∧ ∀ j, i ≤ j → j < i + d → q j = false) ∨ (∃ j : Nat, idxN q d i = (j : Int) ∧ i ≤ j ∧ j < i + d ∧ q j = true ∧ ∀ m, i ≤ m → m < j → q m = false)
  | 0, i => .inl ⟨rfl, fun j h1 h2 => by omega⟩
  | d + 1, i => by
    by_cases h : q i = true
    · exact .inr ⟨i, by rw [idxN, if_pos h], by omega, by omega, h, fun m h1 h2 => by omega⟩
    · rcases idxN_spec q d (i + 1) with ⟨e, ha⟩ | ⟨j, e, h1, h2, h3, h4⟩
      · refine .inl ⟨by rw [idxN, if_neg h]; exact e, fun j h1 h2 => ?_⟩
        by_cases hj : j = i
        · subst hj; simpa using h
        · exact ha j (by omega) (by omega)
      · refine .inr ⟨j, by rw [idxN, if_neg h]; exact e, by omega, by omega, h3, fun m h5 h6 => ?_⟩
        by_cases hm : m = i
        · subst hm; simpa using h
        · exact h4 m (by omega) (by omega)
/-- A loop that looks for the first place. -/
theorem idx_loop (L : Nat → Int → Option Int) (n : Nat) (hn : n ≤ 9223372036854775807) (q : Nat → Bool)
    (hL : ∀ k (i : Nat), i < n → L (k + 1) (i : Int) = if q i = true then some (i : Int) else L k (wrap64 ((i : Int) + 1)))
    (hE : ∀ k, L (k + 1) (n : Int) = some (-1)) : ∀ d (i : Nat) k, i + d = n → d < k → L k (i : Int) = some (idxN q d i)
  | 0, i, k, h, hk => by
    obtain ⟨k, rfl⟩ : ∃ m, k = m + 1 := ⟨k - 1, by omega⟩
    obtain rfl : i = n := by omega
    rw [hE]; rfl
  | d + 1, i, k, h, hk => by
    obtain ⟨k, rfl⟩ : ∃ m, k = m + 1 := ⟨k - 1, by omega⟩
    rw [hL k i (by omega), idxN, wi (show i < n by omega) hn, idx_loop L n hn q hL hE d (i + 1) k (by omega) (by omega)]
    split <;> rfl
theorem idxN_any {α : Type} (l : List α) (p : α → Bool) (q : Nat → Bool) (hq : ∀ j (h : j < l.length), q j = p l[j]) : decide (idxN q l.length 0 ≥ 0) = l.any p := by
  rcases idxN_spec q l.length 0 with ⟨e, ha⟩ | ⟨j, e, h1, h2, h3, _⟩
  · rw [e]
    have : l.any p = false := by
      rw [List.any_eq_false]
      intro x hx
      obtain ⟨j, hj, rfl⟩ := List.mem_iff_getElem.1 hx
      have := ha j (by omega) (by omega)
      rw [hq j hj] at this; simp [this]
    rw [this]; rfl
  · rw [e]
    have : l.any p = true := List.any_eq_true.2 ⟨l[j], List.getElem_mem (by omega), by rw [← hq j (by omega)]; exact h3⟩
    rw [this]; simp
/-- slices.ContainsFunc: whatever its loop is spelled as. -/
theorem any_loop {α : Type} (L : Nat → Int → Option Int) (l : List α) (hn : l.length ≤ 9223372036854775807) (p : α → Bool)
    (hL : ∀ k (i : Nat) (h : i < l.length), L (k + 1) (i : Int) = if p l[i] = true then some (i : Int) else L k (wrap64 ((i : Int) + 1)))
    (hE : ∀ k, L (k + 1) (l.length : Int) = some (-1)) (k : Nat) (hk : l.length < k) : ∃ r, L k 0 = some r ∧ decide (r ≥ 0) = l.any p := by
  have h := idx_loop L l.length hn (fun i => if h : i < l.length then p l[i] else false) (fun k i hi => by rw [hL k i hi]; simp [hi]) hE l.length 0 k (by omega) hk
  exact ⟨_, h, idxN_any l p _ (fun j hj => by simp [hj])⟩
end Go.Proofs.Ytnhnckhkfdoadaa.Lib
