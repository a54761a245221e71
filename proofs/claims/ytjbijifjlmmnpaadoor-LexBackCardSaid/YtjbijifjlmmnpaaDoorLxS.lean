import Derived.Test.YtjbijifjlmmnpaaDoorV27
/-! Lexing, as plain Lean: what the tokens of bytes are. -/
set_option linter.unusedVariables false
set_option linter.unusedSimpArgs false
namespace Go.Proofs.YtjbijifjlmmnpaaDoorV
open Go Go.RowKit

abbrev Tk := (Int) × ((List Int) × ((Int) × ((Int) × (Unit))))
def isSmall (x : Int) : Bool := decide (97 ≤ x) && decide (x ≤ 122)
def isDig (x : Int) : Bool := decide (48 ≤ x) && decide (x ≤ 57)
def isBlank (x : Int) : Bool := decide (x = 32 ∨ x = 9 ∨ x = 10 ∨ x = 13)
def isSign (x : Int) : Bool := decide (x = 123 ∨ x = 125 ∨ x = 44 ∨ x = 59 ∨ x = 58 ∨ x = 47 ∨ x = 45)
def isWord (x : Int) : Bool := isSmall x || (isDig x || decide (x = 95))
/-- What follows blanks and remarks (true: in a remark). -/
def drp : Bool → List Int → List Int
  | _, [] => []
  | true, x :: r => if x = 10 then drp false r else drp true r
  | false, x :: r => if x = 35 then drp true r else if isBlank x then drp false r else x :: r
def valD (l : List Int) : Int := l.foldl (fun v c => 10 * v + (c - 48)) 0
/-- One token: an error, or its kind, its text, its number, and what follows. -/
def tok1 : List Int → Int × Int × List Int × Int × List Int
  | [] => (40, 0, [], 0, [])
  | x :: r =>
    if isSmall x then (if 24 < ((x :: r).takeWhile isWord).length then (4, 0, [], 0, []) else (0, 1, (x :: r).takeWhile isWord, 0, (x :: r).dropWhile isWord))
    else if isDig x then (if 18 < ((x :: r).takeWhile isDig).length then (4, 0, [], 0, []) else (0, 2, (x :: r).takeWhile isDig, valD ((x :: r).takeWhile isDig), (x :: r).dropWhile isDig))
    else if isSign x then (0, 3, [x], 0, r)
    else (40, 0, [], 0, [])
/-- The tokens of what is left of n bytes: error, place, tokens. -/
def lx (n : Nat) : Nat → List Int → Int × Int × List Tk
  | 0, _ => (0, 0, [])
  | f + 1, s => match drp false s with
    | [] => (0, 0, [(0, [], 0, (n : Int), ())])
    | x :: r => if (tok1 (x :: r)).1 = 0 then
        (if (lx n f (tok1 (x :: r)).2.2.2.2).1 = 0 then
          (0, 0, ((tok1 (x :: r)).2.1, (tok1 (x :: r)).2.2.1, (tok1 (x :: r)).2.2.2.1, ((n - (x :: r).length : Nat) : Int), ()) :: (lx n f (tok1 (x :: r)).2.2.2.2).2.2)
        else ((lx n f (tok1 (x :: r)).2.2.2.2).1, (lx n f (tok1 (x :: r)).2.2.2.2).2.1, []))
      else ((tok1 (x :: r)).1, ((n - (x :: r).length : Nat) : Int), [])
/-- The tokens of bytes. -/
def toks (b : List Int) : Int × Int × List Tk := if 65536 < b.length then (4, 65536, []) else lx b.length (b.length + 1) b

theorem drp_suf : ∀ (m : Bool) (s : List Int), drp m s <:+ s
  | _, [] => by cases ‹Bool› <;> simp [drp]
  | true, x :: r => by
    rw [drp]; split
    · exact (drp_suf false r).trans (List.suffix_cons x r)
    · exact (drp_suf true r).trans (List.suffix_cons x r)
  | false, x :: r => by
    rw [drp]; split
    · exact (drp_suf true r).trans (List.suffix_cons x r)
    · split
      · exact (drp_suf false r).trans (List.suffix_cons x r)
      · exact List.suffix_refl _
theorem drp_len (m : Bool) (s : List Int) : (drp m s).length ≤ s.length := (drp_suf m s).length_le
theorem drp_head : ∀ (m : Bool) (s : List Int) {x : Int} {r : List Int}, drp m s = x :: r → x ≠ 35 ∧ isBlank x = false
  | _, [], x, r, h => by cases ‹Bool› <;> simp [drp] at h
  | true, y :: q, x, r, h => by
    rw [drp] at h; split at h
    · exact drp_head false q h
    · exact drp_head true q h
  | false, y :: q, x, r, h => by
    rw [drp] at h; split at h
    · exact drp_head true q h
    · split at h
      · exact drp_head false q h
      · rename_i h1 h2
        cases h
        exact ⟨h1, by simpa using h2⟩
theorem drp_drp (s : List Int) (m : Bool) : drp false (drp m s) = drp m s := by
  cases h : drp m s with
  | nil => rfl
  | cons x r =>
    obtain ⟨h1, h2⟩ := drp_head m s h
    rw [drp, if_neg h1, h2]
    rfl

theorem takeWhile_append_stop {p : Int → Bool} {c : Int} (h : p c = false) : ∀ (l b : List Int), (l ++ c :: b).takeWhile p = l.takeWhile p
  | [], b => by simp [h]
  | x :: l, b => by
    rw [List.cons_append, List.takeWhile_cons, List.takeWhile_cons, takeWhile_append_stop h l b]
theorem dropWhile_append_stop {p : Int → Bool} {c : Int} (h : p c = false) : ∀ (l b : List Int), (l ++ c :: b).dropWhile p = l.dropWhile p ++ c :: b
  | [], b => by simp [h]
  | x :: l, b => by
    rw [List.cons_append, List.dropWhile_cons, List.dropWhile_cons]
    split
    · exact dropWhile_append_stop h l b
    · rfl
theorem word_dig {c : Int} (h : isWord c = false) : isDig c = false := by
  unfold isWord at h
  simp only [Bool.or_eq_false_iff] at h
  exact h.2.1
/-- A token, whatever follows behind something that is no part of it. -/
theorem tok1_app {c : Int} (hc : isWord c = false) {x : Int} {r b : List Int} (h : (tok1 (x :: r)).1 = 0) :
    tok1 (x :: r ++ c :: b) = (0, (tok1 (x :: r)).2.1, (tok1 (x :: r)).2.2.1, (tok1 (x :: r)).2.2.2.1, (tok1 (x :: r)).2.2.2.2 ++ c :: b) := by
  have e1 := takeWhile_append_stop hc (x :: r) b
  have e2 := dropWhile_append_stop hc (x :: r) b
  have e3 := takeWhile_append_stop (word_dig hc) (x :: r) b
  have e4 := dropWhile_append_stop (word_dig hc) (x :: r) b
  rw [List.cons_append] at e1 e2 e3 e4 ⊢
  simp only [tok1] at h ⊢
  rw [e1, e2, e3, e4]
  split at h
  · rename_i h1
    simp only [h1, if_true]
    split at h
    · simp at h
    · rename_i h2; simp only [if_neg h2]
  · rename_i h1
    simp only [h1, Bool.false_eq_true, if_false]
    split at h
    · rename_i h2
      simp only [h2, if_true]
      split at h
      · simp at h
      · rename_i h3; simp only [if_neg h3]
    · rename_i h2
      simp only [h2, Bool.false_eq_true, if_false]
      split at h
      · rename_i h3; simp [h3]
      · simp at h
theorem tok1_err {c : Int} (hc : isWord c = false) {x : Int} {r b : List Int} (h : (tok1 (x :: r)).1 ≠ 0) : tok1 (x :: r ++ c :: b) = tok1 (x :: r) := by
  have e1 := takeWhile_append_stop hc (x :: r) b
  have e3 := takeWhile_append_stop (word_dig hc) (x :: r) b
  rw [List.cons_append] at e1 e3 ⊢
  simp only [tok1] at h ⊢
  rw [e1, e3]
  split at h
  · rename_i h1
    simp only [h1, if_true]
    split at h
    · rename_i h2; simp only [if_pos h2]
    · simp at h
  · rename_i h1
    simp only [h1, Bool.false_eq_true, if_false]
    split at h
    · rename_i h2
      simp only [h2, if_true]
      split at h
      · rename_i h3; simp only [if_pos h3]
      · simp at h
    · rename_i h2
      simp only [h2, Bool.false_eq_true, if_false]
      split at h
      · simp at h
      · rename_i h3; simp [h3]
/-- What a token is. -/
theorem tok1_spec {x : Int} {r : List Int} (h : (tok1 (x :: r)).1 = 0) :
    (tok1 (x :: r)).2.2.1 ++ (tok1 (x :: r)).2.2.2.2 = x :: r ∧ (tok1 (x :: r)).2.2.1 ≠ [] ∧ (tok1 (x :: r)).2.1 ≠ 0 ∧ (tok1 (x :: r)).2.2.1.length ≤ 24 := by
  simp only [tok1] at h ⊢
  split at h
  · rename_i h1
    simp only [h1, if_true]
    split at h
    · simp at h
    · rename_i h2
      rw [if_neg h2]
      refine ⟨List.takeWhile_append_dropWhile, ?_, by simp, by simp only []; omega⟩
      have : isWord x = true := by simp [isWord, h1]
      simp [List.takeWhile_cons, this]
  · rename_i h1
    simp only [h1, Bool.false_eq_true, if_false]
    split at h
    · rename_i h2
      simp only [h2, if_true]
      split at h
      · simp at h
      · rename_i h3
        rw [if_neg h3]
        refine ⟨List.takeWhile_append_dropWhile, ?_, by simp, by simp only []; omega⟩
        simp [List.takeWhile_cons, h2]
    · rename_i h2
      simp only [h2, Bool.false_eq_true, if_false]
      split at h
      · rename_i h3; simp [h3]
      · simp at h
theorem tok1_rest {x : Int} {r : List Int} (h : (tok1 (x :: r)).1 = 0) : (tok1 (x :: r)).2.2.2.2.length ≤ r.length := by
  obtain ⟨h1, h2, _⟩ := tok1_spec h
  have e := congrArg List.length h1
  rw [List.length_append, List.length_cons] at e
  have : (tok1 (x :: r)).2.2.1.length ≠ 0 := fun h => h2 (List.length_eq_zero_iff.1 h)
  omega

theorem lx_fuel (n : Nat) : ∀ (f f' : Nat) (s : List Int), s.length < f → s.length < f' → lx n f s = lx n f' s
  | 0, _, _, h, _ => by omega
  | _ + 1, 0, _, _, h => by omega
  | f + 1, f' + 1, s, h, h' => by
    have hl := drp_len false s
    rw [lx, lx]
    cases hd : drp false s with
    | nil => rfl
    | cons x r =>
      rw [hd, List.length_cons] at hl
      simp only []
      by_cases h0 : (tok1 (x :: r)).1 = 0
      · have := tok1_rest h0
        rw [if_pos h0, if_pos h0, lx_fuel n f f' _ (by omega) (by omega)]
      · rw [if_neg h0, if_neg h0]
theorem lx_err (n : Nat) : ∀ (f : Nat) (s : List Int), (lx n f s).1 = 0 → (lx n f s).2.1 = 0
  | 0, s, _ => rfl
  | f + 1, s, h => by
    rw [lx] at h ⊢
    cases hd : drp false s with
    | nil => rfl
    | cons x r =>
      rw [hd] at h
      simp only [] at h ⊢
      split at h
      · rename_i h0
        rw [if_pos h0]
        split at h
        · rename_i h1; rw [if_pos h1]
        · rename_i h1; exact absurd h h1
      · rename_i h0; exact absurd h h0
end Go.Proofs.YtjbijifjlmmnpaaDoorV
