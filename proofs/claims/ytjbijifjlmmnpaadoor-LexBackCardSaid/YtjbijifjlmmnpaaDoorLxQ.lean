import Derived.Test.YtjbijifjlmmnpaaDoorLxR
/-! Lexing: which tokens are right, which words are reserved. -/
set_option linter.unusedVariables false
set_option linter.unusedSimpArgs false
namespace Go.Proofs.YtjbijifjlmmnpaaDoorV
open Go Go.RowKit

/-- A token that its text spells. -/
def rightB (kd : Int) (tx : List Int) (v : Int) : Bool := decide (tx ≠ [] ∧ drp false tx = tx ∧ tok1 tx = (0, kd, tx, v, []))
abbrev tkD : Tk := ((0 : Int), ([], ((0 : Int), ((0 : Int), ()))))
theorem toks_right (kd : Int) (tx : List Int) (v : Int) :
    ((toks tx).1 = 0 ∧ (toks tx).2.2.length = 2 ∧ ((toks tx).2.2.getD 0 tkD).1 = kd ∧ ((toks tx).2.2.getD 0 tkD).2.1 = tx ∧ ((toks tx).2.2.getD 0 tkD).2.2.1 = v) ↔ rightB kd tx v = true := by
  unfold rightB
  rw [decide_eq_true_eq]
  unfold toks
  by_cases hl : 65536 < tx.length
  · rw [if_pos hl]
    constructor
    · intro h; simp at h
    · rintro ⟨h1, h2, h3⟩
      cases tx with
      | nil => exact absurd rfl h1
      | cons x r =>
        have := tok1_spec (x := x) (r := r) (by rw [h3])
        rw [h3] at this
        have := this.2.2.2
        simp only [] at this
        omega
  · rw [if_neg hl, lx]
    cases hd : drp false tx with
    | nil =>
      simp only []
      constructor
      · intro h; simp at h
      · rintro ⟨h1, h2, h3⟩; exact absurd h2.symm h1
    | cons x r =>
      simp only []
      by_cases h0 : (tok1 (x :: r)).1 = 0
      · obtain ⟨s1, s2, s3, s4⟩ := tok1_spec h0
        have hlen := drp_len false tx
        rw [hd] at hlen
        have s5 := congrArg List.length s1
        rw [List.length_append] at s5
        have s6 := tok1_rest h0
        rw [if_pos h0]
        generalize hq : (tok1 (x :: r)).2.2.2.2 = q at *
        by_cases h1 : (lx tx.length tx.length q).1 = 0
        · rw [if_pos h1]
          simp only [List.length_cons, List.getD_cons_zero]
          constructor
          · rintro ⟨_, g1, g2, g3, g4⟩
            rw [g3] at s5
            have hq0 : q = [] := by
              apply List.length_eq_zero_iff.1
              omega
            have htx : tx = x :: r := by rw [← s1, g3, hq0, List.append_nil]
            refine ⟨by rw [htx]; simp, by rw [← htx], ?_⟩
            have : tok1 tx = tok1 (x :: r) := by rw [htx]
            rw [this]
            ext1; exact h0
            ext1; exact g2
            ext1; exact g3
            ext1; exact g4
            show (tok1 (x :: r)).2.2.2.2 = []
            rw [hq, hq0]
          · rintro ⟨g1, g2, g3⟩
            rw [← g2] at g3
            have hq0 : q = [] := by rw [← hq, g3]
            rw [g3]
            refine ⟨trivial, ?_, rfl, g2.symm ▸ rfl, rfl⟩
            have hpos : ∃ m, tx.length = m + 1 := ⟨tx.length - 1, by rw [List.length_cons] at hlen; omega⟩
            obtain ⟨m, hm⟩ := hpos
            rw [hq0, hm, lx]
            rfl
        · rw [if_neg h1]
          constructor
          · rintro ⟨g, _⟩; exact absurd g h1
          · rintro ⟨g1, g2, g3⟩
            rw [← g2] at g3
            have hq0 : q = [] := by rw [← hq, g3]
            have hpos : ∃ m, tx.length = m + 1 := ⟨tx.length - 1, by rw [List.length_cons] at hlen; omega⟩
            obtain ⟨m, hm⟩ := hpos
            rw [hq0, hm, lx] at h1
            exact absurd rfl h1
      · rw [if_neg h0]
        constructor
        · rintro ⟨g, _⟩; exact absurd g h0
        · rintro ⟨g1, g2, g3⟩
          rw [← g2] at g3
          rw [g3] at h0
          exact absurd rfl h0
theorem toks_pos {kd : Int} {tx : List Int} {v : Int} (h : rightB kd tx v = true) : ((toks tx).2.2.getD 0 tkD).2.2.2.1 = 0 := by
  unfold rightB at h
  rw [decide_eq_true_eq] at h
  obtain ⟨h1, h2, h3⟩ := h
  unfold toks
  cases tx with
  | nil => exact absurd rfl h1
  | cons x r =>
    have := tok1_spec (x := x) (r := r) (by rw [h3])
    rw [h3] at this
    have h24 := this.2.2.2
    simp only [] at h24
    rw [if_neg (by omega), lx, h2]
    simp only [h3, if_true]
    have h0 : (lx (x :: r).length (x :: r).length []).1 = 0 := by
      rw [List.length_cons, lx]; rfl
    rw [if_pos h0]
    simp
theorem eqI_d (a b : Int) : eqI a b = decide (a = b) := by
  unfold eqI; rw [Bool.eq_iff_iff]; simp
theorem eqS_d (a b : List Int) : eqS a b = decide (a = b) := by
  unfold eqS; rw [Bool.eq_iff_iff]; simp
theorem right_some (k : Nat) (kd : Int) (tx : List Int) (v p : Int) (hk : tx.length < k) (hm : tx.length < 1000000) : c11 k (kd, tx, v, p) = some (rightB kd tx v) := by
  unfold c11
  rw [f11_e, f11_t, tokens_some k tx hk hm, Option.bind_some, cbeq, cbeq, cinB]
  have T := toks_right kd tx v
  have Tp := @toks_pos kd tx v
  have hz : (Int.toNat 0) = 0 := rfl
  unfold rdA at *
  rw [hz]
  generalize toks tx = tt at *
  by_cases h0 : tt.1 = 0
  · rw [if_pos h0]
    by_cases h2 : tt.2.2.length = 2
    · rw [if_pos (by omega), if_pos (by omega), eqI_d, eqI_d, eqS_d, eqI_d]
      refine congrArg some ?_
      rw [Bool.eq_iff_iff]
      simp only [Bool.and_eq_true, decide_eq_true_eq, and_true]
      constructor
      · rintro ⟨a1, a2, a3, a4⟩
        exact T.1 ⟨h0, h2, a1, a2, a3⟩
      · intro h
        have := T.2 h
        exact ⟨this.2.2.1, this.2.2.2.1, this.2.2.2.2, Tp h⟩
    · rw [if_neg (by omega)]
      refine congrArg some ?_
      rw [eq_comm, Bool.eq_false_iff]
      exact fun h => h2 (T.2 h).2.1
  · rw [if_neg h0]
    refine congrArg some ?_
    rw [eq_comm, Bool.eq_false_iff]
    exact fun h => h0 (T.2 h).1
theorem rright_some (k : Nat) (kd : Int) (tx : List Int) (v p : Int) (hk : tx.length < k) (hm : tx.length < 1000000) : c12 k (kd, tx, v, p) = some (rightB kd tx v) := by
  unfold c12
  rw [f12_e, f12_t, rtokens_some k tx hk hm, Option.bind_some]
  simp only [cbeq, cinB]
  have T := toks_right kd tx v
  have hz : (Int.toNat 0) = 0 := rfl
  unfold rdA at *
  rw [hz]
  generalize toks tx = tt at *
  by_cases h0 : tt.1 = 0
  · rw [if_pos h0]
    by_cases h2 : tt.2.2.length = 2
    · simp only [if_pos (show ((tt.2.2.length : Nat) : Int) = 2 by omega), if_pos (show (0 : Int) ≤ 0 ∧ (0 : Int) < ((tt.2.2.length : Nat) : Int) by omega)]
      refine iteS (fun a1 => iteS (fun a2 => ?_) (fun a2 => ?_)) (fun a1 => ?_)
      · refine congrArg some ?_
        rw [Bool.eq_iff_iff]
        constructor
        · intro a3
          exact T.1 ⟨h0, h2, a1, by simpa using a3, a2⟩
        · intro h
          simpa using (T.2 h).2.2.2.1
      · refine congrArg some ?_
        rw [eq_comm, Bool.eq_false_iff]
        exact fun h => a2 (T.2 h).2.2.2.2
      · refine congrArg some ?_
        rw [eq_comm, Bool.eq_false_iff]
        exact fun h => a1 (T.2 h).2.2.1
    · rw [if_neg (by omega)]
      refine congrArg some ?_
      rw [eq_comm, Bool.eq_false_iff]
      exact fun h => h2 (T.2 h).2.1
  · rw [if_neg h0]
    refine congrArg some ?_
    rw [eq_comm, Bool.eq_false_iff]
    exact fun h => h0 (T.2 h).1

/-- The reserved words. -/
def resW : List (List Int) := [[99, 121, 99, 108, 101],
  [116, 111],
  [98, 121],
  [112, 101, 97, 107],
  [110, 111, 100, 101],
  [104, 101, 97, 100],
  [118, 111, 108, 117, 109, 101],
  [102, 108, 111, 119],
  [117, 115, 101],
  [115, 112, 101, 101, 100],
  [103, 114, 97, 100, 101],
  [119, 105, 100, 116, 104],
  [108, 101, 110, 103, 116, 104],
  [103, 114, 101, 101, 110],
  [119, 97, 108, 107],
  [119, 105, 116, 104],
  [108, 111, 110, 103],
  [112, 97, 99, 101],
  [108, 101, 97, 115, 116],
  [112, 104, 97, 115, 101],
  [103, 114, 111, 117, 112],
  [114, 105, 110, 103],
  [102, 114, 101, 101],
  [102, 111, 101],
  [97, 114, 116, 101, 114, 121],
  [115, 116, 111, 112],
  [111, 117, 116],
  [105, 110],
  [97, 104, 101, 97, 100],
  [98, 97, 99, 107],
  [119, 101, 105, 103, 104, 116, 115],
  [112, 108, 97, 110],
  [111, 102, 102, 115, 101, 116],
  [115, 117, 109],
  [115, 112, 108, 105, 116],
  [121, 101, 108, 108, 111, 119],
  [114, 101, 100],
  [102, 108, 97, 115, 104],
  [98, 101, 115, 116],
  [121, 101, 115],
  [110, 111],
  [115, 112, 101, 110, 116]]
def resB (s : List Int) : Bool := resW.contains s
theorem in_loop (k : Nat) (s : List Int) (l : List (List Int)) (hl : l.length < 1000000) : ∀ (r pre : List (List Int)) (j : Nat), l = pre ++ r → r.length < j → f21_l2 k j s l (pre.length : Int) = some (r.contains s)
  | _, _, 0, _, h => by omega
  | [], pre, j + 1, hp, h => by
    have : l.length = pre.length := by rw [hp]; simp
    rw [f21_el2, f21_tl2, cd, if_neg (by omega)]
    rfl
  | x :: r, pre, j + 1, hp, h => by
    have hlen : l.length = pre.length + (r.length + 1) := by rw [hp]; simp
    have IH := in_loop k s l hl r (pre ++ [x]) j (by rw [hp]; simp) (by simp at h; omega)
    rw [f21_el2, f21_tl2, cd, if_pos (by omega), cinB, if_pos (by omega), rdA_nat, cbeq, w64 (by omega), suc_nat]
    rw [List.length_append, List.length_singleton] at IH
    rw [IH, hp, getD_mid]
    rw [List.contains_cons]
    by_cases hx : x = s
    · rw [if_pos hx, hx]; simp
    · rw [if_neg hx]
      have : (s == x) = false := by simpa using fun e : s = x => hx e.symm
      rw [this, Bool.false_or]
theorem rreserved_some (k : Nat) (s : List Int) (hk : 100 < k) : c14 k s = some (resB s) := by
  have hw : ∀ k, c22 k () = some resW := by
    intro k
    unfold c22
    rw [f22_e, f22_t]
    rfl
  have hlen : resW.length = 42 := rfl
  unfold c14
  rw [f14_e, f14_t, hw, Option.bind_some]
  unfold c21
  rw [f21_e, f21_t]
  have := in_loop k s resW (by omega) resW [] k rfl (by omega)
  rw [List.length_nil] at this
  rw [show (0 : Int) = ((0 : Nat) : Int) from rfl, this]
  rfl
set_option maxRecDepth 20000 in
theorem reserved_some (k : Nat) (s : List Int) : c13 k s = some (resB s) := by
  unfold resB resW
  unfold c13
  rw [f13_e, f13_t, f13_ej16, f13_tj16, f13_ej26, f13_tj26, f13_ej33, f13_tj33]
  have step : ∀ (a : List Int) (x : Option Bool) (l : List (List Int)), x = some (l.contains s) → (bif s == a then some true else x) = some ((a :: l).contains s) := by
    intro a x l h
    rw [List.contains_cons]
    cases s == a with
    | true => simp
    | false => simp [h]
  repeat (refine step _ _ _ ?_)
  rfl
end Go.Proofs.YtjbijifjlmmnpaaDoorV
