import Derived.Test.YtghmhkpgdmgepaaV27
/-! Words for plain laws: the conditions of printed equations as propositions. -/
set_option linter.unusedVariables false
set_option linter.unusedSimpArgs false
namespace Go.Proofs.YtghmhkpgdmgepaaV
open Go Go.RowKit

theorem w64 {n : Int} (h : -9223372036854775808 ≤ n ∧ n ≤ 9223372036854775807) : IntKind.wrap .i64 n = n := by
  rw [IntKind.wrap_i64]
  omega
theorem wu8 {n : Int} (h : 0 ≤ n ∧ n ≤ 255) : IntKind.wrap .u8 n = n := by
  have : IntKind.wrap .u8 n = n % 256 := rfl
  rw [this]
  omega
section
variable {α : Type} {x y : α} {z : Option α}
theorem cd {p : Prop} [Decidable p] : (bif decide p then x else y) = if p then x else y := by
  by_cases h : p <;> simp [h]
theorem cbeq {β : Type} [BEq β] [LawfulBEq β] [DecidableEq β] {a b : β} : (bif a == b then x else y) = if a = b then x else y := by
  by_cases h : a = b
  · simp [h]
  · have : (a == b) = false := by simpa using h
    rw [this, if_neg h]; rfl
theorem iteAnd {p q : Prop} [Decidable p] [Decidable q] : (if p then (if q then x else y) else y) = if p ∧ q then x else y := by
  by_cases h : p <;> by_cases h2 : q <;> simp [h, h2]
theorem cbne {β : Type} [BEq β] [LawfulBEq β] [DecidableEq β] {a b : β} : (bif a != b then x else y) = if a = b then y else x := by
  by_cases h : a = b
  · simp [h]
  · have : (a != b) = true := by simpa using h
    rw [this, if_neg h]; rfl
theorem cand {a b : Bool} : (bif a && b then x else y) = bif a then (bif b then x else y) else y := by cases a <;> rfl
theorem cor {a b : Bool} : (bif a || b then x else y) = bif a then x else (bif b then x else y) := by cases a <;> rfl
theorem cnot {a : Bool} : (bif !a then x else y) = bif a then y else x := by cases a <;> rfl
theorem cinB {i : Int} {n : Nat} : (bif inB i n then x else y) = if 0 ≤ i ∧ i < n then x else y := by
  unfold inB; rw [cand, cd, cd, iteAnd]
theorem ccutB {i j : Int} {n : Nat} : (bif cutB i j n then x else y) = if 0 ≤ i ∧ i ≤ j ∧ j ≤ n then x else y := by
  unfold cutB; rw [cand, cand, cd, cd, cd, iteAnd, iteAnd]; simp only [and_assoc]
theorem cappB {b m n : Nat} : (bif appB b m n then x else y) = if (m + n) * b ≤ 140737488355328 ∧ m + n ≤ 9223372036854775807 then x else y := by
  unfold appB; rw [cand, cd, cd, iteAnd]; rfl
end
theorem iteS {α : Type} {c : Prop} [Decidable c] {x y z : α} (h1 : c → x = z) (h2 : ¬c → y = z) : (if c then x else y) = z := by
  by_cases h : c
  · rw [if_pos h]; exact h1 h
  · rw [if_neg h]; exact h2 h
theorem iteR {α : Type} {c : Prop} [Decidable c] {x y z : α} (h1 : c → z = x) (h2 : ¬c → z = y) : z = (if c then x else y) := by
  by_cases h : c
  · rw [if_pos h]; exact h1 h
  · rw [if_neg h]; exact h2 h
theorem rdI_nat (l : List Int) (i : Nat) : rdI l (Int.toNat (i : Int)) = l.getD i 0 := by
  simp [rdI]
theorem rdA_nat {α : Type} (d : α) (l : List α) (i : Nat) : rdA d l (Int.toNat (i : Int)) = l.getD i d := by
  simp [rdA]
theorem cutL_nat {α : Type} (l : List α) (i j : Nat) : cutL l (i : Int) (j : Int) = (l.take j).drop i := by
  simp [cutL]
theorem suc_nat (i : Nat) : ((i : Int) + 1) = ((i + 1 : Nat) : Int) := by simp
theorem getD_mid {α : Type} (d : α) (p : List α) (x : α) (r : List α) : (p ++ x :: r).getD p.length d = x := by simp [List.getD_eq_getElem?_getD]
theorem drop_getD {l : List Int} {i : Nat} (h : i < l.length) : l.drop i = l.getD i 0 :: l.drop (i + 1) := by
  rw [List.drop_eq_getElem_cons h]
  simp [List.getD_eq_getElem?_getD, List.getElem?_eq_getElem h]
theorem ex_cond {α : Type} {c : Bool} {x y : Option α} (h1 : ∃ r, x = some r) (h2 : ∃ r, y = some r) : ∃ r, (bif c then x else y) = some r := by cases c <;> assumption
end Go.Proofs.YtghmhkpgdmgepaaV
