import Derived.Test.YtghmhkpgdmgepaaD4
import Derived.Test.YtghmhkpgdmgepaaVL
/-! Device: what the bytes of a plan are, as plain Lean; the writer's functions. -/
set_option linter.unusedVariables false
set_option linter.unusedSimpArgs false
namespace Go.Proofs.YtghmhkpgdmgepaaV
open Go Go.RowKit

def I64 (x : Int) : Prop := -9223372036854775808 ≤ x ∧ x ≤ 9223372036854775807
def vi (n : Nat) : List Int := if h : n < 128 then [(n : Int)] else ((128 + n % 128 : Nat) : Int) :: vi (n / 128)
termination_by n
decreasing_by omega
theorem vi_small {n : Nat} (h : n < 128) : vi n = [(n : Int)] := by rw [vi]; simp [h]
theorem vi_big {n : Nat} (h : ¬ n < 128) : vi n = ((128 + n % 128 : Nat) : Int) :: vi (n / 128) := by rw [vi]; simp [h]
theorem vi_len : ∀ (m n : Nat), n < 128 ^ (m + 1) → (vi n).length ≤ m + 1
  | 0, n, h => by rw [vi_small (by simpa using h)]; simp
  | m + 1, n, h => by
    by_cases hn : n < 128
    · rw [vi_small hn]; simp
    · rw [vi_big hn]
      have := vi_len m (n / 128) (by rw [Nat.pow_succ] at h; exact Nat.div_lt_of_lt_mul (by rw [Nat.mul_comm]; exact h))
      simp; omega
theorem p128 : (128:Nat) ^ (8 + 1) = 9223372036854775808 := by decide
theorem vi_len9 {n : Nat} (h : n < 9223372036854775808) : (vi n).length ≤ 9 := vi_len 8 n (by rw [p128]; exact h)
def numE : List Int → Option (List Int)
  | [] => some []
  | x :: r => if x < 0 then none else (numE r).map fun c => vi x.toNat ++ c
theorem numE_len : ∀ {l : List Int} {c : List Int}, (∀ x ∈ l, I64 x) → numE l = some c → c.length ≤ 9 * l.length
  | [], c, _, h => by cases h; simp
  | x :: r, c, hx, h => by
    unfold numE at h
    split at h
    · cases h
    · obtain ⟨c0, h0, rfl⟩ := Option.map_eq_some_iff.1 h
      have h1 := numE_len (fun y hy => hx y (by simp [hy])) h0
      obtain ⟨h2, h3⟩ := hx x (by simp)
      have := vi_len9 (n := x.toNat) (by omega)
      simp only [List.length_append, List.length_cons]; omega

/-- What a writer comes to. -/
def wr (b : List Int) : Option (List Int) → Option (List Int ⊕ Unit)
  | some c => some (.inl (b ++ c))
  | none => some (.inr ())
def app2 (x y : Option (List Int)) : Option (List Int) := x.bind fun c => y.map fun d => c ++ d
def seqE {X : Type} (e : X → Option (List Int)) : List X → Option (List Int)
  | [] => some []
  | x :: r => app2 (e x) (seqE e r)
def putE {X : Type} (lim : Nat) (e : X → Option (List Int)) (l : List X) : Option (List Int) := if lim < l.length then none else app2 (numE [(l.length : Int)]) (seqE e l)
def nameE (s : List Int) : Option (List Int) := if 24 < s.length then none else some (vi s.length ++ s)
def walkE (x : YT0) : Option (List Int) := app2 (nameE x.1) (numE [x.2.1, x.2.2.1])
def slotE (x : YT1) : Option (List Int) := app2 (nameE x.1) (app2 (numE [x.2.1, x.2.2.1, x.2.2.2.1]) (putE 8 walkE x.2.2.2.2.1))
def ringE (l : List YT1) : Option (List Int) := putE 4 slotE l
def spanE (x : (List (List YT1)) × Unit) : Option (List Int) := putE 2 ringE x.1
def timingE (x : YT3) : Option (List Int) := app2 (nameE x.1) (app2 (numE [x.2.1, x.2.2.2.1.1, x.2.2.2.1.2.1]) (putE 4 spanE x.2.2.1))

theorem app2_len {x y : Option (List Int)} {c : List Int} {m n : Nat} (h : app2 x y = some c) (hx : ∀ c, x = some c → c.length ≤ m) (hy : ∀ c, y = some c → c.length ≤ n) : c.length ≤ m + n := by
  obtain ⟨a, h1, h2⟩ := Option.bind_eq_some_iff.1 h
  obtain ⟨b, h3, rfl⟩ := Option.map_eq_some_iff.1 h2
  have := hx a h1
  have := hy b h3
  simp only [List.length_append]; omega
theorem seqE_len {X : Type} {e : X → Option (List Int)} {B : Nat} : ∀ {l : List X} {c : List Int}, (∀ x ∈ l, ∀ c, e x = some c → c.length ≤ B) → seqE e l = some c → c.length ≤ l.length * B
  | [], c, _, h => by cases h; simp
  | x :: r, c, hB, h => by
    have := app2_len h (hB x (by simp)) (fun c hc => seqE_len (fun y hy => hB y (by simp [hy])) hc)
    simp only [List.length_cons, Nat.succ_mul]; omega
theorem putE_len {X : Type} {e : X → Option (List Int)} {lim B : Nat} {l : List X} {c : List Int} (hl : lim ≤ 12) (hB : ∀ x ∈ l, ∀ c, e x = some c → c.length ≤ B) (h : putE lim e l = some c) : c.length ≤ 1 + lim * B := by
  unfold putE at h
  split at h
  · cases h
  · rename_i hn
    have := app2_len (m := 1) (n := l.length * B) h (fun c hc => by
      simp only [numE] at hc
      split at hc
      · cases hc
      · cases hc
        rw [vi_small (by omega)]
        simp) (fun c hc => seqE_len hB hc)
    have h2 : l.length * B ≤ lim * B := Nat.mul_le_mul_right _ (by omega)
    omega
theorem nameE_len {s c : List Int} (h : nameE s = some c) : c.length ≤ 25 := by
  unfold nameE at h
  split at h
  · cases h
  · cases h
    rw [vi_small (by omega)]
    simp; omega

set_option maxRecDepth 20000 in
theorem byte_or (x : Nat) : IntKind.wrap .u8 ((BitVec.ofInt (IntKind.bits .u8) (IntKind.wrap .u8 (x : Int)) ||| BitVec.ofInt (IntKind.bits .u8) (128 : Int)).toNat : Int) = ((128 + x % 128 : Nat) : Int) := by
  have h1 : IntKind.wrap .u8 (x : Int) = ((x % 256 : Nat) : Int) := by
    show (x : Int) % 256 = _
    omega
  have h2 : ∀ y : Fin 256, (BitVec.ofInt 8 ((y.val : Nat) : Int) ||| BitVec.ofInt 8 (128 : Int)).toNat = 128 + y.val % 128 := by decide
  have h3 := h2 ⟨x % 256, Nat.mod_lt _ (by decide)⟩
  rw [h1]
  have h4 : (BitVec.ofInt (IntKind.bits .u8) ((x % 256 : Nat) : Int) ||| BitVec.ofInt (IntKind.bits .u8) (128 : Int)).toNat = 128 + x % 256 % 128 := h3
  rw [h4, wu8 (by omega)]
  omega

theorem w_in (k j1 : Nat) (l : List Int) (n i : Int) : ∀ (m j x : Nat) (b : List Int), x < 128 ^ (m + 1) → x < 9223372036854775808 → m + 1 ≤ j → b.length + m + 1 ≤ 1000000 →
    f12_l6 k j1 j (x : Int) l n i b = f12_l1 k j1 l n (IntKind.wrap .i64 (i + 1)) (b ++ vi x) := by
  intro m
  induction m with
  | zero =>
    intro j x b hx hx2 hj hb
    obtain ⟨j, rfl⟩ : ∃ t, j = t + 1 := ⟨j - 1, by omega⟩
    have hx' : x < 128 := by simpa using hx
    rw [f12_el6, f12_tl6, cd, if_neg (by omega), cappB, if_pos (by simp; omega), vi_small hx', wu8 (by omega)]
  | succ m ih =>
    intro j x b hx hx2 hj hb
    obtain ⟨j, rfl⟩ : ∃ t, j = t + 1 := ⟨j - 1, by omega⟩
    rw [f12_el6, f12_tl6, cd]
    by_cases hn : x < 128
    · rw [if_neg (by omega), cappB, if_pos (by simp; omega), vi_small hn, wu8 (by omega)]
    · rw [if_pos (by omega), cappB, if_pos (by simp; omega), byte_or]
      have e : Int.fdiv (x : Int) (2 ^ (min (Int.toNat (7 : Int)) (IntKind.bits .u64))) = ((x / 128 : Nat) : Int) := by
        have : ((2 : Int) ^ (min (Int.toNat (7 : Int)) (IntKind.bits .u64))) = 128 := by decide
        rw [this, Int.fdiv_eq_ediv_of_nonneg _ (by decide)]
        omega
      rw [e, ih j (x / 128) _ (by rw [Nat.pow_succ] at hx; exact Nat.div_lt_of_lt_mul (by rw [Nat.mul_comm]; exact hx)) (by omega) (by omega) (by simp; omega), vi_big hn]
      simp
theorem num_w (k : Nat) (hk : 20 ≤ k) (l : List Int) (hl : ∀ x ∈ l, I64 x) (hn : l.length ≤ 10) (b : List Int) (hb : b.length + 9 * l.length ≤ 999000) : c12 k (l, b) = wr b (numE l) := by
  have key : ∀ (r p : List Int) (b : List Int) (j : Nat), l = p ++ r → r.length < j → b.length + 9 * r.length ≤ 999000 → f12_l1 k j l (l.length : Int) (p.length : Int) b = wr b (numE r) := by
    intro r
    induction r with
    | nil =>
      intro p b j e hj hb
      obtain ⟨j, rfl⟩ : ∃ t, j = t + 1 := ⟨j - 1, by simp at hj; omega⟩
      have : l.length = p.length := by rw [e]; simp
      rw [f12_el1, f12_tl1, cd, if_neg (by omega)]
      simp [wr, numE]
    | cons x r ih =>
      intro p b j e hj hb
      obtain ⟨j, rfl⟩ : ∃ t, j = t + 1 := ⟨j - 1, by simp at hj; omega⟩
      have hlen : l.length = p.length + r.length + 1 := by rw [e]; simp; omega
      obtain ⟨hx1, hx2⟩ := hl x (by rw [e]; simp)
      simp only [List.length_cons] at hj hb
      rw [f12_el1, f12_tl1, cd, if_pos (by omega), cinB, if_pos (by omega), rdI_nat, e, getD_mid, cd]
      by_cases h0 : x < 0
      · rw [if_pos h0]
        simp [numE, h0, wr]
      · rw [if_neg h0, ← e, f12_ej5, f12_tj5]
        have hw : IntKind.wrap .u64 x = ((x.toNat : Nat) : Int) := by
          show x % 18446744073709551616 = _
          omega
        have h9 : x.toNat < 9223372036854775808 := by omega
        rw [hw, w_in k j l _ _ 8 k x.toNat b (by rw [p128]; exact h9) h9 (by omega) (by omega), suc_nat, w64 (by omega)]
        have hv := vi_len9 h9
        have := ih (p ++ [x]) (b ++ vi x.toNat) j (by rw [e]; simp) (by omega) (by simp only [List.length_append]; omega)
        rw [show ((p ++ [x]).length : Int) = ((p.length + 1 : Nat) : Int) by simp] at this
        rw [this]
        simp only [numE, h0, if_false]
        cases numE r <;> simp [wr]
  unfold c12
  rw [f12_e, f12_t]
  exact key l [] b k rfl (by omega) hb
end Go.Proofs.YtghmhkpgdmgepaaV
