import Derived.Test.YtghmhkpgdmgepaaDevK
/-! Device: the reader; numbers, counts, names. (D parts of genroots 3 4.) -/
set_option linter.unusedVariables false
set_option linter.unusedSimpArgs false
namespace Go.Proofs.YtghmhkpgdmgepaaV
open Go Go.RowKit

def seg (b : List Int) (i j : Nat) : List Int := (b.take j).drop i
theorem seg_app {b : List Int} {i j k : Nat} (h1 : i ≤ j) (h2 : j ≤ k) (h3 : k ≤ b.length) : seg b i j ++ seg b j k = seg b i k := by
  unfold seg
  have e : b.take k = b.take j ++ (b.take k).drop j := by
    conv => lhs; rw [← List.take_append_drop j (b.take k)]
    rw [List.take_take, Nat.min_eq_left h2]
  conv => rhs; rw [e]
  rw [List.drop_append_of_le_length (by rw [List.length_take]; omega)]
theorem seg_self (b : List Int) (i : Nat) : seg b i i = [] := by
  unfold seg
  apply List.drop_eq_nil_of_le
  rw [List.length_take]; omega
theorem seg_one {b : List Int} {i : Nat} (h : i < b.length) : seg b i (i + 1) = [b.getD i 0] := by
  unfold seg
  rw [List.drop_take, show i + 1 - i = 1 by omega, drop_getD h]
  rfl
theorem seg_len {b : List Int} {i j : Nat} (h : j ≤ b.length) : (seg b i j).length = j - i := by
  unfold seg
  rw [List.length_drop, List.length_take]; omega

/-- A reader's answer: what S says, or an error's number and a place of the text. -/
def Good {α : Type} (r : Option (α ⊕ (Int × Int))) (n : Nat) (S : α → Prop) : Prop := (∃ o, r = some (.inl o) ∧ S o) ∨ (∃ c a, r = some (.inr (c, a)) ∧ c ≠ 0 ∧ 0 ≤ a ∧ a ≤ n)
theorem Good.bind {α β : Type} {r : Option (α ⊕ (Int × Int))} {n : Nat} {S : α → Prop} {f : α → Option (β ⊕ (Int × Int))} {T : β → Prop} (h : Good r n S) (hf : ∀ o, S o → Good (f o) n T) : Good (r.bind (orP f (fun o2 => some (.inr (o2.1, o2.2))))) n T := by
  rcases h with ⟨o, rfl, hS⟩ | ⟨c, a, rfl, h1, h2, h3⟩
  · exact hf o hS
  · exact .inr ⟨c, a, rfl, h1, h2, h3⟩
theorem Good.ok {α : Type} {n : Nat} {S : α → Prop} {o : α} (h : S o) : Good (some (.inl o)) n S := .inl ⟨o, rfl, h⟩
theorem Good.err {α : Type} {n : Nat} {S : α → Prop} {c a : Int} (h : c ≠ 0) (h1 : 0 ≤ a) (h2 : a ≤ n) : Good (α := α) (some (.inr (c, a))) n S := .inr ⟨c, a, rfl, h, h1, h2⟩

def Bytes (b : List Int) : Prop := (∀ x ∈ b, 0 ≤ x ∧ x ≤ 255) ∧ b.length ≤ 6000
theorem byte_at {b : List Int} (h : Bytes b) (i : Nat) (hi : i < b.length) : 0 ≤ b.getD i 0 ∧ b.getD i 0 ≤ 255 := by
  have : b.getD i 0 ∈ b := by
    rw [List.getD_eq_getElem?_getD, List.getElem?_eq_getElem hi]
    exact List.getElem_mem hi
  exact h.1 _ this
theorem next_g (k : Nat) (b : List Int) (hb : Bytes b) (i : Nat) (hi : i ≤ b.length) : Good (c26 k (b, (i : Int))) b.length fun o => i < b.length ∧ o = (b.getD i 0, b, ((i + 1 : Nat) : Int)) := by
  unfold c26
  rw [f26_e, f26_t, cbeq]
  by_cases h : (i : Int) = (b.length : Int)
  · rw [if_pos h]
    exact .err (by decide) (by omega) (by omega)
  · have hlen := hb.2
    rw [if_neg h, f26_ej3, f26_tj3, cinB, if_pos (by omega), rdI_nat, suc_nat, w64 (by omega)]
    exact .ok ⟨by omega, rfl⟩

/-- The value of bytes that go on. -/
def valN : List Int → Nat
  | [] => 0
  | y :: r => (y - 128).toNat + 128 * valN r
theorem valN_lt : ∀ {l : List Int}, (∀ y ∈ l, 128 ≤ y ∧ y ≤ 255) → valN l < 128 ^ l.length
  | [], _ => by simp [valN]
  | y :: r, h => by
    have h1 := h y (by simp)
    have h2 := valN_lt (l := r) fun z hz => h z (by simp [hz])
    simp only [valN, List.length_cons, Nat.pow_succ]
    omega
theorem valN_snoc : ∀ (l : List Int) (y : Int), valN (l ++ [y]) = valN l + (y - 128).toNat * 128 ^ l.length
  | [], y => by simp [valN]
  | z :: r, y => by
    simp only [List.cons_append, valN, valN_snoc r y, List.length_cons, Nat.pow_succ]
    rw [Nat.mul_add]
    have : 128 * ((y - 128).toNat * 128 ^ r.length) = (y - 128).toNat * (128 ^ r.length * 128) := by
      rw [Nat.mul_comm 128, Nat.mul_assoc]
    omega
theorem vi_val : ∀ (l : List Int) (x : Nat), (∀ y ∈ l, 128 ≤ y ∧ y ≤ 255) → x < 128 → (x ≠ 0 ∨ l = []) → vi (valN l + x * 128 ^ l.length) = l ++ [(x : Int)]
  | [], x, _, hx, _ => by simp [valN, vi_small hx]
  | y :: r, x, hl, hx, h0 => by
    have h1 := hl y (by simp)
    have hx0 : x ≠ 0 := by
      rcases h0 with h | h
      · exact h
      · cases h
    have ih := vi_val r x (fun z hz => hl z (by simp [hz])) hx (.inl hx0)
    have hpos : 0 < 128 ^ r.length := Nat.pow_pos (by decide)
    have hx1 : 1 * 1 ≤ x * 128 ^ r.length := Nat.mul_le_mul (by omega) hpos
    have e : valN (y :: r) + x * 128 ^ (y :: r).length = (y - 128).toNat + 128 * (valN r + x * 128 ^ r.length) := by
      simp only [valN, List.length_cons, Nat.pow_succ]
      have : x * (128 ^ r.length * 128) = 128 * (x * 128 ^ r.length) := by rw [← Nat.mul_assoc, Nat.mul_comm]
      omega
    rw [e, vi_big (by omega), show ((y - 128).toNat + 128 * (valN r + x * 128 ^ r.length)) / 128 = valN r + x * 128 ^ r.length by omega, ih]
    rw [show (128 + ((y - 128).toNat + 128 * (valN r + x * 128 ^ r.length)) % 128 : Nat) = y.toNat by omega]
    have : ((y.toNat : Nat) : Int) = y := by omega
    rw [this]
    rfl

set_option maxRecDepth 20000 in
theorem and127 (y : Int) (h : 0 ≤ y ∧ y ≤ 255) : (BitVec.ofInt (IntKind.bits .u8) y &&& BitVec.ofInt (IntKind.bits .u8) (127 : Int)).toNat = y.toNat % 128 := by
  have h2 : ∀ z : Fin 256, (BitVec.ofInt 8 ((z.val : Nat) : Int) &&& BitVec.ofInt 8 (127 : Int)).toNat = z.val % 128 := by decide
  have h3 := h2 ⟨y.toNat, by omega⟩
  have e : ((y.toNat : Nat) : Int) = y := by omega
  simp only [e] at h3
  exact h3
theorem wu64 {n : Int} (h : 0 ≤ n ∧ n < 18446744073709551616) : IntKind.wrap .u64 n = n := by
  show n % 18446744073709551616 = n
  omega
theorem p2_7 (k : Nat) : 2 ^ (7 * k) = 128 ^ k := by rw [Nat.pow_mul]
theorem pow_le8 {k : Nat} (h : k ≤ 8) : 128 ^ k ≤ 72057594037927936 := by
  have : 128 ^ k ≤ 128 ^ 8 := Nat.pow_le_pow_right (by decide) h
  have e : (128 : Nat) ^ 8 = 72057594037927936 := by decide
  omega
theorem ofInt64 {n : Nat} (h : n < 18446744073709551616) : (BitVec.ofInt (IntKind.bits .u64) (n : Int)).toNat = n := by
  show (BitVec.ofInt 64 (n : Int)).toNat = n
  rw [BitVec.toNat_ofInt]
  omega
theorem shl_or (v k : Nat) (y : Int) (hk : k ≤ 8) (hv : v < 128 ^ k) (hy : 0 ≤ y ∧ y ≤ 255) :
    IntKind.wrap .u64 ((BitVec.ofInt (IntKind.bits .u64) (v : Int) ||| BitVec.ofInt (IntKind.bits .u64) (IntKind.wrap .u64 ((IntKind.wrap .u64 (IntKind.wrap .u8 ((BitVec.ofInt (IntKind.bits .u8) y &&& BitVec.ofInt (IntKind.bits .u8) (127 : Int)).toNat : Int))) * 2 ^ (min (Int.toNat (IntKind.wrap .i64 ((7 : Int) * (k : Int)))) (IntKind.bits .u64))))).toNat : Int) = ((v + (y.toNat % 128) * 128 ^ k : Nat) : Int) := by
  have hp := pow_le8 hk
  have hx : y.toNat % 128 ≤ 127 := by omega
  have hm : (y.toNat % 128) * 128 ^ k ≤ 127 * 72057594037927936 := Nat.mul_le_mul hx hp
  rw [and127 y hy, wu8 (n := ((y.toNat % 128 : Nat) : Int)) (by omega), wu64 (n := ((y.toNat % 128 : Nat) : Int)) (by omega), w64 (n := (7 : Int) * (k : Int)) (by omega)]
  have e1 : Int.toNat ((7 : Int) * (k : Int)) = 7 * k := by omega
  rw [e1, Nat.min_eq_left (show 7 * k ≤ IntKind.bits .u64 by show 7 * k ≤ 64; omega)]
  have e2 : (((y.toNat % 128 : Nat) : Int) * 2 ^ (7 * k)) = (((y.toNat % 128) * 128 ^ k : Nat) : Int) := by
    rw [← p2_7]; simp
  rw [e2, wu64 (n := (((y.toNat % 128) * 128 ^ k : Nat) : Int)) (by omega), BitVec.toNat_or, ofInt64 (by omega), ofInt64 (by omega)]
  have e3 : v ||| (y.toNat % 128) * 128 ^ k = v + (y.toNat % 128) * 128 ^ k := by
    rw [← p2_7] at hv ⊢
    have := Nat.two_pow_add_eq_or_of_lt hv (y.toNat % 128)
    rw [Nat.or_comm, Nat.mul_comm (y.toNat % 128), ← this, Nat.add_comm]
  rw [e3, wu64 (by omega)]

/-- A number that was read: its bytes are the ones. -/
def NumS (b : List Int) (i : Nat) (o : Int × List Int × Int) : Prop := ∃ j : Nat, o.2 = (b, (j : Int)) ∧ i ≤ j ∧ j ≤ b.length ∧ 0 ≤ o.1 ∧ o.1 ≤ 9223372036854775807 ∧ vi o.1.toNat = seg b i j
theorem num_loop (K : Nat) (b : List Int) (hb : Bytes b) (i : Nat) : ∀ (m : Nat) (l : List Int) (j : Nat), 9 - l.length = m → (∀ y ∈ l, 128 ≤ y ∧ y ≤ 255) → l.length ≤ 9 → i + l.length ≤ b.length → seg b i (i + l.length) = l → m < j →
    Good (f27_l4 K (c26 K) j 0 (i : Int) (valN l : Int) (l.length : Int) b ((i + l.length : Nat) : Int)) b.length (NumS b i) := by
  intro m
  induction m with
  | zero =>
    intro l j hm hl h9 hi hs hj
    obtain ⟨j, rfl⟩ : ∃ t, j = t + 1 := ⟨j - 1, by omega⟩
    rw [f27_el4, f27_tl4, cd, if_neg (by omega)]
    exact .err (by decide) (by omega) (by omega)
  | succ m ih =>
    intro l j hm hl h9 hi hs hj
    obtain ⟨j, rfl⟩ : ∃ t, j = t + 1 := ⟨j - 1, by omega⟩
    have hlen := hb.2
    rw [f27_el4, f27_tl4, cd, if_pos (by omega)]
    refine Good.bind (next_g K b hb (i + l.length) hi) fun o ho => ?_
    obtain ⟨hlt, rfl⟩ := ho
    simp only []
    have hy := byte_at hb (i + l.length) hlt
    have hv := valN_lt hl
    have h1 := seg_app (b := b) (i := i) (j := i + l.length) (k := i + l.length + 1) (by omega) (by omega) (by omega)
    rw [hs, seg_one hlt] at h1
    generalize hyy : b.getD (i + l.length) 0 = y at hy h1 ⊢
    rw [cd, if_pos (by rw [w64 (by omega)]; omega), cd, shl_or (valN l) l.length y (by omega) hv hy]
    by_cases hy2 : y ≥ 128
    · rw [if_pos hy2, suc_nat, w64 (by omega)]
      have e : ((valN l + y.toNat % 128 * 128 ^ l.length : Nat) : Int) = ((valN (l ++ [y]) : Nat) : Int) := by
        rw [valN_snoc, show y.toNat % 128 = (y - 128).toNat by omega]
      rw [e]
      have := ih (l ++ [y]) j (by simp; omega) (fun z hz => by
        rcases List.mem_append.1 hz with hz | hz
        · exact hl z hz
        · simp at hz; subst hz; omega) (by simp; omega) (by simp; omega) (by rw [List.length_append, List.length_singleton, ← Nat.add_assoc]; exact h1.symm) (by omega)
      rw [List.length_append, List.length_singleton, ← Nat.add_assoc] at this
      exact this
    · rw [if_neg hy2]
      have hp : 128 ^ l.length * 128 ≤ 9223372036854775808 := by
        have := pow_le8 (k := l.length) (by omega)
        omega
      have hx : y.toNat % 128 = y.toNat := by omega
      have hxm : (y.toNat + 1) * 128 ^ l.length ≤ 128 * 128 ^ l.length := Nat.mul_le_mul_right _ (by omega)
      rw [Nat.succ_mul] at hxm
      have hres : y.toNat ≠ 0 ∨ l = [] → Good (some (.inl (IntKind.wrap .i64 ((valN l + y.toNat % 128 * 128 ^ l.length : Nat) : Int), b, ((i + l.length + 1 : Nat) : Int)))) b.length (NumS b i) := by
        intro h0
        rw [hx, w64 (by omega)]
        refine .ok ⟨i + l.length + 1, rfl, by omega, by omega, by omega, by omega, ?_⟩
        rw [Int.toNat_natCast, vi_val l y.toNat hl (by omega) h0, ← h1]
        have : ((y.toNat : Nat) : Int) = y := by omega
        rw [this]
      rw [cbeq]
      by_cases hy0 : y = 0
      · rw [if_pos hy0, cd]
        by_cases hl0 : (l.length : Int) > 0
        · rw [if_pos hl0]
          exact .err (by decide) (by omega) (by omega)
        · rw [if_neg hl0]
          exact hres (.inr (List.eq_nil_of_length_eq_zero (by omega)))
      · rw [if_neg hy0]
        exact hres (.inl (by omega))
theorem num_g (K : Nat) (hK : 100 ≤ K) (b : List Int) (hb : Bytes b) (i : Nat) (hi : i ≤ b.length) : Good (c27 K (b, (i : Int))) b.length (NumS b i) := by
  unfold c27
  rw [f27_e, f27_t]
  exact num_loop K b hb i 9 [] K rfl (by simp) (by simp) (by simpa using hi) (by simpa using seg_self b i) (by omega)
end Go.Proofs.YtghmhkpgdmgepaaV
