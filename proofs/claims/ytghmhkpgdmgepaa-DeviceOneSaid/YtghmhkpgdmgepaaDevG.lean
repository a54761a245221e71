import Derived.Test.YtghmhkpgdmgepaaDevF
/-! Device: the document's functions write the plain bytes, too. -/
set_option linter.unusedVariables false
set_option linter.unusedSimpArgs false
namespace Go.Proofs.YtghmhkpgdmgepaaV
open Go Go.RowKit

theorem ref_in (k : Nat) : ∀ (m j x : Nat) (b : List Int), x < 128 ^ (m + 1) → x < 9223372036854775808 → m + 1 ≤ j → b.length + m + 1 ≤ 1000000 → f16_l2 k j (x : Int) b = some (b ++ vi x) := by
  intro m
  induction m with
  | zero =>
    intro j x b hx hx2 hj hb
    obtain ⟨j, rfl⟩ : ∃ t, j = t + 1 := ⟨j - 1, by omega⟩
    have hx' : x < 128 := by simpa using hx
    rw [f16_el2, f16_tl2, cd, if_neg (by omega), cappB, if_pos (by simp; omega), vi_small hx', wu8 (by omega)]
  | succ m ih =>
    intro j x b hx hx2 hj hb
    obtain ⟨j, rfl⟩ : ∃ t, j = t + 1 := ⟨j - 1, by omega⟩
    rw [f16_el2, f16_tl2, cd]
    by_cases hn : x < 128
    · rw [if_neg (by omega), cappB, if_pos (by simp; omega), vi_small hn, wu8 (by omega)]
    · have e1 : Int.tmod (x : Int) 128 = ((x % 128 : Nat) : Int) := rfl
      have e2 : Int.tdiv (x : Int) 128 = ((x / 128 : Nat) : Int) := rfl
      rw [if_pos (by omega), cappB, if_pos (by simp; omega), e1, e2, w64 (by omega), w64 (by omega), wu8 (by omega), ih j (x / 128) _ (by rw [Nat.pow_succ] at hx; exact Nat.div_lt_of_lt_mul (by rw [Nat.mul_comm]; exact hx)) (by omega) (by omega) (by simp; omega), vi_big hn]
      simp
theorem num_r (k : Nat) (hk : 20 ≤ k) (x : Int) (h0 : 0 ≤ x) (hx : x ≤ 9223372036854775807) : c16 k x = some (vi x.toNat) := by
  unfold c16
  rw [f16_e, f16_t]
  obtain ⟨n, rfl⟩ := Int.eq_ofNat_of_zero_le h0
  rw [ref_in k 8 k n [] (by rw [p128]; omega) (by omega) (by omega) (by simp)]
  simp
theorem ref_ina (k : Nat) : ∀ (m j x : Nat) (b : List Int), x < 128 ^ (m + 1) → x < 9223372036854775808 → m + 1 ≤ j → b.length + m + 1 ≤ 1000000 → f16a_l2 k j (x : Int) b = some (b ++ vi x) := by
  intro m
  induction m with
  | zero =>
    intro j x b hx hx2 hj hb
    obtain ⟨j, rfl⟩ : ∃ t, j = t + 1 := ⟨j - 1, by omega⟩
    have hx' : x < 128 := by simpa using hx
    rw [f16a_el2, f16a_tl2, cd, if_neg (by omega), cappB, if_pos (by simp; omega), vi_small hx', wu8 (by omega)]
  | succ m ih =>
    intro j x b hx hx2 hj hb
    obtain ⟨j, rfl⟩ : ∃ t, j = t + 1 := ⟨j - 1, by omega⟩
    rw [f16a_el2, f16a_tl2, cd]
    by_cases hn : x < 128
    · rw [if_neg (by omega), cappB, if_pos (by simp; omega), vi_small hn, wu8 (by omega)]
    · have e1 : Int.tmod (x : Int) 128 = ((x % 128 : Nat) : Int) := rfl
      have e2 : Int.tdiv (x : Int) 128 = ((x / 128 : Nat) : Int) := rfl
      rw [if_pos (by omega), cappB, if_pos (by simp; omega), e1, e2, w64 (by omega), w64 (by omega), wu8 (by omega), ih j (x / 128) _ (by rw [Nat.pow_succ] at hx; exact Nat.div_lt_of_lt_mul (by rw [Nat.mul_comm]; exact hx)) (by omega) (by omega) (by simp; omega), vi_big hn]
      simp
theorem num_ra (k : Nat) (hk : 20 ≤ k) (x : Int) (h0 : 0 ≤ x) (hx : x ≤ 9223372036854775807) : c16a k x = some (vi x.toNat) := by
  unfold c16a
  rw [f16a_e, f16a_t]
  obtain ⟨n, rfl⟩ := Int.eq_ofNat_of_zero_le h0
  rw [ref_ina k 8 k n [] (by rw [p128]; omega) (by omega) (by omega) (by simp)]
  simp

def badB : List Int → Bool
  | [] => false
  | x :: r => if x < 0 then true else badB r
theorem bad_r (k : Nat) (l : List Int) (hn : l.length < k) (h10 : l.length ≤ 100) : c15 k l = some (badB l) := by
  have key : ∀ (r p : List Int) (j : Nat), l = p ++ r → r.length < j → f15_l2 k j l (p.length : Int) = some (badB r) := by
    intro r
    induction r with
    | nil =>
      intro p j e hj
      obtain ⟨j, rfl⟩ : ∃ t, j = t + 1 := ⟨j - 1, by simp at hj; omega⟩
      have : l.length = p.length := by rw [e]; simp
      rw [f15_el2, f15_tl2, cd, if_neg (by omega)]
      rfl
    | cons x r ih =>
      intro p j e hj
      obtain ⟨j, rfl⟩ : ∃ t, j = t + 1 := ⟨j - 1, by simp at hj; omega⟩
      have hlen : l.length = p.length + r.length + 1 := by rw [e]; simp; omega
      simp only [List.length_cons] at hj
      rw [f15_el2, f15_tl2, cd, if_pos (by omega), cinB, if_pos (by omega), rdI_nat]
      have hg : l.getD p.length 0 = x := by rw [e, getD_mid]
      rw [hg, cd, suc_nat, w64 (by omega)]
      have := ih (p ++ [x]) j (by rw [e]; simp) (by omega)
      rw [show ((p ++ [x]).length : Int) = ((p.length + 1 : Nat) : Int) by simp] at this
      rw [this]
      show _ = some (if x < 0 then true else badB r)
      split <;> rfl
  unfold c15
  rw [f15_e, f15_t]
  exact key l [] k rfl (by omega)
theorem numE_bad {l : List Int} (h : badB l = true) : numE l = none := by
  induction l with
  | nil => cases h
  | cons x r ih =>
    unfold badB at h
    unfold numE
    split
    · rfl
    · rename_i hn
      rw [if_neg hn] at h
      rw [ih h]; rfl
theorem numE_ok {l : List Int} (h : badB l = false) : (∀ x ∈ l, 0 ≤ x) ∧ numE l = some (l.flatMap fun x => vi x.toNat) := by
  induction l with
  | nil => exact ⟨by simp, rfl⟩
  | cons x r ih =>
    unfold badB at h
    by_cases hn : x < 0
    · rw [if_pos hn] at h; cases h
    · rw [if_neg hn] at h
      obtain ⟨h1, h2⟩ := ih h
      refine ⟨?_, by unfold numE; rw [if_neg hn, h2]; rfl⟩
      intro y hy
      rcases List.mem_cons.1 hy with rfl | hy
      · omega
      · exact h1 y hy
theorem name_r (k : Nat) (hk : 20 ≤ k) (s : List Int) (hs : s.length ≤ 24) : c24 k s = some (vi s.length ++ s) := by
  unfold c24
  rw [f24_e, f24_t, num_r k hk _ (by omega) (by omega)]
  have hv : (vi s.length).length = 1 := by rw [vi_small (by omega)]; rfl
  simp only [Option.bind_some, Int.toNat_natCast, cappB]
  rw [if_pos (by omega)]

/-- What a document's function comes to. -/
def rf (b : List Int) (x : Option (List Int)) : Option (Bool × List Int) := match x with
  | some c => some (true, b ++ c)
  | none => some (false, [])
def mch {R : Type} (x : Option (List Int)) (fin : List Int → Option R) (bad : Option R) (b : List Int) : Option R := match x with
  | some c => fin (b ++ c)
  | none => bad
theorem mch_app2 {R : Type} (x y : Option (List Int)) (fin : List Int → Option R) (bad : Option R) (b : List Int) : mch (app2 x y) fin bad b = mch x (fun b => mch y fin bad b) bad b := by
  cases x with
  | none => rfl
  | some c => cases y <;> simp [mch, app2]
theorem mch_congr {R : Type} {x : Option (List Int)} {f f' : List Int → Option R} {bad : Option R} {b : List Int} (h : ∀ c, x = some c → f (b ++ c) = f' (b ++ c)) : mch x f bad b = mch x f' bad b := by
  cases x with
  | none => rfl
  | some c => exact h c rfl

theorem ref_loop {X R : Type} (l : List X) (e : X → Option (List Int)) (B cap : Nat) (L : Nat → Int → List Int → Option R) (bad : Option R) (fin : List Int → Option R)
    (hstep : ∀ j (i : Nat) x b, l[i]? = some x → b.length ≤ cap → L (j + 1) (i : Int) b = mch (e x) (fun b => L j ((i + 1 : Nat) : Int) b) bad b)
    (hend : ∀ j b, b.length ≤ cap → L (j + 1) (l.length : Int) b = fin b) (hB : ∀ x ∈ l, ∀ c, e x = some c → c.length ≤ B) :
    ∀ (r p : List X) (b : List Int) (j : Nat), l = p ++ r → r.length < j → b.length + r.length * B ≤ cap → L j (p.length : Int) b = mch (seqE e r) fin bad b := by
  intro r
  induction r with
  | nil =>
    intro p b j el hj hb
    obtain ⟨j, rfl⟩ : ∃ t, j = t + 1 := ⟨j - 1, by simp at hj; omega⟩
    have : l.length = p.length := by rw [el]; simp
    rw [← this, hend j b (by omega)]
    simp [mch, seqE]
  | cons x r ih =>
    intro p b j el hj hb
    obtain ⟨j, rfl⟩ : ∃ t, j = t + 1 := ⟨j - 1, by simp at hj; omega⟩
    simp only [List.length_cons, Nat.succ_mul] at hj hb
    rw [hstep j p.length x b (by rw [el]; simp) (by omega)]
    unfold seqE
    rw [mch_app2]
    refine mch_congr fun c hc => ?_
    have h1 := hB x (by rw [el]; simp) c hc
    have := ih (p ++ [x]) (b ++ c) j (by rw [el]; simp) (by omega) (by simp only [List.length_append]; omega)
    rw [show ((p ++ [x]).length : Int) = ((p.length + 1 : Nat) : Int) by simp] at this
    exact this
theorem getD_some {α : Type} {d : α} {l : List α} {i : Nat} {x : α} (h : l[i]? = some x) : l.getD i d = x := by rw [List.getD_eq_getElem?_getD, h]; rfl
theorem get_lt {α : Type} {l : List α} {i : Nat} {x : α} (h : l[i]? = some x) : i < l.length := (List.getElem?_eq_some_iff.1 h).1
end Go.Proofs.YtghmhkpgdmgepaaV
