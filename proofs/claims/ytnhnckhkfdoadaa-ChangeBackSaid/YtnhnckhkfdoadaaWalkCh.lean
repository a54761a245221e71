import Derived.Test.YtnhnckhkfdoadaaPChx
import Derived.Test.YtnhnckhkfdoadaaLib
/-! The plain laws of layer 27, and the walks of its statements. -/
set_option linter.unusedVariables false
set_option linter.unusedSimpArgs false
namespace Go.Proofs.Ytnhnckhkfdoadaa.WalkCh
open Go.RowKit Go.Proofs.YtnhnckhkfdoadaaW.PrintWords Go.Proofs.YtnhnckhkfdoadaaW.PrintLast Go.Proofs.YtnhnckhkfdoadaaW.PrintMore Go.Proofs.Ytnhnckhkfdoadaa.PCh Go.Proofs.Ytnhnckhkfdoadaa.Lib Go.Proofs.Ytnhnckhkfdoadaa.Hw

/-- n / d, rounded up. -/
def cd (n d : Int) : Int := if n % d = 0 then n / d else n / d + 1
theorem cd_spec (n d : Int) (hd : 1 ≤ d) : n ≤ cd n d * d ∧ (cd n d - 1) * d < n := by
  have h1 := Int.emod_add_mul_ediv n d
  have h2 := Int.emod_nonneg n (show d ≠ 0 by omega)
  have h3 := Int.emod_lt_of_pos n (show 0 < d by omega)
  unfold cd
  rw [Int.mul_comm d] at h1
  split
  · rw [Int.sub_mul]; omega
  · rw [Int.add_mul, Int.sub_mul, Int.add_mul]; omega
theorem cd_uniq (n d k : Int) (hd : 1 ≤ d) (h1 : n ≤ k * d) (h2 : (k - 1) * d < n) : cd n d = k := by
  obtain ⟨g1, g2⟩ := cd_spec n d hd
  have a : (cd n d - 1) * d < k * d := by omega
  have b : (k - 1) * d < cd n d * d := by omega
  have := Int.lt_of_mul_lt_mul_right a (by omega)
  have := Int.lt_of_mul_lt_mul_right b (by omega)
  omega
theorem ceil_f (n d : Int) (hn : 0 ≤ n) (hn2 : n ≤ 1000000000) (hd : 1 ≤ d) : whole_Ceil.f n d = some (cd n d, 0) := by
  unfold whole_Ceil.f cd
  rw [if_neg (by omega), if_neg (by omega)]
  rw [Int.tmod_eq_emod_of_nonneg hn, Int.tdiv_eq_ediv_of_nonneg hn]
  have h1 := Int.ediv_nonneg hn (show 0 ≤ d by omega)
  have h2 := Int.ediv_le_self d hn
  have h3 := Int.emod_nonneg n (show d ≠ 0 by omega)
  rw [w64 (x := n / d) (by omega) (by omega), w64 (x := n / d + 1) (by omega) (by omega)]
  by_cases h : n % d = 0
  · rw [if_pos h, if_pos h]
  · rw [if_neg h, if_neg h]
    have e1 : decide (n % d < 0) = false := decide_eq_false (by omega)
    have e2 : decide (d < 0) = false := decide_eq_false (by omega)
    rw [e1, e2]; rfl

/-! ### a way's changes -/
theorem way_ind (P : Int → List Int → Prop) (m s : Int) (hm : 1 ≤ m) (h0 : ∀ t, t ≤ 0 → P t []) (h1 : ∀ t, 0 < t → P (t - m) (way (t - m) m s) → P t ((s * (if m < t then m else t)) :: way (t - m) m s)) (t : Int) : P t (way t m s) := by
  have key : ∀ (k : Nat) (t : Int), t ≤ k → P t (way t m s) := by
    intro k
    induction k with
    | zero => intro t ht; rw [way_nil t m s (by omega)]; exact h0 t (by omega)
    | succ k ih =>
      intro t ht
      by_cases h : 0 < t
      · rw [way_pos t m s hm h]; exact h1 t h (ih (t - m) (by omega))
      · rw [way_nil t m s (by omega)]; exact h0 t (by omega)
  exact key t.toNat t (by omega)
theorem way_sum (m s : Int) (hm : 1 ≤ m) (t : Int) (ht : 0 ≤ t) : (way t m s).sum = s * t := by
  refine way_ind (fun t l => 0 ≤ t → l.sum = s * t) m s hm (fun t h h' => ?_) (fun t h ih h' => ?_) t ht
  · have : t = 0 := by omega
    subst this; simp
  · rw [List.sum_cons]
    by_cases hmt : m < t
    · rw [if_pos hmt, ih (by omega), Int.mul_sub]; omega
    · rw [if_neg hmt, way_nil (t - m) m s (by omega)]; simp
theorem way_len (m s : Int) (hm : 1 ≤ m) (t : Int) (ht : 0 ≤ t) : ((way t m s).length : Int) = cd t m := by
  symm
  have key : ∀ t, t ≤ ((way t m s).length : Int) * m ∧ (0 < t → (((way t m s).length : Int) - 1) * m < t) := by
    intro t
    refine way_ind (fun t l => t ≤ (l.length : Int) * m ∧ (0 < t → ((l.length : Int) - 1) * m < t)) m s hm (fun t h => ?_) (fun t h ih => ?_) t
    · exact ⟨by simp; omega, fun _ => by omega⟩
    · rw [List.length_cons, Int.natCast_add, Int.add_mul, Int.sub_mul, Int.add_mul]
      have := ih.2
      rw [Int.sub_mul] at this
      refine ⟨by have := ih.1; omega, fun _ => ?_⟩
      by_cases h2 : 0 < t - m
      · have := this h2; omega
      · rw [way_nil (t - m) m s (by omega)]; simp; omega
  obtain ⟨g1, g2⟩ := key t
  by_cases h : 0 < t
  · exact cd_uniq t m _ hm g1 (g2 h)
  · have : t = 0 := by omega
    subst this
    rw [way_nil 0 m s (by omega)]
    exact cd_uniq 0 m 0 hm (by omega) (by omega)
theorem way_mem (m s : Int) (hm : 1 ≤ m) (t : Int) : ∀ x ∈ way t m s, ∃ y, x = s * y ∧ 1 ≤ y ∧ y ≤ m := by
  refine way_ind (fun t l => ∀ x ∈ l, ∃ y, x = s * y ∧ 1 ≤ y ∧ y ≤ m) m s hm (fun t h => by simp) (fun t h ih => ?_) t
  intro x hx
  rcases List.mem_cons.1 hx with rfl | hx
  · exact ⟨_, rfl, by split <;> omega, by split <;> omega⟩
  · exact ih x hx

/-! ### the code's functions -/
theorem within_f (x a b : Int) : change_within.f x a b = some (decide (a ≤ x ∧ x ≤ b)) := by
  unfold change_within.f
  by_cases h : a ≤ x <;> simp [h]
theorem in_f (x a b : Int) : carrefourref27_in.f x a b = some (decide (a ≤ x ∧ x ≤ b)) := by
  unfold carrefourref27_in.f
  by_cases h : x ≥ a
  · have h' : a ≤ x := h
    simp [h, h']
  · have h' : ¬ a ≤ x := h
    simp [h']
theorem mod_f (x c : Int) (hc : 1 ≤ c) (hx : -9223372036854775808 ≤ x) (hx2 : x ≤ 9223372036854775807) (hc2 : c ≤ 6000) : whole_Mod.f x c = some (x % c, 0) := by
  unfold whole_Mod.f
  rw [if_neg (by omega), if_neg (by omega)]
  have h1 := Int.tmod_add_mul_tdiv x c
  have h2 := Int.tmod_lt_of_pos x (show 0 < c by omega)
  have h3 := Int.lt_tmod_of_pos x (show 0 < c by omega)
  have h4 : x % c = Int.tmod x c % c := by
    conv => lhs; rw [← h1]
    rw [Int.add_mul_emod_self_left]
  by_cases h : Int.tmod x c < 0
  · rw [if_pos h, w64 (by omega) (by omega), h4]
    have : Int.tmod x c % c = (Int.tmod x c + c) % c := by rw [Int.add_emod_right]
    rw [this, Int.emod_eq_of_lt (by omega) (by omega)]
  · rw [if_neg h, h4, Int.emod_eq_of_lt (by omega) (by omega)]
theorem cycles_f (t m s : Int) (ht : 0 ≤ t) (ht2 : t ≤ 6000) (hm : 0 ≤ m) : change_way_cycles.f t m s = some (if m = 0 then (0, false) else (cd t m, true)) := by
  unfold change_way_cycles.f
  by_cases h : m = 0
  · rw [if_pos h, if_pos h]
  · rw [if_neg h, if_neg h, ceil_f t m ht (by omega) (by omega)]; rfl

def may (c a b m l : Int) : Prop := (1 ≤ c ∧ c ≤ 6000) ∧ (0 ≤ a ∧ a ≤ c - 1) ∧ (0 ≤ b ∧ b ≤ c - 1) ∧ (0 ≤ m ∧ m ≤ c) ∧ (0 ≤ l ∧ l ≤ c)
instance (c a b m l : Int) : Decidable (may c a b m l) := inferInstanceAs (Decidable (_ ∧ _))
/-- is it made later? -/
def up (c h m l : Int) : Prop := m ≠ 0 ∧ (l = 0 ∨ cd h m ≤ cd (c - h) l)
instance (c h m l : Int) : Decidable (up c h m l) := inferInstanceAs (Decidable (_ ∧ _))
/-- 27.1. -/
def ways (c a b m l : Int) : List Int × Int :=
  if may c a b m l then
    if a = b then ([], 0)
    else if up c ((b - a) % c) m l then (way ((b - a) % c) m 1, 0)
    else if l ≠ 0 then (way (c - (b - a) % c) l (-1), 0)
    else ([], 150)
  else ([], 1)

theorem ahead (c a b : Int) (hc : 1 ≤ c) (ha : 0 ≤ a ∧ a ≤ c - 1) (hb : 0 ≤ b ∧ b ≤ c - 1) (hne : a ≠ b) : 1 ≤ (b - a) % c ∧ (b - a) % c ≤ c - 1 ∧ ((b - a) % c = b - a ∨ (b - a) % c = b - a + c) := by
  by_cases h : a ≤ b
  · rw [Int.emod_eq_of_lt (by omega) (by omega)]; omega
  · have : (b - a) % c = (b - a + c) % c := by rw [Int.add_emod_right]
    rw [this, Int.emod_eq_of_lt (by omega) (by omega)]; omega

theorem Ways_f (c a b m l : Int) (k : Nat) (hk : 2 ≤ k) : change_Ways.f k c a b m l = some (ways c a b m l) := by
  obtain ⟨k, rfl⟩ : ∃ j, k = j + 2 := ⟨k - 2, by omega⟩
  have hj : ∀ x, (x = false → may c a b m l) → (x = true → ¬ may c a b m l) → change_Ways.j0 (k + 2) c a b m l x = some (ways c a b m l) := by
    intro x h1 h2
    simp only [change_Ways.j0]
    unfold ways
    cases x with
    | true => rw [if_pos rfl, if_neg (h2 rfl)]
    | false =>
      have hm := h1 rfl
      rw [if_neg (by simp), if_pos hm]
      obtain ⟨hc, ha, hb, hm1, hl1⟩ := hm
      by_cases e : a = b
      · rw [if_pos e, if_pos e]
      · obtain ⟨g1, g2, g3⟩ := ahead c a b hc.1 ha hb e
        rw [if_neg e, if_neg e, w64 (x := b - a) (by omega) (by omega), mod_f (b - a) c hc.1 (by omega) (by omega) hc.2]
        generalize (b - a) % c = h at *
        simp only [Option.bind_some]
        rw [w64 (x := c - h) (by omega) (by omega), cycles_f h m 1 (by omega) (by omega) hm1.1, cycles_f (c - h) l (-1) (by omega) (by omega) hl1.1]
        simp only [Option.bind_some]
        have f1 : m ≠ 0 → change_way_all.f h m 1 = some (way h m 1) := fun hm0 => by
          unfold change_way_all.f; rw [if_pos ⟨by omega, by omega, .inl rfl⟩]
        have f2 : l ≠ 0 → change_way_all.f (c - h) l (-1) = some (way (c - h) l (-1)) := fun hl0 => by
          unfold change_way_all.f; rw [if_pos ⟨by omega, by omega, .inr rfl⟩]
        by_cases hm0 : m = 0
        · have hu : ¬ up c h m l := fun u => u.1 hm0
          rw [if_neg hu, if_pos hm0]
          by_cases hl0 : l = 0
          · simp only [hl0, if_true, change_Ways.j1]; simp
          · simp only [hl0, if_false, change_Ways.j1]; simp [hl0, f2 hl0]
        · by_cases hl0 : l = 0
          · rw [if_pos (show up c h m l from ⟨hm0, .inl hl0⟩)]
            simp only [hl0, hm0, if_true, if_false, change_Ways.j1]; simp [f1 hm0]
          · by_cases hle : cd h m ≤ cd (c - h) l
            · rw [if_pos (show up c h m l from ⟨hm0, .inr hle⟩)]
              simp only [hl0, hm0, if_false, if_true, change_Ways.j1]; simp [f1 hm0, hle]
            · rw [if_neg (show ¬ up c h m l from fun u => u.2.elim hl0 hle)]
              simp only [hl0, hm0, if_false, if_true, change_Ways.j1]; simp [f2 hl0, hle, hl0]
  unfold change_Ways.f
  simp only [within_f, Option.bind_some]
  by_cases h1 : 1 ≤ c ∧ c ≤ 6000
  · rw [if_pos (by simpa using h1), w64 (x := c - 1) (by omega) (by omega)]
    by_cases h2 : 0 ≤ a ∧ a ≤ c - 1
    · rw [if_pos (by simpa using h2)]
      by_cases h3 : 0 ≤ b ∧ b ≤ c - 1
      · rw [if_pos (by simpa using h3)]
        by_cases h4 : 0 ≤ m ∧ m ≤ c
        · rw [if_pos (by simpa using h4)]
          refine hj _ (fun e => ⟨h1, h2, h3, h4, by simpa using e⟩) (fun e hm => ?_)
          have := hm.2.2.2.2; simp at e; omega
        · rw [if_neg (by simpa using h4)]; exact hj _ (by simp) (fun _ hm => h4 hm.2.2.2.1)
      · rw [if_neg (by simpa using h3)]; exact hj _ (by simp) (fun _ hm => h3 hm.2.2.1)
    · rw [if_neg (by simpa using h2)]; exact hj _ (by simp) (fun _ hm => h2 hm.2.1)
  · rw [if_neg (by simpa using h1)]; exact hj _ (by simp) (fun _ hm => h1 hm.1)

theorem steps_l (m s : Int) (hm : 1 ≤ m) (hm2 : m ≤ 6000) (hs : s = 1 ∨ s = -1) : ∀ (k : Nat) (n : Int) (acc : List Int), n < k → 0 ≤ n → n ≤ 6000 → acc.length + n.toNat ≤ 12000 →
    carrefourref27_steps.l0 k n m s acc = some (acc ++ way n m s, true)
  | 0, n, acc, h, h0, _, _ => by omega
  | k + 1, n, acc, h, h0, h2, ha => by
    simp only [carrefourref27_steps.l0]
    by_cases hn : n > 0
    · have e : mn n m = if m < n then m else n := rfl
      have e1 : 1 ≤ mn n m ∧ mn n m ≤ n ∧ mn n m ≤ m := by rw [e]; split <;> omega
      have e2 : -6000 ≤ s * mn n m ∧ s * mn n m ≤ 6000 := by rcases hs with rfl | rfl <;> omega
      rw [if_pos hn, if_pos (by omega), if_pos (by omega), w64 (by omega) (by omega), w64 (by omega) (by omega), steps_l m s hm hm2 hs k (n - mn n m) _ (by omega) (by omega) (by omega) (by simp; omega), way_pos n m s hm hn, ← e]
      have : way (n - mn n m) m s = way (n - m) m s := by
        rw [e]; split
        · rfl
        · rw [way_nil _ m s (by omega), way_nil _ m s (by omega)]
      rw [this]; simp
    · have : n = 0 := by omega
      subst this
      rw [if_neg (by omega), way_nil 0 m s (by omega)]; simp
theorem steps_f (n m s : Int) (k : Nat) (hk : 6001 ≤ k) (hm : 0 ≤ m) (hm2 : m ≤ 6000) (hs : s = 1 ∨ s = -1) (h1 : 1 ≤ n) (h2 : n ≤ 6000) :
    carrefourref27_steps.f k n m s = some (if m = 0 then ([], false) else (way n m s, true)) := by
  unfold carrefourref27_steps.f
  by_cases h : m = 0
  · obtain ⟨k, rfl⟩ : ∃ j, k = j + 1 := ⟨k - 1, by omega⟩
    simp only [carrefourref27_steps.l0]
    rw [if_pos (by omega), if_neg (by omega), if_pos h]
    have : (n == 0) = false := by simp; omega
    rw [this]
  · rw [steps_l m s (by omega) hm2 hs k n [] (by omega) (by omega) h2 (by simp; omega), if_neg h]; rfl
theorem tmod_pos (x c : Int) (hx : 0 ≤ x) : Int.tmod x c = x % c := Int.tmod_eq_emod_of_nonneg hx

theorem RWays_f (c a b m l : Int) (k : Nat) (hk : 6003 ≤ k) : carrefourref27_Ways.f k c a b m l = some (ways c a b m l) := by
  obtain ⟨k, rfl⟩ : ∃ j, k = j + 2 := ⟨k - 2, by omega⟩
  have hj : ∀ x, (x = false → may c a b m l) → (x = true → ¬ may c a b m l) → carrefourref27_Ways.j0 (k + 2) c a b m l x = some (ways c a b m l) := by
    intro x h1 h2
    simp only [carrefourref27_Ways.j0]
    unfold ways
    cases x with
    | true => rw [if_pos rfl, if_neg (h2 rfl)]
    | false =>
      have hm := h1 rfl
      rw [if_neg (by simp), if_pos hm]
      obtain ⟨hc, ha, hb, hm1, hl1⟩ := hm
      by_cases e : a = b
      · rw [if_pos e, if_pos e]
      · obtain ⟨g1, g2, g3⟩ := ahead c a b hc.1 ha hb e
        have e1 : (b - a + c) % c = (b - a) % c := by rw [Int.add_emod_right]
        have e2 : (a - b + c) % c = c - (b - a) % c := by
          rcases g3 with g | g
          · rw [g, Int.emod_eq_of_lt (by omega) (by omega)]; omega
          · rw [g, Int.add_emod_right, Int.emod_eq_of_lt (by omega) (by omega)]; omega
        rw [if_neg e, if_neg e, if_neg (by omega), w64 (x := b - a) (by omega) (by omega), w64 (x := b - a + c) (by omega) (by omega), w64 (x := a - b) (by omega) (by omega), w64 (x := a - b + c) (by omega) (by omega),
          tmod_pos _ _ (by omega), tmod_pos _ _ (by omega), e1, e2]
        clear e1 e2
        generalize (b - a) % c = h at *
        rw [steps_f h m 1 (k + 1) (by omega) hm1.1 (by omega) (.inl rfl) (by omega) (by omega), steps_f (c - h) l (-1) (k + 1) (by omega) hl1.1 (by omega) (.inr rfl) (by omega) (by omega)]
        simp only [Option.bind_some]
        by_cases hm0 : m = 0
        · have hu : ¬ up c h m l := fun u => u.1 hm0
          rw [if_neg hu, if_pos hm0]
          by_cases hl0 : l = 0
          · simp [hl0, carrefourref27_Ways.j1]
          · simp [hl0, carrefourref27_Ways.j1]
        · have l1 := way_len m 1 (by omega) h (by omega)
          by_cases hl0 : l = 0
          · rw [if_pos (show up c h m l from ⟨hm0, .inl hl0⟩)]
            simp [hl0, hm0, carrefourref27_Ways.j1]
          · have l2 := way_len l (-1) (by omega) (c - h) (by omega)
            by_cases hle : cd h m ≤ cd (c - h) l
            · rw [if_pos (show up c h m l from ⟨hm0, .inr hle⟩)]
              simp only [hl0, hm0, if_false, if_true, carrefourref27_Ways.j1, l1, l2]; simp [hle]
            · rw [if_neg (show ¬ up c h m l from fun u => u.2.elim hl0 hle)]
              simp only [hl0, hm0, if_false, if_true, carrefourref27_Ways.j1, l1, l2]; simp [hle, hl0]
  unfold carrefourref27_Ways.f
  simp only [in_f, Option.bind_some]
  by_cases h1 : 1 ≤ c ∧ c ≤ 6000
  · rw [if_pos (by simpa using h1), w64 (x := c - 1) (by omega) (by omega)]
    by_cases h2 : 0 ≤ a ∧ a ≤ c - 1
    · rw [if_pos (by simpa using h2)]
      by_cases h3 : 0 ≤ b ∧ b ≤ c - 1
      · rw [if_pos (by simpa using h3)]
        by_cases h4 : 0 ≤ m ∧ m ≤ c
        · rw [if_pos (by simpa using h4)]
          refine hj _ (fun e => ⟨h1, h2, h3, h4, by simpa using e⟩) (fun e hm => ?_)
          have := hm.2.2.2.2; simp at e; omega
        · rw [if_neg (by simpa using h4)]; exact hj _ (by simp) (fun _ hm => h4 hm.2.2.2.1)
      · rw [if_neg (by simpa using h3)]; exact hj _ (by simp) (fun _ hm => h3 hm.2.2.1)
    · rw [if_neg (by simpa using h2)]; exact hj _ (by simp) (fun _ hm => h2 hm.2.1)
  · rw [if_neg (by simpa using h1)]; exact hj _ (by simp) (fun _ hm => h1 hm.1)

theorem longs_l (l : List Int) (hl : l.length ≤ 9223372036854775807) : ∀ (d i k : Nat), i + d = l.length → d < k → carrefourref10_Longs.l0 k l l (i : Int) = some true
  | 0, i, k, h, hk => by
    obtain ⟨k, rfl⟩ : ∃ m, k = m + 1 := ⟨k - 1, by omega⟩
    simp only [carrefourref10_Longs.l0]; rw [if_neg (by omega)]
  | d + 1, i, k, h, hk => by
    obtain ⟨k, rfl⟩ : ∃ m, k = m + 1 := ⟨k - 1, by omega⟩
    simp only [carrefourref10_Longs.l0]
    rw [if_pos (by omega), if_pos (by omega), if_pos (by omega), wi (show i < l.length by omega) hl]; simp only [if_true]
    exact longs_l l hl d (i + 1) k (by omega) (by omega)
theorem longs_f (l : List Int) (k : Nat) (hl : l.length ≤ 9223372036854775807) (hk : l.length < k) : carrefourref10_Longs.f k l l = some true := by
  unfold carrefourref10_Longs.f; rw [if_pos rfl]; exact longs_l l hl l.length 0 k (by omega) hk
theorem awake_f (k : Nat) (hk : 40 ≤ k) : carrefourlaw27_awake.f k = some true :=
  at_rounds (g := fun k => carrefourlaw27_awake.f k) (fun k => carrefourlaw27_awake.mono k) hk (by decide +kernel)
theorem stp_len' (m s t : Int) (ht : t ≤ 6000) : (way t m s).length ≤ 6000 := by have := stp_len m s t.toNat t; unfold way; omega
theorem ways_len (c a b m l : Int) : (ways c a b m l).1.length ≤ 6000 := by
  unfold ways
  by_cases h : may c a b m l
  · rw [if_pos h]
    obtain ⟨hc, ha, hb, hm1, hl1⟩ := h
    split
    · simp
    · rename_i e
      obtain ⟨g1, g2, g3⟩ := ahead c a b hc.1 ha hb e
      split
      · exact stp_len' _ _ _ (by omega)
      · split
        · exact stp_len' _ _ _ (by omega)
        · simp
  · rw [if_neg h]; simp
theorem Ways_law (c a b m l : Int) : carrefourlaw27_ChangeWays.f 7000 c a b m l = some true := by
  unfold carrefourlaw27_ChangeWays.f
  have := ways_len c a b m l
  rw [Ways_f c a b m l 7000 (by omega), RWays_f c a b m l 7000 (by omega)]
  simp only [Option.bind_some]
  rw [longs_f _ 7000 (by omega) (by omega), awake_f 7000 (by omega)]; simp

/-! ### 27.2 -/
def inr (c x : Int) : Bool := decide (-c ≤ x ∧ x ≤ c)
def okL (c : Int) (l : List Int) : Prop := (1 ≤ c ∧ c ≤ 6000) ∧ l.length ≤ 6000 ∧ l.all (inr c) = true
instance (c : Int) (l : List Int) : Decidable (okL c l) := inferInstanceAs (Decidable (_ ∧ _))

theorem okL_dec {c : Int} {l : List Int} (h1 : 1 ≤ c ∧ c ≤ 6000) (h2 : l.length ≤ 6000) : decide (okL c l) = l.all (inr c) := by
  cases h : l.all (inr c) with
  | true => exact decide_eq_true ⟨h1, h2, h⟩
  | false => exact decide_eq_false (fun x => by have := x.2.2; rw [h] at this; cases this)
theorem right_f (c : Int) (l : List Int) (k : Nat) (hk : l.length < k) : change_right.f k c l = some (decide (okL c l)) := by
  unfold change_right.f
  rw [within_f]; simp only [Option.bind_some]
  by_cases h1 : 1 ≤ c ∧ c ≤ 6000
  · rw [if_pos (by simpa using h1)]
    by_cases h2 : l.length ≤ 6000
    · rw [if_pos (by omega)]
      have hp : ∀ x, change_right_1.f x c = some (!inr c x) := fun x => by
        unfold change_right_1.f inr
        rw [within_f, w64 (x := -c) (by omega) (by omega)]; rfl
      obtain ⟨r, hr, hr2⟩ := any_loop (fun k i => slices_IndexFunc_int64_int64_at_change_right_1.l0 k l (l.length : Int) i c) l (by omega) (fun x => !inr c x)
        (fun k i h => by
          simp only [slices_IndexFunc_int64_int64_at_change_right_1.l0]
          rw [if_pos (by omega), if_pos (by omega), if_pos (by omega), rd_nat l i h, hp]; rfl)
        (fun k => by simp only [slices_IndexFunc_int64_int64_at_change_right_1.l0]; rw [if_neg (by omega)]) k hk
      unfold slices_ContainsFunc_int64_int64_at_change_right_1.f slices_IndexFunc_int64_int64_at_change_right_1.f
      rw [hr]; simp only [Option.bind_some, hr2]
      have : (!l.any fun x => !inr c x) = l.all (inr c) := by rw [List.not_any_eq_all_not]; simp
      rw [this, okL_dec h1 h2]
    · rw [if_neg (by omega)]; simp [okL, h2]
  · rw [if_neg (by simpa using h1)]
    have : ¬ okL c l := fun h => h1 h.1
    simp [this]

theorem may_l (c : Int) (l : List Int) (hc : 1 ≤ c ∧ c ≤ 6000) (hl : l.length ≤ 6000) : ∀ (d i k : Nat), i + d = l.length → d < k → carrefourref27_may.l0 k c l (i : Int) = some ((l.drop i).all (inr c))
  | 0, i, k, h, hk => by
    obtain ⟨k, rfl⟩ : ∃ m, k = m + 1 := ⟨k - 1, by omega⟩
    simp only [carrefourref27_may.l0]; rw [if_neg (by omega), drop_end l i (by omega)]; rfl
  | d + 1, i, k, h, hk => by
    obtain ⟨k, rfl⟩ : ∃ m, k = m + 1 := ⟨k - 1, by omega⟩
    simp only [carrefourref27_may.l0]
    rw [if_pos (by omega), if_pos (by omega), wi (show i < l.length by omega) (by omega), rd_nat l i (by omega), w64 (x := -c) (by omega) (by omega), in_f, drop_cons l i (by omega), List.all_cons]
    simp only [Option.bind_some]
    rw [may_l c l hc hl d (i + 1) k (by omega) (by omega)]
    by_cases hx : -c ≤ l[i] ∧ l[i] ≤ c <;> simp [hx, inr]
theorem may_f (c : Int) (l : List Int) (k : Nat) (hk : l.length + 1 < k) : carrefourref27_may.f k c l = some (decide (okL c l)) := by
  obtain ⟨k, rfl⟩ : ∃ m, k = m + 1 := ⟨k - 1, by omega⟩
  unfold carrefourref27_may.f
  rw [in_f]; simp only [Option.bind_some]
  by_cases h1 : 1 ≤ c ∧ c ≤ 6000
  · rw [if_pos (by simpa using h1)]
    by_cases h2 : l.length ≤ 6000
    · have e : decide ((l.length : Int) > 6000) = false := decide_eq_false (by omega)
      rw [e]; simp only [carrefourref27_may.j0]
      rw [if_neg (by simp), show (0 : Int) = ((0 : Nat) : Int) from rfl, may_l c l h1 h2 l.length 0 k (by omega) (by omega), okL_dec h1 h2]; rfl
    · have e : decide ((l.length : Int) > 6000) = true := decide_eq_true (by omega)
      rw [e]; simp [carrefourref27_may.j0, okL, h2]
  · rw [if_neg (by simpa using h1)]
    have : ¬ okL c l := fun h => h1 h.1
    simp [carrefourref27_may.j0, this]

theorem all_at {c : Int} {l : List Int} (h : l.all (inr c) = true) (i : Nat) (hi : i < l.length) : -c ≤ l[i] ∧ l[i] ≤ c := by
  have := List.all_eq_true.1 h l[i] (List.getElem_mem hi)
  simpa [inr] using this
theorem apply_l (c : Int) (l : List Int) (h : okL c l) : ∀ (d i k : Nat) (s : Int), i + d = l.length → d < k → -6000 * (i + 1) ≤ s → s ≤ 6000 * (i + 1) →
    change_Apply.l0 k c s l (l.length : Int) (i : Int) = some ((s + (l.drop i).sum) % c, 0)
  | 0, i, k, s, hi, hk, g1, g2 => by
    obtain ⟨k, rfl⟩ : ∃ m, k = m + 1 := ⟨k - 1, by omega⟩
    obtain ⟨hc, hl, ha⟩ := h
    simp only [change_Apply.l0]; rw [if_neg (by omega), mod_f s c hc.1 (by omega) (by omega) hc.2, drop_end l i (by omega)]; simp
  | d + 1, i, k, s, hi, hk, g1, g2 => by
    obtain ⟨k, rfl⟩ : ∃ m, k = m + 1 := ⟨k - 1, by omega⟩
    have hx := all_at h.2.2 i (by omega)
    have h' := h
    obtain ⟨hc, hl, ha⟩ := h'
    simp only [change_Apply.l0]
    rw [if_pos (by omega), if_pos (by omega), if_pos (by omega), rd_nat l i (by omega), wi (show i < l.length by omega) (by omega), w64 (by omega) (by omega),
      apply_l c l h d (i + 1) k (s + l[i]) (by omega) (by omega) (by omega) (by omega), drop_cons l i (by omega), List.sum_cons, Int.add_assoc]
def app (c a : Int) (l : List Int) : Int × Int := if okL c l ∧ (0 ≤ a ∧ a ≤ c - 1) then ((a + l.sum) % c, 0) else (0, 1)
theorem Apply_f (c a : Int) (l : List Int) (k : Nat) (hk : l.length + 1 < k) : change_Apply.f k c a l = some (app c a l) := by
  obtain ⟨k, rfl⟩ : ∃ m, k = m + 1 := ⟨k - 1, by omega⟩
  unfold change_Apply.f app
  rw [right_f c l (k + 1) (by omega)]; simp only [Option.bind_some]
  by_cases h : okL c l
  · have hc := h.1
    rw [if_pos (by simpa using h), within_f, w64 (x := c - 1) (by omega) (by omega)]; simp only [Option.bind_some, change_Apply.j0]
    by_cases ha : 0 ≤ a ∧ a ≤ c - 1
    · rw [if_neg (by simp [ha]), if_pos ⟨h, ha⟩]
      exact apply_l c l h l.length 0 k a (by omega) (by omega) (by omega) (by omega)
    · rw [if_pos (by simp; omega), if_neg (fun x => ha x.2)]
  · rw [if_neg (by simpa using h), if_neg (fun x => h x.1)]; simp [change_Apply.j0]

theorem rapply_l (c : Int) (l : List Int) (h : okL c l) : ∀ (d i k : Nat) (s : Int), i + d = l.length → d < k → 0 ≤ s → s ≤ c - 1 →
    carrefourref27_Apply.l0 k c s l (i : Int) = some ((s + (l.drop i).sum) % c, 0)
  | 0, i, k, s, hi, hk, g1, g2 => by
    obtain ⟨k, rfl⟩ : ∃ m, k = m + 1 := ⟨k - 1, by omega⟩
    simp only [carrefourref27_Apply.l0]; rw [if_neg (by omega), drop_end l i (by omega)]; simp
    rw [Int.emod_eq_of_lt (by omega) (by omega)]
  | d + 1, i, k, s, hi, hk, g1, g2 => by
    obtain ⟨k, rfl⟩ : ∃ m, k = m + 1 := ⟨k - 1, by omega⟩
    have hx := all_at h.2.2 i (by omega)
    have h' := h
    obtain ⟨hc, hl, ha⟩ := h'
    have e : (s + l[i] + 2 * c) % c = (s + l[i]) % c := by rw [Int.add_mul_emod_self_right]
    have b1 := Int.emod_nonneg (s + l[i]) (show c ≠ 0 by omega)
    have b2 := Int.emod_lt_of_pos (s + l[i]) (show 0 < c by omega)
    simp only [carrefourref27_Apply.l0]
    rw [if_pos (by omega), if_pos (by omega), if_neg (by omega), rd_nat l i (by omega), wi (show i < l.length by omega) (by omega), w64 (x := s + l[i]) (by omega) (by omega), w64 (x := 2 * c) (by omega) (by omega), w64 (x := s + l[i] + 2 * c) (by omega) (by omega),
      tmod_pos _ _ (by omega), e, rapply_l c l h d (i + 1) k _ (by omega) (by omega) b1 (by omega), drop_cons l i (by omega), List.sum_cons, ← Int.add_assoc]
    rw [Int.emod_add_emod]
theorem RApply_f (c a : Int) (l : List Int) (k : Nat) (hk : l.length + 2 < k) : carrefourref27_Apply.f k c a l = some (app c a l) := by
  obtain ⟨k, rfl⟩ : ∃ m, k = m + 1 := ⟨k - 1, by omega⟩
  unfold carrefourref27_Apply.f app
  rw [may_f c l (k + 1) (by omega)]; simp only [Option.bind_some]
  by_cases h : okL c l
  · have hc := h.1
    rw [if_pos (by simpa using h), in_f, w64 (x := c - 1) (by omega) (by omega)]; simp only [Option.bind_some, carrefourref27_Apply.j0]
    by_cases ha : 0 ≤ a ∧ a ≤ c - 1
    · rw [if_neg (by simp [ha]), if_pos ⟨h, ha⟩]
      exact rapply_l c l h l.length 0 k a (by omega) (by omega) (by omega) (by omega)
    · rw [if_pos (by simp; omega), if_neg (fun x => ha x.2)]
  · rw [if_neg (by simpa using h), if_neg (fun x => h x.1)]; simp [carrefourref27_Apply.j0]

def great (l : List Int) (m : Int) : Int := l.foldl (fun m x => mx m x) m
theorem mx_ge (a b : Int) : a ≤ mx a b ∧ b ≤ mx a b ∧ (mx a b = a ∨ mx a b = b) := by unfold mx; split <;> omega
theorem great_ge (l : List Int) : ∀ m, m ≤ great l m := by
  induction l with
  | nil => intro m; exact Int.le_refl _
  | cons x l ih => intro m; have := ih (mx m x); have := (mx_ge m x).1; simp only [great, List.foldl_cons] at *; omega
theorem great_le (l : List Int) (b : Int) : ∀ m, m ≤ b → (∀ x ∈ l, x ≤ b) → great l m ≤ b := by
  induction l with
  | nil => intro m h _; exact h
  | cons x l ih =>
    intro m h hl
    have := ih (mx m x) (by have := (mx_ge m x).2.2; have := hl x (by simp); omega) (fun y hy => hl y (by simp [hy]))
    simpa [great] using this
theorem max_l (l : List Int) (hl : l.length ≤ 9223372036854775807) : ∀ (d i k : Nat) (m : Int), i + d = l.length → d < k → slices_Max_int64_int64.l0 k l m (i : Int) = some (great (l.drop i) m)
  | 0, i, k, m, hi, hk => by
    obtain ⟨k, rfl⟩ : ∃ m, k = m + 1 := ⟨k - 1, by omega⟩
    simp only [slices_Max_int64_int64.l0]; rw [if_neg (by omega), drop_end l i (by omega)]; rfl
  | d + 1, i, k, m, hi, hk => by
    obtain ⟨k, rfl⟩ : ∃ m, k = m + 1 := ⟨k - 1, by omega⟩
    simp only [slices_Max_int64_int64.l0]
    rw [if_pos (by omega), if_pos (by omega), rd_nat l i (by omega), wi (show i < l.length by omega) hl, max_l l hl d (i + 1) k _ (by omega) (by omega), drop_cons l i (by omega)]; rfl
def lon (c : Int) (l : List Int) : Int × Int := if okL c l then (c + great l 0, 0) else (0, 1)
theorem Longest_f (c : Int) (l : List Int) (k : Nat) (hk : l.length + 1 < k) : change_Longest.f k c l = some (lon c l) := by
  unfold change_Longest.f lon
  rw [right_f c l k (by omega)]; simp only [Option.bind_some]
  by_cases h : okL c l
  · obtain ⟨hc, hl, ha⟩ := h
    have hg := great_ge l 0
    have hg2 := great_le l c 0 (by omega) (fun x hx => by have := List.all_eq_true.1 ha x hx; simp [inr] at this; omega)
    rw [if_pos (decide_eq_true ⟨hc, hl, ha⟩), if_pos (show okL c l from ⟨hc, hl, ha⟩), if_pos (by simp; omega)]
    unfold slices_Max_int64_int64.f
    rw [if_neg (by simp; omega), if_pos (by simp), show (1 : Int) = ((1 : Nat) : Int) from rfl, max_l ([0] ++ l) (by simp; omega) l.length 1 k _ (by simp; omega) (by omega)]
    simp only [Option.bind_some]
    have e1 : ([0] ++ l).drop 1 = l := rfl
    have e2 : rd ([0] ++ l) 0 = 0 := rfl
    rw [e1, e2]
    have e3 : mx 0 (great l 0) = great l 0 := by unfold mx; split <;> omega
    rw [e3, w64 (by omega) (by omega)]
  · rw [if_neg (by simpa using h), if_neg h]
theorem rlon_l (c : Int) (l : List Int) (h : okL c l) : ∀ (d i k : Nat) (m : Int), i + d = l.length → d < k → carrefourref27_Longest.l0 k c l (c + m) (i : Int) = some (c + great (l.drop i) m, 0)
  | 0, i, k, m, hi, hk => by
    obtain ⟨k, rfl⟩ : ∃ m, k = m + 1 := ⟨k - 1, by omega⟩
    simp only [carrefourref27_Longest.l0]; rw [if_neg (by omega), drop_end l i (by omega)]; rfl
  | d + 1, i, k, m, hi, hk => by
    obtain ⟨k, rfl⟩ : ∃ m, k = m + 1 := ⟨k - 1, by omega⟩
    have hx := all_at h.2.2 i (by omega)
    have h' := h
    obtain ⟨hc, hl, ha⟩ := h'
    simp only [carrefourref27_Longest.l0]
    have e : mx (c + m) (c + l[i]) = c + mx m l[i] := by unfold mx; split <;> split <;> omega
    rw [if_pos (by omega), if_pos (by omega), rd_nat l i (by omega), wi (show i < l.length by omega) (by omega), w64 (x := c + l[i]) (by omega) (by omega), e, rlon_l c l h d (i + 1) k _ (by omega) (by omega), drop_cons l i (by omega)]; rfl
theorem RLongest_f (c : Int) (l : List Int) (k : Nat) (hk : l.length + 1 < k) : carrefourref27_Longest.f k c l = some (lon c l) := by
  unfold carrefourref27_Longest.f lon
  rw [may_f c l k (by omega)]; simp only [Option.bind_some]
  by_cases h : okL c l
  · rw [if_pos (by simpa using h), if_pos h]
    have := rlon_l c l h l.length 0 k 0 (by omega) (by omega)
    rw [show c + 0 = c by omega] at this
    exact this
  · rw [if_neg (by simpa using h), if_neg h]
theorem Apply_law (c a : Int) (l : List Int) : ∃ k, carrefourlaw27_ChangeApply.f k c a l = some true := by
  have hj : ∀ k, l.length + 50 ≤ k → ∀ x, carrefourlaw27_ChangeApply.j0 (k + 1) c a l x = some true := by
    intro k hk x
    simp only [carrefourlaw27_ChangeApply.j0]
    cases x with
    | true => rfl
    | false =>
      rw [if_neg (by simp), Apply_f c a l k (by omega), RApply_f c a l k (by omega), Longest_f c l k (by omega), RLongest_f c l k (by omega), awake_f k (by omega)]; simp
  refine ⟨l.length + 50 + 1, ?_⟩
  unfold carrefourlaw27_ChangeApply.f
  split <;> exact hj _ (Nat.le_refl _) _

/-! ### the changes lead; and back -/
/-- What is known of the changes, where there are some. -/
theorem ways_cases (c a b m l : Int) : (ways c a b m l).2 = 0 → may c a b m l ∧ ((a = b ∧ (ways c a b m l).1 = []) ∨
    (a ≠ b ∧ m ≠ 0 ∧ (l = 0 ∨ cd ((b - a) % c) m ≤ cd (c - (b - a) % c) l) ∧ (ways c a b m l).1 = way ((b - a) % c) m 1) ∨
    (a ≠ b ∧ l ≠ 0 ∧ (m = 0 ∨ cd (c - (b - a) % c) l < cd ((b - a) % c) m) ∧ (ways c a b m l).1 = way (c - (b - a) % c) l (-1))) := by
  unfold ways
  by_cases h : may c a b m l
  · rw [if_pos h]
    intro h0
    refine ⟨h, ?_⟩
    by_cases e : a = b
    · rw [if_pos e]; exact .inl ⟨e, rfl⟩
    · rw [if_neg e] at h0 ⊢
      by_cases u : up c ((b - a) % c) m l
      · rw [if_pos u]; exact .inr (.inl ⟨e, u.1, u.2, rfl⟩)
      · rw [if_neg u] at h0 ⊢
        by_cases hl : l ≠ 0
        · rw [if_pos hl]
          refine .inr (.inr ⟨e, hl, ?_, rfl⟩)
          by_cases hm : m = 0
          · exact .inl hm
          · refine .inr ?_
            have : ¬ (l = 0 ∨ cd ((b - a) % c) m ≤ cd (c - (b - a) % c) l) := fun x => u ⟨hm, x⟩
            omega
        · rw [if_neg hl] at h0; simp at h0
  · rw [if_neg h]; simp
theorem ways_err (c a b m l : Int) : (ways c a b m l).2 ≠ 0 → (ways c a b m l).1 = [] ∧ ((ways c a b m l).2 = 1 ∨ ((ways c a b m l).2 = 150 ∧ m = 0 ∧ l = 0)) := by
  unfold ways
  by_cases h : may c a b m l
  · rw [if_pos h]
    by_cases e : a = b
    · rw [if_pos e]; simp
    · rw [if_neg e]
      by_cases u : up c ((b - a) % c) m l
      · rw [if_pos u]; simp
      · rw [if_neg u]
        by_cases hl : l ≠ 0
        · rw [if_pos hl]; simp
        · rw [if_neg hl]
          intro _
          have hl0 : l = 0 := by omega
          exact ⟨rfl, .inr ⟨rfl, by_contra fun hm => u ⟨hm, .inl hl0⟩, hl0⟩⟩
  · rw [if_neg h]; simp
where by_contra {p : Prop} [Decidable p] (h : ¬ p → False) : p := Decidable.byContradiction h

theorem okL_way {c t m s : Int} (hc : 1 ≤ c ∧ c ≤ 6000) (ht : t ≤ 6000) (hm : 1 ≤ m ∧ m ≤ c) (hs : s = 1 ∨ s = -1) : okL c (way t m s) := by
  refine ⟨hc, stp_len' m s t ht, List.all_eq_true.2 fun x hx => ?_⟩
  obtain ⟨y, rfl, h1, h2⟩ := way_mem m s hm.1 t x hx
  rcases hs with rfl | rfl <;> simp [inr] <;> omega

theorem leads_l (k0 : Nat) (hk0 : 40 ≤ k0) (c a b m l : Int) (w : List Int) (hw : w.length ≤ 6000) (hl : -1000000 ≤ l ∧ l ≤ 1000000) (hm : ∀ x ∈ w, x ≠ 0 ∧ x ≤ m ∧ -l ≤ x)
    (hfin : ∀ k, 40 ≤ k → (if (w.length : Int) = 0 then (if a = b then ((carrefourlaw27_awake.f k).bind fun t231 => (some t231)) else (some false)) else (if c = 0 then (none) else (if (wrap64 ((wrap64 ((w.length : Int) - 1)) * m)) < (Int.tmod (wrap64 ((wrap64 (b - a)) + c)) c) then (if (wrap64 ((wrap64 ((w.length : Int) - 1)) * l)) < (wrap64 (c - (Int.tmod (wrap64 ((wrap64 (b - a)) + c)) c))) then ((carrefourlaw27_awake.f k).bind fun t232 => (some t232)) else (some false)) else (some false)))) = some true) :
    ∀ (d i k : Nat), i + d = w.length → d + 40 < k → carrefourlaw27_ChangeLeads.l0 k c a b m l w (i : Int) = some true
  | 0, i, k, hi, hk => by
    obtain ⟨k, rfl⟩ : ∃ m, k = m + 1 := ⟨k - 1, by omega⟩
    simp only [carrefourlaw27_ChangeLeads.l0]; rw [if_neg (by omega)]; exact hfin k (by omega)
  | d + 1, i, k, hi, hk => by
    obtain ⟨k, rfl⟩ : ∃ m, k = m + 1 := ⟨k - 1, by omega⟩
    obtain ⟨h1, h2, h3⟩ := hm w[i] (List.getElem_mem (by omega))
    simp only [carrefourlaw27_ChangeLeads.l0]
    rw [if_pos (by omega), if_pos (by omega), rd_nat w i (by omega), if_neg h1, if_neg (by omega), w64 (x := -l) (by omega) (by omega), if_neg (by omega), wi (show i < w.length by omega) (by omega)]
    exact leads_l k0 hk0 c a b m l w hw hl hm hfin d (i + 1) k (by omega) (by omega)

theorem Leads_law (c a b m l : Int) : carrefourlaw27_ChangeLeads.f 7000 c a b m l = some true := by
  unfold carrefourlaw27_ChangeLeads.f
  have hlen := ways_len c a b m l
  rw [Ways_f c a b m l 7000 (by omega)]; simp only [Option.bind_some]
  by_cases h0 : (ways c a b m l).2 = 0
  · rw [if_pos h0, Apply_f c a _ 7000 (by omega)]; simp only [Option.bind_some]
    obtain ⟨hmay, hcs⟩ := ways_cases c a b m l h0
    obtain ⟨hc, ha, hb, hm, hl⟩ := hmay
    generalize (ways c a b m l).1 = w at *
    -- the offset that it comes to, and what is asked of each change
    have key : app c a w = (b, 0) ∧ (∀ x ∈ w, x ≠ 0 ∧ x ≤ m ∧ -l ≤ x) ∧ (w = [] → a = b) ∧ (w ≠ [] → ((w.length : Int) - 1) * m < (b - a) % c ∧ ((w.length : Int) - 1) * l < c - (b - a) % c ∧ ((w.length : Int) - 1) * m ≥ 0 ∧ ((w.length : Int) - 1) * l ≥ 0) := by
      rcases hcs with ⟨e, hw⟩ | ⟨e, hm0, hu, hw⟩ | ⟨e, hl0, hd, hw⟩
      · subst hw
        refine ⟨?_, by simp, fun _ => e, fun x => absurd rfl x⟩
        unfold app; rw [if_pos ⟨⟨hc, by simp, rfl⟩, ha⟩]; simp; rw [Int.emod_eq_of_lt (by omega) (by omega)]; exact e
      · obtain ⟨g1, g2, g3⟩ := ahead c a b hc.1 ha hb e
        have hn := way_len m 1 (by omega) ((b - a) % c) (by omega)
        have hs := way_sum m 1 (by omega) ((b - a) % c) (by omega)
        have hcd := (cd_spec ((b - a) % c) m (by omega)).2
        subst hw
        refine ⟨?_, ?_, ?_, fun _ => ?_⟩
        · unfold app; rw [if_pos ⟨okL_way hc (by omega) (by omega) (.inl rfl), ha⟩, hs]
          congr 1
          rw [Int.one_mul]
          rcases g3 with g | g <;> rw [g]
          · rw [show a + (b - a) = b by omega, Int.emod_eq_of_lt (by omega) (by omega)]
          · rw [show a + (b - a + c) = b + c by omega, Int.add_emod_right, Int.emod_eq_of_lt (by omega) (by omega)]
        · intro x hx
          obtain ⟨y, rfl, h1, h2⟩ := way_mem m 1 (by omega) _ x hx
          omega
        · intro hnil
          rw [hnil] at hs; simp at hs; omega
        · have hpos : 1 ≤ cd ((b - a) % c) m := by
            by_cases hlt : cd ((b - a) % c) m ≤ 0
            · have := (cd_spec ((b - a) % c) m (by omega)).1
              have := Int.mul_le_mul_of_nonneg_right hlt (show 0 ≤ m by omega)
              omega
            · omega
          rw [hn]
          refine ⟨hcd, ?_, Int.mul_nonneg (by omega) (by omega), Int.mul_nonneg (by omega) (by omega)⟩
          rcases hu with hl0 | hle
          · rw [hl0]; omega
          · by_cases hl0 : l = 0
            · rw [hl0]; omega
            · have h2 := (cd_spec (c - (b - a) % c) l (by omega)).2
              have := Int.mul_le_mul_of_nonneg_right (show cd ((b - a) % c) m - 1 ≤ cd (c - (b - a) % c) l - 1 by omega) (show 0 ≤ l by omega)
              omega
      · obtain ⟨g1, g2, g3⟩ := ahead c a b hc.1 ha hb e
        have hn := way_len l (-1) (by omega) (c - (b - a) % c) (by omega)
        have hs := way_sum l (-1) (by omega) (c - (b - a) % c) (by omega)
        have hcd := (cd_spec (c - (b - a) % c) l (by omega)).2
        subst hw
        refine ⟨?_, ?_, ?_, fun _ => ?_⟩
        · unfold app; rw [if_pos ⟨okL_way hc (by omega) (by omega) (.inr rfl), ha⟩, hs]
          congr 1
          rcases g3 with g | g <;> rw [g]
          · rw [show a + -1 * (c - (b - a)) = b + c * (-1) by omega, Int.add_mul_emod_self_left, Int.emod_eq_of_lt (by omega) (by omega)]
          · rw [show a + -1 * (c - (b - a + c)) = b by omega, Int.emod_eq_of_lt (by omega) (by omega)]
        · intro x hx
          obtain ⟨y, rfl, h1, h2⟩ := way_mem l (-1) (by omega) _ x hx
          omega
        · intro hnil
          rw [hnil] at hs; simp at hs; omega
        · have hpos : 1 ≤ cd (c - (b - a) % c) l := by
            by_cases hlt : cd (c - (b - a) % c) l ≤ 0
            · have := (cd_spec (c - (b - a) % c) l (by omega)).1
              have := Int.mul_le_mul_of_nonneg_right hlt (show 0 ≤ l by omega)
              omega
            · omega
          rw [hn]
          refine ⟨?_, hcd, Int.mul_nonneg (by omega) (by omega), Int.mul_nonneg (by omega) (by omega)⟩
          rcases hd with hm0 | hle
          · rw [hm0]; omega
          · by_cases hm0 : m = 0
            · rw [hm0]; omega
            · have h2 := (cd_spec ((b - a) % c) m (by omega)).2
              have := Int.mul_le_mul_of_nonneg_right (show cd (c - (b - a) % c) l - 1 ≤ cd ((b - a) % c) m - 1 by omega) (show 0 ≤ m by omega)
              omega
    obtain ⟨k1, k2, k3, k4⟩ := key
    rw [k1]; simp only [if_true]
    have e0 : (b != b) = false := by simp
    rw [e0]
    simp only [carrefourlaw27_ChangeLeads.j0]
    rw [if_neg (by simp)]
    refine leads_l 40 (by omega) c a b m l w hlen (by omega) k2 (fun k hk => ?_) w.length 0 6999 (by omega) (by omega)
    rw [awake_f k hk]
    by_cases hn : (w.length : Int) = 0
    · have : w = [] := List.length_eq_zero_iff.1 (by omega)
      rw [if_pos hn, if_pos (k3 this)]; rfl
    · have hw : w ≠ [] := fun e => hn (by rw [e]; rfl)
      obtain ⟨p1, p2, p3, p4⟩ := k4 hw
      have e1 : (b - a + c) % c = (b - a) % c := by rw [Int.add_emod_right]
      have b1 := Int.emod_nonneg (b - a) (show c ≠ 0 by omega)
      have b2 := Int.emod_lt_of_pos (b - a) (show 0 < c by omega)
      rw [if_neg hn, if_neg (by omega), w64 (x := (w.length : Int) - 1) (by omega) (by omega), w64 (x := b - a) (by omega) (by omega), w64 (x := b - a + c) (by omega) (by omega), tmod_pos _ _ (by omega), e1,
        w64 (x := ((w.length : Int) - 1) * m) (by omega) (by omega), if_pos p1, w64 (x := ((w.length : Int) - 1) * l) (by omega) (by omega), w64 (x := c - (b - a) % c) (by omega) (by omega), if_pos p2]; rfl
  · obtain ⟨e1, e2⟩ := ways_err c a b m l h0
    rw [if_neg h0, e1, awake_f 7000 (by omega)]
    rcases e2 with e | ⟨e, hm, hl⟩
    · simp [e]
    · subst hm; subst hl; simp [e]

theorem ahead_back (c a b : Int) (hc : 1 ≤ c) (ha : 0 ≤ a ∧ a ≤ c - 1) (hb : 0 ≤ b ∧ b ≤ c - 1) (hne : a ≠ b) : (a - b) % c = c - (b - a) % c := by
  obtain ⟨g1, g2, g3⟩ := ahead c a b hc ha hb hne
  rcases g3 with g | g
  · have : (a - b) % c = (a - b + c) % c := by rw [Int.add_emod_right]
    rw [g, this, Int.emod_eq_of_lt (by omega) (by omega)]; omega
  · rw [g, Int.emod_eq_of_lt (by omega) (by omega)]; omega
theorem ways_back (c a b m l : Int) (h0 : (ways c a b m l).2 = 0) : (ways c b a l m).2 = 0 ∧ (ways c b a l m).1.length = (ways c a b m l).1.length := by
  obtain ⟨hmay, hcs⟩ := ways_cases c a b m l h0
  obtain ⟨hc, ha, hb, hm, hl⟩ := hmay
  have hmay' : may c b a l m := ⟨hc, hb, ha, hl, hm⟩
  by_cases e : a = b
  · rcases hcs with ⟨_, hw⟩ | ⟨ne, _⟩ | ⟨ne, _⟩
    · rw [hw]; unfold ways; rw [if_pos hmay', if_pos e.symm]; exact ⟨rfl, rfl⟩
    · exact absurd e ne
    · exact absurd e ne
  · have hab := ahead_back c a b hc.1 ha hb e
    obtain ⟨g1, g2, g3⟩ := ahead c a b hc.1 ha hb e
    rw [show ways c b a l m = _ from rfl]
    unfold ways
    rw [if_pos hmay', if_neg (Ne.symm e), hab, show c - (c - (b - a) % c) = (b - a) % c by omega]
    have hw2 : (ways c a b m l).1 = (ways c a b m l).1 := rfl
    rcases hcs with ⟨ne, _⟩ | ⟨_, hm0, hu, hw⟩ | ⟨_, hl0, hd, hw⟩
    · exact absurd ne e
    · have hl1 := way_len m 1 (by omega) ((b - a) % c) (by omega)
      have hl2 := way_len m (-1) (by omega) ((b - a) % c) (by omega)
      have hgoal : (ways c a b m l).1.length = (way ((b - a) % c) m 1).length := by rw [hw]
      unfold ways at hgoal
      rw [hgoal]
      by_cases u : up c (c - (b - a) % c) l m
      · rw [if_pos u]
        have hl3 := way_len l 1 (by have := u.1; omega) (c - (b - a) % c) (by omega)
        refine ⟨rfl, ?_⟩
        have u2 := u.2
        rw [show c - (c - (b - a) % c) = (b - a) % c by omega] at u2
        have := u.1
        show (way (c - (b - a) % c) l 1).length = _
        omega
      · rw [if_neg u, if_pos hm0]
        refine ⟨rfl, ?_⟩
        show (way ((b - a) % c) m (-1)).length = _
        omega
    · have hl1 := way_len l (-1) (by omega) (c - (b - a) % c) (by omega)
      have hl2 := way_len l 1 (by omega) (c - (b - a) % c) (by omega)
      have hgoal : (ways c a b m l).1.length = (way (c - (b - a) % c) l (-1)).length := by rw [hw]
      unfold ways at hgoal
      rw [hgoal]
      have u : up c (c - (b - a) % c) l m := ⟨hl0, by rw [show c - (c - (b - a) % c) = (b - a) % c by omega]; omega⟩
      rw [if_pos u]
      refine ⟨rfl, ?_⟩
      show (way (c - (b - a) % c) l 1).length = _
      omega
/-- What the changes come to. -/
theorem ways_app (c a b m l : Int) (h0 : (ways c a b m l).2 = 0) : okL c (ways c a b m l).1 ∧ ∃ q, (ways c a b m l).1.sum = b - a + c * q := by
  obtain ⟨hmay, hcs⟩ := ways_cases c a b m l h0
  obtain ⟨hc, ha, hb, hm, hl⟩ := hmay
  rcases hcs with ⟨e, hw⟩ | ⟨e, hm0, _, hw⟩ | ⟨e, hl0, _, hw⟩
  · rw [hw]; exact ⟨⟨hc, by simp, rfl⟩, 0, by simp; omega⟩
  · obtain ⟨g1, g2, g3⟩ := ahead c a b hc.1 ha hb e
    rw [hw, way_sum m 1 (by omega) _ (by omega)]
    refine ⟨okL_way hc (by omega) (by omega) (.inl rfl), ?_⟩
    rcases g3 with g | g
    · exact ⟨0, by omega⟩
    · exact ⟨1, by omega⟩
  · obtain ⟨g1, g2, g3⟩ := ahead c a b hc.1 ha hb e
    rw [hw, way_sum l (-1) (by omega) _ (by omega)]
    refine ⟨okL_way hc (by omega) (by omega) (.inr rfl), ?_⟩
    rcases g3 with g | g
    · exact ⟨-1, by omega⟩
    · exact ⟨0, by omega⟩
theorem back_l (c a b m l : Int) (w : List Int) (h : okL c w) (hfin : ∀ k, 6050 ≤ k → carrefourlaw27_ChangeBack.l0 (k + 1) w ((w.map (fun x => -x)).reverse) (-1) c a b m l = some true) :
    ∀ (j k : Nat), j ≤ w.length → j + 6050 < k → carrefourlaw27_ChangeBack.l0 k w (((w.drop j).map (fun x => -x)).reverse) ((j : Int) - 1) c a b m l = some true
  | 0, k, hj, hk => by
    obtain ⟨k, rfl⟩ : ∃ m, k = m + 1 := ⟨k - 1, by omega⟩
    exact hfin k (by omega)
  | j + 1, k, hj, hk => by
    obtain ⟨k, rfl⟩ : ∃ m, k = m + 1 := ⟨k - 1, by omega⟩
    obtain ⟨hc, hl, ha⟩ := h
    have hx := all_at ha j (by omega)
    simp only [carrefourlaw27_ChangeBack.l0]
    have e1 : ((j + 1 : Nat) : Int) - 1 = (j : Int) := by omega
    rw [e1, if_pos (by omega), if_pos (by omega), if_pos (by omega), if_pos (by simp; omega), rd_nat w j (by omega), w64 (x := -w[j]) (by omega) (by omega), w64 (x := (j : Int) - 1) (by omega) (by omega)]
    have e2 : ((w.drop (j + 1)).map (fun x => -x)).reverse ++ [-w[j]] = ((w.drop j).map (fun x => -x)).reverse := by
      rw [drop_cons w j (by omega), List.map_cons, List.reverse_cons]
    rw [e2]
    exact back_l c a b m l w ⟨hc, hl, ha⟩ hfin j k (by omega) (by omega)
theorem sum_neg (w : List Int) : ((w.map (fun x => -x)).reverse).sum = -w.sum := by
  rw [List.sum_reverse]
  induction w with
  | nil => rfl
  | cons x w ih => rw [List.map_cons, List.sum_cons, List.sum_cons, ih]; omega
theorem Back_law (c a b m l : Int) : carrefourlaw27_ChangeBack.f 15000 c a b m l = some true := by
  unfold carrefourlaw27_ChangeBack.f
  have hlen := ways_len c a b m l
  rw [Ways_f c a b m l 15000 (by omega)]; simp only [Option.bind_some]
  by_cases h0 : (ways c a b m l).2 = 0
  · rw [if_pos h0, w64 (by omega) (by omega)]
    obtain ⟨hok, q, hq⟩ := ways_app c a b m l h0
    obtain ⟨hb1, hb2⟩ := ways_back c a b m l h0
    obtain ⟨hmay, _⟩ := ways_cases c a b m l h0
    obtain ⟨hc, ha, hb, hm, hl⟩ := hmay
    generalize (ways c a b m l).1 = w at *
    have h := back_l c a b m l w hok (fun k hk => ?_) w.length 15000 (Nat.le_refl _) (by omega)
    · rw [drop_end w w.length (Nat.le_refl _)] at h; exact h
    · simp only [carrefourlaw27_ChangeBack.l0]
      rw [if_neg (by omega)]
      have hok' : okL c ((w.map (fun x => -x)).reverse) := ⟨hc, by simpa using hok.2.1, List.all_eq_true.2 fun x hx => by
        obtain ⟨y, hy, rfl⟩ := List.mem_map.1 (List.mem_reverse.1 hx)
        have := List.all_eq_true.1 hok.2.2 y hy
        simp [inr] at this ⊢; omega⟩
      rw [Apply_f c b _ k (by have := hok'.2.1; omega), Ways_f c b a l m k (by omega)]; simp only [Option.bind_some]
      have e1 : app c b ((w.map (fun x => -x)).reverse) = (a, 0) := by
        unfold app
        rw [if_pos ⟨hok', hb⟩, sum_neg, hq, show b + -(b - a + c * q) = a + c * (-q) by rw [Int.mul_neg]; omega, Int.add_mul_emod_self_left, Int.emod_eq_of_lt (by omega) (by omega)]
      rw [e1, awake_f k (by omega)]
      simp [hb1, hb2]
  · rw [if_neg h0, awake_f 15000 (by omega)]; rfl
end Go.Proofs.Ytnhnckhkfdoadaa.WalkCh
namespace Go.Proofs.Ytnhnckhkfdoadaa.Walk
open Go.RowKit Go.Proofs.YtnhnckhkfdoadaaW.PrintWords Go.Proofs.YtnhnckhkfdoadaaW.PrintLast Go.Proofs.YtnhnckhkfdoadaaW.PrintMore Go.Proofs.Ytnhnckhkfdoadaa.PCh
/-- For every input ChangeWays returns true, and lays memory of its own alone. -/
theorem ChangeWays (c a b m l : Int) (w : World) (_ : (Lit.int .i64 c).wf = true) (_ : (Lit.int .i64 a).wf = true) (_ : (Lit.int .i64 b).wf = true) (_ : (Lit.int .i64 m).wf = true) (_ : (Lit.int .i64 l).wf = true) :
    Calls Try.prog 6 #[.agg #[.int .i64 c, .int .i64 a, .int .i64 b, .int .i64 m, .int .i64 l]] w fun e w' => e = .returned (.bool true) ∧ Below w.heap.size w w' :=
  carrefourlaw27_ChangeWays.calls 7000 c a b m l true w (WalkCh.Ways_law c a b m l)
/-- For every input ChangeLeads returns true, and lays memory of its own alone. -/
theorem ChangeLeads (c a b m l : Int) (w : World) (_ : (Lit.int .i64 c).wf = true) (_ : (Lit.int .i64 a).wf = true) (_ : (Lit.int .i64 b).wf = true) (_ : (Lit.int .i64 m).wf = true) (_ : (Lit.int .i64 l).wf = true) :
    Calls Try.prog 8 #[.agg #[.int .i64 c, .int .i64 a, .int .i64 b, .int .i64 m, .int .i64 l]] w fun e w' => e = .returned (.bool true) ∧ Below w.heap.size w w' :=
  carrefourlaw27_ChangeLeads.calls 7000 c a b m l true w (WalkCh.Leads_law c a b m l)
/-- For every input ChangeBack returns true, and lays memory of its own alone. -/
theorem ChangeBack (c a b m l : Int) (w : World) (_ : (Lit.int .i64 c).wf = true) (_ : (Lit.int .i64 a).wf = true) (_ : (Lit.int .i64 b).wf = true) (_ : (Lit.int .i64 m).wf = true) (_ : (Lit.int .i64 l).wf = true) :
    Calls Try.prog 9 #[.agg #[.int .i64 c, .int .i64 a, .int .i64 b, .int .i64 m, .int .i64 l]] w fun e w' => e = .returned (.bool true) ∧ Below w.heap.size w w' :=
  carrefourlaw27_ChangeBack.calls 15000 c a b m l true w (WalkCh.Back_law c a b m l)
/-- For every input ChangeApply returns true, and lays memory of its own alone. -/
theorem ChangeApply (c a : Int) (A : Option Addr) (cap : Nat) (l : List Int) (w : World) (_ : (Lit.int .i64 c).wf = true) (_ : (Lit.int .i64 a).wf = true) (hr : Kd.C (Kd.int .i64) w A l.length l) (hc : l.length ≤ cap) (_ : l.length * 8 ≤ 140737488351232) (_ : ∀ x ∈ l, (Lit.int .i64 x).wf = true) :
    Calls Try.prog 7 #[.int .i64 c, .int .i64 a, .slice A l.length cap] w fun e w' => e = .returned (.bool true) ∧ Below w.heap.size w w' := by
  obtain ⟨k, h⟩ := WalkCh.Apply_law c a l
  exact carrefourlaw27_ChangeApply.calls k c a A cap l true w hr hc h
end Go.Proofs.Ytnhnckhkfdoadaa.Walk
