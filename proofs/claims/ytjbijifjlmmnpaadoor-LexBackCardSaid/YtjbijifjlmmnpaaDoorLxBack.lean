import Derived.Test.YtjbijifjlmmnpaaDoorLxJoin
import Derived.Test.YtjbijifjlmmnpaaDoorXJ
/-! LexBack, the plain law. -/
set_option linter.unusedVariables false
set_option linter.unusedSimpArgs false
namespace Go.Proofs.YtjbijifjlmmnpaaDoorV
open Go Go.RowKit

theorem few_loop (k : Nat) (l : List Tk) (hl : l.length ≤ 9223372036854775807) : ∀ (r pre : List Tk) (j : Nat), l = pre ++ r → (∀ t ∈ pre, t.2.1.length ≤ 200) → 201 - pre.length < j → pre.length ≤ 201 →
    ∃ o, f15_l2 k j l (pre.length : Int) = some o ∧ (o = true → l.length ≤ 200 ∧ ∀ t ∈ l, t.2.1.length ≤ 200)
  | _, _, 0, _, _, h, _ => by omega
  | [], pre, j + 1, h1, h2, h, _ => by
    have e : l = pre := by rw [h1]; simp
    rw [f15_el2, f15_tl2, cd, if_neg (by rw [e]; omega)]
    exact ⟨_, rfl, fun o => ⟨by simp at o; omega, by rw [e]; exact h2⟩⟩
  | t :: r, pre, j + 1, h1, h2, h, hp => by
    have hlen : l.length = pre.length + (r.length + 1) := by rw [h1]; simp
    have g1 : l.getD pre.length tkD = t := by rw [h1]; exact getD_mid _ _ _ _
    rw [f15_el2, f15_tl2]
    simp only [cd, cinB, rdA_nat, g1]
    rw [if_pos (by omega)]
    by_cases h200 : pre.length ≤ 200
    · rw [if_pos (by omega), if_pos (by omega)]
      by_cases ht : t.2.1.length > 200
      · rw [if_pos (by omega)]
        exact ⟨_, rfl, fun o => by cases o⟩
      · rw [if_neg (by omega), w64 (by omega), suc_nat]
        have IH := few_loop k l hl r (pre ++ [t]) j (by rw [h1]; simp) (by
          intro u hu
          rcases List.mem_append.1 hu with hu | hu
          · exact h2 u hu
          · rw [List.mem_singleton.1 hu]; omega) (by rw [List.length_append, List.length_singleton]; omega) (by rw [List.length_append, List.length_singleton]; omega)
        rw [List.length_append, List.length_singleton] at IH
        exact IH
    · rw [if_neg (by omega)]
      exact ⟨_, rfl, fun o => by simp at o; omega⟩
theorem few_some (k : Nat) (l : List Tk) (hk : 202 < k) (hl : l.length ≤ 9223372036854775807) : ∃ o, c15 k l = some o ∧ (o = true → l.length ≤ 200 ∧ ∀ t ∈ l, t.2.1.length ≤ 200) := by
  unfold c15
  rw [f15_e, f15_t]
  exact few_loop k l hl l [] k rfl (fun t ht => by cases ht) (by simp; omega) (by simp)

def rgt (t : Tk) : Bool := rightB t.1 t.2.1 t.2.2.1
theorem back_loop (k : Nat) (l : List Tk) (hk : 202 < k) (hl : l.length ≤ 200) (ht : ∀ t ∈ l, t.2.1.length ≤ 200) : ∀ (r pre : List Tk) (j : Nat) (acc : List Tk), l = pre ++ r → acc.length ≤ pre.length → r.length < j →
    f7_l5 k (c15 k) (c11 k) (c12 k) (c16 k) (c8 k) (c17 k) (c10 k) (c9 k) j l (pre.length : Int) acc = f7_tl5 (c15 k) (c11 k) (c12 k) (c16 k) (c8 k) (c17 k) (c10 k) (c9 k) (fun _ _ _ => none) l (l.length : Int) (acc ++ r.filter rgt)
  | _, _, 0, _, _, _, h => by omega
  | [], pre, j + 1, acc, h1, h2, h => by
    have e : l = pre := by rw [h1]; simp
    rw [f7_el5, ← e]
    unfold f7_tl5
    simp only [cd, List.filter_nil, List.append_nil]
    rw [if_neg (by omega), if_neg (by omega)]
  | t :: r, pre, j + 1, acc, h1, h2, h => by
    have hlen : l.length = pre.length + (r.length + 1) := by rw [h1]; simp
    have g1 : l.getD pre.length tkD = t := by rw [h1]; exact getD_mid _ _ _ _
    have htt := ht t (by rw [h1]; simp)
    rw [f7_el5]
    rw [f7_tl5]
    have hR := right_some k t.1 t.2.1 t.2.2.1 t.2.2.2.1 (by omega) (by omega)
    have hR2 := rright_some k t.1 t.2.1 t.2.2.1 t.2.2.2.1 (by omega) (by omega)
    simp only [cd, cinB, rdA_nat, g1, hR, hR2, Option.bind_some, beq_self_eq_true, Bool.not_true, cond_false]
    rw [if_pos (by omega)]
    simp only [if_pos (show (0 : Int) ≤ (pre.length : Int) ∧ (pre.length : Int) < ((l.length : Nat) : Int) by omega)]
    rw [cappB, if_pos (by simp only [List.length_cons, List.length_nil]; omega), w64 (by omega), suc_nat]
    have IH := fun a b c => back_loop k l hk hl ht r (pre ++ [t]) j a (by rw [h1]; simp) b c
    rw [List.length_append, List.length_singleton] at IH
    rw [List.filter_cons]
    unfold rgt
    cases hb : rightB t.1 t.2.1 t.2.2.1 with
    | true =>
      rw [cond_true, if_pos rfl]
      have e : (t.1, t.2.1, t.2.2.1, t.2.2.2.1, ()) = t := rfl
      rw [e]
      have := IH (acc ++ [t]) (by rw [List.length_append, List.length_singleton]; omega) (by simp at h; omega)
      rw [this]
      unfold rgt
      rw [List.append_assoc, List.singleton_append]
    | false =>
      rw [cond_false, if_neg (by simp)]
      exact IH acc (by omega) (by simp at h; omega)

/-- How tokens are spelt. -/
def spl (l : List Tk) : List Int := joinI [32] (l.map (·.2.1))
theorem rgt_kd {t : Tk} (h : rgt t = true) : t.1 ≠ 0 ∧ t.2.1.length ≤ 24 := by
  unfold rgt rightB at h
  rw [decide_eq_true_eq] at h
  obtain ⟨h1, h2, h3⟩ := h
  cases hx : t.2.1 with
  | nil => exact absurd hx h1
  | cons x r =>
    rw [hx] at h3
    have := tok1_spec (x := x) (r := r) (by rw [h3])
    rw [h3] at this
    exact ⟨this.2.2.1, this.2.2.2⟩
theorem spell_loop (k : Nat) (l : List Tk) (hl : l.length ≤ 1000000) (hr : ∀ t ∈ l, t.1 ≠ 0) : ∀ (r pre : List Tk) (j : Nat), l = pre ++ r → r.length < j →
    f16_l3 k (c23 k) j l (l.length : Int) (pre.length : Int) (pre.map (·.2.1)) = c23 k (l.map (·.2.1), [32])
  | _, _, 0, _, h => by omega
  | [], pre, j + 1, h1, h => by
    have e : l = pre := by rw [h1]; simp
    rw [f16_el3, f16_tl3, cd, ← e, if_neg (by omega)]
    cases c23 k (l.map (·.2.1), [32]) <;> rfl
  | t :: r, pre, j + 1, h1, h => by
    have hlen : l.length = pre.length + (r.length + 1) := by rw [h1]; simp
    have g1 : l.getD pre.length tkD = t := by rw [h1]; exact getD_mid _ _ _ _
    rw [f16_el3, f16_tl3]
    simp only [cd, cinB, rdA_nat, g1, cbne, cappB]
    rw [if_pos (by omega), if_pos (by omega), if_neg (hr t (by rw [h1]; simp)), if_pos (by simp only [List.length_map, List.length_cons, List.length_nil]; omega), w64 (by omega), suc_nat]
    have IH := spell_loop k l hl hr r (pre ++ [t]) j (by rw [h1]; simp) (by simp at h; omega)
    rw [List.length_append, List.length_singleton, List.map_append] at IH
    exact IH
theorem spell_some (k : Nat) (l : List Tk) (hk : l.length < k) (hl : l.length ≤ 1000000) (hr : ∀ t ∈ l, rgt t = true) (hb : ∀ t ∈ l, byB t.2.1) : c16 k l = some (spl l) := by
  unfold c16
  rw [f16_e, f16_t]
  have := spell_loop k l hl (fun t ht => (rgt_kd (hr t ht)).1) l [] k rfl hk
  rw [List.map_nil, List.length_nil] at this
  rw [show (0 : Int) = ((0 : Nat) : Int) from rfl, this]
  have hlen := joinI_len [32] 24 (l.map (·.2.1)) (fun w hw => by
    obtain ⟨t, ht, rfl⟩ := List.mem_map.1 hw
    exact (rgt_kd (hr t ht)).2)
  rw [List.length_map, List.length_singleton] at hlen
  exact joinS_eq [32] _ (by intro x hx; simp at hx; omega) (fun w hw => by
    obtain ⟨t, ht, rfl⟩ := List.mem_map.1 hw
    exact hb t ht) (by omega) (by rw [List.length_map]; omega)

def splT : List Tk → List Int
  | [] => []
  | t :: r => 32 :: t.2.1 ++ splT r
theorem spl_cons : ∀ (t : Tk) (r : List Tk), spl (t :: r) = t.2.1 ++ splT r
  | t, [] => by simp [spl, splT, joinI]
  | t, u :: r => by
    have := spl_cons u r
    show t.2.1 ++ ([32] ++ spl (u :: r)) = _
    rw [this]
    simp [splT]
theorem splT_len (m : Nat) : ∀ (l : List Tk), (∀ t ∈ l, t.2.1.length ≤ m) → (splT l).length ≤ l.length * (m + 1)
  | [], _ => Nat.zero_le _
  | t :: r, h => by
    have IH := splT_len m r fun u hu => h u (by simp [hu])
    have := h t (by simp)
    show (32 :: t.2.1 ++ splT r).length ≤ _
    rw [List.length_append, List.length_cons, List.length_cons, Nat.add_mul]
    omega
theorem rspell_loop (k : Nat) (l : List Tk) (hl : l.length ≤ 1000000) (hr : ∀ t ∈ l, rgt t = true) : ∀ (r pre : List Tk) (j : Nat) (s : List Int), l = pre ++ r → r.length < j → s.length ≤ 30 * pre.length →
    f17_l4 k j l s false (pre.length : Int) = some (s ++ splT r)
  | _, _, 0, _, _, h, _ => by omega
  | [], pre, j + 1, s, h1, h, hs => by
    have e : l = pre := by rw [h1]; simp
    rw [f17_el4, f17_tl4, cd, ← e, if_neg (by omega)]
    simp [splT]
  | t :: r, pre, j + 1, s, h1, h, hs => by
    have hlen : l.length = pre.length + (r.length + 1) := by rw [h1]; simp
    have g1 : l.getD pre.length tkD = t := by rw [h1]; exact getD_mid _ _ _ _
    have hk := rgt_kd (hr t (by rw [h1]; simp))
    have hm : maxLen = 9223372036854775807 := rfl
    rw [f17_el4, f17_tl4]
    simp only [cd, cinB, rdA_nat, g1, cbeq, Bool.not_false, cond_true]
    rw [if_pos (by omega), if_pos (by omega), if_neg hk.1, if_pos (by rw [hm]; simp; omega), f17_ej9, f17_tj9]
    simp only [cd, cinB, rdA_nat, g1]
    rw [if_pos (by omega), if_pos (by rw [hm, List.length_append]; simp; omega), w64 (by omega), suc_nat]
    have IH := rspell_loop k l hl hr r (pre ++ [t]) j (s ++ [32] ++ t.2.1) (by rw [h1]; simp) (by simp at h; omega) (by simp only [List.length_append, List.length_cons, List.length_nil]; omega)
    rw [List.length_append, List.length_singleton] at IH
    rw [IH]
    simp [splT]
theorem rspell_some (k : Nat) (l : List Tk) (hk : l.length < k) (hl : l.length ≤ 1000000) (hr : ∀ t ∈ l, rgt t = true) : c17 k l = some (spl l) := by
  unfold c17
  rw [f17_e, f17_t]
  cases l with
  | nil =>
    obtain ⟨k', rfl⟩ : ∃ k', k = k' + 1 := ⟨k - 1, by simp at hk; omega⟩
    rw [f17_el4, f17_tl4, cd, if_neg (by simp)]
    rfl
  | cons t r =>
    obtain ⟨k', rfl⟩ : ∃ k', k = k' + 1 := ⟨k - 1, by simp at hk; omega⟩
    have hkd := rgt_kd (hr t (by simp))
    have hm : maxLen = 9223372036854775807 := rfl
    have g1 : (t :: r).getD 0 tkD = t := rfl
    have hlen : (t :: r).length = r.length + 1 := rfl
    have g2 : rdA tkD (t :: r) (Int.toNat 0) = t := rfl
    rw [f17_el4, f17_tl4]
    simp only [cd, cinB, g2, cbeq, Bool.not_true, cond_false]
    rw [if_pos (by omega), if_pos (by omega), if_neg hkd.1, f17_ej9, f17_tj9]
    simp only [cd, cinB, g2]
    rw [if_pos (by omega), if_pos (by rw [hm]; simp; omega), w64 (by omega), show (0 : Int) + 1 = ((1 : Nat) : Int) from rfl]
    have := rspell_loop (k' + 1) (t :: r) hl hr r [t] k' ([] ++ t.2.1) rfl (by simp at hk; omega) (by simp; omega)
    rw [List.length_singleton] at this
    rw [this, spl_cons, List.nil_append]

/-- The tokens of what is spelt. -/
theorem lx_spl (n : Nat) : ∀ (l : List Tk), (∀ t ∈ l, rgt t = true) → ∀ (f : Nat), (spl l).length < f → (lx n f (spl l)).1 = 0 ∧ (lx n f (spl l)).2.2.map (tkey false) = l.map (tkey false) ++ [(0, [], 0, 0)]
  | [], _, 0, h => by omega
  | [], _, f + 1, _ => by
    rw [show spl [] = [] from rfl, lx]
    exact ⟨rfl, rfl⟩
  | t :: r, hr, 0, h => by omega
  | t :: r, hr, f + 1, h => by
    have ht := hr t (by simp)
    unfold rgt rightB at ht
    rw [decide_eq_true_eq] at ht
    obtain ⟨h1, h2, h3⟩ := ht
    cases hx : t.2.1 with
    | nil => exact absurd hx h1
    | cons x q =>
      rw [hx] at h2 h3
      cases r with
      | nil =>
        have e : spl [t] = x :: q := by rw [spl_cons, hx]; simp [splT]
        rw [e] at h ⊢
        rw [lx, h2]
        simp only [h3, if_true]
        have hf : ∃ g, f = g + 1 := ⟨f - 1, by simp at h; omega⟩
        obtain ⟨g, rfl⟩ := hf
        rw [lx]
        simp [drp, tkey, hx]
      | cons u r =>
        have e : spl (t :: u :: r) = x :: q ++ 32 :: spl (u :: r) := by
          show t.2.1 ++ ([32] ++ spl (u :: r)) = _
          rw [hx]; rfl
        rw [e, List.length_append, List.length_cons, List.length_cons] at h
        have et := tok1_app (c := 32) (by decide) (x := x) (r := q) (b := spl (u :: r)) (by rw [h3])
        rw [h3] at et
        simp only [List.nil_append] at et
        have IH := lx_spl n (u :: r) (fun v hv => hr v (by simp [hv])) f (by omega)
        have e32 : lx n f (32 :: spl (u :: r)) = lx n f (spl (u :: r)) := by
          cases f with
          | zero => rfl
          | succ f => rw [lx, lx, drp, if_neg (by decide), if_pos (by decide)]
        rw [e, lx, drp_app_cons false _ _ h2]
        rw [List.cons_append]
        simp only []
        rw [← List.cons_append]
        simp only [et, if_true, e32, IH.1]
        refine ⟨trivial, ?_⟩
        rw [List.map_cons, IH.2]
        simp [tkey, hx]

theorem lexBack_pure (l : List Tk) (hw : WfD (.slice (.cons (.int .i64) (.cons .str (.cons (.int .i64) (.cons (.int .i64) .nil))))) l) : ∃ k, c7 k l = some true := by
  obtain ⟨K, hK⟩ : ∃ K, K = 70000 := ⟨_, rfl⟩
  have ha : c9 K () = some true := hK ▸ awake_true
  refine ⟨K, ?_⟩
  have hml : l.length ≤ maxLen := hw.1
  have hm : maxLen = 9223372036854775807 := rfl
  unfold c7
  rw [f7_e, f7_t]
  · obtain ⟨o, h1, h2⟩ := few_some K l (by omega) (by omega)
    rw [h1, Option.bind_some]
    cases o with
    | false => rfl
    | true =>
      obtain ⟨hl, ht⟩ := h2 rfl
      rw [Bool.not_true, cond_false]
      have := back_loop K l (by omega) hl ht l [] K [] rfl (Nat.le_refl _) (by omega)
      rw [List.length_nil, List.nil_append] at this
      refine Eq.trans this ?_
      have hg : ∀ t ∈ l.filter rgt, rgt t = true := fun t ht => (List.mem_filter.1 ht).2
      have hgl : (l.filter rgt).length ≤ 200 := Nat.le_trans (List.length_filter_le _ _) hl
      have hgb : ∀ t ∈ l.filter rgt, byB t.2.1 := fun t ht => by
        have := hw.2 t (List.mem_filter.1 ht).1
        exact this.2.1.1
      generalize l.filter rgt = good at *
      have hsl : (spl good).length ≤ 5000 := by
        have hlen := joinI_len [32] 24 (good.map (·.2.1)) (fun w hw => by
          obtain ⟨t, ht, rfl⟩ := List.mem_map.1 hw
          exact (rgt_kd (hg t ht)).2)
        rw [List.length_map, List.length_singleton] at hlen
        exact Nat.le_trans hlen (by omega)
      rw [f7_tl5, cd, if_neg (by omega), spell_some K good (by omega) (by omega) hg hgb, Option.bind_some, tokens_some K _ (by omega) (by omega), Option.bind_some, rspell_some K good (by omega) (by omega) hg, Option.bind_some, beq_self_eq_true, cond_true]
      have hL := lx_spl (spl good).length good hg ((spl good).length + 1) (by omega)
      unfold toks
      rw [if_neg (by omega)]
      generalize lx (spl good).length ((spl good).length + 1) (spl good) = y at *
      have hyl : y.2.2.length = good.length + 1 := by
        have := congrArg List.length hL.2
        simpa using this
      rw [cbeq, if_pos hL.1, cbeq, if_pos (by rw [hyl, w64 (by omega)]; omega), ccutB, if_pos (by omega), show (0 : Int) = ((0 : Nat) : Int) from rfl, cutL_nat, List.drop_zero]
      rw [same_some K false _ good (by rw [List.length_take]; omega) (by rw [List.length_take]; omega) ?_, Option.bind_some, cond_true, ha]
      · rfl
      · rw [List.map_take, hL.2, List.take_left' (by simp)]
end Go.Proofs.YtjbijifjlmmnpaaDoorV
