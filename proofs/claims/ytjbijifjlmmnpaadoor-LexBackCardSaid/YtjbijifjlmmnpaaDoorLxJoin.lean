import Derived.Test.YtjbijifjlmmnpaaDoorLxQ
import Derived.Test.YtjbijifjlmmnpaaDoorLxAw
import Derived.Test.YtjbijifjlmmnpaaDoorV30
/-! LexJoin, the plain law. -/
set_option linter.unusedVariables false
set_option linter.unusedSimpArgs false
namespace Go.Proofs.YtjbijifjlmmnpaaDoorV
open Go Go.RowKit

theorem drp_app_nil : ∀ (m : Bool) (a b : List Int), drp m a = [] → drp m (a ++ 10 :: b) = drp false b
  | true, [], b, _ => by simp [drp]
  | false, [], b, _ => by simp [drp, isBlank]
  | true, x :: a, b, h => by
    rw [drp] at h
    rw [List.cons_append, drp]
    split at h
    · rename_i e; rw [if_pos e]; exact drp_app_nil false a b h
    · rename_i e; rw [if_neg e]; exact drp_app_nil true a b h
  | false, x :: a, b, h => by
    rw [drp] at h
    rw [List.cons_append, drp]
    split at h
    · rename_i e; rw [if_pos e]; exact drp_app_nil true a b h
    · rename_i e
      rw [if_neg e]
      split at h
      · rename_i e2; rw [if_pos e2]; exact drp_app_nil false a b h
      · cases h
theorem drp_app_cons : ∀ (m : Bool) (a t : List Int) {x : Int} {r : List Int}, drp m a = x :: r → drp m (a ++ t) = x :: r ++ t
  | true, [], t, x, r, h => by simp [drp] at h
  | false, [], t, x, r, h => by simp [drp] at h
  | true, y :: a, t, x, r, h => by
    rw [drp] at h
    rw [List.cons_append, drp]
    split at h
    · rename_i e; rw [if_pos e]; exact drp_app_cons false a t h
    · rename_i e; rw [if_neg e]; exact drp_app_cons true a t h
  | false, y :: a, t, x, r, h => by
    rw [drp] at h
    rw [List.cons_append, drp]
    split at h
    · rename_i e; rw [if_pos e]; exact drp_app_cons true a t h
    · rename_i e
      rw [if_neg e]
      split at h
      · rename_i e2; rw [if_pos e2]; exact drp_app_cons false a t h
      · rename_i e2; rw [if_neg e2, ← h]; rfl

def shiftT (d : Nat) (t : Tk) : Tk := (t.1, t.2.1, t.2.2.1, t.2.2.2.1 + (d : Int), ())
theorem lx_shift (d n : Nat) : ∀ (f : Nat) (s : List Int), s.length ≤ n → (lx n f s).1 = 0 → lx (d + n) f s = (0, 0, (lx n f s).2.2.map (shiftT d))
  | 0, s, _, _ => rfl
  | f + 1, s, hs, h => by
    have hl := drp_len false s
    rw [lx] at h ⊢
    rw [lx]
    cases hd : drp false s with
    | nil =>
      simp only [List.map_cons, List.map_nil, shiftT]
      rw [show ((d + n : Nat) : Int) = (n : Int) + (d : Int) by omega]
    | cons x r =>
      rw [hd] at h hl
      simp only [] at h ⊢
      by_cases h0 : (tok1 (x :: r)).1 = 0
      · have hr := tok1_rest h0
        rw [List.length_cons] at hl
        rw [if_pos h0] at h ⊢
        by_cases h1 : (lx n f (tok1 (x :: r)).2.2.2.2).1 = 0
        · have IH := lx_shift d n f _ (by omega) h1
          rw [if_pos h0, if_pos h1, if_pos (by rw [IH])]
          simp only [IH, List.map_cons, shiftT]
          rw [show ((d + n - (x :: r).length : Nat) : Int) = ((n - (x :: r).length : Nat) : Int) + (d : Int) by rw [List.length_cons]; omega]
        · rw [if_neg h1] at h; exact absurd h h1
      · rw [if_neg h0] at h; exact absurd h h0

theorem lx_join (na : Nat) (b : List Int) (g : Nat) (hg : b.length < g) (hb : (lx b.length g b).1 = 0) : ∀ (f : Nat) (s : List Int), s.length < f → s.length ≤ na → (lx na f s).1 = 0 →
    lx (na + 1 + b.length) (f + g) (s ++ 10 :: b) = (0, 0, (lx na f s).2.2.dropLast ++ (lx b.length g b).2.2.map (shiftT (na + 1)))
  | 0, s, h, _, _ => by omega
  | f + 1, s, hs, hn, h => by
    have hl := drp_len false s
    cases hd : drp false s with
    | nil =>
      have e : lx (na + 1 + b.length) (f + 1 + g) (s ++ 10 :: b) = lx (na + 1 + b.length) g b := by
        rw [lx_fuel _ g (f + 1 + g) b hg (by omega), show f + 1 + g = (f + g) + 1 by omega, lx, lx, drp_app_nil false s b hd]
      rw [e, lx_shift (na + 1) b.length g b (Nat.le_refl _) hb, lx, hd]
      rfl
    | cons x r =>
      rw [lx, hd] at h
      rw [hd] at hl
      simp only [] at h
      rw [show f + 1 + g = (f + g) + 1 by omega, lx, drp_app_cons false s (10 :: b) hd, lx, hd]
      rw [List.cons_append]
      simp only []
      rw [← List.cons_append]
      by_cases h0 : (tok1 (x :: r)).1 = 0
      · have hr := tok1_rest h0
        rw [List.length_cons] at hl
        have et := tok1_app (c := 10) (b := b) (by decide) h0
        rw [if_pos h0] at h
        by_cases h1 : (lx na f (tok1 (x :: r)).2.2.2.2).1 = 0
        · have IH := lx_join na b g hg hb f _ (by omega) (by omega) h1
          simp only [et, if_true, if_pos h0, if_pos h1, IH]
          have hne : (lx na f (tok1 (x :: r)).2.2.2.2).2.2 ≠ [] := by
            cases f with
            | zero => omega
            | succ f =>
              rw [lx] at h1 ⊢
              cases hd2 : drp false (tok1 (x :: r)).2.2.2.2 with
              | nil => simp
              | cons y q =>
                rw [hd2] at h1
                simp only [] at h1 ⊢
                split at h1
                · rename_i g0
                  rw [if_pos g0]
                  split at h1
                  · rename_i g1; rw [if_pos g1]; simp
                  · rename_i g1; exact absurd h1 g1
                · rename_i g0; exact absurd h1 g0
          rw [List.dropLast_cons_of_ne_nil hne, List.cons_append]
          have ep : na + 1 + b.length - (x :: (r ++ 10 :: b)).length = na - (x :: r).length := by
            simp only [List.length_append, List.length_cons]
            omega
          rw [ep]
          rfl
        · rw [if_neg h1] at h; exact absurd h h1
      · rw [if_neg h0] at h; exact absurd h h0
theorem lx_ne (n : Nat) : ∀ (f : Nat) (s : List Int), s.length < f → (lx n f s).1 = 0 → 0 < (lx n f s).2.2.length
  | 0, s, h, _ => by omega
  | f + 1, s, hs, h1 => by
    rw [lx] at h1 ⊢
    cases hd2 : drp false s with
    | nil => simp
    | cons y q =>
      rw [hd2] at h1
      simp only [] at h1 ⊢
      split at h1
      · rename_i g0
        rw [if_pos g0]
        split at h1
        · rename_i g1; rw [if_pos g1]; simp
        · rename_i g1; exact absurd h1 g1
      · rename_i g0; exact absurd h1 g0
theorem lx_many (n : Nat) : ∀ (f : Nat) (s : List Int), (lx n f s).2.2.length ≤ f
  | 0, s => Nat.le_refl _
  | f + 1, s => by
    rw [lx]
    have IH := lx_many n f
    cases hd2 : drp false s with
    | nil => simp
    | cons y q =>
      simp only []
      split
      · split
        · rw [List.length_cons]; have := IH (tok1 (y :: q)).2.2.2.2; omega
        · simp
      · simp

def tkey (pl : Bool) (t : Tk) : Int × List Int × Int × Int := (t.1, t.2.1, t.2.2.1, if pl then t.2.2.2.1 else 0)
theorem same_loop (k : Nat) (pl : Bool) (xs ys : List Tk) (hl : xs.length < 1000000) (hxy : xs.length = ys.length) : ∀ (r r' p p' : List Tk) (j : Nat), xs = p ++ r → ys = p' ++ r' → p.length = p'.length → r.length < j → r.map (tkey pl) = r'.map (tkey pl) → f10_l4 k j xs ys pl (p.length : Int) = some true
  | _, _, _, _, 0, _, _, _, h, _ => by omega
  | [], r', p, p', j + 1, h1, h2, h3, h, he => by
    have : xs.length = p.length := by rw [h1]; simp
    rw [f10_el4, f10_tl4, cd, if_neg (by omega)]
  | x :: r, [], p, p', j + 1, h1, h2, h3, h, he => by simp at he
  | x :: r, y :: r', p, p', j + 1, h1, h2, h3, h, he => by
    have hx : xs.length = p.length + (r.length + 1) := by rw [h1]; simp
    rw [List.map_cons, List.map_cons, List.cons.injEq] at he
    obtain ⟨e0, e1⟩ := he
    have IH := same_loop k pl xs ys hl hxy r r' (p ++ [x]) (p' ++ [y]) j (by rw [h1]; simp) (by rw [h2]; simp) (by simp [h3]) (by simp at h; omega) e1
    rw [List.length_append, List.length_singleton] at IH
    unfold tkey at e0
    simp only [Prod.mk.injEq] at e0
    rw [f10_el4, f10_tl4]
    have g1 : xs.getD p.length tkD = x := by rw [h1]; exact getD_mid _ _ _ _
    have g2 : ys.getD p.length tkD = y := by rw [h2, h3]; exact getD_mid _ _ _ _
    simp only [cd, cinB, cbeq, cbne, cnot, rdA_nat, g1, g2]
    simp only [if_pos (show (0 : Int) ≤ (p.length : Int) ∧ (p.length : Int) < ((xs.length : Nat) : Int) by omega), if_pos (show (0 : Int) ≤ (p.length : Int) ∧ (p.length : Int) < ((ys.length : Nat) : Int) by omega)]
    rw [if_pos (by omega), if_pos e0.1, if_pos e0.2.1, if_pos e0.2.2.1, w64 (by omega), suc_nat, IH]
    cases pl with
    | false => rfl
    | true => rw [cond_true, if_pos (by simpa using e0.2.2.2)]
theorem same_some (k : Nat) (pl : Bool) (xs ys : List Tk) (hk : xs.length < k) (hl : xs.length < 1000000) (h : xs.map (tkey pl) = ys.map (tkey pl)) : c10 k (xs, ys, pl) = some true := by
  have hxy : xs.length = ys.length := by have := congrArg List.length h; simpa using this
  unfold c10
  rw [f10_e, f10_t, cbne, if_pos (by omega)]
  exact same_loop k pl xs ys hl hxy xs ys [] [] k rfl rfl rfl hk h

theorem lexJoin_pure (a b : List Int) (h : WfD (.slice (.int .u8)) a) (h' : WfD (.slice (.int .u8)) b) : ∃ k, c5 k (a, b) = some true := by
  obtain ⟨K, hK⟩ : ∃ K, K = 70000 := ⟨_, rfl⟩
  have ha : c9 K () = some true := hK ▸ awake_true
  refine ⟨K, ?_⟩
  unfold c5
  rw [f5_e, f5_t, cd, cd]
  by_cases hl : a.length > 2000
  · rw [if_pos (by omega)]
  by_cases hl2 : b.length > 2000
  · rw [if_neg (by omega), if_pos (by omega)]
  rw [if_neg (by omega), if_neg (by omega), tokens_some K a (by omega) (by omega), Option.bind_some, tokens_some K b (by omega) (by omega), Option.bind_some, cbne, cbne, ha]
  refine iteS (fun h0 => iteS (fun h1 => ?_) (fun _ => rfl)) (fun _ => rfl)
  have hc : ([] ++ a ++ [10] ++ b : List Int).length = a.length + 1 + b.length := by simp; omega
  simp only [cappB]
  rw [if_pos (by simp; omega), if_pos (by simp; omega), if_pos (by simp; omega), tokens_some K _ (by omega) (by omega), Option.bind_some]
  have c1 : ¬ 65536 < a.length := by omega
  have c2 : ¬ 65536 < b.length := by omega
  have c3 : ¬ 65536 < ([] ++ a ++ [10] ++ b : List Int).length := by omega
  unfold toks at h0 h1 ⊢
  rw [if_neg c1] at h0
  rw [if_neg c2] at h1
  rw [if_neg c1, if_neg c2, if_neg c3, List.nil_append]
  have hj := lx_join a.length b (b.length + 1) (by omega) h1 (a.length + 1) a (by omega) (Nat.le_refl _) h0
  have ea : a ++ [10] ++ b = a ++ 10 :: b := by simp
  rw [ea, show (a ++ 10 :: b).length = a.length + 1 + b.length by rw [List.length_append, List.length_cons]; omega, lx_fuel _ (a.length + 1 + b.length + 1) (a.length + 1 + (b.length + 1)) _ (by rw [List.length_append, List.length_cons]; omega) (by rw [List.length_append, List.length_cons]; omega), hj]
  have n1 := lx_ne a.length (a.length + 1) a (by omega) h0
  have n2 := lx_many a.length (a.length + 1) a
  have n3 := lx_many b.length (b.length + 1) b
  generalize (lx a.length (a.length + 1) a).2.2 = l at *
  generalize (lx b.length (b.length + 1) b).2.2 = m at *
  obtain ⟨i, z, rfl⟩ : ∃ i z, l = i ++ [z] := ⟨l.dropLast, l.getLast (by intro e; rw [e] at n1; simp at n1), (List.dropLast_concat_getLast _).symm⟩
  rw [List.length_append, List.length_singleton] at n2
  rw [f5_ej9, f5_tj9]
  simp only [List.dropLast_concat, List.length_append, List.length_singleton, List.length_map]
  rw [cbeq, if_pos rfl, cd, if_pos (by omega), w64 (n := ((i.length + 1 : Nat) : Int) - 1) (by omega)]
  rw [show ((i.length + 1 : Nat) : Int) - 1 = (i.length : Int) by omega, w64 (by omega), cbeq, if_pos (by omega), ccutB, if_pos (by omega), ccutB, if_pos (by omega), ccutB, if_pos (by omega)]
  rw [show (0 : Int) = ((0 : Nat) : Int) from rfl, cutL_nat, cutL_nat, cutL_nat]
  rw [List.drop_zero, List.drop_zero, List.take_left' rfl, List.take_left' rfl, show i.length + m.length = (i ++ m.map (shiftT (a.length + 1))).length by simp, List.take_length, List.drop_left' rfl]
  rw [same_some K true i i (by omega) (by omega) rfl, Option.bind_some, cond_true, same_some K false _ m (by simp; omega) (by simp; omega) ?_, Option.bind_some, cond_true, ha]
  · rfl
  · rw [List.map_map]
    rfl
end Go.Proofs.YtjbijifjlmmnpaaDoorV
