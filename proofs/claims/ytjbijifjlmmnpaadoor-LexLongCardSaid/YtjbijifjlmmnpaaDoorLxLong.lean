import Derived.Test.YtjbijifjlmmnpaaDoorLxQ
import Derived.Test.YtjbijifjlmmnpaaDoorLxAw
import Derived.Test.YtjbijifjlmmnpaaDoorV30
/-! LexLong, the plain law. -/
set_option linter.unusedVariables false
set_option linter.unusedSimpArgs false
namespace Go.Proofs.YtjbijifjlmmnpaaDoorV
open Go Go.RowKit

theorem fill_loop (k : Nat) (n : Nat) (hn : n < 1000000) : ∀ (m i j : Nat), i + m = n → m < j →
    f4_l3 k (c8 k) (c9 k) j (i : Int) (List.replicate i 32 ++ List.replicate m 0) = f4_tl3 (c8 k) (c9 k) (fun _ _ => none) (f4_l10 k (c8 k) (c9 k) k) (n : Int) (List.replicate n 32)
  | 0, i, 0, _, h => by omega
  | 0, i, j + 1, hi, h => by
    have : i = n := by omega
    subst this
    rw [f4_el3]
    unfold f4_tl3
    simp only [List.replicate_zero, List.append_nil, List.length_replicate, cd]
    rw [if_neg (by omega), if_neg (by omega)]
  | m + 1, i, 0, _, h => by omega
  | m + 1, i, j + 1, hi, h => by
    have IH := fill_loop k n hn m (i + 1) j (by omega) (by omega)
    rw [f4_el3, f4_tl3, cd, if_pos (by simp; omega), cinB, if_pos (by simp; omega), w64 (by omega), suc_nat, ← IH]
    congr 1
    rw [Int.toNat_natCast, List.set_append_right _ _ (by simp)]
    simp only [List.length_replicate, Nat.sub_self, List.replicate_succ, List.set_cons_zero]
    rw [← List.replicate_succ, List.replicate_succ', List.append_assoc]
    rfl

theorem drp_blanks (m : Nat) : drp false (List.replicate m 32) = [] := by
  induction m with
  | zero => rfl
  | succ m ih => rw [List.replicate_succ, drp, if_neg (by decide)]; exact ih
theorem tw_blanks (m : Nat) : (55 :: List.replicate m (32 : Int)).takeWhile isDig = [55] ∧ (55 :: List.replicate m (32 : Int)).dropWhile isDig = List.replicate m 32 := by
  cases m with
  | zero => exact ⟨rfl, rfl⟩
  | succ m => rw [List.replicate_succ]; exact ⟨rfl, rfl⟩
theorem toks_seven (m : Nat) (h : m + 1 ≤ 65536) : toks (55 :: List.replicate m 32) = (0, 0, [(2, [55], 7, 0, ()), (0, [], 0, ((m + 1 : Nat) : Int), ())]) := by
  have hl : (55 :: List.replicate m (32 : Int)).length = m + 1 := by simp
  have ht : tok1 (55 :: List.replicate m 32) = (0, 2, [55], 7, List.replicate m 32) := by
    rw [tok1, if_neg (by decide), if_pos (by decide), (tw_blanks m).1, (tw_blanks m).2]
    rfl
  have hd : drp false (55 :: List.replicate m 32) = 55 :: List.replicate m 32 := by
    rw [drp, if_neg (by decide), if_neg (by decide)]
  unfold toks
  rw [hl, if_neg (by omega), lx, hd]
  simp only [ht, if_true, hl, Nat.sub_self]
  rw [lx, drp_blanks]
  rfl

theorem word_loop (k : Nat) (a0 a1 a2 : Int) (a4 : List Tk) : ∀ (m i j : Nat), i + m = 24 → m < j →
    f4_l10 k (c8 k) (c9 k) j a0 a1 a2 (List.replicate i 97) a4 = f4_l13 k (c8 k) (c9 k) k a0 a1 a2 (List.replicate 24 97) [] a4
  | 0, i, 0, _, h => by omega
  | 0, i, j + 1, hi, h => by
    have : i = 24 := by omega
    subst this
    rw [f4_el10, f4_tl10, cd, if_neg (by simp)]
  | m + 1, i, 0, _, h => by omega
  | m + 1, i, j + 1, hi, h => by
    have IH := word_loop k a0 a1 a2 a4 m (i + 1) j (by omega) (by omega)
    have hm : maxLen = 9223372036854775807 := rfl
    rw [f4_el10, f4_tl10, cd, if_pos (by simp; omega), cd, if_pos (by rw [hm]; simp; omega), ← IH, List.replicate_succ']
theorem num_loop (k : Nat) (a0 a1 a2 : Int) (a3 : List Int) (a5 : List Tk) : ∀ (m i j : Nat), i + m = 18 → m < j →
    f4_l13 k (c8 k) (c9 k) j a0 a1 a2 a3 (List.replicate i 57) a5 = f4_tl13 (c8 k) (c9 k) (fun _ _ _ _ _ _ => none) a0 a1 a2 a3 (List.replicate 18 57) a5
  | 0, i, 0, _, h => by omega
  | 0, i, j + 1, hi, h => by
    have : i = 18 := by omega
    subst this
    rw [f4_el13]
    unfold f4_tl13
    simp only [List.length_replicate, cd]
    simp only [if_neg (show ¬ ((18 : Nat) : Int) < 18 by omega)]
  | m + 1, i, 0, _, h => by omega
  | m + 1, i, j + 1, hi, h => by
    have IH := num_loop k a0 a1 a2 a3 a5 m (i + 1) j (by omega) (by omega)
    have hm : maxLen = 9223372036854775807 := rfl
    rw [f4_el13, f4_tl13, cd, if_pos (by simp; omega), cd, if_pos (by rw [hm]; simp; omega), ← IH, List.replicate_succ']

theorem lexLong_pure : ∃ k, c4 k () = some true := by
  obtain ⟨K, hK⟩ : ∃ K, K = 70000 := ⟨_, rfl⟩
  have ha : c9 K () = some true := hK ▸ awake_true
  refine ⟨K, ?_⟩
  have hm : maxLen = 9223372036854775807 := rfl
  obtain ⟨K', rfl⟩ : ∃ K', K = K' + 1 := ⟨K - 1, by omega⟩
  unfold c4
  rw [f4_e, f4_t, cand, cand, cand, cd, cd, cd, cd, if_pos (by decide), if_pos (by decide), if_pos (by decide), if_pos (by decide)]
  obtain ⟨n, hn⟩ : ∃ n, n = 65536 := ⟨_, rfl⟩
  have e0 : (Int.toNat 65536) = n := by rw [hn]; rfl
  have e1 := fill_loop (K' + 1) n (by omega) n 0 (K' + 1) (by omega) (by omega)
  rw [List.replicate_zero, List.nil_append] at e1
  rw [e0, show (0 : Int) = ((0 : Nat) : Int) from rfl]
  refine Eq.trans e1 ?_
  obtain ⟨p, rfl⟩ : ∃ p, n = p + 1 := ⟨n - 1, by omega⟩
  have e2 : (List.replicate (p + 1) (32 : Int)).set (Int.toNat 0) 55 = 55 :: List.replicate p 32 := by rw [List.replicate_succ]; rfl
  rw [f4_tl3, e2, cd, if_neg (by simp), cinB, if_pos (by simp), tokens_some _ _ (by simp; omega) (by simp; omega), Option.bind_some, toks_seven p (by omega), cappB, if_pos (by simp; omega)]
  rw [tokens_some _ _ (by simp; omega) (by simp; omega), Option.bind_some]
  have e3 : toks (55 :: List.replicate p 32 ++ [32]) = (4, 65536, []) := by
    unfold toks
    rw [if_pos (by simp; omega)]
  rw [e3]
  have e4 := word_loop (K' + 1) 0 4 65536 [(2, [55], 7, 0, ()), (0, [], 0, ((p + 1 : Nat) : Int), ())] 24 0 (K' + 1) (by omega) (by omega)
  refine Eq.trans e4 ?_
  have e5 := num_loop (K' + 1) 0 4 65536 (List.replicate 24 97) [(2, [55], 7, 0, ()), (0, [], 0, ((p + 1 : Nat) : Int), ())] 18 0 (K' + 1) (by omega) (by omega)
  refine Eq.trans e5 ?_
  have t1 : toks (List.replicate 24 97 ++ [32] ++ List.replicate 18 57) = (0, 0, [(1, List.replicate 24 97, 0, 0, ()), (2, List.replicate 18 57, 999999999999999999, 25, ()), (0, [], 0, 43, ())]) := by kernel_rfl
  have t2 : toks ([32, 32] ++ List.replicate 24 97 ++ [98]) = (4, 2, []) := by kernel_rfl
  have t3 : toks ([44] ++ List.replicate 18 57 ++ [57]) = (4, 1, []) := by kernel_rfl
  rw [f4_tl13, cd, if_neg (by simp), cd, if_pos (by rw [hm]; decide), cd, if_pos (by rw [hm]; decide), tokens_some _ _ (by simp; omega) (by simp), Option.bind_some, t1]
  rw [cd, if_pos (by rw [hm]; decide), cd, if_pos (by rw [hm]; decide), tokens_some _ _ (by simp; omega) (by simp), Option.bind_some, t2]
  rw [cd, if_pos (by rw [hm]; decide), cd, if_pos (by rw [hm]; decide), tokens_some _ _ (by simp; omega) (by simp), Option.bind_some, t3, ha]
  have e6 : ((p + 1 : Nat) : Int) = 65536 := by omega
  rw [e6]
  rfl
end Go.Proofs.YtjbijifjlmmnpaaDoorV
