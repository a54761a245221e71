import Derived.Test.YtghmhkpgdmgepaaDevJ
/-! Device: what is few is always told; the examples. -/
set_option linter.unusedVariables false
set_option linter.unusedSimpArgs false
namespace Go.Proofs.YtghmhkpgdmgepaaV
open Go Go.RowKit

def Tot (x : Option Bool) : Prop := ∃ r, x = some r
theorem tot_ite {c : Prop} [Decidable c] {x y : Option Bool} (h1 : c → Tot x) (h2 : ¬ c → Tot y) : Tot (if c then x else y) := by
  by_cases h : c
  · rw [if_pos h]; exact h1 h
  · rw [if_neg h]; exact h2 h
theorem tot_some (b : Bool) : Tot (some b) := ⟨b, rfl⟩
theorem tot_loop (n : Nat) (L : Nat → Int → Option Bool) (hstep : ∀ j (i : Nat), i < n → Tot (L j ((i + 1 : Nat) : Int)) → Tot (L (j + 1) (i : Int))) (hend : ∀ j, Tot (L (j + 1) (n : Int))) : ∀ (j i : Nat), i ≤ n → n - i < j → Tot (L j (i : Int))
  | 0, i, h1, h2 => by omega
  | j + 1, i, h1, h2 => by
    by_cases h : i = n
    · rw [h]; exact hend j
    · exact hstep j i (by omega) (tot_loop n L hstep hend j (i + 1) (by omega) (by omega))
section
variable (K : Nat) (hK : 100 ≤ K)
include hK
theorem few26 (j4 j10 j15 j21 : Nat) (a0 a1 a2 : Int) (a3 : List YT1) (o : Nat) (ho : o < a3.length) (hw : (a3.getD o zt1).2.2.2.2.1.length ≤ 12) (ho2 : a3.length ≤ 8) (a6 : Int) (a7 : List YT3) (a8 a9 a10 a11 : Int) (a12 : Bool) (a13 : Int) (a14 : List Int) (a15 : Int) (a16 : List ((List (List YT1)) × Unit)) (a17 a18 : Int)
    (h : Tot (f5_l21 K j4 j10 j15 j21 a0 a1 a2 a3 ((o + 1 : Nat) : Int) a6 a7 a8 a9 a10 a11 a12 a13 a14 a15 a16 a17 a18)) : Tot (f5_l26 K j4 j10 j15 j21 K a0 a1 a2 a3 (o : Int) 0 a6 a7 a8 a9 a10 a11 a12 a13 a14 a15 a16 a17 a18) := by
  refine tot_loop (a3.getD o zt1).2.2.2.2.1.length (fun j q => f5_l26 K j4 j10 j15 j21 j a0 a1 a2 a3 (o : Int) q a6 a7 a8 a9 a10 a11 a12 a13 a14 a15 a16 a17 a18) (fun j q hq ih => ?_) (fun j => ?_) K 0 (by omega) (by omega)
  · rw [f5_el26, f5_tl26]
    simp only [cinB, cd, rdA_nat, suc_nat]
    rw [if_pos (by omega), if_pos (by omega), if_pos (by omega), if_pos (by omega)]
    refine tot_ite (fun _ => tot_some _) (fun _ => ?_)
    rw [w64 (by omega)]
    exact ih
  · rw [f5_el26, f5_tl26]
    simp only [cinB, cd, rdA_nat, suc_nat]
    rw [if_pos (by omega), if_neg (by omega), w64 (by omega)]
    exact h
theorem few21 (j4 j10 j15 : Nat) (a0 a1 : Int) (m : Nat) (hm : m < 1000) (a3 : List YT1) (ho2 : a3.length ≤ 8) (a5 : Int) (a6 : List YT3) (a7 a8 a9 a10 : Int) (a11 : Bool) (a12 : Int) (a13 : List Int) (a14 : Int) (a15 : List ((List (List YT1)) × Unit)) (a16 a17 : Int)
    (h : Tot (f5_l15 K j4 j10 j15 a0 a1 ((m + 1 : Nat) : Int) a5 a6 a7 a8 a9 a10 a11 a12 a13 a14 a15 a16 a17)) : Tot (f5_l21 K j4 j10 j15 K a0 a1 (m : Int) a3 0 a5 a6 a7 a8 a9 a10 a11 a12 a13 a14 a15 a16 a17) := by
  refine tot_loop a3.length (fun j q => f5_l21 K j4 j10 j15 j a0 a1 (m : Int) a3 q a5 a6 a7 a8 a9 a10 a11 a12 a13 a14 a15 a16 a17) (fun j q hq ih => ?_) (fun j => ?_) K 0 (by omega) (by omega)
  · rw [f5_el21, f5_tl21]
    simp only [cinB, cd, rdA_nat, suc_nat]
    rw [if_pos (by omega), if_pos (by omega)]
    refine tot_ite (fun _ => tot_some _) (fun _ => ?_)
    rw [if_pos (by omega)]
    refine tot_ite (fun _ => tot_some _) (fun hn => ?_)
    exact few26 K hK j4 j10 j15 j a0 a1 m a3 q hq (by omega) ho2 _ _ _ _ _ _ _ _ _ _ _ _ _ ih
  · rw [f5_el21, f5_tl21]
    simp only [cinB, cd, rdA_nat, suc_nat]
    rw [if_neg (by omega), w64 (by omega)]
    exact h
theorem few15 (j4 j10 : Nat) (a0 : Int) (q : Nat) (a13 : List ((List (List YT1)) × Unit)) (hq : q < a13.length) (h6 : a13.length ≤ 6) (hr : (a13.getD q ([], ())).1.length ≤ 6) (a3 : Int) (a4 : List YT3) (a5 a6 a7 a8 : Int) (a9 : Bool) (a10 : Int) (a11 : List Int) (a12 : Int) (a14 a15 : Int)
    (h : Tot (f5_l10 K j4 j10 a0 ((q + 1 : Nat) : Int) a3 a4 a5 a6 a7 a8 a9 a10 a11 a12 a13 a14 a15)) : Tot (f5_l15 K j4 j10 K a0 (q : Int) 0 a3 a4 a5 a6 a7 a8 a9 a10 a11 a12 a13 a14 a15) := by
  refine tot_loop (a13.getD q ([], ())).1.length (fun j m => f5_l15 K j4 j10 j a0 (q : Int) m a3 a4 a5 a6 a7 a8 a9 a10 a11 a12 a13 a14 a15) (fun j m hm ih => ?_) (fun j => ?_) K 0 (by omega) (by omega)
  · rw [f5_el15, f5_tl15]
    simp only [cinB, cd, rdA_nat, suc_nat]
    rw [if_pos (by omega), if_pos (by omega), if_pos (by omega), if_pos (by omega)]
    refine tot_ite (fun _ => tot_some _) (fun hn => ?_)
    exact few21 K hK j4 j10 j a0 q m (by omega) _ (by omega) _ _ _ _ _ _ _ _ _ _ _ _ _ ih
  · rw [f5_el15, f5_tl15]
    simp only [cinB, cd, rdA_nat, suc_nat]
    rw [if_pos (by omega), if_neg (by omega), w64 (by omega)]
    exact h
theorem few10 (j4 : Nat) (i : Nat) (hi : i < 1000) (a12 : List ((List (List YT1)) × Unit)) (h6 : a12.length ≤ 6) (a2 : Int) (a3 : List YT3) (a4 a5 a6 a7 : Int) (a8 : Bool) (a9 : Int) (a10 : List Int) (a11 : Int) (a13 a14 : Int)
    (h : Tot (f5_l4 K j4 ((i + 1 : Nat) : Int) a2 a3 a4 a5 a6 a7 a8 a9)) : Tot (f5_l10 K j4 K (i : Int) 0 a2 a3 a4 a5 a6 a7 a8 a9 a10 a11 a12 a13 a14) := by
  refine tot_loop a12.length (fun j m => f5_l10 K j4 j (i : Int) m a2 a3 a4 a5 a6 a7 a8 a9 a10 a11 a12 a13 a14) (fun j m hm ih => ?_) (fun j => ?_) K 0 (by omega) (by omega)
  · rw [f5_el10, f5_tl10]
    simp only [cinB, cd, rdA_nat, suc_nat]
    rw [if_pos (by omega), if_pos (by omega)]
    refine tot_ite (fun _ => tot_some _) (fun hn => ?_)
    exact few15 K hK j4 j i m a12 hm h6 (by omega) _ _ _ _ _ _ _ _ _ _ _ _ ih
  · rw [f5_el10, f5_tl10]
    simp only [cinB, cd, rdA_nat, suc_nat]
    rw [if_neg (by omega), w64 (by omega)]
    exact h
theorem few_tot (a0 : Int) (a1 : List YT3) (a2 a3 a4 a5 : Int) (a6 : Bool) (a7 : Int) : Tot (c5 K (a0, a1, a2, a3, a4, a5, a6, a7)) := by
  unfold c5
  rw [f5_e, f5_t, cd]
  refine tot_ite (fun _ => tot_some _) (fun hn => ?_)
  refine tot_loop a1.length (fun j m => f5_l4 K j m a0 a1 a2 a3 a4 a5 a6 a7) (fun j m hm ih => ?_) (fun j => ?_) K 0 (by omega) (by omega)
  · rw [f5_el4, f5_tl4]
    simp only [cinB, cd, rdA_nat, suc_nat]
    rw [if_pos (by omega), if_pos (by omega)]
    refine tot_ite (fun _ => tot_some _) (fun _ => ?_)
    refine tot_ite (fun _ => tot_some _) (fun hn => ?_)
    exact few10 K hK j m (by omega) _ (by omega) _ _ _ _ _ _ _ _ _ _ _ _ ih
  · rw [f5_el4, f5_tl4]
    simp only [cinB, cd, rdA_nat, suc_nat]
    rw [if_neg (by omega)]
    exact tot_some _
end
end Go.Proofs.YtghmhkpgdmgepaaV
