import Derived.Test.YtghmhkpgdmgepaaGreatDoorB3
import Derived.Test.YtghmhkpgdmgepaaGreatDoorB7
import Derived.Test.YtghmhkpgdmgepaaGreatDoorB6
/-! Joined, names shortened: LxS, LxP, LxR, LxQ, FG0, FG1, FG2, FA, FB, FC, FD, FS, FS2, LJ, FT, FE, FF, FW, FX, FY, DE, DF, DI. -/
set_option linter.unusedVariables false
set_option linter.unusedSimpArgs false
namespace Go.Proofs.YtghmhkpgdmgepaaGreatDoorV
open Go Go.RowKit
abbrev Tk := (Int) × ((List Int) × ((Int) × ((Int) × (Unit))))
def B7 (x : Int) : Bool := decide (97 ≤ x) && decide (x ≤ 122)
def Aw (x : Int) : Bool := decide (48 ≤ x) && decide (x ≤ 57)
def C7 (x : Int) : Bool := decide (x = 32 ∨ x = 9 ∨ x = 10 ∨ x = 13)
def Fg (x : Int) : Bool := decide (x = 123 ∨ x = 125 ∨ x = 44 ∨ x = 59 ∨ x = 58 ∨ x = 47 ∨ x = 45)
def Bh (x : Int) : Bool := B7 x || (Aw x || decide (x = 95))
def drp : Bool → List Int → List Int
 | _, [] => []
 | true, x :: r => if x = 10 then drp false r else drp true r
 | false, x :: r => if x = 35 then drp true r else if C7 x then drp false r else x :: r
def valD (l : List Int) : Int := l.foldl (fun v c => 10 * v + (c - 48)) 0
def tok1 : List Int → Int × Int × List Int × Int × List Int
 | [] => (40, 0, [], 0, [])
 | x :: r =>
  if B7 x then (if 24 < ((x :: r).takeWhile Bh).length then (4, 0, [], 0, []) else (0, 1, (x :: r).takeWhile Bh, 0, (x :: r).dropWhile Bh))
  else if Aw x then (if 18 < ((x :: r).takeWhile Aw).length then (4, 0, [], 0, []) else (0, 2, (x :: r).takeWhile Aw, valD ((x :: r).takeWhile Aw), (x :: r).dropWhile Aw))
  else if Fg x then (0, 3, [x], 0, r)
  else (40, 0, [], 0, [])
def lx (n : Nat) : Nat → List Int → Int × Int × List Tk
 | 0, _ => (0, 0, [])
 | f + 1, s => match drp false s with
  | [] => (0, 0, [(0, [], 0, (n : Int), ())])
  | x :: r => if (tok1 (x :: r)).1 = 0 then
    (if (lx n f (tok1 (x :: r)).2.2.2.2).1 = 0 then
     (0, 0, ((tok1 (x :: r)).2.1, (tok1 (x :: r)).2.2.1, (tok1 (x :: r)).2.2.2.1, ((n - (x :: r).length : Nat) : Int), ()) :: (lx n f (tok1 (x :: r)).2.2.2.2).2.2)
    else ((lx n f (tok1 (x :: r)).2.2.2.2).1, (lx n f (tok1 (x :: r)).2.2.2.2).2.1, []))
   else ((tok1 (x :: r)).1, ((n - (x :: r).length : Nat) : Int), [])
def toks (b : List Int) : Int × Int × List Tk := if 65536 < b.length then (4, 65536, []) else lx b.length (b.length + 1) b
theorem Kn : ∀ (m : Bool) (s : List Int), drp m s <:+ s
 | _, [] => by cases ‹Bool› <;> simp [drp]
 | true, x :: r => by
  rw [drp]; split
  ·exact (Kn false r).trans (List.suffix_cons x r)
  ·exact (Kn true r).trans (List.suffix_cons x r)
 | false, x :: r => by
  rw [drp]; split
  ·exact (Kn true r).trans (List.suffix_cons x r)
  ·split
   ·exact (Kn false r).trans (List.suffix_cons x r)
   ·exact List.suffix_refl _
theorem Sa (m : Bool) (s : List Int) : (drp m s).length ≤ s.length := (Kn m s).length_le
theorem Np : ∀ (m : Bool) (s : List Int) {x : Int} {r : List Int}, drp m s = x :: r → x ≠ 35 ∧ C7 x = false
 | _, [], x, r, h => by cases ‹Bool› <;> simp [drp] at h
 | true, y :: q, x, r, h => by
  rw [drp] at h; split at h
  ·exact Np false q h
  ·exact Np true q h
 | false, y :: q, x, r, h => by
  rw [drp] at h; split at h
  ·exact Np true q h
  ·split at h
   ·exact Np false q h
   ·rename_i h1 h2
    cases h
    exact ⟨h1, by simpa using h2⟩
theorem Lz {x : Int} {r : List Int} (h : (tok1 (x :: r)).1 = 0) :
  (tok1 (x :: r)).2.2.1 ++ (tok1 (x :: r)).2.2.2.2 = x :: r ∧ (tok1 (x :: r)).2.2.1 ≠ [] ∧ (tok1 (x :: r)).2.1 ≠ 0 ∧ (tok1 (x :: r)).2.2.1.length ≤ 24 := by
 simp only [tok1] at h ⊢
 split at h
 ·rename_i h1
  simp only [h1, if_true]
  split at h
  ·simp at h
  ·rename_i h2
   rw [if_neg h2]
   refine ⟨List.takeWhile_append_dropWhile, ?_, by simp, by simp only []; omega⟩
   have : Bh x = true := by simp [Bh, h1]
   simp [List.takeWhile_cons, this]
 ·rename_i h1
  simp only [h1, Bool.false_eq_true, if_false]
  split at h
  ·rename_i h2
   simp only [h2, if_true]
   split at h
   ·simp at h
   ·rename_i h3
    rw [if_neg h3]
    refine ⟨List.takeWhile_append_dropWhile, ?_, by simp, by simp only []; omega⟩
    simp [List.takeWhile_cons, h2]
  ·rename_i h2
   simp only [h2, Bool.false_eq_true, if_false]
   split at h
   ·rename_i h3; simp [h3]
   ·simp at h
theorem V1 {x : Int} {r : List Int} (h : (tok1 (x :: r)).1 = 0) : (tok1 (x :: r)).2.2.2.2.length ≤ r.length := by
 obtain ⟨h1, h2, _⟩ := Lz h
 have e := congrArg List.length h1
 rw [List.length_append, List.length_cons] at e
 have : (tok1 (x :: r)).2.2.1.length ≠ 0 := fun h => h2 (List.length_eq_zero_iff.1 h)
 omega
theorem Asu (n : Nat) : ∀ (f f' : Nat) (s : List Int), s.length < f → s.length < f' → lx n f s = lx n f' s
 | 0, _, _, h, _ => by omega
 | _ + 1, 0, _, _, h => by omega
 | f + 1, f' + 1, s, h, h' => by
  have hl := Sa false s
  rw [lx, lx]
  cases hd : drp false s with
  | nil => rfl
  | cons x r =>
   rw [hd, List.length_cons] at hl
   simp only []
   by_cases h0 : (tok1 (x :: r)).1 = 0
   ·have := V1 h0
    rw [if_pos h0, if_pos h0, Asu n f f' _ (by omega) (by omega)]
   ·rw [if_neg h0, if_neg h0]
theorem lx_err (n : Nat) : ∀ (f : Nat) (s : List Int), (lx n f s).1 = 0 → (lx n f s).2.1 = 0
 | 0, s, _ => rfl
 | f + 1, s, h => by
  rw [lx] at h ⊢
  cases hd : drp false s with
  | nil => rfl
  | cons x r =>
   rw [hd] at h
   simp only [] at h ⊢
   split at h
   ·rename_i h0
    rw [if_pos h0]
    split at h
    ·rename_i h1; rw [if_pos h1]
    ·rename_i h1; exact absurd h h1
   ·rename_i h0; exact absurd h h0
def kdS (a : Int) : Int := if B7 a then 3 else if Aw a then 4 else if C7 a then 1 else if a = 35 then 2 else if a = 95 then 6 else if Fg a then 5 else 0
theorem Ash (k : Nat) (a : Int) : clexkind k a = some (kdS a) := by
 skip
 rw [A5w, Abh, A5x, Abi, A5y, Abj]
 simp only [cd, cbeq]
 unfold kdS B7 Aw C7 Fg
 simp only [Bool.and_eq_true, decide_eq_true_eq]
 repeat' (first | (exfalso; omega) | (refine iteS (fun _ => ?_) (fun _ => ?_)))
 all_goals (refine congrArg some ?_; repeat' (first | rfl | (exfalso; omega) | (refine iteR (fun _ => ?_) (fun _ => ?_))))
theorem kd1 (a : Int) : kdS a = 1 ↔ C7 a = true := by
 unfold kdS B7 Aw C7 Fg
 simp only [Bool.and_eq_true, decide_eq_true_eq]
 repeat' split
 all_goals first | omega
theorem kd2 (a : Int) : kdS a = 2 ↔ a = 35 := by
 unfold kdS B7 Aw C7 Fg
 simp only [Bool.and_eq_true, decide_eq_true_eq]
 repeat' split
 all_goals first | omega
theorem kd3 (a : Int) : kdS a = 3 ↔ B7 a = true := by
 unfold kdS B7 Aw C7 Fg
 simp only [Bool.and_eq_true, decide_eq_true_eq]
 repeat' split
 all_goals first | omega
theorem kd4 (a : Int) : kdS a = 4 ↔ Aw a = true := by
 unfold kdS B7 Aw C7 Fg
 simp only [Bool.and_eq_true, decide_eq_true_eq]
 repeat' split
 all_goals first | omega
theorem kd5 (a : Int) : kdS a = 5 ↔ Fg a = true := by
 unfold kdS B7 Aw C7 Fg
 simp only [Bool.and_eq_true, decide_eq_true_eq]
 repeat' split
 all_goals first | omega
theorem kd6 (a : Int) : kdS a = 6 ↔ a = 95 := by
 unfold kdS B7 Aw C7 Fg
 simp only [Bool.and_eq_true, decide_eq_true_eq]
 repeat' split
 all_goals first | omega
theorem Asg (k : Nat) (b : List Int) (i : Nat) (h : i < b.length) : M1 k (b, (i : Int)) = some (kdS (b.getD i 0), b, (i : Int)) := by
 skip
 rw [A52, Amc, cinB, if_pos (by omega), Vk, Ash]; rfl
theorem Baq (k : Nat) (b : List Int) (i : Nat) (h : i < b.length) : Kh k (b, (i : Int)) = some (kdS (b.getD i 0)) := by
 skip
 rw [A50, Al8, cinB, if_pos (by omega), Vk, Ash]; rfl
def fstI (v : Int) : List Int → Option Nat
 | [] => none
 | x :: r => if v = x then some 0 else (fstI v r).map (· + 1)
theorem Asa (k : Nat) (l : List Int) (v : Int) (hl : l.length < 9223372036854775807) : ∀ (j i : Nat), i ≤ l.length → l.length - i < j →
  (E3 k).L 2 [] j (Om (l, v, (l.length : Int), (i : Int))) = some (match fstI v (l.drop i) with | some n => ((i + n : Nat) : Int) | none => -1)
 | 0, i, _, h => by omega
 | j + 1, i, hi, h => by
  rw [A5f, Aaw, cd, cinB, Vk]
  by_cases hlt : i < l.length
  ·rw [if_pos (by omega), if_pos (by omega), Hz hlt, fstI, cbeq]
   split
   ·rfl
   ·rw [w64 (by omega), Gv, Asa k l v hl j (i + 1) (by omega) (by omega)]
    cases fstI v (l.drop (i + 1)) with
    | none => rfl
    | some n => simp only [Option.map_some]; congr 2; omega
  ·have hi2 : i = l.length := by omega
   rw [if_neg (by omega)]
   subst hi2
   simp [fstI]
theorem Bam (k : Nat) (l : List Int) (v : Int) (hk : l.length < k) (hl : l.length < 9223372036854775807) : Q2 k (l, v) = some (match fstI v l with | some n => (n : Int) | none => -1) := by
 skip
 rw [A5e, Aav]
 have := Asa k l v hl k 0 (by omega) (by omega)
 simpa using this
theorem Ard : ∀ (s : List Int), drp true s = match fstI 10 s with | some n => drp false (s.drop n) | none => []
 | [] => rfl
 | x :: r => by
  rw [drp, fstI]
  by_cases h : x = 10
  ·subst h; simp [drp, C7]
  ·rw [if_neg h, if_neg (fun e => h e.symm), Ard r]
   cases fstI 10 r <;> rfl
theorem Arc {v : Int} : ∀ {l : List Int} {n : Nat}, fstI v l = some n → n < l.length ∧ l.getD n 0 = v
 | [], n, h => by cases h
 | x :: r, n, h => by
  simp only [fstI] at h
  split at h
  ·rename_i e; cases h; exact ⟨by simp, by simp [e]⟩
  ·obtain ⟨m, hm, rfl⟩ := Option.map_eq_some_iff.1 h
   have := Arc hm
   exact ⟨by simp; omega, by simpa using this.2⟩
theorem Vz (k : Nat) (b : List Int) (hk : b.length < k) (hl : b.length < 1000000) : ∀ (j i : Nat), i ≤ b.length → b.length - i < j → (E7 k).L 0 [] j (Je (b, (i : Int))) = some (b, ((b.length - (drp false (b.drop i)).length : Nat) : Int))
 | 0, i, _, h => by omega
 | j + 1, i, hi, h => by
  rw [A6e, Abu, cd]
  by_cases hlt : i < b.length
  ·rw [if_pos (by omega), Asg k b i hlt, Option.bind_some]
   dsimp only
   rw [cbeq, cbeq, Kc, if_pos (by omega : (0 : Int) ≤ i ∧ (i : Int) ≤ ((b.length : Nat) : Int) ∧ ((b.length : Nat) : Int) ≤ ((b.length : Nat) : Int)), Nk, List.take_length, Hz hlt]
   simp only [kd1, kd2, drp]
   split
   ·rename_i h2
    rw [Ard, ← Hz hlt, Bam k _ _ (by rw [List.length_drop]; omega) (by rw [List.length_drop]; omega), Option.bind_some, Hz hlt, fstI, if_neg (by omega)]
    cases hf : fstI 10 (b.drop (i + 1)) with
    | none =>
     simp only [Option.map_none, cd]
     rw [if_neg (by omega), Vz k b hk hl j b.length (Nat.le_refl _) (by omega)]
     simp [drp]
    | some n =>
     obtain ⟨n1, n2⟩ := Arc hf
     rw [List.length_drop] at n1
     simp only [Option.map_some, cd]
     have hpos : ((n + 1 : Nat) : Int) ≥ 0 := by omega
     have hw : -9223372036854775808 ≤ (i : Int) + ((n + 1 : Nat) : Int) ∧ (i : Int) + ((n + 1 : Nat) : Int) ≤ 9223372036854775807 := by omega
     rw [if_pos hpos, w64 hw, show ((i : Int) + ((n + 1 : Nat) : Int)) = ((i + (n + 1) : Nat) : Int) by simp, Vz k b hk hl j (i + (n + 1)) (by omega) (by omega), List.drop_drop]
     rw [show i + 1 + n = i + (n + 1) by omega]
   ·split
    ·rw [w64 (by omega), Gv]
     exact Vz k b hk hl j (i + 1) (by omega) (by omega)
    ·rw [← Hz hlt, List.length_drop]
     congr 3
     omega
  ·rw [if_neg (by omega), List.drop_eq_nil_of_le (by omega)]
   simp [drp]
   omega
theorem Bcu (k : Nat) (b : List Int) (hk : b.length < k) (hl : b.length < 1000000) (i : Nat) (hi : i ≤ b.length) : Q7 k (b, (i : Int)) = some (b, ((b.length - (drp false (b.drop i)).length : Nat) : Int)) := by
 skip
 rw [A6d, Abt, Vz k b hk hl k i hi (by omega)]
theorem Afi (k : Nat) (b : List Int) (g : Int → Option Bool) (p : Int → Bool) (hg : ∀ x, g (kdS x) = some (p x)) (L : Nat → Int → List Int → Int → Option (List Int × List Int × Int))
  (hL : ∀ j a0 a1 a2, L (j + 1) a0 a1 a2 = bif (decide (a2 < ((List.length a1 : Nat) : Int))) then ((Kh k (a1, a2)).bind fun o1 => (g o1).bind fun o2 => bif o2 then L j a0 a1 (IntKind.wrap .i64 (a2 + (1 : Int))) else (bif (cutB a0 a2 (List.length a1)) then some ((cutL a1 a0 a2), a1, a2) else none)) else (bif (cutB a0 a2 (List.length a1)) then some ((cutL a1 a0 a2), a1, a2) else none)) (hl : b.length < 1000000) (s : Nat) :
  ∀ (j i : Nat), s ≤ i → i ≤ b.length → b.length - i < j → L j (s : Int) b (i : Int) = some ((b.take (i + ((b.drop i).takeWhile p).length)).drop s, b, ((i + ((b.drop i).takeWhile p).length : Nat) : Int))
 | 0, i, _, _, h => by omega
 | j + 1, i, hs, hi, h => by
  rw [hL, cd]
  by_cases hlt : i < b.length
  ·rw [if_pos (by omega), Baq k b i hlt, Option.bind_some, hg, Option.bind_some, Hz hlt, List.takeWhile_cons]
   cases hp : p (b.getD i 0) with
   | true =>
    rw [cond_true, w64 (by omega), Gv, Afi k b g p hg L hL hl s j (i + 1) (by omega) (by omega) (by omega)]
    simp only [if_true, List.length_cons]
    rw [show i + 1 + ((b.drop (i + 1)).takeWhile p).length = i + (((b.drop (i + 1)).takeWhile p).length + 1) by omega]
   | false =>
    rw [cond_false, Kc, if_pos (by omega), Nk]
    simp
  ·rw [if_neg (by omega), Kc, if_pos (by omega), Nk, @List.drop_eq_nil_of_le _ b i (by omega)]
   simp
theorem Axj (p : Int → Bool) (b : List Int) (i : Nat) : (b.take (i + ((b.drop i).takeWhile p).length)).drop i = (b.drop i).takeWhile p := by
 rw [List.drop_take]
 simp only [Nat.add_sub_cancel_left]
 exact (List.prefix_iff_eq_take.1 (List.takeWhile_prefix p)).symm
theorem Bbi (k : Nat) (b : List Int) (hk : b.length < k) (hl : b.length < 1000000) (i : Nat) (hi : i ≤ b.length) :
  Q5 k (b, (i : Int)) = some ((b.drop i).takeWhile Bh, b, ((i + ((b.drop i).takeWhile Bh).length : Nat) : Int)) := by
 have := Afi k b (Q9 k) Bh (fun x => by
  skip
  rw [A6i, Amv, cbeq, cbeq]
  unfold Bh
  have h6 : (kdS x == 6) = decide (x = 95) := by
   rw [Bool.eq_iff_iff]; simp [kd6]
  rw [h6]
  simp only [kd3, kd4]
  cases B7 x <;> cases Aw x <;> simp) (fun j a0 a1 a2 => (E5 k).L 2 [] j (Ot (a0, a1, a2))) (fun j a0 a1 a2 => A6b k j (a0, a1, a2)) hl i k i (Nat.le_refl _) (by omega) (by omega)
 skip
 rw [A6a, Abq]
 rw [Axj] at this
 exact this
theorem Bbh (k : Nat) (b : List Int) (hk : b.length < k) (hl : b.length < 1000000) (i : Nat) (hi : i ≤ b.length) :
  Q6 k (b, (i : Int)) = some ((b.drop i).takeWhile Aw, b, ((i + ((b.drop i).takeWhile Aw).length : Nat) : Int)) := by
 have := Afi k b (Q4 k) Aw (fun x => by
  skip
  rw [A54, Amg]
  congr 1
  rw [Bool.eq_iff_iff]; simp [kd4]) (fun j a0 a1 a2 => (E6 k).L 2 [] j (Oq (a0, a1, a2))) (fun j a0 a1 a2 => A58 k j (a0, a1, a2)) hl i k i (Nat.le_refl _) (by omega) (by omega)
 skip
 rw [A57, Abn]
 rw [Axj] at this
 exact this
theorem Po {p : Int → Bool} : ∀ {l : List Int} {x : Int}, x ∈ l.takeWhile p → p x = true
 | [], x, h => by simp at h
 | y :: l, x, h => by
  rw [List.takeWhile_cons] at h
  split at h
  ·rename_i hp
   rcases List.mem_cons.1 h with rfl | h
   ·exact hp
   ·exact Po h
  ·cases h
theorem Atl : ∀ (l : List Int) (acc m : Nat), acc < 10 ^ m → m + l.length ≤ 18 → (∀ c ∈ l, Aw c = true) →
  ∃ u : Nat, Lib.parseUintM (2 ^ 64 - 1) acc (u8s l) = .ok u ∧ u < 10 ^ 18 ∧ (u : Int) = l.foldl (fun v c => 10 * v + (c - 48)) (acc : Int)
 | [], acc, m, h1, h2, _ => ⟨acc, rfl, Nat.lt_of_lt_of_le h1 (Nat.pow_le_pow_right (by decide) (by simpa using h2)), rfl⟩
 | c :: r, acc, m, h1, h2, h3 => by
  have hc := h3 c (by simp)
  unfold Aw at hc
  simp only [Bool.and_eq_true, decide_eq_true_eq] at hc
  have hu : (UInt8.ofNat c.toNat).toNat = c.toNat := by rw [UInt8.toNat_ofNat']; omega
  have hm : m ≤ 17 := by simp at h2; omega
  have ha : acc < 10 ^ 17 := Nat.lt_of_lt_of_le h1 (Nat.pow_le_pow_right (by decide) hm)
  have hb : acc * 10 + (c.toNat - 48) < 10 ^ (m + 1) := by
   rw [Nat.pow_succ]
   omega
  have hb2 : acc * 10 + (c.toNat - 48) < 10 ^ 18 := Nat.lt_of_lt_of_le hb (Nat.pow_le_pow_right (by decide) (by omega))
  obtain ⟨u, e1, e2, e3⟩ := Atl r (acc * 10 + (c.toNat - 48)) (m + 1) hb (by simp at h2; omega) fun x hx => h3 x (by simp [hx])
  refine ⟨u, ?_, e2, ?_⟩
  ·show Lib.parseUintM _ _ (UInt8.ofNat c.toNat :: u8s r) = _
   simp only [Lib.parseUintM]
   rw [hu, if_pos (by omega), if_neg (by omega), if_neg (by omega)]
   exact e1
  ·rw [e3, List.foldl_cons]
   congr 1
   omega
theorem Axz : ∀ (l : List Int) (acc : Int) (m : Nat), 0 ≤ acc → acc < 10 ^ m → (∀ c ∈ l, Aw c = true) → 0 ≤ l.foldl (fun v c => 10 * v + (c - 48)) acc ∧ l.foldl (fun v c => 10 * v + (c - 48)) acc < 10 ^ (m + l.length)
 | [], acc, m, h0, h1, _ => ⟨h0, by simpa using h1⟩
 | c :: r, acc, m, h0, h1, h3 => by
  have hc := h3 c (by simp)
  unfold Aw at hc
  simp only [Bool.and_eq_true, decide_eq_true_eq] at hc
  have := Axz r (10 * acc + (c - 48)) (m + 1) (by omega) (by rw [Int.pow_succ]; omega) fun x hx => h3 x (by simp [hx])
  rw [List.foldl_cons, List.length_cons, show m + (r.length + 1) = m + 1 + r.length by omega]
  exact this
theorem Bbe {l : List Int} (h0 : l ≠ []) (h1 : l.length ≤ 18) (h2 : ∀ x ∈ l, Aw x = true) : Ll (l, 10, 64) = some (valD l, true) := by
 unfold Ll
 rw [if_pos ⟨rfl, rfl, by simp only; omega⟩]
 obtain ⟨u, hu, hlt, hv⟩ := Atl l 0 0 (by decide) (by simpa using h1) h2
 have : Lib.parseIntB 64 (u8s l) = .ok (u : Int) := by
  cases l with
  | nil => exact absurd rfl h0
  | cons x r =>
   have hc := h2 x (by simp)
   unfold Aw at hc
   simp only [Bool.and_eq_true, decide_eq_true_eq] at hc
   have hx : (UInt8.ofNat x.toNat).toNat = x.toNat := by rw [UInt8.toNat_ofNat']; omega
   have hl : u8s (x :: r) = UInt8.ofNat x.toNat :: u8s r := rfl
   rw [hl] at hu ⊢
   have e1 : ¬ ((UInt8.ofNat x.toNat).toNat = 43 ∨ (UInt8.ofNat x.toNat).toNat = 45) := by omega
   have e2 : ¬ ((UInt8.ofNat x.toNat).toNat = 45) := by omega
   simp only [Lib.parseIntB, Lib.parseUintB, if_neg e1]
   rw [if_neg (by simp), hu]
   simp only [e2]
   rw [if_neg (by simp; omega), if_neg (by simp)]
   simp
 rw [this]
 simp only []
 have hv2 : (u : Int) = valD l := hv
 rw [if_pos, hv2]
 ·have h1 : (u : Int) < 10 ^ 18 := by exact_mod_cast hlt
  simp only [Lit.wf, Bool.and_eq_true, decide_eq_true_eq]
  constructor
  ·exact Int.le_trans (by decide) (Int.natCast_nonneg u)
  ·exact Int.le_trans (Int.le_of_lt h1) (by decide)
theorem Bdi (k : Nat) (b : List Int) (hk : b.length < k) (hl : b.length < 1000000) (i : Nat) (hi : i < b.length) (hx : b.getD i 0 ≠ 35) (hb : C7 (b.getD i 0) = false) :
  ∃ q : Int, Q8 k (b, (i : Int)) = some ((tok1 (b.drop i)).2.1, (tok1 (b.drop i)).2.2.1, (tok1 (b.drop i)).2.2.2.1, 0, (tok1 (b.drop i)).1, b, q) ∧ ((tok1 (b.drop i)).1 = 0 → q = ((b.length - (tok1 (b.drop i)).2.2.2.2.length : Nat) : Int)) := by
 have e0 := Hz hi
 have elen : (b.drop i).length = b.length - i := List.length_drop
 skip
 rw [A6g, Amr, Asg k b i hi, Option.bind_some]
 dsimp only
 rw [cbeq, cbeq, cbeq]
 simp only [kd3, kd4, kd5]
 split
 ·rename_i h3
  have hw := List.takeWhile_append_dropWhile (p := Bh) (l := b.drop i)
  have hw2 := congrArg List.length hw
  rw [List.length_append, elen] at hw2
  skip
  rw [A6j, Amy, Bbi k b hk hl i (by omega), Option.bind_some]
  simp only [cd]
  have et : tok1 (b.drop i) = if 24 < ((b.drop i).takeWhile Bh).length then (4, 0, [], 0, []) else (0, 1, (b.drop i).takeWhile Bh, 0, (b.drop i).dropWhile Bh) := by
   rw [e0, tok1, if_pos h3]
  rw [et]
  by_cases h24 : 24 < ((b.drop i).takeWhile Bh).length
  ·rw [if_pos (by omega), if_pos h24]
   exact ⟨_, rfl, fun h => by simp at h⟩
  ·rw [if_neg (by omega), if_neg h24]
   exact ⟨_, rfl, fun _ => by simp only []; omega⟩
 ·rename_i h3
  split
  ·rename_i h4
   have hw := List.takeWhile_append_dropWhile (p := Aw) (l := b.drop i)
   have hw2 := congrArg List.length hw
   rw [List.length_append, elen] at hw2
   skip
   rw [A55, Amj, Bbh k b hk hl i (by omega), Option.bind_some]
   simp only [cd]
   have et : tok1 (b.drop i) = if 18 < ((b.drop i).takeWhile Aw).length then (4, 0, [], 0, []) else (0, 2, (b.drop i).takeWhile Aw, valD ((b.drop i).takeWhile Aw), (b.drop i).dropWhile Aw) := by
    rw [e0, tok1, if_neg h3, if_pos h4]
   rw [et]
   by_cases h18 : 18 < ((b.drop i).takeWhile Aw).length
   ·rw [if_pos (by omega), if_pos h18]
    exact ⟨_, rfl, fun h => by simp at h⟩
   ·rw [if_neg (by omega), if_neg h18]
    rw [show Xd k ((b.drop i).takeWhile Aw, 10, 64) = some (valD ((b.drop i).takeWhile Aw), true) from Bbe (by rw [e0, List.takeWhile_cons, if_pos h4]; simp) (by omega) (fun x hx => Po hx), Option.bind_some]
    exact ⟨_, rfl, fun _ => by simp only []; omega⟩
  ·rename_i h4
   have et : tok1 (b.drop i) = if Fg (b.getD i 0) then (0, 3, [b.getD i 0], 0, b.drop (i + 1)) else (40, 0, [], 0, []) := by
    rw [e0, tok1, if_neg h3, if_neg h4]
   rw [et]
   split
   ·rename_i h5
    rw [w64 (n := (i : Int) + 1) (by omega), w64 (by omega), Kc, if_pos (by omega), Gv]
    rw [show (((i + 1 : Nat) : Int) - 1) = (i : Int) by omega, Nk]
    refine ⟨_, ?_, fun _ => rfl⟩
    have e1 : (b.take (i + 1)).drop i = [b.getD i 0] := by
     rw [List.drop_take, e0, show i + 1 - i = 1 by omega]; rfl
    rw [e1]
    congr 7
    simp only [List.length_drop]
    omega
   ·exact ⟨_, rfl, fun h => by simp at h⟩
theorem Axo (k : Nat) (b : List Int) (hk : b.length < k) (hl : b.length < 1000000) : ∀ (j i : Nat) (out : List Tk), i ≤ b.length → b.length - i < j → out.length ≤ i →
  (E4 k).L 5 [] j (Oo (b, b, (i : Int), out)) = some ((lx b.length j (b.drop i)).1, (lx b.length j (b.drop i)).2.1, if (lx b.length j (b.drop i)).1 = 0 then out ++ (lx b.length j (b.drop i)).2.2 else [])
 | 0, i, out, _, h, _ => by omega
 | j + 1, i, out, hi, h, ho => by
  have hd := Sa false (b.drop i)
  have hsuf := (Kn false (b.drop i)).trans (List.drop_suffix i b)
  rw [List.length_drop] at hd
  rw [A5t, Abd, Bcu k b hk hl i hi, Option.bind_some, lx]
  cases hs : drp false (b.drop i) with
  | nil =>
   dsimp only
   rw [List.length_nil, Nat.sub_zero, cbeq, if_pos rfl, cappB, if_pos (by simp only [List.length_cons, List.length_nil]; omega)]
   rfl
  | cons x r =>
   rw [hs] at hd hsuf
   obtain ⟨h35, hbl⟩ := Np false _ hs
   have hsuf2 := List.suffix_iff_eq_drop.1 hsuf
   generalize hp : b.length - (x :: r).length = p at *
   have hlen2 : (x :: r).length ≤ b.length := by omega
   have hpl : p < b.length := by rw [List.length_cons] at hd hp; omega
   have hx : b.getD p 0 = x := by
    have := Hz hpl
    rw [← hsuf2] at this
    exact (List.cons.inj this).1.symm
   dsimp only
   rw [cbeq, if_neg (by omega)]
   obtain ⟨q, e, hq⟩ := Bdi k b hk hl p hpl (by rw [hx]; exact h35) (by rw [hx]; exact hbl)
   rw [← hsuf2] at e hq
   rw [e, Option.bind_some]
   dsimp only
   rw [cbne]
   by_cases h0 : (tok1 (x :: r)).1 = 0
   ·have hr := V1 h0
    obtain ⟨s1, s2, s3, s4⟩ := Lz h0
    simp only [if_pos h0]
    rw [cappB, if_pos (by simp only [List.length_cons, List.length_nil]; omega), hq h0]
    rw [List.length_cons] at hd hp
    have hsub : b.drop (b.length - (tok1 (x :: r)).2.2.2.2.length) = (tok1 (x :: r)).2.2.2.2 := by
     have hs3 : (tok1 (x :: r)).2.2.2.2 <:+ b := (List.suffix_append _ _).trans (s1 ▸ hsuf)
     exact (List.suffix_iff_eq_drop.1 hs3).symm
    have := Axo k b hk hl j (b.length - (tok1 (x :: r)).2.2.2.2.length) (out ++ [((tok1 (x :: r)).2.1, ((tok1 (x :: r)).2.2.1, ((tok1 (x :: r)).2.2.2.1, (((p : Nat) : Int), ()))))]) (by omega) (by omega) (by rw [List.length_append]; simp only [List.length_cons, List.length_nil]; omega)
    rw [hsub] at this
    rw [this]
    by_cases h1 : (lx b.length j (tok1 (x :: r)).2.2.2.2).1 = 0
    ·have hz := lx_err _ _ _ h1
     simp only [if_pos h1, h1, hz]
     simp
     omega
    ·simp only [if_neg h1]
   ·simp only [if_neg h0, hp]
theorem Axp (k : Nat) (b : List Int) (hk : b.length < k) (hm : b.length < 1000000) : M0 k b = some (toks b) := by
 unfold toks
 rw [A5s, Abc, cd]
 by_cases hl : 65536 < b.length
 ·rw [if_pos (by omega), if_pos hl]
 ·rw [if_neg (by omega), if_neg hl, show (0 : Int) = ((0 : Nat) : Int) from rfl, Axo k b hk (by omega) k 0 [] (Nat.zero_le _) (by omega) (Nat.zero_le _)]
  rw [List.drop_zero, Asu _ k (b.length + 1) b (by omega) (by omega), List.nil_append]
  have : ∀ (f : Nat) (s : List Int), (if (lx b.length f s).1 = 0 then (lx b.length f s).2.2 else []) = (lx b.length f s).2.2 := by
   intro f s
   split
   ·rfl
   ·rename_i h
    cases f with
    | zero => exact absurd rfl h
    | succ f =>
     rw [lx] at h ⊢
     cases hd : drp false s with
     | nil => rw [hd] at h; exact absurd rfl h
     | cons x r =>
      rw [hd] at h
      simp only [] at h ⊢
      split
      ·rename_i h0
       rw [if_pos h0] at h
       split
       ·rename_i h1; rw [if_pos h1] at h; exact absurd rfl h
       ·rfl
      ·rfl
  rw [this]
end Go.Proofs.YtghmhkpgdmgepaaGreatDoorV
namespace Go.Proofs.YtghmhkpgdmgepaaGreatDoorV
open Go Go.RowKit
end Go.Proofs.YtghmhkpgdmgepaaGreatDoorV
namespace Go.Proofs.YtghmhkpgdmgepaaGreatDoorV
open Go Go.RowKit
def Fp (kd : Int) (tx : List Int) (v : Int) : Bool := decide (tx ≠ [] ∧ drp false tx = tx ∧ tok1 tx = (0, kd, tx, v, []))
abbrev tkD : Tk := ((0 : Int), ([], ((0 : Int), ((0 : Int), ()))))
theorem Bdl (kd : Int) (tx : List Int) (v : Int) :
  ((toks tx).1 = 0 ∧ (toks tx).2.2.length = 2 ∧ ((toks tx).2.2.getD 0 tkD).1 = kd ∧ ((toks tx).2.2.getD 0 tkD).2.1 = tx ∧ ((toks tx).2.2.getD 0 tkD).2.2.1 = v) ↔ Fp kd tx v = true := by
 unfold Fp
 rw [decide_eq_true_eq]
 unfold toks
 by_cases hl : 65536 < tx.length
 ·rw [if_pos hl]
  constructor
  ·intro h; simp at h
  ·rintro ⟨h1, h2, h3⟩
   cases tx with
   | nil => exact absurd rfl h1
   | cons x r =>
    have := Lz (x := x) (r := r) (by rw [h3])
    rw [h3] at this
    have := this.2.2.2
    simp only [] at this
    omega
 ·rw [if_neg hl, lx]
  cases hd : drp false tx with
  | nil =>
   simp only []
   constructor
   ·intro h; simp at h
   ·rintro ⟨h1, h2, h3⟩; exact absurd h2.symm h1
  | cons x r =>
   simp only []
   by_cases h0 : (tok1 (x :: r)).1 = 0
   ·obtain ⟨s1, s2, s3, s4⟩ := Lz h0
    have hlen := Sa false tx
    rw [hd] at hlen
    have s5 := congrArg List.length s1
    rw [List.length_append] at s5
    have s6 := V1 h0
    rw [if_pos h0]
    generalize hq : (tok1 (x :: r)).2.2.2.2 = q at *
    by_cases h1 : (lx tx.length tx.length q).1 = 0
    ·rw [if_pos h1]
     simp only [List.length_cons, List.getD_cons_zero]
     constructor
     ·rintro ⟨_, g1, g2, g3, g4⟩
      rw [g3] at s5
      have hq0 : q = [] := by
       apply List.length_eq_zero_iff.1
       omega
      have htx : tx = x :: r := by rw [← s1, g3, hq0, List.append_nil]
      refine ⟨by rw [htx]; simp, by rw [← htx], ?_⟩
      have : tok1 tx = tok1 (x :: r) := by rw [htx]
      rw [this]
      ext1; exact h0
      ext1; exact g2
      ext1; exact g3
      ext1; exact g4
      show (tok1 (x :: r)).2.2.2.2 = []
      rw [hq, hq0]
     ·rintro ⟨g1, g2, g3⟩
      rw [← g2] at g3
      have hq0 : q = [] := by rw [← hq, g3]
      rw [g3]
      refine ⟨trivial, ?_, rfl, g2.symm ▸ rfl, rfl⟩
      have hpos : ∃ m, tx.length = m + 1 := ⟨tx.length - 1, by rw [List.length_cons] at hlen; omega⟩
      obtain ⟨m, hm⟩ := hpos
      rw [hq0, hm, lx]
      rfl
    ·rw [if_neg h1]
     constructor
     ·rintro ⟨g, _⟩; exact absurd g h1
     ·rintro ⟨g1, g2, g3⟩
      rw [← g2] at g3
      have hq0 : q = [] := by rw [← hq, g3]
      have hpos : ∃ m, tx.length = m + 1 := ⟨tx.length - 1, by rw [List.length_cons] at hlen; omega⟩
      obtain ⟨m, hm⟩ := hpos
      rw [hq0, hm, lx] at h1
      exact absurd rfl h1
   ·rw [if_neg h0]
    constructor
    ·rintro ⟨g, _⟩; exact absurd g h0
    ·rintro ⟨g1, g2, g3⟩
     rw [← g2] at g3
     rw [g3] at h0
     exact absurd rfl h0
theorem Bdk {kd : Int} {tx : List Int} {v : Int} (h : Fp kd tx v = true) : ((toks tx).2.2.getD 0 tkD).2.2.2.1 = 0 := by
 unfold Fp at h
 rw [decide_eq_true_eq] at h
 obtain ⟨h1, h2, h3⟩ := h
 unfold toks
 cases tx with
 | nil => exact absurd rfl h1
 | cons x r =>
  have := Lz (x := x) (r := r) (by rw [h3])
  rw [h3] at this
  have h24 := this.2.2.2
  simp only [] at h24
  rw [if_neg (by omega), lx, h2]
  simp only [h3, if_true]
  have h0 : (lx (x :: r).length (x :: r).length []).1 = 0 := by
   rw [List.length_cons, lx]; rfl
  rw [if_pos h0]
  simp
theorem eqI_d (a b : Int) : eqI a b = decide (a = b) := by
 unfold eqI; rw [Bool.eq_iff_iff]; simp
theorem eqS_d (a b : List Int) : eqS a b = decide (a = b) := by
 unfold eqS; rw [Bool.eq_iff_iff]; simp
theorem Bb9 (k : Nat) (kd : Int) (tx : List Int) (v p : Int) (hk : tx.length < k) (hm : tx.length < 1000000) : Q3 k (kd, tx, v, p) = some (Fp kd tx v) := by
 skip
 rw [A5q, Al1, Axp k tx hk hm, Option.bind_some, cbeq, cbeq, cinB]
 have T := Bdl kd tx v
 have Tp := @Bdk kd tx v
 have hz : (Int.toNat 0) = 0 := rfl
 unfold rdA at *
 rw [hz]
 generalize toks tx = tt at *
 by_cases h0 : tt.1 = 0
 ·rw [if_pos h0]
  by_cases h2 : tt.2.2.length = 2
  ·rw [if_pos (by omega), if_pos (by omega), eqI_d, eqI_d, eqS_d, eqI_d]
   refine congrArg some ?_
   rw [Bool.eq_iff_iff]
   simp only [Bool.and_eq_true, decide_eq_true_eq, and_true]
   constructor
   ·rintro ⟨a1, a2, a3, a4⟩
    exact T.1 ⟨h0, h2, a1, a2, a3⟩
   ·intro h
    have := T.2 h
    exact ⟨this.2.2.1, this.2.2.2.1, this.2.2.2.2, Tp h⟩
  ·rw [if_neg (by omega)]
   refine congrArg some ?_
   rw [eq_comm, Bool.eq_false_iff]
   exact fun h => h2 (T.2 h).2.1
 ·rw [if_neg h0]
  refine congrArg some ?_
  rw [eq_comm, Bool.eq_false_iff]
  exact fun h => h0 (T.2 h).1
def resW : List (List Int) := [[99, 121, 99, 108, 101],
 [116, 111],
 [98, 121],
 [112, 101, 97, 107],
 [110, 111, 100, 101],
 [104, 101, 97, 100],
 [118, 111, 108, 117, 109, 101],
 [102, 108, 111, 119],
 [117, 115, 101],
 [115, 112, 101, 101, 100],
 [103, 114, 97, 100, 101],
 [119, 105, 100, 116, 104],
 [108, 101, 110, 103, 116, 104],
 [103, 114, 101, 101, 110],
 [119, 97, 108, 107],
 [119, 105, 116, 104],
 [108, 111, 110, 103],
 [112, 97, 99, 101],
 [108, 101, 97, 115, 116],
 [112, 104, 97, 115, 101],
 [103, 114, 111, 117, 112],
 [114, 105, 110, 103],
 [102, 114, 101, 101],
 [102, 111, 101],
 [97, 114, 116, 101, 114, 121],
 [115, 116, 111, 112],
 [111, 117, 116],
 [105, 110],
 [97, 104, 101, 97, 100],
 [98, 97, 99, 107],
 [119, 101, 105, 103, 104, 116, 115],
 [112, 108, 97, 110],
 [111, 102, 102, 115, 101, 116],
 [115, 117, 109],
 [115, 112, 108, 105, 116],
 [121, 101, 108, 108, 111, 119],
 [114, 101, 100],
 [102, 108, 97, 115, 104],
 [98, 101, 115, 116],
 [121, 101, 115],
 [110, 111],
 [115, 112, 101, 110, 116]]
def resB (s : List Int) : Bool := resW.contains s
set_option maxRecDepth 20000 in
theorem At6 (k : Nat) (s : List Int) : Mz k s = some (resB s) := by
 unfold resB resW
 skip
 rw [A5l, Aa5, A5m, Aa6, A5n, Aa7, A5o, Aa8]
 have step : ∀ (a : List Int) (x : Option Bool) (l : List (List Int)), x = some (l.contains s) → (bif s == a then some true else x) = some ((a :: l).contains s) := by
  intro a x l h
  rw [List.contains_cons]
  cases s == a with
  | true => simp
  | false => simp [h]
 repeat (refine step _ _ _ ?_)
 rfl
set_option maxRecDepth 100000
section
variable {α R : Type}
theorem Kl {d : α} (l : List α) (p : α → Bool) (g : α → Option Bool) (F : Nat → Int → Option Int) (k : Nat) (hl : l.length < 1000000) (hk : l.length < k)
  (hF : ∀ j i, F (j + 1) i = bif decide (i < ((l.length : Nat) : Int)) then (idx d l i fun o => (g o).bind fun o2 => bif o2 then some i else F j (IntKind.wrap .i64 (i + 1))) else some (-1))
  (c : Option Bool) (hc : c = (F k 0).bind fun o1 => some (decide (o1 ≥ 0))) (hg : ∀ x ∈ l, g x = some (!p x)) : c = some (!(l.all p)) := by
 obtain ⟨r, h1, h2⟩ := Ahg l (fun x => !p x) g F hl hF hg k 0 (by omega) (by omega)
 rw [hc, show (0 : Int) = ((0 : Nat) : Int) from rfl, h1, Option.bind_some, ← any_all]
 exact congrArg some h2
end
def Cs (s : List Int) : Bool := Fp 1 s 0 && !resB s
def numB (n : Int) : Bool := decide (0 ≤ n) && decide (n ≤ 999999999999999999)
def byB (l : List Int) : Prop := ∀ x ∈ l, 0 ≤ x ∧ x ≤ 255
def digN : Nat → Nat → List Int
 | 0, _ => []
 | f + 1, n => if n < 10 then [((48 + n : Nat) : Int)] else digN f (n / 10) ++ [((48 + n % 10 : Nat) : Int)]
def numT (n : Int) : List Int := if n < 0 then 45 :: digN 18 n.natAbs else digN 18 n.natAbs
theorem Xk : ∀ (f n : Nat), n < 10 ^ f → 1 ≤ f → (Lib.decDigits n).map (fun b => (b.toNat : Int)) = digN f n
 | 0, n, _, h => by omega
 | f + 1, n, h, _ => by
  rw [Lib.decDigits, digN]
  by_cases h10 : n < 10
  ·rw [dif_pos h10, if_pos h10]
   simp
   omega
  ·have hf : n / 10 < 10 ^ f := by rw [Nat.pow_succ] at h; omega
   have h1 : 1 ≤ f := by
    rcases f with _ | f
    ·simp at h; omega
    ·omega
   rw [dif_neg h10, if_neg h10, List.map_append, Xk f (n / 10) hf h1]
   simp
   omega
theorem Ain : ∀ (f n : Nat), (digN f n).length ≤ f
 | 0, _ => Nat.zero_le _
 | f + 1, n => by
  rw [digN]
  have := Ain f (n / 10)
  split <;> simp <;> omega
theorem C8 (n : Int) : (numT n).length ≤ 19 := by
 unfold numT
 have := Ain 18 n.natAbs
 split <;> simp <;> omega
def inM (n : Int) : Prop := -999999999999999999 ≤ n ∧ n ≤ 999999999999999999
theorem Di {n : Int} (h : numB n = true) : inM n := by
 unfold numB at h; unfold inM; simp at h; omega
theorem Ase {n : Int} (h : inM n) : bs ⟨(Lib.itoa n).toArray⟩ = numT n := by
 unfold inM at h
 unfold bs Lib.itoa numT
 by_cases hn : n < 0
 ·rw [if_pos hn, if_pos hn]
  show ((45 : UInt8) :: Lib.decDigits n.natAbs).map _ = _
  rw [List.map_cons, Xk 18 _ (by omega) (by omega)]
  rfl
 ·rw [if_neg hn, if_neg hn]
  show (Lib.decDigits n.toNat).map _ = _
  rw [Xk 18 _ (by omega) (by omega), show n.toNat = n.natAbs by omega]
theorem Bay {s : List Int} (h : Cs s = true) : byB s ∧ s.length ≤ 24 ∧ s ≠ [] ∧ (∀ x ∈ s, Bh x = true) ∧ (∃ c r, s = c :: r ∧ B7 c = true) := by
 unfold Cs Fp at h
 simp only [Bool.and_eq_true, decide_eq_true_eq] at h
 obtain ⟨⟨h0, h1, h2⟩, _⟩ := h
 cases s with
 | nil => exact absurd rfl h0
 | cons c r =>
  have hs := Lz (x := c) (r := r) (by rw [h2])
  rw [h2] at hs
  have hw : ∀ x ∈ c :: r, Bh x = true := by
   intro x hx
   have h3 : (c :: r).takeWhile Bh = c :: r ∧ B7 c = true := by
    simp only [tok1] at h2
    split at h2
    ·rename_i hc
     split at h2
     ·simp at h2
     ·simp only [Prod.mk.injEq] at h2
      exact ⟨h2.2.2.1, hc⟩
    ·split at h2
     ·split at h2 <;> simp at h2
     ·split at h2 <;> simp at h2
   rw [← h3.1] at hx
   exact Po hx
  have hc : B7 c = true := by
   simp only [tok1] at h2
   split at h2
   ·rename_i hc; exact hc
   ·split at h2
    ·split at h2 <;> simp at h2
    ·split at h2 <;> simp at h2
  refine ⟨fun x hx => ?_, hs.2.2.2, by simp, hw, c, r, rfl, hc⟩
  have := hw x hx
  unfold Bh B7 Aw at this
  simp at this
  omega
theorem He {s : List Int} (h : Cs s = true) : s.length ≤ 24 := (Bay h).2.1
abbrev T3 := Int × List Int × Int
def strip (t : Tk) : T3 := (t.1, t.2.1, t.2.2.1)
theorem Axs {p : Int → Bool} : ∀ {l : List Int}, (∀ x ∈ l, p x = true) → ∀ {s : List Int}, (∀ c r, s = c :: r → p c = false) → (l ++ s).takeWhile p = l ∧ (l ++ s).dropWhile p = s
 | [], _, [], _ => ⟨rfl, rfl⟩
 | [], _, c :: s, hs => by
  have := hs c s rfl
  simp [List.takeWhile_cons, List.dropWhile_cons, this]
 | x :: l, hl, s, hs => by
  have IH := Axs (fun y hy => hl y (List.mem_cons_of_mem _ hy)) hs
  have := hl x (by simp)
  simp [List.takeWhile_cons, List.dropWhile_cons, this, IH.1, IH.2]
def sg (s : List Int) : T3 := (3, s, 0)
abbrev Bb : Type := List Int × Int × Int × Unit
abbrev Ar : Type := List Int × Int × Int × Int × List Bb × Unit
abbrev Bd : Type := List (List Ar) × Unit
abbrev TimT : Type := List Int × Int × List Bd × (Int × Int × Unit) × Unit
abbrev A4 : Type := Int × List TimT × Int × Int × Int × Int × Bool × Int
abbrev RE (α : Type) : Type := (α × List Tk) ⊕ (Int × List Tk)
def hd (l : List Tk) : Tk := l.headD tkD
def Ak {α β : Type} (x : RE α) (f : α → List Tk → RE β) : RE β := match x with
 | .inl y => f y.1 y.2
 | .inr e => .inr e
def tk1 (l : List Tk) : List Tk := bif (hd l).1 != 0 then l.tail else l
def At : List (List Int) → List Tk → RE Unit
 | [], l => .inl ((), l)
 | w :: ws, l => bif (hd l).2.1 == w then At ws (tk1 l) else .inr (50, l)
def Ii (l : List Tk) : RE (List Int) := bif (hd l).1 != 1 || resB (hd l).2.1 then .inr (50, l) else .inl ((hd l).2.1, tk1 l)
def numC (l : List Tk) : RE Int := bif (hd l).1 != 2 then .inr (50, l) else .inl ((hd l).2.2.1, tk1 l)
def numP (ws : List (List Int)) (l : List Tk) : RE Int := Ak (At ws l) fun _ l => numC l
def B9 {α : Type} (w : List Int) (least most : Int) (read : List Tk → RE α) : Nat → List Tk → List α → RE (List α)
 | 0, l, o => .inl (o, l)
 | f + 1, l, o => bif ((hd l).2.1 == w) || decide (((o.length : Nat) : Int) < least) then
   (bif ((o.length : Nat) : Int) == most then .inr (4, l) else Ak (At [w] l) fun _ l => Ak (read l) fun x l => B9 w least most read f l (o ++ [x]))
  else .inl (o, l)
def Ix (l : List Tk) : RE Bb := Ak (Ii l) fun n l => Ak (numP [] l) fun a l => Ak (numP [([102, 108, 97, 115, 104] : List Int)] l) fun b l => .inl ((n, a, b, ()), l)
def Gs (l : List Tk) : RE Ar :=
 Ak (Ii l) fun n l => Ak (numP [([115, 112, 108, 105, 116] : List Int)] l) fun a l => Ak (numP [([121, 101, 108, 108, 111, 119] : List Int)] l) fun b l => Ak (numP [([114, 101, 100] : List Int)] l) fun c l =>
  Ak (B9 ([119, 97, 108, 107] : List Int) 0 8 Ix (l.length + 1) l []) fun ws l => Ak (At [([59] : List Int)] l) fun _ l => .inl ((n, a, b, c, ws, ()), l)
def F0 {α : Type} (w : List Int) (least most : Int) (read : List Tk → RE α) (l : List Tk) : RE (List α) :=
 Ak (At [([123] : List Int)] l) fun _ l => Ak (B9 w least most read (l.length + 1) l []) fun r l => Ak (At [([125] : List Int)] l) fun _ l => .inl (r, l)
def Fq (l : List Tk) : RE (List Ar) := F0 ([112, 104, 97, 115, 101] : List Int) 1 4 Gs l
def Gt (l : List Tk) : RE Bd := Ak (F0 ([114, 105, 110, 103] : List Int) 1 2 Fq l) fun r l => .inl ((r, ()), l)
def It (l : List Tk) : RE TimT :=
 Ak (Ii l) fun n l => Ak (numP [([111, 102, 102, 115, 101, 116] : List Int)] l) fun o l => Ak (numP [([115, 117, 109] : List Int)] l) fun a l => Ak (numP [([47] : List Int)] l) fun b l =>
  Ak (F0 ([103, 114, 111, 117, 112] : List Int) 0 4 Gt l) fun g l => .inl ((n, o, g, (a, b, ()), ()), l)
def P6 (w : List Int) (l : List Tk) : RE (Int × Int) := Ak (numP [w] l) fun a l => Ak (numP [] l) fun b l => Ak (At [([59] : List Int)] l) fun _ l => .inl ((a, b), l)
def J9 (l : List Tk) : RE Bool := bif (hd l).2.1 == ([121, 101, 115] : List Int) then .inl (true, tk1 l) else Ak (At [([110, 111] : List Int)] l) fun _ l => .inl (false, l)
def endP (c : Int) (t : List TimT) (o i : Int × Int) (b : Bool) (l : List Tk) : RE A4 :=
 Ak (numP [([59] : List Int), ([115, 112, 101, 110, 116] : List Int)] l) fun s l => Ak (At [([59] : List Int)] l) fun _ l => bif (hd l).1 != 0 then .inr (50, l) else .inl ((c, t, o.1, o.2, i.1, i.2, b, s), l)
def Js (l : List Tk) : RE A4 :=
 Ak (numP [([112, 108, 97, 110] : List Int), ([99, 121, 99, 108, 101] : List Int)] l) fun c l => Ak (At [([59] : List Int)] l) fun _ l => Ak (B9 ([110, 111, 100, 101] : List Int) 0 12 It (l.length + 1) l []) fun t l =>
  Ak (P6 ([111, 117, 116] : List Int) l) fun o l => Ak (P6 ([105, 110] : List Int) l) fun i l => Ak (At [([98, 101, 115, 116] : List Int)] l) fun _ l => Ak (J9 l) fun b l => endP c t o i b l
def zeroP : A4 := (0, [], 0, 0, 0, 0, false, 0)
def Ct (b : List Int) : A4 × Int × Int :=
 bif (toks b).1 != 0 then (zeroP, (toks b).1, (toks b).2.1)
 else match Js (toks b).2.2 with
  | .inl y => (y.1, 0, 0)
  | .inr e => (zeroP, e.1, (hd e.2).2.2.2.1)
def EndT (l : List Tk) : Prop := ∃ r t, l = r ++ [t] ∧ t.1 = 0
theorem EndT.ne {l : List Tk} (h : EndT l) : l ≠ [] := by
 obtain ⟨r, t, rfl, _⟩ := h
 simp
theorem EndT.tk1 {l : List Tk} (h : EndT l) : EndT (tk1 l) := by
 unfold Go.Proofs.YtghmhkpgdmgepaaGreatDoorV.tk1
 cases hc : (hd l).1 != 0
 ·exact h
 ·obtain ⟨r, t, rfl, ht⟩ := h
  cases r with
  | nil => simp [hd, ht] at hc
  | cons a r => exact ⟨r, t, rfl, ht⟩
theorem Agq (l : List Tk) : tk1 l <:+ l := by
 unfold tk1
 cases (hd l).1 != 0
 ·exact List.suffix_rfl
 ·exact List.tail_suffix l
def lenB {α : Type} (l : List α) (a b : Nat) : Bool := decide (a ≤ l.length) && decide (l.length ≤ b)
def wlkB (w : Bb) : Bool := Cs w.1 && (numB w.2.1 && numB w.2.2.1)
def Ck (s : Ar) : Bool := Cs s.1 && (numB s.2.1 && (numB s.2.2.1 && (numB s.2.2.2.1 && (lenB s.2.2.2.2.1 0 8 && s.2.2.2.2.1.all wlkB))))
def C9 (l : List Ar) : Bool := lenB l 1 4 && l.all Ck
def Cl (g : Bd) : Bool := lenB g.1 1 2 && g.1.all C9
def timB (t : TimT) : Bool := Cs t.1 && (numB t.2.1 && (numB t.2.2.2.1.1 && (numB t.2.2.2.1.2.1 && (lenB t.2.2.1 0 4 && t.2.2.1.all Cl))))
def B8 (p : A4) : Bool := numB p.1 && (numB p.2.2.1 && (numB p.2.2.2.1 && (numB p.2.2.2.2.1 && (numB p.2.2.2.2.2.1 && (numB p.2.2.2.2.2.2.2 && (lenB p.2.1 0 12 && p.2.1.all timB))))))
def TokG (t : Tk) : Prop := (t.1 = 1 → Fp 1 t.2.1 0 = true) ∧ (t.1 = 2 → numB t.2.2.1 = true) ∧ (t.1 = 0 → t.2.1 = [])
def Gd (l : List Tk) : Prop := ∀ t ∈ l, TokG t
theorem Gd.suf {l m : List Tk} (g : Gd l) (h : m <:+ l) : Gd m := fun t ht => g t (h.subset ht)
theorem Gd.hd {l : List Tk} (g : Gd l) (h : l ≠ []) : TokG (hd l) := by
 cases l with
 | nil => exact absurd rfl h
 | cons t r => exact g t (by simp)
theorem J4 {l m : List Tk} (h : l.map strip = m.map strip) : (hd l).1 = (hd m).1 ∧ (hd l).2.1 = (hd m).2.1 ∧ (hd l).2.2.1 = (hd m).2.2.1 := by
 cases l with
 | nil => cases m with | nil => exact ⟨rfl, rfl, rfl⟩ | cons => simp at h
 | cons t r => cases m with
  | nil => simp at h
  | cons u q =>
   simp only [List.map_cons, List.cons.injEq, strip, Prod.mk.injEq] at h
   exact h.1
theorem Agl {l m : List Tk} (h : l.map strip = m.map strip) : l.length = m.length := by
 have := congrArg List.length h
 simpa using this
theorem Axi {l m : List Tk} (h : l.map strip = m.map strip) : (tk1 l).map strip = (tk1 m).map strip := by
 unfold tk1
 rw [(J4 h).1]
 cases (Go.Proofs.YtghmhkpgdmgepaaGreatDoorV.hd m).1 != 0
 ·exact h
 ·simp only [cond_true]
  rw [List.map_tail, List.map_tail, h]
def Rel {α : Type} (P : α → Prop) (l m : List Tk) : RE α → RE α → Prop
 | .inl a, .inl b => a.1 = b.1 ∧ a.2.map strip = b.2.map strip ∧ a.2 <:+ l ∧ b.2 <:+ m ∧ EndT a.2 ∧ EndT b.2 ∧ P a.1
 | .inr a, .inr b => a.1 = b.1 ∧ (a.1 = 50 ∨ a.1 = 4) ∧ a.2 <:+ l ∧ b.2 <:+ m
 | _, _ => False
theorem Az {α β : Type} {P : α → Prop} {Q : β → Prop} {l m : List Tk} {x y : RE α} {f g : α → List Tk → RE β} (h : Rel P l m x y)
  (hf : ∀ a l' m', P a → l'.map strip = m'.map strip → l' <:+ l → EndT l' → EndT m' → Rel Q l' m' (f a l') (g a m')) : Rel Q l m (Ak x f) (Ak y g) := by
 cases x with
 | inr a => cases y with
  | inr b => exact h
  | inl b => exact h.elim
 | inl a => cases y with
  | inr b => exact h.elim
  | inl b =>
   obtain ⟨h1, h2, h3, h4, h5, h6, h7⟩ := h
   have h8 := hf a.1 a.2 b.2 h7 h2 h3 h5 h6
   show Rel Q l m (f a.1 a.2) (g b.1 b.2)
   rw [← h1]
   revert h8
   generalize f a.1 a.2 = u
   generalize g a.1 b.2 = v
   intro h8
   cases u with
   | inr c => cases v with
    | inr d => exact ⟨h8.1, h8.2.1, h8.2.2.1.trans h3, h8.2.2.2.trans h4⟩
    | inl d => exact h8.elim
   | inl c => cases v with
    | inr d => exact h8.elim
    | inl d =>
     obtain ⟨k1, k2, k3, k4, k5, k6, k7⟩ := h8
     exact ⟨k1, k2, k3.trans h3, k4.trans h4, k5, k6, k7⟩
theorem rel_imp {α : Type} {P Q : α → Prop} {l m : List Tk} {x y : RE α} (h : Rel P l m x y) (hpq : ∀ a, P a → Q a) : Rel Q l m x y := by
 cases x with
 | inr a => cases y with
  | inr b => exact h
  | inl b => exact h.elim
 | inl a => cases y with
  | inr b => exact h.elim
  | inl b => exact ⟨h.1, h.2.1, h.2.2.1, h.2.2.2.1, h.2.2.2.2.1, h.2.2.2.2.2.1, hpq _ h.2.2.2.2.2.2⟩
theorem rel_suf {α : Type} {P : α → Prop} {l m l' m' : List Tk} {x y : RE α} (h : Rel P l' m' x y) (h1 : l' <:+ l) (h2 : m' <:+ m) : Rel P l m x y := by
 cases x with
 | inr a => cases y with
  | inr b => exact ⟨h.1, h.2.1, h.2.2.1.trans h1, h.2.2.2.trans h2⟩
  | inl b => exact h.elim
 | inl a => cases y with
  | inr b => exact h.elim
  | inl b => exact ⟨h.1, h.2.1, h.2.2.1.trans h1, h.2.2.2.1.trans h2, h.2.2.2.2.1, h.2.2.2.2.2.1, h.2.2.2.2.2.2⟩
section
variable {l m : List Tk}
theorem Gr {α : Type} {P : α → Prop} {v : α} (h : l.map strip = m.map strip) (e1 : EndT l) (e2 : EndT m) (hv : P v) : Rel P l m (.inl (v, l)) (.inl (v, m)) := ⟨rfl, h, List.suffix_rfl, List.suffix_rfl, e1, e2, hv⟩
theorem Vl {α : Type} {P : α → Prop} {v : α} (h : l.map strip = m.map strip) (e1 : EndT l) (e2 : EndT m) (hv : P v) : Rel P l m (.inl (v, tk1 l)) (.inl (v, tk1 m)) := ⟨rfl, Axi h, Agq l, Agq m, e1.tk1, e2.tk1, hv⟩
theorem Pw {α : Type} {P : α → Prop} {c : Int} (hc : c = 50 ∨ c = 4) : Rel (α := α) P l m (.inr (c, l)) (.inr (c, m)) := ⟨rfl, hc, List.suffix_rfl, List.suffix_rfl⟩
theorem Dv : ∀ (ws : List (List Int)) {l m : List Tk}, l.map strip = m.map strip → EndT l → EndT m → Rel (fun _ => True) l m (At ws l) (At ws m)
 | [], l, m, h, e1, e2 => Gr h e1 e2 trivial
 | w :: ws, l, m, h, e1, e2 => by
  rw [At, At, (J4 h).2.1]
  cases (Go.Proofs.YtghmhkpgdmgepaaGreatDoorV.hd m).2.1 == w
  ·exact Pw (.inl rfl)
  ·have IH := Dv ws (Axi h) e1.tk1 e2.tk1
   exact Az (x := .inl ((), tk1 l)) (y := .inl ((), tk1 m)) (P := fun _ => True) (Vl h e1 e2 trivial) (f := fun _ l => At ws l) (g := fun _ l => At ws l) fun _ l' m' _ h' _ e1' e2' => Dv ws h' e1' e2'
theorem Lq (h : l.map strip = m.map strip) (e1 : EndT l) (e2 : EndT m) (g : Gd l) : Rel (fun s => Cs s = true) l m (Ii l) (Ii m) := by
 unfold Ii
 obtain ⟨h1, h2, h3⟩ := J4 h
 rw [← h1, ← h2]
 cases hc : (Go.Proofs.YtghmhkpgdmgepaaGreatDoorV.hd l).1 != 1 || resB (Go.Proofs.YtghmhkpgdmgepaaGreatDoorV.hd l).2.1
 ·refine Vl h e1 e2 ?_
  simp only [Bool.or_eq_false_iff, bne_eq_false_iff_eq] at hc
  unfold Cs
  rw [(g.hd e1.ne).1 hc.1, hc.2]
  rfl
 ·exact Pw (.inl rfl)
theorem Bb1 (h : l.map strip = m.map strip) (e1 : EndT l) (e2 : EndT m) (g : Gd l) : Rel (fun n => numB n = true) l m (numC l) (numC m) := by
 unfold numC
 obtain ⟨h1, h2, h3⟩ := J4 h
 rw [← h1, ← h3]
 cases hc : (Go.Proofs.YtghmhkpgdmgepaaGreatDoorV.hd l).1 != 2
 ·refine Vl h e1 e2 ?_
  exact (g.hd e1.ne).2.1 (by simpa using hc)
 ·exact Pw (.inl rfl)
theorem Bk (ws : List (List Int)) (h : l.map strip = m.map strip) (e1 : EndT l) (e2 : EndT m) (g : Gd l) : Rel (fun n => numB n = true) l m (numP ws l) (numP ws m) :=
 Az (Dv ws h e1 e2) fun _ l' m' _ h' hs e1' e2' => Bb1 h' e1' e2' (g.suf hs)
theorem Ax6 {w : List Int} {l l' : List Tk} {u : Unit} (hw : w ≠ []) (g : Gd l) (e : EndT l) (h : At [w] l = .inl (u, l')) : l'.length < l.length := by
 rw [At] at h
 cases hc : (Go.Proofs.YtghmhkpgdmgepaaGreatDoorV.hd l).2.1 == w <;> rw [hc] at h
 ·cases h
 ·simp only [cond_true, At] at h
  have h2 : tk1 l = l' := by cases h; rfl
  subst h2
  have hk : (Go.Proofs.YtghmhkpgdmgepaaGreatDoorV.hd l).1 ≠ 0 := fun h0 => by
   have := (g.hd e.ne).2.2 h0
   rw [this] at hc
   exact hw (by simpa using hc.symm)
  unfold tk1
  rw [show ((Go.Proofs.YtghmhkpgdmgepaaGreatDoorV.hd l).1 != 0) = true by simpa using hk, cond_true]
  have := List.length_pos_iff.2 e.ne
  rw [List.length_tail]; omega
theorem Hl {α : Type} {w : List Int} (hw : w ≠ []) {least most : Nat} {read : List Tk → RE α} {P : α → Prop} (hr : ∀ {l m : List Tk}, l.map strip = m.map strip → EndT l → EndT m → Gd l → Rel P l m (read l) (read m)) :
  ∀ (f : Nat) (l m : List Tk) (o : List α), l.map strip = m.map strip → EndT l → EndT m → Gd l → l.length < f → (∀ x ∈ o, P x) → o.length ≤ most →
  Rel (fun r => (∀ x ∈ r, P x) ∧ least ≤ r.length ∧ r.length ≤ most) l m (B9 w least most read f l o) (B9 w least most read f m o)
 | 0, l, m, o, _, _, _, _, hf, _, _ => by omega
 | f + 1, l, m, o, h, e1, e2, g, hf, ho, hm => by
  rw [B9, B9, ← (J4 h).2.1]
  cases hc : ((Go.Proofs.YtghmhkpgdmgepaaGreatDoorV.hd l).2.1 == w) || decide (((o.length : Nat) : Int) < (least : Int))
  ·simp only [cond_false]
   refine Gr h e1 e2 ⟨ho, ?_, hm⟩
   simp only [Bool.or_eq_false_iff, decide_eq_false_iff_not] at hc
   omega
  ·simp only [cond_true]
   cases hq : ((o.length : Nat) : Int) == (most : Int)
   ·simp only [cond_false]
    have hq2 : ¬ ((o.length : Nat) : Int) = (most : Int) := by simpa using hq
    have hrw := Dv [w] h e1 e2
    cases hwd : At [w] l with
    | inr a =>
     rw [hwd] at hrw
     cases hwm : At [w] m with
     | inr b => rw [hwm] at hrw; exact hrw
     | inl b => rw [hwm] at hrw; exact hrw.elim
    | inl a =>
     have hlt := Ax6 hw g e1 (l' := a.2) (u := a.1) hwd
     rw [hwd] at hrw
     cases hwm : At [w] m with
     | inr b => rw [hwm] at hrw; exact hrw.elim
     | inl b =>
      rw [hwm] at hrw
      obtain ⟨q1, q2, q3, q4, q5, q6, _⟩ := hrw
      show Rel _ l m (Ak (read a.2) fun x l => B9 w least most read f l (o ++ [x])) (Ak (read b.2) fun x l => B9 w least most read f l (o ++ [x]))
      refine rel_suf (l' := a.2) (m' := b.2) ?_ q3 q4
      exact Az (hr q2 q5 q6 (g.suf q3)) fun x l2 m2 hx h2 s2 d3 d4 => Hl hw hr f l2 m2 (o ++ [x]) h2 d3 d4 ((g.suf q3).suf s2) (by have := s2.length_le; omega)
       (fun y hy => by rcases List.mem_append.1 hy with hy | hy; exact ho y hy; rw [List.mem_singleton.1 hy]; exact hx) (by rw [List.length_append, List.length_singleton]; omega)
   ·exact Pw (.inr rfl)
theorem L8 {α : Type} {p : α → Bool} {l : List α} (h : ∀ x ∈ l, p x = true) : l.all p = true := List.all_eq_true.2 h
theorem Pl {α : Type} {l : List α} {a b : Nat} (h1 : a ≤ l.length) (h2 : l.length ≤ b) : lenB l a b = true := by
 unfold lenB
 simp [h1, h2]
theorem Afw (h : l.map strip = m.map strip) (e1 : EndT l) (e2 : EndT m) (g : Gd l) : Rel (fun w => wlkB w = true) l m (Ix l) (Ix m) :=
 Az (Lq h e1 e2 g) fun n l1 m1 p1 h1 s1 d1 d2 => Az (Bk [] h1 d1 d2 (g.suf s1)) fun a l2 m2 p2 h2 s2 d3 d4 => Az (Bk [([102, 108, 97, 115, 104] : List Int)] h2 d3 d4 ((g.suf s1).suf s2)) fun b l3 m3 p3 h3 s3 d5 d6 =>
  Gr h3 d5 d6 (by unfold wlkB; simp only; rw [p1, p2, p3]; rfl)
theorem Aft (h : l.map strip = m.map strip) (e1 : EndT l) (e2 : EndT m) (g : Gd l) : Rel (fun w => Ck w = true) l m (Gs l) (Gs m) :=
 Az (Lq h e1 e2 g) fun n l1 m1 p1 h1 s1 d1 d2 => by
 have g1 := g.suf s1
 refine Az (Bk [([115, 112, 108, 105, 116] : List Int)] h1 d1 d2 g1) fun a l2 m2 p2 h2 s2 d3 d4 => ?_
 have g2 := g1.suf s2
 refine Az (Bk [([121, 101, 108, 108, 111, 119] : List Int)] h2 d3 d4 g2) fun b l3 m3 p3 h3 s3 d5 d6 => ?_
 have g3 := g2.suf s3
 refine Az (Bk [([114, 101, 100] : List Int)] h3 d5 d6 g3) fun c l4 m4 p4 h4 s4 d7 d8 => ?_
 have g4 := g3.suf s4
 rw [← Agl h4]
 refine Az (Hl (w := ([119, 97, 108, 107] : List Int)) (by decide) (least := 0) (most := 8) Afw (l4.length + 1) l4 m4 [] h4 d7 d8 g4 (Nat.lt_succ_self _) (fun x hx => by cases hx) (Nat.zero_le _)) fun ws l5 m5 p5 h5 s5 d9 d10 => ?_
 refine Az (Dv [([59] : List Int)] h5 d9 d10) fun _ l6 m6 _ h6 s6 f1 f2 => ?_
 exact Gr h6 f1 f2 (by unfold Ck; simp only; rw [p1, p2, p3, p4, Pl p5.2.1 p5.2.2, L8 p5.1]; rfl)
theorem Afr {α : Type} {w : List Int} (hw : w ≠ []) {least most : Nat} {read : List Tk → RE α} {P : α → Prop} (hr : ∀ {l m : List Tk}, l.map strip = m.map strip → EndT l → EndT m → Gd l → Rel P l m (read l) (read m))
  (h : l.map strip = m.map strip) (e1 : EndT l) (e2 : EndT m) (g : Gd l) : Rel (fun r => (∀ x ∈ r, P x) ∧ least ≤ r.length ∧ r.length ≤ most) l m (F0 w least most read l) (F0 w least most read m) :=
 Az (Dv [([123] : List Int)] h e1 e2) fun _ l1 m1 _ h1 s1 d1 d2 => by
 rw [← Agl h1]
 refine Az (Hl hw hr (l1.length + 1) l1 m1 [] h1 d1 d2 (g.suf s1) (Nat.lt_succ_self _) (fun x hx => by cases hx) (Nat.zero_le _)) fun r l2 m2 p2 h2 s2 d3 d4 => ?_
 exact Az (Dv [([125] : List Int)] h2 d3 d4) fun _ l3 m3 _ h3 s3 d5 d6 => Gr h3 d5 d6 p2
theorem Afs (h : l.map strip = m.map strip) (e1 : EndT l) (e2 : EndT m) (g : Gd l) : Rel (fun r => C9 r = true) l m (Fq l) (Fq m) :=
 rel_imp (Afr (w := ([112, 104, 97, 115, 101] : List Int)) (by decide) (least := 1) (most := 4) Aft h e1 e2 g) fun r hr => by unfold C9; rw [Pl hr.2.1 hr.2.2, L8 hr.1]; rfl
theorem Afu (h : l.map strip = m.map strip) (e1 : EndT l) (e2 : EndT m) (g : Gd l) : Rel (fun r => Cl r = true) l m (Gt l) (Gt m) :=
 Az (Afr (w := ([114, 105, 110, 103] : List Int)) (by decide) (least := 1) (most := 2) Afs h e1 e2 g) fun r l1 m1 hr h1 s1 d1 d2 => Gr h1 d1 d2 (by unfold Cl; simp only; rw [Pl hr.2.1 hr.2.2, L8 hr.1]; rfl)
theorem Afv (h : l.map strip = m.map strip) (e1 : EndT l) (e2 : EndT m) (g : Gd l) : Rel (fun r => timB r = true) l m (It l) (It m) :=
 Az (Lq h e1 e2 g) fun n l1 m1 p1 h1 s1 d1 d2 => by
 have g1 := g.suf s1
 refine Az (Bk [([111, 102, 102, 115, 101, 116] : List Int)] h1 d1 d2 g1) fun a l2 m2 p2 h2 s2 d3 d4 => ?_
 have g2 := g1.suf s2
 refine Az (Bk [([115, 117, 109] : List Int)] h2 d3 d4 g2) fun b l3 m3 p3 h3 s3 d5 d6 => ?_
 have g3 := g2.suf s3
 refine Az (Bk [([47] : List Int)] h3 d5 d6 g3) fun c l4 m4 p4 h4 s4 d7 d8 => ?_
 refine Az (Afr (w := ([103, 114, 111, 117, 112] : List Int)) (by decide) (least := 0) (most := 4) Afu h4 d7 d8 (g3.suf s4)) fun r l5 m5 hr h5 s5 d9 d10 => ?_
 exact Gr h5 d9 d10 (by unfold timB; simp only; rw [p1, p2, p3, p4, Pl hr.2.1 hr.2.2, L8 hr.1]; rfl)
theorem Vm (w : List Int) (h : l.map strip = m.map strip) (e1 : EndT l) (e2 : EndT m) (g : Gd l) : Rel (fun r => numB r.1 = true ∧ numB r.2 = true) l m (P6 w l) (P6 w m) :=
 Az (Bk [w] h e1 e2 g) fun a l1 m1 p1 h1 s1 d1 d2 => Az (Bk [] h1 d1 d2 (g.suf s1)) fun b l2 m2 p2 h2 s2 d3 d4 => Az (Dv [([59] : List Int)] h2 d3 d4) fun _ l3 m3 _ h3 s3 d5 d6 => Gr h3 d5 d6 ⟨p1, p2⟩
theorem Bb0 (h : l.map strip = m.map strip) (e1 : EndT l) (e2 : EndT m) : Rel (fun _ => True) l m (J9 l) (J9 m) := by
 unfold J9
 rw [← (J4 h).2.1]
 cases (Go.Proofs.YtghmhkpgdmgepaaGreatDoorV.hd l).2.1 == ([121, 101, 115] : List Int)
 ·exact Az (Dv [([110, 111] : List Int)] h e1 e2) fun _ l1 m1 _ h1 s1 d1 d2 => Gr h1 d1 d2 trivial
 ·exact Vl h e1 e2 trivial
theorem Bb2 (h : l.map strip = m.map strip) (e1 : EndT l) (e2 : EndT m) (g : Gd l) : Rel (fun r => B8 r = true) l m (Js l) (Js m) := by
 refine Az (Bk [([112, 108, 97, 110] : List Int), ([99, 121, 99, 108, 101] : List Int)] h e1 e2 g) fun c l1 m1 p1 h1 s1 d1 d2 => ?_
 have g1 := g.suf s1
 refine Az (Dv [([59] : List Int)] h1 d1 d2) fun _ l2 m2 _ h2 s2 d3 d4 => ?_
 have g2 := g1.suf s2
 rw [← Agl h2]
 refine Az (Hl (w := ([110, 111, 100, 101] : List Int)) (by decide) (least := 0) (most := 12) Afv (l2.length + 1) l2 m2 [] h2 d3 d4 g2 (Nat.lt_succ_self _) (fun x hx => by cases hx) (Nat.zero_le _)) fun t l3 m3 p3 h3 s3 d5 d6 => ?_
 have g3 := g2.suf s3
 refine Az (Vm ([111, 117, 116] : List Int) h3 d5 d6 g3) fun o l4 m4 p4 h4 s4 d7 d8 => ?_
 have g4 := g3.suf s4
 refine Az (Vm ([105, 110] : List Int) h4 d7 d8 g4) fun i l5 m5 p5 h5 s5 d9 d10 => ?_
 have g5 := g4.suf s5
 refine Az (Dv [([98, 101, 115, 116] : List Int)] h5 d9 d10) fun _ l6 m6 _ h6 s6 d11 d12 => ?_
 have g6 := g5.suf s6
 refine Az (Bb0 h6 d11 d12) fun b l7 m7 _ h7 s7 d13 d14 => ?_
 unfold endP
 have g7 := g6.suf s7
 refine Az (Bk [([59] : List Int), ([115, 112, 101, 110, 116] : List Int)] h7 d13 d14 g7) fun s l8 m8 p8 h8 s8 d15 d16 => ?_
 refine Az (Dv [([59] : List Int)] h8 d15 d16) fun _ l9 m9 _ h9 s9 d17 d18 => ?_
 rw [← (J4 h9).1]
 cases (Go.Proofs.YtghmhkpgdmgepaaGreatDoorV.hd l9).1 != 0
 ·exact Gr h9 d17 d18 (by unfold B8; simp only; rw [p1, p4.1, p4.2, p5.1, p5.2, p8, Pl p3.2.1 p3.2.2, L8 p3.1]; rfl)
 ·exact Pw (.inl rfl)
end
def P4 (w : Bb) : List (List Int) := [([32, 119, 97, 108, 107, 32] : List Int), w.1, ([32] : List Int), numT w.2.1, ([32, 102, 108, 97, 115, 104, 32] : List Int), numT w.2.2.1]
def slotX (s : Ar) : List (List Int) := [([32, 32, 32, 32, 32, 32, 112, 104, 97, 115, 101, 32] : List Int), s.1, ([32, 115, 112, 108, 105, 116, 32] : List Int), numT s.2.1, ([32, 121, 101, 108, 108, 111, 119, 32] : List Int), numT s.2.2.1, ([32, 114, 101, 100, 32] : List Int), numT s.2.2.2.1]
def Eh (s : Ar) : List Int := (slotX s).flatten ++ (s.2.2.2.2.1.flatMap (fun w => (P4 w).flatten) ++ ([59, 10] : List Int))
def Fr (l : List Ar) : List Int := ([32, 32, 32, 32, 114, 105, 110, 103, 32, 123, 10] : List Int) ++ (l.flatMap Eh ++ ([32, 32, 32, 32, 125, 10] : List Int))
def Fu (g : Bd) : List Int := ([32, 32, 103, 114, 111, 117, 112, 32, 123, 10] : List Int) ++ (g.1.flatMap Fr ++ ([32, 32, 125, 10] : List Int))
def timX (t : TimT) : List (List Int) := [([110, 111, 100, 101, 32] : List Int), t.1, ([32, 111, 102, 102, 115, 101, 116, 32] : List Int), numT t.2.1, ([32, 115, 117, 109, 32] : List Int), numT t.2.2.2.1.1, ([47] : List Int), numT t.2.2.2.1.2.1, ([32, 123, 10] : List Int)]
def timT (t : TimT) : List Int := (timX t).flatten ++ (t.2.2.1.flatMap Fu ++ ([125, 10] : List Int))
def yesT (b : Bool) : List Int := bif b then ([121, 101, 115] : List Int) else ([110, 111] : List Int)
def Py (p : A4) : List (List Int) := [([111, 117, 116, 32] : List Int), numT p.2.2.1, ([32] : List Int), numT p.2.2.2.1, ([59, 10] : List Int), ([105, 110, 32] : List Int), numT p.2.2.2.2.1, ([32] : List Int), numT p.2.2.2.2.2.1, ([59, 10] : List Int), ([98, 101, 115, 116, 32] : List Int), yesT p.2.2.2.2.2.2.1, ([59, 10] : List Int), ([115, 112, 101, 110, 116, 32] : List Int), numT p.2.2.2.2.2.2.2, ([59, 10] : List Int)]
def Ju (p : A4) : List Int := [([112, 108, 97, 110, 32, 99, 121, 99, 108, 101, 32] : List Int), numT p.1, ([59, 10] : List Int)].flatten ++ (p.2.1.flatMap timT ++ (Py p).flatten)
theorem Ax5 {w : Bb} (h : wlkB w = true) : Cs w.1 = true ∧ inM w.2.1 ∧ inM w.2.2.1 := by
 unfold wlkB at h
 simp only [Bool.and_eq_true] at h
 exact ⟨h.1, Di h.2.1, Di h.2.2⟩
theorem Agh {s : Ar} (h : Ck s = true) : Cs s.1 = true ∧ inM s.2.1 ∧ inM s.2.2.1 ∧ inM s.2.2.2.1 ∧ s.2.2.2.2.1.length ≤ 8 ∧ ∀ w ∈ s.2.2.2.2.1, wlkB w = true := by
 unfold Ck lenB at h
 simp only [Bool.and_eq_true, decide_eq_true_eq, List.all_eq_true] at h
 exact ⟨h.1, Di h.2.1, Di h.2.2.1, Di h.2.2.2.1, h.2.2.2.2.1.2, h.2.2.2.2.2⟩
theorem V0 {t : TimT} (h : timB t = true) : Cs t.1 = true ∧ inM t.2.1 ∧ inM t.2.2.2.1.1 ∧ inM t.2.2.2.1.2.1 ∧ t.2.2.1.length ≤ 4 ∧ ∀ w ∈ t.2.2.1, Cl w = true := by
 unfold timB lenB at h
 simp only [Bool.and_eq_true, decide_eq_true_eq, List.all_eq_true] at h
 exact ⟨h.1, Di h.2.1, Di h.2.2.1, Di h.2.2.2.1, h.2.2.2.2.1.2, h.2.2.2.2.2⟩
theorem Afj {p : A4} (h : B8 p = true) : inM p.1 ∧ inM p.2.2.1 ∧ inM p.2.2.2.1 ∧ inM p.2.2.2.2.1 ∧ inM p.2.2.2.2.2.1 ∧ inM p.2.2.2.2.2.2.2 ∧ p.2.1.length ≤ 12 ∧ ∀ w ∈ p.2.1, timB w = true := by
 unfold B8 lenB at h
 simp only [Bool.and_eq_true, decide_eq_true_eq, List.all_eq_true] at h
 exact ⟨Di h.1, Di h.2.1, Di h.2.2.1, Di h.2.2.2.1, Di h.2.2.2.2.1, Di h.2.2.2.2.2.1, h.2.2.2.2.2.2.1.2, h.2.2.2.2.2.2.2⟩
theorem Ls {v : List Ar} (hb : C9 v = true) : (1 ≤ v.length ∧ v.length ≤ 4) ∧ ∀ s ∈ v, Ck s = true := by
 unfold C9 lenB at hb
 simp only [Bool.and_eq_true, decide_eq_true_eq, List.all_eq_true] at hb
 exact hb
theorem Lw {v : Bd} (hb : Cl v = true) : (1 ≤ v.1.length ∧ v.1.length ≤ 2) ∧ ∀ s ∈ v.1, C9 s = true := by
 unfold Cl lenB at hb
 simp only [Bool.and_eq_true, decide_eq_true_eq, List.all_eq_true] at hb
 exact hb
def outR (e : Int × List Tk) : Int × Int := (e.1, (hd e.2).2.2.2.1)
def res {α β : Type} (x : RE α) (f : α → List Tk → β) : β ⊕ (Int × Int) := match x with
 | .inl y => .inl (f y.1 y.2)
 | .inr e => .inr (outR e)
structure Rdy (l : List Tk) : Prop where
 e : EndT l
 g : Gd l
theorem Rdy.suf {l m : List Tk} (r : Rdy l) (h : m <:+ l) (e : EndT m) : Rdy m := ⟨e, r.g.suf h⟩
theorem Bl {α : Type} {P : α → Prop} {l : List Tk} {x : RE α} (r : Rdy l) (h : Rel P l l x x) {v : α} {m : List Tk} (e : x = .inl (v, m)) : Rdy m ∧ m.length ≤ l.length ∧ P v := by
 subst e
 exact ⟨r.suf h.2.2.1 h.2.2.2.2.1, h.2.2.1.length_le, h.2.2.2.2.2.2⟩
theorem Ax {α β γ δ : Type} {x : RE α} {h : α → List Tk → RE γ} {f : α → List Tk → β} {f' : γ → List Tk → δ} {G : β → Option (δ ⊕ (Int × Int))} (hG : ∀ v l, x = .inl (v, l) → G (f v l) = some (res (h v l) f')) :
  (some (res x f)).bind (orP G (fun o => some (.inr (o.1, o.2)))) = some (res (Ak x h) f') := by
 cases x with
 | inr e => rfl
 | inl y => exact hG y.1 y.2 rfl
section
variable (k : Nat) {l : List Tk}
theorem Jm {R : Type} {l : List Tk} {K : Tk → Option R} (h : l ≠ []) : idx tkD l 0 K = K (hd l) := by
 cases l with
 | nil => exact absurd rfl h
 | cons x r => exact Df (i := 0) rfl
theorem cutB_hd {R : Type} {l : List Tk} {a b : Option R} (h : l ≠ []) : (bif cutB (1 : Int) ((l.length : Nat) : Int) l.length then a else b) = a := by
 cases l with
 | nil => exact absurd rfl h
 | cons x r => rw [Kc, if_pos (by simp; omega)]
theorem cutL_hd {l : List Tk} : cutL l 1 ((l.length : Nat) : Int) = l.tail := by
 cases l <;> simp [cutL]
theorem cut_hd {R : Type} {l : List Tk} {K : List Tk → Option R} (h : l ≠ []) : cut l 1 ((l.length : Nat) : Int) K = K l.tail := by
 unfold cut
 rw [cutB_hd h, cutL_hd]
theorem Ig (w : List Int) (r : Rdy l) : D4 k (w, l) = some ((hd l).2.1 == w, l) := by
 rw [A7s, Ao9, Jm r.e.ne]
theorem Eo (c : Int) (r : Rdy l) : Bt k (c, l) = some (.inr (c, (hd l).2.2.2.1)) := by
 rw [A7r, Ao6, Jm r.e.ne]
theorem Ly (r : Rdy l) : D5 k l = some ((hd l).1, (hd l).2.1, (hd l).2.2.1, (hd l).2.2.2.1, tk1 l) := by
 rw [A8e, Apo, Jm r.e.ne, cut_hd r.e.ne]
 unfold tk1
 cases (hd l).1 != 0 <;> rfl
theorem Rdy.tk1 (r : Rdy l) : Rdy (tk1 l) := r.suf (Agq l) r.e.tk1
theorem Ax8 (ws : List (List Int)) (hw : ws.length < 1000) : ∀ (r pre : List (List Int)) (j : Nat) (l : List Tk), ws = pre ++ r → r.length < j → Rdy l →
  (E9 k).L 1 [] j (K3 (ws, ((ws.length : Nat) : Int), ((pre.length : Nat) : Int), l)) = some (res (At r l) fun _ l => l)
 | _, _, 0, _, _, h, _ => by omega
 | [], pre, j + 1, l, e, h, q => by
  have e2 : ws = pre := by rw [e]; simp
  rw [Apz, Ub, ← e2, Gj]
  rfl
 | w :: r, pre, j + 1, l, e, h, q => by
  have hx : ws[pre.length]? = some w := by rw [e]; simp
  have IH := Ax8 ws hw r (pre ++ [w]) j (tk1 l) (by rw [e]; simp) (by simp at h; omega) q.tk1
  rw [List.length_append, List.length_singleton] at IH
  rw [Apz, Ub, Ee hx, Df hx, Ig k w q, Option.bind_some, At]
  cases hc : (hd l).2.1 == w
  ·rw [Bool.not_false, cond_true, Eo k 50 q]
   rfl
  ·rw [Bool.not_true, cond_false, Ly k q, Option.bind_some, Gu hx (by omega), cond_true]
   exact IH
theorem Cb (ws : List (List Int)) (hw : ws.length < 1000) (hk : 1000 ≤ k) (q : Rdy l) : Bn k (ws, l) = some (res (At ws l) fun _ l => l) := by
 rw [A8m, Acy]
 exact Ax8 k ws hw ws [] k l rfl (by omega) q
theorem Ax7 (ws : List (List Int)) (hw : ws.length < 1000) : ∀ (r pre : List (List Int)) (j : Nat) (l : List Tk), ws = pre ++ r → r.length < j → Rdy l →
  (E8 k).L 1 [] j (K4 (ws, ((ws.length : Nat) : Int), ((pre.length : Nat) : Int), l)) = some (res (At r l) fun _ l => l)
 | _, _, 0, _, _, h, _ => by omega
 | [], pre, j + 1, l, e, h, q => by
  have e2 : ws = pre := by rw [e]; simp
  rw [Ap1, Ud, ← e2, Gj]
  rfl
 | w :: r, pre, j + 1, l, e, h, q => by
  have hx : ws[pre.length]? = some w := by rw [e]; simp
  have IH := Ax7 ws hw r (pre ++ [w]) j (tk1 l) (by rw [e]; simp) (by simp at h; omega) q.tk1
  rw [List.length_append, List.length_singleton] at IH
  rw [Ap1, Ud, Ee hx, Df hx, Ig k w q, Option.bind_some, At]
  cases hc : (hd l).2.1 == w
  ·rw [Bool.not_false, cond_true, Eo k 50 q]
   rfl
  ·rw [Bool.not_true, cond_false, Ly k q, Option.bind_some, Gu hx (by omega), cond_true]
   exact IH
theorem Bdt (ws : List (List Int)) (hw : ws.length < 1000) (hk : 1000 ≤ k) (q : Rdy l) : Rr k (ws, l) = some (res (At ws l) fun _ l => l) := by
 rw [A8o, Ac0]
 exact Ax7 k ws hw ws [] k l rfl (by omega) q
theorem Db {ws : List (List Int)} (q : Rdy l) {v : Unit} {m : List Tk} (e : At ws l = .inl (v, m)) : Rdy m ∧ m.length ≤ l.length := by
 have := Bl q (Dv ws rfl q.e q.e) e
 exact ⟨this.1, this.2.1⟩
theorem Fk (ws : List (List Int)) (hw : ws.length < 1000) (hk : 1000 ≤ k) (q : Rdy l) : Dd k (ws, l) = some (res (numP ws l) fun n l => (n, l)) := by
 rw [A7z, Aci, Cb k ws hw hk q]
 refine Ax fun v m e => ?_
 have r := (Db q e).1
 rw [Jm r.e.ne, Eo k 50 r, A70, Acj, Ly k r]
 unfold numC
 cases (hd m).1 != 2 <;> rfl
theorem Ba2 (ws : List (List Int)) (hw : ws.length < 1000) (hk : 1000 ≤ k) (q : Rdy l) : Rk k (ws, l) = some (res (numP ws l) fun n l => (n, l)) := by
 rw [A73, Ack, Bdt k ws hw hk q]
 refine Ax fun v m e => ?_
 have r := (Db q e).1
 rw [Jm r.e.ne, Eo k 50 r, A74, Acl, Ly k r]
 unfold numC
 cases (hd m).1 != 2 <;> rfl
theorem Ae7 (q : Rdy l) : Kj k l = some (res (Ii l) fun n l => (n, l)) := by
 rw [A7v, Acg, Jm q.e.ne, Eo k 50 q, At6, A7w, Ach, Ly k q]
 unfold Ii
 cases (hd l).1 != 1
 ·simp only [cond_false, Option.bind_some, Bool.false_or]
  cases resB (hd l).2.1 <;> rfl
 ·rfl
def Ef {α β : Type} (x : RE α) (K : List Tk → α → Option (β ⊕ (Int × Int))) : Option (β ⊕ (Int × Int)) := match x with
 | .inl y => K y.2 y.1
 | .inr e => some (.inr (outR e))
theorem Lt {α : Type} (F : Nat → List Tk → List α → Option ((List Tk × List α) ⊕ (Int × Int))) {w : List Int} (hw : w ≠ []) (least most : Nat) (read : List Tk → RE α) {P : α → Prop}
  (hr : ∀ {l m : List Tk}, l.map strip = m.map strip → EndT l → EndT m → Gd l → Rel P l m (read l) (read m))
  (hF : ∀ (j : Nat) (l : List Tk) (o : List α), Rdy l → l.length ≤ 100000 → o.length ≤ most → F (j + 1) l o = bif ((hd l).2.1 == w) || decide (((o.length : Nat) : Int) < (least : Int)) then
   (bif ((o.length : Nat) : Int) == (most : Int) then some (.inr (4, (hd l).2.2.2.1)) else Ef (Ak (At [w] l) (fun _ l => read l)) fun l x => F j l (o ++ [x])) else some (.inl (l, o))) :
  ∀ (f j : Nat) (l : List Tk) (o : List α), l.length < f → l.length < j → Rdy l → l.length ≤ 100000 → o.length ≤ most → F j l o = some (res (B9 w least most read f l o) fun v l => (l, v))
 | 0, j, l, o, h, _, _, _, _ => by omega
 | f + 1, 0, l, o, _, h, _, _, _ => by omega
 | f + 1, j + 1, l, o, h1, h2, q, hl, ho => by
  rw [hF j l o q hl ho, B9]
  cases ((hd l).2.1 == w) || decide (((o.length : Nat) : Int) < (least : Int))
  ·rfl
  ·cases hm : ((o.length : Nat) : Int) == (most : Int)
   ·have hm2 : ¬ ((o.length : Nat) : Int) = (most : Int) := by simpa using hm
    simp only [cond_true, cond_false]
    cases hwd : At [w] l with
    | inr e => rfl
    | inl a =>
     have hlt := Ax6 hw q.g q.e (l' := a.2) (u := a.1) hwd
     have r2 := (Db q (m := a.2) (v := a.1) hwd).1
     show Ef (read a.2) (fun l x => F j l (o ++ [x])) = some (res (Ak (read a.2) fun x l => B9 w least most read f l (o ++ [x])) _)
     cases hrd : read a.2 with
     | inr e => rfl
     | inl b =>
      obtain ⟨r3, h3, _⟩ := Bl r2 (hr rfl r2.e r2.e r2.g) (v := b.1) (m := b.2) hrd
      exact Lt F hw least most read hr hF f j b.2 (o ++ [b.1]) (by omega) (by omega) r3 (by omega) (by rw [List.length_append, List.length_singleton]; omega)
   ·rfl
end
section
variable (k : Nat) (hk : 100000 < k) {l : List Tk}
include hk
theorem Bdr (q : Rdy l) : Rq k l = some (res (Ix l) fun w l => (w.1, w.2.1, w.2.2.1, l)) := by
 rw [A8i, Apw, Ae7 k q]
 refine Ax fun n l1 e1 => ?_
 have r1 := (Bl q (Lq rfl q.e q.e q.g) e1).1
 rw [Fk k [] (by decide) (by omega) r1]
 refine Ax fun a l2 e2 => ?_
 have r2 := (Bl r1 (Bk [] rfl r1.e r1.e r1.g) e2).1
 rw [Fk k [([102, 108, 97, 115, 104] : List Int)] (by decide) (by omega) r2]
 exact Ax fun b l3 e3 => rfl
theorem Bcj (q : Rdy l) (hl : l.length ≤ 100000) : Rw k (([119, 97, 108, 107] : List Int), 0, 8, l) = some (res (B9 ([119, 97, 108, 107] : List Int) 0 8 Ix (l.length + 1) l []) fun v l => (l, v)) := by
 rw [A86, Adn]
 refine Lt (fun j l o => (Ci k).L 2 [] j (K9 (([119, 97, 108, 107] : List Int), 0, 8, l, o))) (w := ([119, 97, 108, 107] : List Int)) (by decide) 0 8 Ix Afw (fun j l o r hl ho => ?_) (l.length + 1) k l [] (by omega) (by omega) q hl (Nat.zero_le _)
 have J : (Ci k).J 5 [j] (Jk (([119, 97, 108, 107] : List Int), 0, 8, l, o)) = Ef (Ak (At [([119, 97, 108, 107] : List Int)] l) (fun _ l => Ix l)) fun l x => (Ci k).L 2 [] j (K9 (([119, 97, 108, 107] : List Int), 0, 8, l, o ++ [x])) := by
  rw [A87, Ado, Cb k [([119, 97, 108, 107] : List Int)] (by decide) (by omega) r]
  cases hwd : At [([119, 97, 108, 107] : List Int)] l with
  | inr e => rfl
  | inl a =>
   obtain ⟨r2, h2⟩ := Db r (m := a.2) (v := a.1) hwd
   simp only [res, Option.bind_some, orP, Ak, Ef]
   rw [Bdr k hk r2]
   cases Ix a.2 with
   | inr e => rfl
   | inl b =>
    simp only [res, Option.bind_some, orP]
    rw [Cw (by rw [List.length_singleton]; omega) (by rw [List.length_singleton]; omega)]
 rw [A88, Adp, Ig k _ r, Option.bind_some, Eo k 4 r, J]
 have e1 : decide (((o.length : Nat) : Int) < (0 : Int)) = decide (((o.length : Nat) : Int) < ((0 : Nat) : Int)) := rfl
 have e2 : (((o.length : Nat) : Int) == (8 : Int)) = (((o.length : Nat) : Int) == ((8 : Nat) : Int)) := rfl
 rw [e1, e2]
 cases (hd l).2.1 == ([119, 97, 108, 107] : List Int) <;> cases decide (((o.length : Nat) : Int) < ((0 : Nat) : Int)) <;> cases ((o.length : Nat) : Int) == ((8 : Nat) : Int) <;> rfl
theorem Bcy (q : Rdy l) (hl : l.length ≤ 100000) : Rn k l = some (res (Gs l) fun s l => (s.1, s.2.1, s.2.2.1, s.2.2.2.1, l, s.2.2.2.2.1)) := by
 rw [A8b, Apk, Ae7 k q]
 refine Ax fun n l1 e1 => ?_
 obtain ⟨r1, h1, -⟩ := Bl q (Lq rfl q.e q.e q.g) e1
 rw [Fk k [([115, 112, 108, 105, 116] : List Int)] (by decide) (by omega) r1]
 refine Ax fun a l2 e2 => ?_
 obtain ⟨r2, h2, -⟩ := Bl r1 (Bk [([115, 112, 108, 105, 116] : List Int)] rfl r1.e r1.e r1.g) e2
 rw [Fk k [([121, 101, 108, 108, 111, 119] : List Int)] (by decide) (by omega) r2]
 refine Ax fun b l3 e3 => ?_
 obtain ⟨r3, h3, -⟩ := Bl r2 (Bk [([121, 101, 108, 108, 111, 119] : List Int)] rfl r2.e r2.e r2.g) e3
 rw [Fk k [([114, 101, 100] : List Int)] (by decide) (by omega) r3]
 refine Ax fun c l4 e4 => ?_
 obtain ⟨r4, h4, -⟩ := Bl r3 (Bk [([114, 101, 100] : List Int)] rfl r3.e r3.e r3.g) e4
 rw [Bcj k hk r4 (by omega)]
 refine Ax fun ws l5 e5 => ?_
 have r5 := (Bl r4 (Hl (w := ([119, 97, 108, 107] : List Int)) (by decide) (least := 0) (most := 8) Afw (l4.length + 1) l4 l4 [] rfl r4.e r4.e r4.g (Nat.lt_succ_self _) (fun x hx => by cases hx) (Nat.zero_le _)) e5).1
 rw [Cb k [([59] : List Int)] (by decide) (by omega) r5]
 exact Ax fun _ l6 e6 => rfl
theorem Bcg (q : Rdy l) (hl : l.length ≤ 100000) : Rt k (([112, 104, 97, 115, 101] : List Int), 1, 4, l) = some (res (B9 ([112, 104, 97, 115, 101] : List Int) 1 4 Gs (l.length + 1) l []) fun v l => (l, v)) := by
 rw [A8u, Ac8]
 refine Lt (fun j l o => (Cf k).L 2 [] j (K6 (([112, 104, 97, 115, 101] : List Int), 1, 4, l, o))) (w := ([112, 104, 97, 115, 101] : List Int)) (by decide) 1 4 Gs Aft (fun j l o r hl ho => ?_) (l.length + 1) k l [] (by omega) (by omega) q hl (Nat.zero_le _)
 have J : (Cf k).J 5 [j] (Jh (([112, 104, 97, 115, 101] : List Int), 1, 4, l, o)) = Ef (Ak (At [([112, 104, 97, 115, 101] : List Int)] l) (fun _ l => Gs l)) fun l x => (Cf k).L 2 [] j (K6 (([112, 104, 97, 115, 101] : List Int), 1, 4, l, o ++ [x])) := by
  rw [A8v, Ac9, Cb k [([112, 104, 97, 115, 101] : List Int)] (by decide) (by omega) r]
  cases hwd : At [([112, 104, 97, 115, 101] : List Int)] l with
  | inr e => rfl
  | inl a =>
   obtain ⟨r2, h2⟩ := Db r (m := a.2) (v := a.1) hwd
   simp only [res, Option.bind_some, orP, Ak, Ef]
   rw [Bcy k hk r2 (by omega)]
   cases Gs a.2 with
   | inr e => rfl
   | inl b =>
    simp only [res, Option.bind_some, orP]
    rw [Cw (by rw [List.length_singleton]; omega) (by rw [List.length_singleton]; omega)]
 rw [A8w, Ada, Ig k _ r, Option.bind_some, Eo k 4 r, J]
 have e1 : decide (((o.length : Nat) : Int) < (1 : Int)) = decide (((o.length : Nat) : Int) < ((1 : Nat) : Int)) := rfl
 have e2 : (((o.length : Nat) : Int) == (4 : Int)) = (((o.length : Nat) : Int) == ((4 : Nat) : Int)) := rfl
 rw [e1, e2]
 cases (hd l).2.1 == ([112, 104, 97, 115, 101] : List Int) <;> cases decide (((o.length : Nat) : Int) < ((1 : Nat) : Int)) <;> cases ((o.length : Nat) : Int) == ((4 : Nat) : Int) <;> rfl
theorem Ayy (q : Rdy l) (hl : l.length ≤ 100000) : Rg k (([112, 104, 97, 115, 101] : List Int), 1, 4, l) = some (res (F0 ([112, 104, 97, 115, 101] : List Int) 1 4 Gs l) fun v l => (l, v)) := by
 rw [A7j, Aou, Cb k [([123] : List Int)] (by decide) (by omega) q]
 refine Ax fun _ l1 e1 => ?_
 obtain ⟨r1, h1⟩ := Db q e1
 rw [Bcg k hk r1 (by omega)]
 refine Ax fun v l2 e2 => ?_
 have r2 := (Bl r1 (Hl (w := ([112, 104, 97, 115, 101] : List Int)) (by decide) (least := 1) (most := 4) Aft (l1.length + 1) l1 l1 [] rfl r1.e r1.e r1.g (Nat.lt_succ_self _) (fun x hx => by cases hx) (Nat.zero_le _)) e2).1
 rw [Cb k [([125] : List Int)] (by decide) (by omega) r2]
 exact Ax fun _ l3 e3 => rfl
theorem Bcc (q : Rdy l) (hl : l.length ≤ 100000) : Rm k l = some (res (Fq l) fun s l => (l, s)) := by
 rw [A79, Api, Ayy k hk q hl]
 unfold Fq
 cases F0 ([112, 104, 97, 115, 101] : List Int) 1 4 Gs l <;> rfl
theorem Bcf (q : Rdy l) (hl : l.length ≤ 100000) : Rs k (([114, 105, 110, 103] : List Int), 1, 2, l) = some (res (B9 ([114, 105, 110, 103] : List Int) 1 2 Fq (l.length + 1) l []) fun v l => (l, v)) := by
 rw [A8q, Ac3]
 refine Lt (fun j l o => (Ce k).L 2 [] j (K5 (([114, 105, 110, 103] : List Int), 1, 2, l, o))) (w := ([114, 105, 110, 103] : List Int)) (by decide) 1 2 Fq Afs (fun j l o r hl ho => ?_) (l.length + 1) k l [] (by omega) (by omega) q hl (Nat.zero_le _)
 have J : (Ce k).J 5 [j] (Jg (([114, 105, 110, 103] : List Int), 1, 2, l, o)) = Ef (Ak (At [([114, 105, 110, 103] : List Int)] l) (fun _ l => Fq l)) fun l x => (Ce k).L 2 [] j (K5 (([114, 105, 110, 103] : List Int), 1, 2, l, o ++ [x])) := by
  rw [A8r, Ac4, Cb k [([114, 105, 110, 103] : List Int)] (by decide) (by omega) r]
  cases hwd : At [([114, 105, 110, 103] : List Int)] l with
  | inr e => rfl
  | inl a =>
   obtain ⟨r2, h2⟩ := Db r (m := a.2) (v := a.1) hwd
   simp only [res, Option.bind_some, orP, Ak, Ef]
   rw [Bcc k hk r2 (by omega)]
   cases Fq a.2 with
   | inr e => rfl
   | inl b =>
    simp only [res, Option.bind_some, orP]
    rw [Cw (by rw [List.length_singleton]; omega) (by rw [List.length_singleton]; omega)]
 rw [A8s, Ac5, Ig k _ r, Option.bind_some, Eo k 4 r, J]
 have e1 : decide (((o.length : Nat) : Int) < (1 : Int)) = decide (((o.length : Nat) : Int) < ((1 : Nat) : Int)) := rfl
 have e2 : (((o.length : Nat) : Int) == (2 : Int)) = (((o.length : Nat) : Int) == ((2 : Nat) : Int)) := rfl
 rw [e1, e2]
 cases (hd l).2.1 == ([114, 105, 110, 103] : List Int) <;> cases decide (((o.length : Nat) : Int) < ((1 : Nat) : Int)) <;> cases ((o.length : Nat) : Int) == ((2 : Nat) : Int) <;> rfl
theorem Ayx (q : Rdy l) (hl : l.length ≤ 100000) : Rf k (([114, 105, 110, 103] : List Int), 1, 2, l) = some (res (F0 ([114, 105, 110, 103] : List Int) 1 2 Fq l) fun v l => (l, v)) := by
 rw [A7h, Aos, Cb k [([123] : List Int)] (by decide) (by omega) q]
 refine Ax fun _ l1 e1 => ?_
 obtain ⟨r1, h1⟩ := Db q e1
 rw [Bcf k hk r1 (by omega)]
 refine Ax fun v l2 e2 => ?_
 have r2 := (Bl r1 (Hl (w := ([114, 105, 110, 103] : List Int)) (by decide) (least := 1) (most := 2) Afs (l1.length + 1) l1 l1 [] rfl r1.e r1.e r1.g (Nat.lt_succ_self _) (fun x hx => by cases hx) (Nat.zero_le _)) e2).1
 rw [Cb k [([125] : List Int)] (by decide) (by omega) r2]
 exact Ax fun _ l3 e3 => rfl
theorem Bc3 (q : Rdy l) (hl : l.length ≤ 100000) : Ro k l = some (res (Gt l) fun s l => (l, s.1)) := by
 rw [A8d, Apm, Ayx k hk q hl]
 unfold Gt
 cases F0 ([114, 105, 110, 103] : List Int) 1 2 Fq l <;> rfl
theorem Bch (q : Rdy l) (hl : l.length ≤ 100000) : Ru k (([103, 114, 111, 117, 112] : List Int), 0, 4, l) = some (res (B9 ([103, 114, 111, 117, 112] : List Int) 0 4 Gt (l.length + 1) l []) fun v l => (l, v)) := by
 rw [A8y, Add]
 refine Lt (fun j l o => (Cg k).L 2 [] j (K7 (([103, 114, 111, 117, 112] : List Int), 0, 4, l, o))) (w := ([103, 114, 111, 117, 112] : List Int)) (by decide) 0 4 Gt Afu (fun j l o r hl ho => ?_) (l.length + 1) k l [] (by omega) (by omega) q hl (Nat.zero_le _)
 have J : (Cg k).J 5 [j] (Ji (([103, 114, 111, 117, 112] : List Int), 0, 4, l, o)) = Ef (Ak (At [([103, 114, 111, 117, 112] : List Int)] l) (fun _ l => Gt l)) fun l x => (Cg k).L 2 [] j (K7 (([103, 114, 111, 117, 112] : List Int), 0, 4, l, o ++ [x])) := by
  rw [A8z, Ade, Cb k [([103, 114, 111, 117, 112] : List Int)] (by decide) (by omega) r]
  cases hwd : At [([103, 114, 111, 117, 112] : List Int)] l with
  | inr e => rfl
  | inl a =>
   obtain ⟨r2, h2⟩ := Db r (m := a.2) (v := a.1) hwd
   simp only [res, Option.bind_some, orP, Ak, Ef]
   rw [Bc3 k hk r2 (by omega)]
   cases Gt a.2 with
   | inr e => rfl
   | inl b =>
    simp only [res, Option.bind_some, orP]
    rw [Cw (by rw [List.length_singleton]; omega) (by rw [List.length_singleton]; omega)]
 rw [A80, Adf, Ig k _ r, Option.bind_some, Eo k 4 r, J]
 have e1 : decide (((o.length : Nat) : Int) < (0 : Int)) = decide (((o.length : Nat) : Int) < ((0 : Nat) : Int)) := rfl
 have e2 : (((o.length : Nat) : Int) == (4 : Int)) = (((o.length : Nat) : Int) == ((4 : Nat) : Int)) := rfl
 rw [e1, e2]
 cases (hd l).2.1 == ([103, 114, 111, 117, 112] : List Int) <;> cases decide (((o.length : Nat) : Int) < ((0 : Nat) : Int)) <;> cases ((o.length : Nat) : Int) == ((4 : Nat) : Int) <;> rfl
theorem Ayz (q : Rdy l) (hl : l.length ≤ 100000) : Rh k (([103, 114, 111, 117, 112] : List Int), 0, 4, l) = some (res (F0 ([103, 114, 111, 117, 112] : List Int) 0 4 Gt l) fun v l => (l, v)) := by
 rw [A7l, Aow, Cb k [([123] : List Int)] (by decide) (by omega) q]
 refine Ax fun _ l1 e1 => ?_
 obtain ⟨r1, h1⟩ := Db q e1
 rw [Bch k hk r1 (by omega)]
 refine Ax fun v l2 e2 => ?_
 have r2 := (Bl r1 (Hl (w := ([103, 114, 111, 117, 112] : List Int)) (by decide) (least := 0) (most := 4) Afu (l1.length + 1) l1 l1 [] rfl r1.e r1.e r1.g (Nat.lt_succ_self _) (fun x hx => by cases hx) (Nat.zero_le _)) e2).1
 rw [Cb k [([125] : List Int)] (by decide) (by omega) r2]
 exact Ax fun _ l3 e3 => rfl
theorem Bde (q : Rdy l) (hl : l.length ≤ 100000) : Rp k l = some (res (It l) fun t l => (t.1, t.2.1, t.2.2.2.1.1, t.2.2.2.1.2.1, l, t.2.2.1)) := by
 rw [A8g, Apu, Ae7 k q]
 refine Ax fun n l1 e1 => ?_
 obtain ⟨r1, h1, -⟩ := Bl q (Lq rfl q.e q.e q.g) e1
 rw [Fk k [([111, 102, 102, 115, 101, 116] : List Int)] (by decide) (by omega) r1]
 refine Ax fun a l2 e2 => ?_
 obtain ⟨r2, h2, -⟩ := Bl r1 (Bk [([111, 102, 102, 115, 101, 116] : List Int)] rfl r1.e r1.e r1.g) e2
 rw [Fk k [([115, 117, 109] : List Int)] (by decide) (by omega) r2]
 refine Ax fun b l3 e3 => ?_
 obtain ⟨r3, h3, -⟩ := Bl r2 (Bk [([115, 117, 109] : List Int)] rfl r2.e r2.e r2.g) e3
 rw [Fk k [([47] : List Int)] (by decide) (by omega) r3]
 refine Ax fun c l4 e4 => ?_
 obtain ⟨r4, h4, -⟩ := Bl r3 (Bk [([47] : List Int)] rfl r3.e r3.e r3.g) e4
 rw [Ayz k hk r4 (by omega)]
 exact Ax fun g l5 e5 => rfl
theorem Bci (q : Rdy l) (hl : l.length ≤ 100000) : Rv k (([110, 111, 100, 101] : List Int), 0, 12, l) = some (res (B9 ([110, 111, 100, 101] : List Int) 0 12 It (l.length + 1) l []) fun v l => (l, v)) := by
 rw [A82, Adi]
 refine Lt (fun j l o => (Ch k).L 2 [] j (K8 (([110, 111, 100, 101] : List Int), 0, 12, l, o))) (w := ([110, 111, 100, 101] : List Int)) (by decide) 0 12 It Afv (fun j l o r hl ho => ?_) (l.length + 1) k l [] (by omega) (by omega) q hl (Nat.zero_le _)
 have J : (Ch k).J 5 [j] (Jj (([110, 111, 100, 101] : List Int), 0, 12, l, o)) = Ef (Ak (At [([110, 111, 100, 101] : List Int)] l) (fun _ l => It l)) fun l x => (Ch k).L 2 [] j (K8 (([110, 111, 100, 101] : List Int), 0, 12, l, o ++ [x])) := by
  rw [A83, Adj, Cb k [([110, 111, 100, 101] : List Int)] (by decide) (by omega) r]
  cases hwd : At [([110, 111, 100, 101] : List Int)] l with
  | inr e => rfl
  | inl a =>
   obtain ⟨r2, h2⟩ := Db r (m := a.2) (v := a.1) hwd
   simp only [res, Option.bind_some, orP, Ak, Ef]
   rw [Bde k hk r2 (by omega)]
   cases It a.2 with
   | inr e => rfl
   | inl b =>
    simp only [res, Option.bind_some, orP]
    rw [Cw (by rw [List.length_singleton]; omega) (by rw [List.length_singleton]; omega)]
 rw [A84, Adk, Ig k _ r, Option.bind_some, Eo k 4 r, J]
 have e1 : decide (((o.length : Nat) : Int) < (0 : Int)) = decide (((o.length : Nat) : Int) < ((0 : Nat) : Int)) := rfl
 have e2 : (((o.length : Nat) : Int) == (12 : Int)) = (((o.length : Nat) : Int) == ((12 : Nat) : Int)) := rfl
 rw [e1, e2]
 cases (hd l).2.1 == ([110, 111, 100, 101] : List Int) <;> cases decide (((o.length : Nat) : Int) < ((0 : Nat) : Int)) <;> cases ((o.length : Nat) : Int) == ((12 : Nat) : Int) <;> rfl
theorem Ax4 (w : List Int) (q : Rdy l) : Ng k (w, l) = some (res (P6 w l) fun s l => (s.1, s.2, l)) := by
 rw [A8k, Apy, Fk k [w] (by simp) (by omega) q]
 refine Ax fun a l1 e1 => ?_
 have r1 := (Bl q (Bk [w] rfl q.e q.e q.g) e1).1
 rw [Fk k [] (by decide) (by omega) r1]
 refine Ax fun b l2 e2 => ?_
 have r2 := (Bl r1 (Bk [] rfl r1.e r1.e r1.g) e2).1
 rw [Cb k [([59] : List Int)] (by decide) (by omega) r2]
 exact Ax fun _ l3 e3 => rfl
def outP (p : A4) (l : List Tk) := (p.1, p.2.2.1, p.2.2.2.1, p.2.2.2.2.1, p.2.2.2.2.2.1, p.2.2.2.2.2.2.1, p.2.2.2.2.2.2.2, l, p.2.1)
theorem end_run (c : Int) (t : List TimT) (o i : Int × Int) (b : Bool) (z : Bool) (q : Rdy l) : (D9 k).J 11 [] (Kz (l, (0 : Int), (0 : Int), (0 : Int), (0 : Int), (0 : Int), false, (0 : Int), c, o.1, o.2, i.1, i.2, b, (0 : Int), t)) = some (res (endP c t o i b l) outP) := by
 rw [A77, Aco, Fk k [([59] : List Int), ([115, 112, 101, 110, 116] : List Int)] (by decide) (by omega) q]
 refine Ax fun s l8 e8 => ?_
 have r8 := (Bl q (Bk [([59] : List Int), ([115, 112, 101, 110, 116] : List Int)] rfl q.e q.e q.g) e8).1
 rw [Cb k [([59] : List Int)] (by decide) (by omega) r8]
 refine Ax fun _ l9 e9 => ?_
 have r9 := (Db r8 e9).1
 rw [Jm r9.e.ne, Eo k 50 r9]
 cases (hd l9).1 != 0 <;> simp only [cond_false, cond_true, Option.bind_some, orP, res, outR, outP]
theorem Ayq {X Y : Type} (F : Bool → List Tk → Option (X ⊕ (Int × Int))) (E : Bool → List Tk → RE Y) (out : Y → List Tk → X) (hF : ∀ b m, Rdy m → F b m = some (res (E b m) out)) (q : Rdy l) : ((D4 k) (([121, 101, 115] : List Int), l)).bind (fun o13 => bif o13.1 then (((D5 k) (o13.2)).bind fun o14 => F o13.1 o14.2.2.2.2)
  else (((Bn k) (([([110, 111] : List Int)] : List (List Int)), o13.2)).bind (orP (fun o15 => F o13.1 o15) (fun o16 => some (.inr (o16.1, o16.2)))))) =
  some (res (Ak (J9 l) E) out) := by
 rw [Ig k _ q, Option.bind_some]
 unfold J9
 cases (hd l).2.1 == ([121, 101, 115] : List Int)
 ·simp only [cond_false]
  rw [Cb k [([110, 111] : List Int)] (by decide) (by omega) q]
  cases hw : At [([110, 111] : List Int)] l with
  | inr e => simp only [res, Option.bind_some, orP, Ak]
  | inl a =>
   have r := (Db q (m := a.2) (v := a.1) hw).1
   simp only [res, Option.bind_some, orP, Ak]
   exact hF false _ r
 ·simp only [cond_true, Ak]
  rw [Ly k q, Option.bind_some]
  exact hF true _ q.tk1
theorem Bbp (q : Rdy l) (hl : l.length ≤ 100000) : Rl k l = some (res (Js l) outP) := by
 rw [A76, Acn, Ba2 k _ (by decide) (by omega) q]
 unfold Js
 refine Ax fun c l1 e1 => ?_
 obtain ⟨r1, h1, -⟩ := Bl q (Bk _ rfl q.e q.e q.g) e1
 rw [Cb k [([59] : List Int)] (by decide) (by omega) r1]
 refine Ax fun _ l2 e2 => ?_
 obtain ⟨r2, h2⟩ := Db r1 e2
 rw [Bci k hk r2 (by omega)]
 refine Ax fun t l3 e3 => ?_
 obtain ⟨r3, h3, -⟩ := Bl r2 (Hl (w := ([110, 111, 100, 101] : List Int)) (by decide) (least := 0) (most := 12) Afv (l2.length + 1) l2 l2 [] rfl r2.e r2.e r2.g (Nat.lt_succ_self _) (fun x hx => by cases hx) (Nat.zero_le _)) e3
 rw [Ax4 k hk ([111, 117, 116] : List Int) r3]
 refine Ax fun o l4 e4 => ?_
 have r4 := (Bl r3 (Vm ([111, 117, 116] : List Int) rfl r3.e r3.e r3.g) e4).1
 rw [Ax4 k hk ([105, 110] : List Int) r4]
 refine Ax fun i l5 e5 => ?_
 have r5 := (Bl r4 (Vm ([105, 110] : List Int) rfl r4.e r4.e r4.g) e5).1
 rw [Cb k [([98, 101, 115, 116] : List Int)] (by decide) (by omega) r5]
 refine Ax fun _ l6 e6 => ?_
 exact Ayq k hk (fun b m => (D9 k).J 11 [] (Kz (m, (0 : Int), (0 : Int), (0 : Int), (0 : Int), (0 : Int), false, (0 : Int), c, o.1, o.2, i.1, i.2, b, (0 : Int), t))) (fun b m => endP c t o i b m) outP (fun b m r => end_run k hk c t o i b false r) (Db r5 e6).1
end
end Go.Proofs.YtghmhkpgdmgepaaGreatDoorV
namespace Go.Proofs.YtghmhkpgdmgepaaGreatDoorV
open Go Go.RowKit
end Go.Proofs.YtghmhkpgdmgepaaGreatDoorV
set_option maxRecDepth 100000
namespace Go.Proofs.YtghmhkpgdmgepaaGreatDoorV
open Go Go.RowKit
theorem Bds {w : List Int} {c : Int} {r : List Int} (e : w = c :: r) (hc : B7 c = true) (hl : ¬ 24 < w.length) (hall : ∀ y ∈ w, Bh y = true) : Fp 1 w 0 = true := by
 obtain ⟨t1, t2⟩ := Axs (s := []) hall (fun c r h => by cases h)
 rw [List.append_nil] at t1 t2
 subst e
 have e : c ≠ 35 ∧ C7 c = false := by
  unfold B7 at hc
  unfold C7
  simp at hc ⊢
  omega
 unfold Fp
 rw [decide_eq_true_eq]
 refine ⟨by simp, ?_, ?_⟩
 ·rw [drp, if_neg e.1, e.2]; rfl
 ·rw [tok1, hc, t1, t2, if_pos rfl, if_neg hl]
theorem tok1_g (s : List Int) : TokG ((tok1 s).2.1, (tok1 s).2.2.1, (tok1 s).2.2.2.1, 0, ()) := by
 cases s with
 | nil => exact ⟨fun h => (by cases h), fun h => (by cases h), by intro h; first | rfl | cases h⟩
 | cons x r =>
  rw [tok1]
  split
  ·rename_i hs
   split
   ·exact ⟨fun h => (by cases h), fun h => (by cases h), by intro h; first | rfl | cases h⟩
   ·rename_i hl
    refine ⟨fun _ => ?_, fun h => (by cases h), by intro h; cases h⟩
    have hx : Bh x = true := by unfold Bh; rw [hs]; rfl
    have e : (x :: r).takeWhile Bh = x :: r.takeWhile Bh := by rw [List.takeWhile_cons, hx]; rfl
    exact Bds e hs hl fun y hy => Po hy
  ·split
   ·split
    ·exact ⟨fun h => (by cases h), fun h => (by cases h), by intro h; first | rfl | cases h⟩
    ·rename_i hl
     refine ⟨fun h => (by cases h), fun _ => ?_, by intro h; cases h⟩
     have := Axz ((x :: r).takeWhile Aw) 0 0 (by decide) (by decide) fun c hc => Po hc
     have hp : (10 : Int) ^ (0 + ((x :: r).takeWhile Aw).length) ≤ 10 ^ 18 := by
      rw [Nat.zero_add]
      exact_mod_cast Nat.pow_le_pow_right (by decide) (by omega)
     show numB (valD ((x :: r).takeWhile Aw)) = true
     unfold numB valD
     simp only [Bool.and_eq_true, decide_eq_true_eq]
     have h18 : (10 : Int) ^ 18 = 1000000000000000000 := by decide
     omega
   ·split
    ·exact ⟨fun h => (by cases h), fun h => (by cases h), by intro h; first | rfl | cases h⟩
    ·exact ⟨fun h => (by cases h), fun h => (by cases h), by intro h; first | rfl | cases h⟩
theorem lx_g (n : Nat) : ∀ (f : Nat) (s : List Int), ∀ t ∈ (lx n f s).2.2, TokG t
 | 0, s, t, h => by cases h
 | f + 1, s, t, h => by
  rw [lx] at h
  cases hd : drp false s with
  | nil =>
   rw [hd] at h
   rcases List.mem_cons.1 h with rfl | h
   ·exact ⟨fun h => (by cases h), fun h => (by cases h), by intro h; first | rfl | cases h⟩
   ·cases h
  | cons x r =>
   rw [hd] at h
   simp only [] at h
   split at h
   ·split at h
    ·rcases List.mem_cons.1 h with rfl | h
     ·exact tok1_g (x :: r)
     ·exact lx_g n f _ t h
    ·cases h
   ·cases h
theorem toks_g (b : List Int) : Gd (toks b).2.2 := by
 intro t h
 unfold toks at h
 split at h
 ·cases h
 ·exact lx_g _ _ _ t h
theorem Ast (n : Nat) : ∀ (f : Nat) (s : List Int), s.length < f → (lx n f s).1 = 0 → EndT (lx n f s).2.2 ∧ (lx n f s).2.2.length ≤ s.length + 1
 | 0, s, hf, _ => by omega
 | f + 1, s, hf, h => by
  have hl := Sa false s
  rw [lx] at h ⊢
  cases hd : drp false s with
  | nil => exact ⟨⟨[], _, rfl, rfl⟩, by simp⟩
  | cons x r =>
   rw [hd, List.length_cons] at hl
   rw [hd] at h
   simp only [] at h ⊢
   split at h
   ·rename_i h0
    rw [if_pos h0]
    split at h
    ·rename_i h1
     rw [if_pos h1]
     have hr := V1 h0
     obtain ⟨⟨q, t, e, ht⟩, hlen⟩ := Ast n f _ (by omega) h1
     exact ⟨⟨_ :: q, t, by simp only; rw [e]; rfl, ht⟩, by simp only [List.length_cons]; omega⟩
    ·rename_i h1; exact absurd h h1
   ·rename_i h0; exact absurd h h0
theorem Axq {b : List Int} (h : (toks b).1 = 0) : EndT (toks b).2.2 ∧ (toks b).2.2.length ≤ b.length + 1 := by
 unfold toks at h ⊢
 split at h
 ·simp at h
 ·rename_i hl
  rw [if_neg hl]
  exact Ast _ _ b (by omega) h
theorem Axr {b : List Int} (h : (toks b).1 = 0) : Rdy (toks b).2.2 ∧ (toks b).2.2.length ≤ b.length + 1 := ⟨⟨(Axq h).1, toks_g b⟩, (Axq h).2⟩
theorem Bdj {b : List Int} (h : 65536 < b.length) : (toks b).1 = 4 := by
 unfold toks
 rw [if_pos h]
theorem Bbg (k : Nat) (hk : 200000 ≤ k) (b : List Int) (hb : b.length < k) (hm : b.length < 1000000) :
  M8 k b = some ((Ct b).1.1, (Ct b).1.2.2.1, (Ct b).1.2.2.2.1, (Ct b).1.2.2.2.2.1, (Ct b).1.2.2.2.2.2.1, (Ct b).1.2.2.2.2.2.2.1, (Ct b).1.2.2.2.2.2.2.2, (Ct b).2.1, (Ct b).2.2, (Ct b).1.2.1) := by
 rw [A6n, Am7, Axp k b hb hm, Option.bind_some]
 unfold Ct
 by_cases h0 : (toks b).1 = 0
 ·have hb0 : ((toks b).1 != 0) = false := by simpa using h0
  obtain ⟨r, hl⟩ := Axr h0
  have hlen : b.length ≤ 65536 := by
   refine Classical.byContradiction fun h => ?_
   have := Bdj (b := b) (by omega)
   omega
  rw [hb0, cond_false, cond_false, Bbp k (by omega) r (by omega)]
  cases Js (toks b).2.2 <;> rfl
 ·have hb0 : ((toks b).1 != 0) = true := by simpa using h0
  rw [hb0]
  rfl
theorem Bbz {b : List Int} (h : (Ct b).2.1 = 0) : B8 (Ct b).1 = true := by
 unfold Ct at h ⊢
 by_cases h0 : (toks b).1 = 0
 ·have hb0 : ((toks b).1 != 0) = false := by simpa using h0
  rw [hb0, cond_false] at h ⊢
  have r := (Axr h0).1
  have := Bb2 (l := (toks b).2.2) (m := (toks b).2.2) rfl r.e r.e r.g
  revert h this
  generalize Js (toks b).2.2 = x
  intro h this
  cases x with
  | inl y => exact this.2.2.2.2.2.2
  | inr e =>
   have h9 : e.1 = 0 := h
   rcases this.2.1 with h | h <;> omega
 ·have hb0 : ((toks b).1 != 0) = true := by simpa using h0
  rw [hb0, cond_true] at h
  exact absurd h h0
def L6 (w : Bb) : Prop := w.1.length ≤ 100
def SlotS (s : Ar) : Prop := s.1.length ≤ 100 ∧ s.2.2.2.2.1.length ≤ 12 ∧ ∀ w ∈ s.2.2.2.2.1, L6 w
def RingS (l : List Ar) : Prop := l.length ≤ 8 ∧ ∀ s ∈ l, SlotS s
def SpanS (g : Bd) : Prop := g.1.length ≤ 6 ∧ ∀ l ∈ g.1, RingS l
def TimS (t : TimT) : Prop := t.1.length ≤ 100 ∧ t.2.2.1.length ≤ 6 ∧ ∀ g ∈ t.2.2.1, SpanS g
def PlanS (p : A4) : Prop := p.2.1.length ≤ 15 ∧ ∀ t ∈ p.2.1, TimS t
theorem wlkS_of {w : Bb} (h : wlkB w = true) : L6 w := by
 unfold wlkB at h
 simp only [Bool.and_eq_true] at h
 exact Nat.le_trans (He h.1) (by decide)
theorem Bcw {s : Ar} (h : Ck s = true) : SlotS s := by
 have := Agh h
 exact ⟨Nat.le_trans (He this.1) (by decide), by omega, fun w hw => wlkS_of (this.2.2.2.2.2 w hw)⟩
theorem Bca {l : List Ar} (h : C9 l = true) : RingS l := by
 have := Ls h
 exact ⟨by omega, fun s hs => Bcw (this.2 s hs)⟩
theorem Bc1 {g : Bd} (h : Cl g = true) : SpanS g := by
 have := Lw h
 exact ⟨by omega, fun s hs => Bca (this.2 s hs)⟩
theorem timS_of {t : TimT} (h : timB t = true) : TimS t := by
 have := V0 h
 exact ⟨Nat.le_trans (He this.1) (by decide), by omega, fun s hs => Bc1 (this.2.2.2.2.2 s hs)⟩
theorem Bbn {p : A4} (h : B8 p = true) : PlanS p := by
 have := Afj h
 exact ⟨by omega, fun s hs => timS_of (this.2.2.2.2.2.2.2 s hs)⟩
section
variable (k : Nat) (hk : 100000 < k)
include hk
theorem Ae9 (s : List Int) (hs : s.length ≤ 100) : cplannamed k s = some (Cs s) := by
 rw [A7n, Aoy, Bb9 k 1 s 0 0 (by omega) (by omega), Option.bind_some, At6, Option.bind_some]
 unfold Cs
 cases Fp 1 s 0 <;> cases resB s <;> rfl
omit hk in
theorem Ba3 (n : Int) : Ri k n = some (!numB n) := by
 rw [A7p, Ao1]
 unfold numB
 by_cases h : n < 0
 ·have : ¬ 0 ≤ n := by omega
  simp [h, this]
 ·have : 0 ≤ n := by omega
  by_cases h2 : n ≤ 999999999999999999
  ·have : ¬ n > 999999999999999999 := by omega
   simp [h, *]
  ·have : n > 999999999999999999 := by omega
   simp [h, *]
theorem ctf_num (l : List Int) (hl : l.length < 1000) : Mm k l = some (!(l.all numB)) :=
 Kl l numB _ (fun j i => (E2 k).L 2 [] j (Ol (l, ((l.length : Nat) : Int), i))) k (by omega) (by omega) (fun j i => A5d k j (l, ((l.length : Nat) : Int), i)) (Mm k l) (by rw [A2r, Ajh, A5c, Aar]) (fun x _ => Ba3 k x)
theorem U5 (l : List Int) (hl : l.length < 1000) : cplannums k l = some (l.all numB) := by
 rw [A7q, Ao4, ctf_num k hk l hl]
 simp
theorem A11 (l : List (Bb)) (p : Bb → Bool) (hl : l.length < 1000) (hg : ∀ x ∈ l, Nd k (x.1, x.2.1, x.2.2.1) = some (!p x)) : Ml k l = some (!(l.all p)) :=
 Kl l p _ (fun j i => (E1 k).L 2 [] j (Ok (l, ((l.length : Nat) : Int), i))) k (by omega) (by omega) (fun j i => A5a k j (l, ((l.length : Nat) : Int), i)) (Ml k l) (by rw [A2p, Ajd, A49, Aan]) hg
theorem A1y (l : List (Ar)) (p : Ar → Bool) (hl : l.length < 1000) (hg : ∀ x ∈ l, Na k (x.1, x.2.1, x.2.2.1, x.2.2.2.1, x.2.2.2.2.1) = some (!p x)) : Mi k l = some (!(l.all p)) :=
 Kl l p _ (fun j i => (Ey k).L 2 [] j (Oh (l, ((l.length : Nat) : Int), i))) k (by omega) (by omega) (fun j i => A41 k j (l, ((l.length : Nat) : Int), i)) (Mi k l) (by rw [A2j, Ai1, A40, Aab]) hg
theorem A1x (l : List (List Ar)) (p : List Ar → Bool) (hl : l.length < 1000) (hg : ∀ x ∈ l, M9 k x = some (!p x)) : Mh k l = some (!(l.all p)) :=
 Kl l p _ (fun j i => (Ex k).L 2 [] j (Og (l, ((l.length : Nat) : Int), i))) k (by omega) (by omega) (fun j i => A4y k j (l, ((l.length : Nat) : Int), i)) (Mh k l) (by rw [A2h, Aix, A4x, Z7]) hg
theorem A1z (l : List (Bd)) (p : Bd → Bool) (hl : l.length < 1000) (hg : ∀ x ∈ l, Nb k x.1 = some (!p x)) : Mj k l = some (!(l.all p)) :=
 Kl l p _ (fun j i => (Ez k).L 2 [] j (Oi (l, ((l.length : Nat) : Int), i))) k (by omega) (by omega) (fun j i => A44 k j (l, ((l.length : Nat) : Int), i)) (Mj k l) (by rw [A2l, Ai5, A43, Aaf]) hg
theorem A10 (l : List (TimT)) (p : TimT → Bool) (hl : l.length < 1000) (hg : ∀ x ∈ l, Nc k (x.1, x.2.1, x.2.2.1, x.2.2.2.1.1, x.2.2.2.1.2.1) = some (!p x)) : Mk k l = some (!(l.all p)) :=
 Kl l p _ (fun j i => (E0 k).L 2 [] j (Oj (l, ((l.length : Nat) : Int), i))) k (by omega) (by omega) (fun j i => A47 k j (l, ((l.length : Nat) : Int), i)) (Mk k l) (by rw [A2n, Ai9, A46, Aaj]) hg
omit hk in
theorem Ma {α : Type} {l : List α} {a b : Nat} {p : α → Bool} {c : Option Bool} (hc : c = some (!(l.all p))) :
  (bif (decide (((List.length l : Nat) : Int) < (a : Int))) then (some true) else (bif (decide (((List.length l : Nat) : Int) > (b : Int))) then (some true) else (c.bind fun o1 => some o1))) = some (!(lenB l a b && l.all p)) := by
 rw [hc]
 unfold lenB
 by_cases h1 : l.length < a
 ·rw [show decide (((List.length l : Nat) : Int) < (a : Int)) = true by simp; omega, show decide (a ≤ l.length) = false by simp; omega]
  rfl
 ·rw [show decide (((List.length l : Nat) : Int) < (a : Int)) = false by simp; omega, show decide (a ≤ l.length) = true by simp; omega]
  by_cases h2 : b < l.length
  ·rw [show decide (((List.length l : Nat) : Int) > (b : Int)) = true by simp; omega, show decide (l.length ≤ b) = false by simp; omega]
   rfl
  ·rw [show decide (((List.length l : Nat) : Int) > (b : Int)) = false by simp; omega, show decide (l.length ≤ b) = true by simp; omega]
   rfl
theorem Ayo (w : Bb) (hw : L6 w) : Nd k (w.1, w.2.1, w.2.2.1) = some (!wlkB w) := by
 unfold L6 at hw
 rw [A65, An4, Ae9 k hk _ hw, Option.bind_some, U5 k hk _ (by simp), Option.bind_some]
 unfold wlkB
 simp only [List.all_cons, List.all_nil, Bool.and_true]
 cases Cs w.1 <;> rfl
theorem Ayp (l : List Bb) (hl : l.length < 1000) (h : ∀ w ∈ l, L6 w) : Re k (l, 0, 8) = some (!(lenB l 0 8 && l.all wlkB)) := by
 rw [A7f, Aoo]
 exact Ma (a := 0) (b := 8) (A11 k hk l wlkB hl fun x hx => Ayo k hk x (h x hx))
theorem Ayl (s : Ar) (hs : SlotS s) : Na k (s.1, s.2.1, s.2.2.1, s.2.2.2.1, s.2.2.2.2.1) = some (!Ck s) := by
 obtain ⟨h1, h2, h3⟩ := hs
 rw [A6z, Anr, Ae9 k hk _ h1, Option.bind_some, U5 k hk _ (by simp), Option.bind_some, Ayp k hk _ (by omega) h3]
 unfold Ck
 simp only [List.all_cons, List.all_nil, Bool.and_true]
 cases Cs s.1 <;> cases numB s.2.1 <;> cases numB s.2.2.1 <;> cases numB s.2.2.2.1 <;> rfl
theorem Ayk (l : List Ar) (hl : RingS l) : M9 k l = some (!C9 l) := by
 rw [A6x, Ann, A69, Aoc]
 have := Ma (a := 1) (b := 4) (A1y k hk l Ck (by have := hl.1; omega) fun x hx => Ayl k hk x (hl.2 x hx))
 rw [show ((1 : Nat) : Int) = 1 from rfl, show ((4 : Nat) : Int) = 4 from rfl] at this
 rw [this]
 rfl
theorem Aym (g : Bd) (hg : SpanS g) : Nb k g.1 = some (!Cl g) := by
 rw [A61, Anv, A67, An8]
 have := Ma (a := 1) (b := 2) (A1x k hk g.1 C9 (by have := hg.1; omega) fun x hx => Ayk k hk x (hg.2 x hx))
 rw [show ((1 : Nat) : Int) = 1 from rfl, show ((2 : Nat) : Int) = 2 from rfl] at this
 rw [this]
 rfl
theorem Ayn (t : TimT) (ht : TimS t) : Nc k (t.1, t.2.1, t.2.2.1, t.2.2.2.1.1, t.2.2.2.1.2.1) = some (!timB t) := by
 obtain ⟨h1, h2, h3⟩ := ht
 rw [A63, An0, Ae9 k hk _ h1, Option.bind_some, U5 k hk _ (by simp), Option.bind_some, A7b, Aog]
 have := Ma (a := 0) (b := 4) (A1z k hk t.2.2.1 Cl (by omega) fun x hx => Aym k hk x (h3 x hx))
 rw [show ((0 : Nat) : Int) = 0 from rfl, show ((4 : Nat) : Int) = 4 from rfl] at this
 rw [this]
 unfold timB
 simp only [List.all_cons, List.all_nil, Bool.and_true]
 cases Cs t.1 <;> cases numB t.2.1 <;> cases numB t.2.2.2.1.1 <;> cases numB t.2.2.2.1.2.1 <;> rfl
theorem Bb8 (p : A4) (hp : PlanS p) : Rd k p = some (B8 p) := by
 obtain ⟨a0, a1, a2, a3, a4, a5, a6, a7⟩ := p
 obtain ⟨h1, h2⟩ := hp
 rw [A6v, Anj, U5 k hk _ (by simp), Option.bind_some, A7d, Aok]
 have := Ma (a := 0) (b := 12) (A10 k hk a1 timB (by simp only at h1; omega) fun x hx => Ayn k hk x (h2 x hx))
 rw [show ((0 : Nat) : Int) = 0 from rfl, show ((12 : Nat) : Int) = 12 from rfl] at this
 rw [this]
 unfold B8
 simp only [List.all_cons, List.all_nil, Bool.and_true]
 cases numB a0 <;> cases numB a2 <;> cases numB a3 <;> cases numB a4 <;> cases numB a5 <;> cases numB a7 <;> simp
end
section
variable (k : Nat) (hk : 100000 < k)
include hk
end
theorem Bdq {w : Bb} (h : wlkB w = true) : (P4 w).flatten.length ≤ 80 := by
 obtain ⟨q0, q1, q2⟩ := Ax5 h
 have := He q0
 have := C8 w.2.1
 have := C8 w.2.2.1
 unfold P4
 simp only [List.flatten_cons, List.flatten_nil, List.length_append, List.length_cons, List.length_nil]
 omega
theorem Bcx {s : Ar} (h : Ck s = true) : (Eh s).length ≤ 800 := by
 obtain ⟨q0, q1, q2, q3, q4, q5⟩ := Agh h
 have := He q0
 have := C8 s.2.1
 have := C8 s.2.2.1
 have := C8 s.2.2.2.1
 have hw := Ib (fun w => (P4 w).flatten) 80 s.2.2.2.2.1 fun w hw => Bdq (q5 w hw)
 unfold Eh slotX
 simp only [List.flatten_cons, List.flatten_nil, List.length_append, List.length_cons, List.length_nil]
 omega
theorem Bcb {l : List Ar} (h : C9 l = true) : (Fr l).length ≤ 3300 := by
 have hb := Ls h
 have hw := Ib Eh 800 l fun s hs => Bcx (hb.2 s hs)
 unfold Fr
 simp only [List.length_append, List.length_cons, List.length_nil]
 omega
theorem Bc2 {g : Bd} (h : Cl g = true) : (Fu g).length ≤ 6700 := by
 have hb := Lw h
 have hw := Ib Fr 3300 g.1 fun s hs => Bcb (hb.2 s hs)
 unfold Fu
 simp only [List.length_append, List.length_cons, List.length_nil]
 omega
theorem tim_len {t : TimT} (h : timB t = true) : (timT t).length ≤ 27000 := by
 obtain ⟨q0, q1, q2, q3, q4, q5⟩ := V0 h
 have := He q0
 have := C8 t.2.1
 have := C8 t.2.2.2.1.1
 have := C8 t.2.2.2.1.2.1
 have hw := Ib Fu 6700 t.2.2.1 fun s hs => Bc2 (q5 s hs)
 unfold timT timX
 simp only [List.flatten_cons, List.flatten_nil, List.length_append, List.length_cons, List.length_nil]
 omega
theorem yes_len (b : Bool) : (yesT b).length ≤ 3 := by cases b <;> decide
theorem Bdc (p : A4) : (Py p).flatten.length ≤ 320 := by
 have h := Ib id 20 (Py p) (by
  intro x hx
  unfold Py at hx
  simp only [List.mem_cons, List.not_mem_nil, or_false] at hx
  rcases hx with rfl | rfl | rfl | rfl | rfl | rfl | rfl | rfl | rfl | rfl | rfl | rfl | rfl | rfl | rfl | rfl
  all_goals first | exact Nat.le_trans (C8 _) (by decide) | exact Nat.le_trans (yes_len _) (by decide) | decide | (show List.length _ ≤ 20; decide))
 rw [List.flatMap_id] at h
 exact h
theorem Bbo {p : A4} (h : B8 p = true) : (Ju p).length ≤ 330000 := by
 obtain ⟨q0, q1, q2, q3, q4, q5, q6, q7⟩ := Afj h
 have := C8 p.1
 have := Bdc p
 have hw := Ib timT 27000 p.2.1 fun s hs => tim_len (q7 s hs)
 unfold Ju
 simp only [List.flatten_cons, List.flatten_nil, List.length_append, List.length_cons, List.length_nil]
 omega
def pw (s : List Int) : AnyV := .mk 9 false [.str s]
def pn (n : Int) : AnyV := .mk 2 false [.int .i64 n]
def pf (a b : Int) : AnyV := .mk 53 true [.int .i64 a, .int .i64 b]
def pcT : AnyV → List Int
 | .mk _ _ [.str s] => s
 | .mk _ _ [.int _ n] => numT n
 | .mk _ _ [.int _ a, .int _ b] => numT a ++ ([47] : List Int) ++ numT b
 | _ => []
def Pc (x : AnyV) : Prop := (∃ t, x = pw t) ∨ (∃ n, inM n ∧ x = pn n) ∨ ∃ a b, inM a ∧ inM b ∧ x = pf a b
theorem pc_w (t : List Int) : Pc (pw t) := .inl ⟨t, rfl⟩
theorem pc_n {n : Int} (h : inM n) : Pc (pn n) := .inr (.inl ⟨n, h, rfl⟩)
theorem pc_f {a b : Int} (h : inM a) (g : inM b) : Pc (pf a b) := .inr (.inr ⟨a, b, h, g, rfl⟩)
def ind : Nat → List Int
 | 0 => []
 | d + 1 => 32 :: 32 :: ind d
def Cr : List AnyV → List Int
 | [] => []
 | x :: r => pcT x ++ r.flatMap fun y => 32 :: pcT y
def Au (d : Nat) (l : List AnyV) (e : List Int) : List Int := ind d ++ (Cr l ++ (e ++ ([10] : List Int)))
theorem At5 (k d : Nat) (hd : d ≤ 3) : R6 k (([32, 32] : List Int), (d : Int)) = some (ind d) := by
 rcases d with _ | _ | _ | _ | d
 ·rfl
 ·rfl
 ·rfl
 ·rfl
 ·omega
theorem Gx (k : Nat) (a buf : List Int) (b : Bool) (d : Int) (h : buf.length + a.length ≤ 1000000) : Do k (a, b, d, buf) = some ((a.length : Int), false, d, buf ++ a) := by
 rw [Arj, Aeq]
 show (app 1 buf a fun o2 => some (((List.length a : Nat) : Int), false, d, o2)) = _
 rw [Cw (by omega) (by omega)]
theorem Ax2 (k : Nat) (a : Int) (buf : List Int) (b : Bool) (d : Int) (h : buf.length + 1 ≤ 1000000) : Nj k (a, b, d, buf) = some (false, d, buf ++ [a]) := by
 rw [A93, Arf]
 show (app 1 buf [a] fun o2 => some (false, d, o2)) = _
 rw [Cw (by simp; omega) (by simp; omega)]
theorem Ky (k : Nat) {n : Int} (h : inM n) : G8 k (n, 10) = some (numT n) := by
 have hl : (Lib.itoa n).length = (numT n).length := by
  rw [← Ase h]; unfold bs; exact (List.length_map _).symm
 have := C8 n
 unfold G8 fmtI
 have hm : maxLen = 9223372036854775807 := rfl
 rw [if_pos ⟨rfl, by simp only; omega⟩, Ase h]
theorem Atr (k j : Nat) (e : List Int) (x : AnyV) (hx : Pc x) (l : List AnyV) (n i d : Int) (buf : List Int) (hb : buf.length + (pcT x).length ≤ 1000000) :
  (By k).J 6 [j] (O6 (e, x, l, n, i, false, d, buf)) = (By k).L 2 [] j (Fa (e, l, n, IntKind.wrap .i64 (i + 1), false, d, buf ++ pcT x)) := by
 rw [A9h, Adu]
 rcases hx with ⟨t, rfl⟩ | ⟨m, hm, rfl⟩ | ⟨a, b, ha, hb', rfl⟩
 ·change buf.length + t.length ≤ 1000000 at hb
  rw [show Be 9 (pw t) = true from rfl, show Cv false [.str] (pw t) = true from rfl, show anyS 0 (pw t) = t from rfl, cond_true, cond_true, Gx k _ _ _ _ hb, Option.bind_some]
  rfl
 ·change buf.length + (numT m).length ≤ 1000000 at hb
  rw [show Be 9 (pn m) = false from rfl, show Be 2 (pn m) = true from rfl, show Cv false [.int .i64] (pn m) = true from rfl, show anyI 0 (pn m) = m from rfl, cond_false, cond_true, cond_true, Ky k hm, Option.bind_some, Gx k _ _ _ _ hb, Option.bind_some]
  rfl
 ·change buf.length + (numT a ++ ([47] : List Int) ++ numT b).length ≤ 1000000 at hb
  have h1 := C8 a
  have h2 := C8 b
  have e1 : List.length ([47] : List Int) = 1 := rfl
  rw [show Be 9 (pf a b) = false from rfl, show Be 2 (pf a b) = false from rfl, show Be 53 (pf a b) = true from rfl, show Cv true [.int .i64, .int .i64] (pf a b) = true from rfl, show anyI 0 (pf a b) = a from rfl, show anyI 1 (pf a b) = b from rfl, cond_false, cond_false, cond_true, cond_true, Ky k ha, Option.bind_some, Kb (by omega), Ky k hb', Option.bind_some, Kb (by rw [List.length_append]; omega), Gx k _ _ _ _ hb, Option.bind_some]
  rfl
theorem core1 (k : Nat) (e : List Int) (l : List AnyV) (d : Int) (buf : List Int) (hl : ∀ x ∈ l, Pc x) (hn : l.length ≤ 1000) (hk : 1000 < k) (h : buf.length + (Cr l ++ (e ++ ([10] : List Int))).length ≤ 1000000) :
  (By k).L 2 [] k (Fa (e, l, ((l.length : Nat) : Int), 0, false, d, buf)) = some (false, d, buf ++ (Cr l ++ (e ++ ([10] : List Int)))) := by
 have e1 : List.length ([10] : List Int) = 1 := rfl
 rw [List.length_append, List.length_append] at h
 obtain ⟨J, rfl⟩ : ∃ j, k = j + 1 := ⟨k - 1, by omega⟩
 have fin : ∀ (j : Nat) (b : List Int), b.length + (e.length + 1) ≤ 1000000 → (By (J + 1)).L 2 [] (j + 1) (Fa (e, l, ((l.length : Nat) : Int), ((l.length : Nat) : Int), false, d, b)) = some (false, d, b ++ (e ++ ([10] : List Int))) := by
  intro j b hb
  rw [Ads, O7, Gj, Kb (by omega), Gx _ _ _ _ _ (by rw [List.length_append]; omega), Option.bind_some]
 cases l with
 | nil =>
  rw [show ((0 : Int)) = (((([] : List AnyV).length : Nat)) : Int) from rfl, fin J buf (by omega)]
  rfl
 | cons x r =>
  rw [Cr, List.length_append] at h
  have hx := Atr (J + 1) J e x (hl x (by simp)) (x :: r) (((x :: r).length : Nat) : Int) 0 d buf (by omega)
  have hr0 : (x :: r)[0]? = some x := rfl
  rw [show (0 : Int) = ((0 : Nat) : Int) from rfl] at hx ⊢
  rw [Ads, O7, Ee hr0, Df hr0, show decide (((0 : Nat) : Int) > (0 : Int)) = false from rfl, cond_false, hx]
  have LL := I2 (1000000 - (e.length + 1)) r (fun y => 32 :: pcT y) (fun j' i b => (By (J + 1)).L 2 [] j' (Fa (e, x :: r, (((x :: r).length : Nat) : Int), i + 1, false, d, b))) (fun b => some (false, d, b ++ (e ++ ([10] : List Int))))
   (fun j' i y b hy hb => by
    have hy' : (x :: r)[i + 1]? = some y := by simpa using hy
    simp only [List.length_cons] at hb
    rw [show ((i : Nat) : Int) + 1 = ((i + 1 : Nat) : Int) from rfl, Ads, O7, Ee hy', Df hy', show decide (((i + 1 : Nat) : Int) > (0 : Int)) = true from decide_eq_true (by omega), cond_true, Ax2 _ _ _ _ _ (by omega), Option.bind_some,
     Atr _ _ e y (hl y (List.mem_cons_of_mem _ (I3 hy))) _ _ _ _ _ (by simp only [List.length_append, List.length_cons, List.length_nil]; omega), Gu hy' (by omega)]
    simp only [List.append_assoc, List.cons_append, List.nil_append]
    rfl)
   (fun j' b hb => by
    have := fin j' b (by omega)
    rw [List.length_cons] at this ⊢
    exact this)
   J (buf ++ pcT x) (by simp at hn; omega) (by rw [List.length_append]; omega)
  rw [show IntKind.wrap .i64 (((0 : Nat) : Int) + 1) = (0 : Int) + 1 from rfl, LL, Cr]
  simp only [List.append_assoc]
theorem Atq (k j : Nat) (e : List Int) (x : AnyV) (hx : Pc x) (l : List AnyV) (n i d : Int) (buf : List Int) (hb : buf.length + (pcT x).length ≤ 1000000) :
  (Bx k).J 6 [j] (O8 (e, x, l, n, i, false, d, buf)) = (Bx k).L 2 [] j (Fb (e, l, n, IntKind.wrap .i64 (i + 1), false, d, buf ++ pcT x)) := by
 rw [A9k, Ad1]
 rcases hx with ⟨t, rfl⟩ | ⟨m, hm, rfl⟩ | ⟨a, b, ha, hb', rfl⟩
 ·change buf.length + t.length ≤ 1000000 at hb
  rw [show Be 9 (pw t) = true from rfl, show Cv false [.str] (pw t) = true from rfl, show anyS 0 (pw t) = t from rfl, cond_true, cond_true, Gx k _ _ _ _ hb, Option.bind_some]
  rfl
 ·change buf.length + (numT m).length ≤ 1000000 at hb
  rw [show Be 9 (pn m) = false from rfl, show Be 2 (pn m) = true from rfl, show Cv false [.int .i64] (pn m) = true from rfl, show anyI 0 (pn m) = m from rfl, cond_false, cond_true, cond_true, Ky k hm, Option.bind_some, Gx k _ _ _ _ hb, Option.bind_some]
  rfl
 ·change buf.length + (numT a ++ ([47] : List Int) ++ numT b).length ≤ 1000000 at hb
  have h1 := C8 a
  have h2 := C8 b
  have e1 : List.length ([47] : List Int) = 1 := rfl
  rw [show Be 9 (pf a b) = false from rfl, show Be 2 (pf a b) = false from rfl, show Be 53 (pf a b) = true from rfl, show Cv true [.int .i64, .int .i64] (pf a b) = true from rfl, show anyI 0 (pf a b) = a from rfl, show anyI 1 (pf a b) = b from rfl, cond_false, cond_false, cond_true, cond_true, Ky k ha, Option.bind_some, Kb (by omega), Ky k hb', Option.bind_some, Kb (by rw [List.length_append]; omega), Gx k _ _ _ _ hb, Option.bind_some]
  rfl
theorem core0 (k : Nat) (e : List Int) (l : List AnyV) (d : Int) (buf : List Int) (hl : ∀ x ∈ l, Pc x) (hn : l.length ≤ 1000) (hk : 1000 < k) (h : buf.length + (Cr l ++ (e ++ ([10] : List Int))).length ≤ 1000000) :
  (Bx k).L 2 [] k (Fb (e, l, ((l.length : Nat) : Int), 0, false, d, buf)) = some (false, d, buf ++ (Cr l ++ (e ++ ([10] : List Int)))) := by
 have e1 : List.length ([10] : List Int) = 1 := rfl
 rw [List.length_append, List.length_append] at h
 obtain ⟨J, rfl⟩ : ∃ j, k = j + 1 := ⟨k - 1, by omega⟩
 have fin : ∀ (j : Nat) (b : List Int), b.length + (e.length + 1) ≤ 1000000 → (Bx (J + 1)).L 2 [] (j + 1) (Fb (e, l, ((l.length : Nat) : Int), ((l.length : Nat) : Int), false, d, b)) = some (false, d, b ++ (e ++ ([10] : List Int))) := by
  intro j b hb
  rw [Adz, O9, Gj, Kb (by omega), Gx _ _ _ _ _ (by rw [List.length_append]; omega), Option.bind_some]
 cases l with
 | nil =>
  rw [show ((0 : Int)) = (((([] : List AnyV).length : Nat)) : Int) from rfl, fin J buf (by omega)]
  rfl
 | cons x r =>
  rw [Cr, List.length_append] at h
  have hx := Atq (J + 1) J e x (hl x (by simp)) (x :: r) (((x :: r).length : Nat) : Int) 0 d buf (by omega)
  have hr0 : (x :: r)[0]? = some x := rfl
  rw [show (0 : Int) = ((0 : Nat) : Int) from rfl] at hx ⊢
  rw [Adz, O9, Ee hr0, Df hr0, show decide (((0 : Nat) : Int) > (0 : Int)) = false from rfl, cond_false, hx]
  have LL := I2 (1000000 - (e.length + 1)) r (fun y => 32 :: pcT y) (fun j' i b => (Bx (J + 1)).L 2 [] j' (Fb (e, x :: r, (((x :: r).length : Nat) : Int), i + 1, false, d, b))) (fun b => some (false, d, b ++ (e ++ ([10] : List Int))))
   (fun j' i y b hy hb => by
    have hy' : (x :: r)[i + 1]? = some y := by simpa using hy
    simp only [List.length_cons] at hb
    rw [show ((i : Nat) : Int) + 1 = ((i + 1 : Nat) : Int) from rfl, Adz, O9, Ee hy', Df hy', show decide (((i + 1 : Nat) : Int) > (0 : Int)) = true from decide_eq_true (by omega), cond_true, Ax2 _ _ _ _ _ (by omega), Option.bind_some,
     Atq _ _ e y (hl y (List.mem_cons_of_mem _ (I3 hy))) _ _ _ _ _ (by simp only [List.length_append, List.length_cons, List.length_nil]; omega), Gu hy' (by omega)]
    simp only [List.append_assoc, List.cons_append, List.nil_append]
    rfl)
   (fun j' b hb => by
    have := fin j' b (by omega)
    rw [List.length_cons] at this ⊢
    exact this)
   J (buf ++ pcT x) (by simp at hn; omega) (by rw [List.length_append]; omega)
  rw [show IntKind.wrap .i64 (((0 : Nat) : Int) + 1) = (0 : Int) + 1 from rfl, LL, Cr]
  simp only [List.append_assoc]
theorem Fj (k : Nat) (hk : 1000 < k) (e : List Int) (l : List AnyV) (b : Bool) (d : Nat) (buf : List Int) (hd : d ≤ 3) (hl : ∀ x ∈ l, Pc x) (hn : l.length ≤ 1000) (h : buf.length + (Au d l e).length ≤ 1000000) :
  Cd k (e, l, b, (d : Int), buf) = some (false, (d : Int), buf ++ Au d l e) := by
 unfold Au at h
 rw [List.length_append] at h
 rw [A9g, Adt, At5 k d hd, Option.bind_some, Gx k _ _ _ _ (by omega), Option.bind_some]
 simp only
 rw [core1 k e l d _ hl hn hk (by rw [show (buf ++ ind d).length = _ from List.length_append]; omega)]
 unfold Au
 simp only [List.append_assoc]
theorem Bau (k : Nat) (hk : 1000 < k) (e : List Int) (l : List AnyV) (d : Nat) (hd : d ≤ 3) (hl : ∀ x ∈ l, Pc x) (hn : l.length ≤ 1000) (h : (Au d l e).length ≤ 1000000) :
  Nh k (e, l, true, (d : Int)) = some (false, (d : Int), Au d l e) := by
 unfold Au at h
 rw [List.length_append] at h
 have hw1 : R4 k (ind d, true, (d : Int)) = Do k (ind d, true, (d : Int), []) := by
  rw [A96, Arn, Arj, Aeq]
 rw [A9j, Ad0, At5 k d hd, Option.bind_some, hw1, Gx k _ _ _ _ (by simp; omega), Option.bind_some]
 simp only [List.nil_append]
 rw [core0 k e l d _ hl hn hk (by omega)]
 rfl
section
variable (k : Nat) (hk : 100000 < k)
include hk
def Iw (w : Bb) : List AnyV := [pw ([119, 97, 108, 107] : List Int), pw w.1, pn w.2.1, pw ([102, 108, 97, 115, 104] : List Int), pn w.2.2.1]
def J1 (s : Ar) : List AnyV := [pw ([112, 104, 97, 115, 101] : List Int), pw s.1, pw ([115, 112, 108, 105, 116] : List Int), pn s.2.1, pw ([121, 101, 108, 108, 111, 119] : List Int), pn s.2.2.1, pw ([114, 101, 100] : List Int), pn s.2.2.2.1]
omit hk in
theorem Axe (s : Ar) : Au 3 (J1 s ++ s.2.2.2.2.1.flatMap Iw) ([59] : List Int) = Eh s := by
 unfold Au J1 Eh slotX
 rw [List.cons_append, Cr]
 simp only [List.flatMap_append, List.flatMap_assoc, List.flatMap_cons, List.flatMap_nil, List.flatten_cons, List.flatten_nil, List.append_nil, List.append_assoc, List.cons_append, List.nil_append, Iw, P4,
  show ∀ t, pcT (pw t) = t from fun _ => rfl, show ∀ n, pcT (pn n) = numT n from fun _ => rfl]
 rfl
theorem Bcz (s : Ar) (hb : Ck s = true) (buf : List Int) (b : Bool) (h : buf.length + (Eh s).length ≤ 1000000) :
  R0 k (s.1, s.2.1, s.2.2.1, s.2.2.2.1, s.2.2.2.2.1, b, 3, buf) = some (false, 3, buf ++ Eh s) := by
 obtain ⟨q0, q1, q2, q3, q4, q5⟩ := Agh hb
 have hw := Ib Iw 5 s.2.2.2.2.1 fun w _ => Nat.le_refl _
 have L := I2 1000 s.2.2.2.2.1 Iw (fun j i l => (Fc k).L 3 [] j (Pa (s.2.2.2.2.1, ((s.2.2.2.2.1.length : Nat) : Int), i, b, 3, buf, l)))
  (fun l => ((Cd k) ((([59] : List Int) : List Int), l, b, 3, buf)).bind fun o3 => some (o3.1, o3.2.1, o3.2.2))
  (fun j i w l hw hl => by
   have e5 : (Iw w).length = 5 := rfl
   rw [Aqt, Ul, Ee hw, Df hw]
   refine (Cw (b := Iw w) (by omega) (by omega)).trans ?_
   rw [Gu hw (by omega)])
  (fun j l hl => by rw [Aqt, Ul, Gj]) k (J1 s) (by omega) (by
   have e8 : (J1 s).length = 8 := rfl
   omega)
 rw [A9m, Ad5]
 refine L.trans ?_
 have LL := Fj k (by omega) ([59] : List Int) (J1 s ++ s.2.2.2.2.1.flatMap Iw) b 3 buf (by omega) (by
   intro x hx
   rcases List.mem_append.1 hx with hx | hx
   ·unfold J1 at hx
    simp only [List.mem_cons, List.not_mem_nil, or_false] at hx
    rcases hx with rfl | rfl | rfl | rfl | rfl | rfl | rfl | rfl
    ·exact pc_w _
    ·exact pc_w _
    ·exact pc_w _
    ·exact pc_n q1
    ·exact pc_w _
    ·exact pc_n q2
    ·exact pc_w _
    ·exact pc_n q3
   ·obtain ⟨w, hw, hx⟩ := List.mem_flatMap.1 hx
    obtain ⟨g0, g1, g2⟩ := Ax5 (q5 w hw)
    unfold Iw at hx
    simp only [List.mem_cons, List.not_mem_nil, or_false] at hx
    rcases hx with rfl | rfl | rfl | rfl | rfl
    ·exact pc_w _
    ·exact pc_w _
    ·exact pc_n g1
    ·exact pc_w _
    ·exact pc_n g2) (by
   have e8 : (J1 s).length = 8 := rfl
   rw [List.length_append]; omega) (by rw [Axe]; exact h)
 rw [Axe] at LL
 rw [show (3 : Int) = ((3 : Nat) : Int) from rfl, LL, Option.bind_some]
theorem Bc0 (l : List Ar) (hb : C9 l = true) (buf : List Int) (h : buf.length + (l.flatMap Eh).length ≤ 1000000) :
  R2 k (l, false, 3, buf) = some (l, false, 3, buf ++ l.flatMap Eh) := by
 have hs := Ls hb
 rw [A9p, Ad9]
 exact I2 1000000 l Eh (fun j i b => (Fe k).L 1 [] j (Pb (l, ((l.length : Nat) : Int), i, l, false, 3, b))) (fun b => some (l, false, 3, b))
  (fun j i s b hs' hb' => by
   rw [Aqv, Um, Ee hs', Df hs', Bcz k hk s (hs.2 s (I3 hs')) b false hb', Option.bind_some, Gu hs' (by omega)])
  (fun j b _ => by rw [Aqv, Um, Gj]) k buf (by omega) h
theorem Bbq (l : List Ar) (hb : C9 l = true) (buf : List Int) (h : buf.length + (Fr l).length ≤ 1000000) :
  Rz k ([pw ([114, 105, 110, 103] : List Int)], false, 2, l, buf) = some (false, 2, l, buf ++ Fr l) := by
 unfold Fr at h ⊢
 have e1 : List.length ([32, 32, 32, 32, 114, 105, 110, 103, 32, 123, 10] : List Int) = 11 := rfl
 have e2 : List.length ([32, 32, 32, 32, 125, 10] : List Int) = 6 := rfl
 simp only [List.length_append] at h
 have L1 := Fj k (by omega) ([32, 123] : List Int) [pw ([114, 105, 110, 103] : List Int)] false 2 buf (by omega) (by intro x hx; rw [List.mem_singleton.1 hx]; exact pc_w _) (by simp) (show buf.length + List.length ([32, 32, 32, 32, 114, 105, 110, 103, 32, 123, 10] : List Int) ≤ 1000000 by omega)
 have L2 := Fj k (by omega) ([125] : List Int) [] false 2 ((buf ++ ([32, 32, 32, 32, 114, 105, 110, 103, 32, 123, 10] : List Int)) ++ l.flatMap Eh) (by omega) (by intro x hx; cases hx) (by simp) (show _ + List.length ([32, 32, 32, 32, 125, 10] : List Int) ≤ 1000000 by rw [List.length_append, List.length_append]; omega)
 rw [A9c, Aqi, show (2 : Int) = ((2 : Nat) : Int) from rfl, L1, Option.bind_some]
 simp only
 rw [show IntKind.wrap .i64 (((2 : Nat) : Int) + 1) = (3 : Int) from rfl, show Au 2 [pw ([114, 105, 110, 103] : List Int)] ([32, 123] : List Int) = ([32, 32, 32, 32, 114, 105, 110, 103, 32, 123, 10] : List Int) from rfl, Bc0 k hk l hb _ (by rw [List.length_append]; omega), Option.bind_some]
 simp only
 rw [show IntKind.wrap .i64 ((3 : Int) - 1) = ((2 : Nat) : Int) from rfl, L2, Option.bind_some, show Au 2 [] ([125] : List Int) = ([32, 32, 32, 32, 125, 10] : List Int) from rfl]
 simp only [List.append_assoc]
theorem Bcd (g : Bd) (hb : Cl g = true) (buf : List Int) (h : buf.length + (g.1.flatMap Fr).length ≤ 1000000) :
  R1 k (g.1, false, 2, buf) = some (false, 2, buf ++ g.1.flatMap Fr) := by
 have hs := Lw hb
 rw [A9q, Aed]
 exact I2 1000000 g.1 Fr (fun j i b => (Fd k).L 2 [] j (Pd (g.1, ((g.1.length : Nat) : Int), i, false, 2, b))) (fun b => some (false, 2, b))
  (fun j i s b hs' hb' => by
   have := Bbq k hk s (hs.2 s (I3 hs')) b hb'
   unfold pw at this
   rw [Aqx, Un, Ee hs', Df hs', this, Option.bind_some, Gu hs' (by omega)])
  (fun j b _ => by rw [Aqx, Un, Gj]) k buf (by omega) h
theorem Bbs (g : Bd) (hb : Cl g = true) (buf : List Int) (h : buf.length + (Fu g).length ≤ 1000000) :
  Ry k ([pw ([103, 114, 111, 117, 112] : List Int)], false, 1, g.1, buf) = some (false, 1, g.1, buf ++ Fu g) := by
 unfold Fu at h ⊢
 have e1 : List.length ([32, 32, 103, 114, 111, 117, 112, 32, 123, 10] : List Int) = 10 := rfl
 have e2 : List.length ([32, 32, 125, 10] : List Int) = 4 := rfl
 simp only [List.length_append] at h
 have L1 := Fj k (by omega) ([32, 123] : List Int) [pw ([103, 114, 111, 117, 112] : List Int)] false 1 buf (by omega) (by intro x hx; rw [List.mem_singleton.1 hx]; exact pc_w _) (by simp) (show buf.length + List.length ([32, 32, 103, 114, 111, 117, 112, 32, 123, 10] : List Int) ≤ 1000000 by omega)
 have L2 := Fj k (by omega) ([125] : List Int) [] false 1 ((buf ++ ([32, 32, 103, 114, 111, 117, 112, 32, 123, 10] : List Int)) ++ g.1.flatMap Fr) (by omega) (by intro x hx; cases hx) (by simp) (show _ + List.length ([32, 32, 125, 10] : List Int) ≤ 1000000 by rw [List.length_append, List.length_append]; omega)
 rw [A9a, Aqe, show (1 : Int) = ((1 : Nat) : Int) from rfl, L1, Option.bind_some]
 simp only
 rw [show IntKind.wrap .i64 (((1 : Nat) : Int) + ((1 : Nat) : Int)) = (2 : Int) from rfl, show Au 1 [pw ([103, 114, 111, 117, 112] : List Int)] ([32, 123] : List Int) = ([32, 32, 103, 114, 111, 117, 112, 32, 123, 10] : List Int) from rfl, A9t, Aq0, Bcd k hk g hb _ (by rw [List.length_append]; omega), Option.bind_some, Option.bind_some]
 simp only
 rw [show IntKind.wrap .i64 ((2 : Int) - ((1 : Nat) : Int)) = ((1 : Nat) : Int) from rfl, L2, Option.bind_some, show Au 1 [] ([125] : List Int) = ([32, 32, 125, 10] : List Int) from rfl]
 simp only [List.append_assoc]
theorem Bc4 (t : TimT) (hb : timB t = true) (buf : List Int) (h : buf.length + (t.2.2.1.flatMap Fu).length ≤ 1000000) (a b : Int) :
  R3 k (t.1, t.2.1, t.2.2.1, a, b, false, 1, buf) = some (false, 1, buf ++ t.2.2.1.flatMap Fu) := by
 have hs := V0 hb
 have hl := hs.2.2.2.2.1
 rw [A9u, Aeh]
 exact I2 1000000 t.2.2.1 Fu (fun j i b => (Ff k).L 2 [] j (Pe (t.2.2.1, ((t.2.2.1.length : Nat) : Int), i, false, 1, b))) (fun b => some (false, 1, b))
  (fun j i s b hs' hb' => by
   have := Bbs k hk s (hs.2.2.2.2.2 s (I3 hs')) b hb'
   unfold pw at this
   rw [Aq3, Uo, Ee hs', Df hs', this, Option.bind_some, Gu hs' (by omega)])
  (fun j b _ => by rw [Aq3, Uo, Gj]) k buf (by omega) h
def timL (t : TimT) : List AnyV := [pw ([110, 111, 100, 101] : List Int), pw t.1, pw ([111, 102, 102, 115, 101, 116] : List Int), pn t.2.1, pw ([115, 117, 109] : List Int), pf t.2.2.2.1.1 t.2.2.2.1.2.1]
omit hk in
theorem Axl (t : TimT) : Au 0 (timL t) ([32, 123] : List Int) = (timX t).flatten := by
 unfold Au timL timX
 rw [Cr]
 simp only [List.flatMap_cons, List.flatMap_nil, List.flatten_cons, List.flatten_nil, List.append_nil, List.append_assoc, List.cons_append, List.nil_append,
  show ∀ t, pcT (pw t) = t from fun _ => rfl, show ∀ n, pcT (pn n) = numT n from fun _ => rfl, show ∀ a b, pcT (pf a b) = numT a ++ ([47] : List Int) ++ numT b from fun _ _ => rfl]
 rfl
theorem Bbt (t : TimT) (hb : timB t = true) (buf : List Int) (h : buf.length + (timT t).length ≤ 1000000) :
  Rx k (timL t, false, 0, t.1, t.2.1, t.2.2.1, t.2.2.2.1.1, t.2.2.2.1.2.1, buf) = some (false, 0, t.1, t.2.1, t.2.2.1, t.2.2.2.1.1, t.2.2.2.1.2.1, buf ++ timT t) := by
 obtain ⟨q0, q1, q2, q3, q4, q5⟩ := V0 hb
 unfold timT at h ⊢
 have e2 : List.length ([125, 10] : List Int) = 2 := rfl
 simp only [List.length_append] at h
 have L1 := Fj k (by omega) ([32, 123] : List Int) (timL t) false 0 buf (by omega) (by
  intro x hx
  unfold timL at hx
  simp only [List.mem_cons, List.not_mem_nil, or_false] at hx
  rcases hx with rfl | rfl | rfl | rfl | rfl | rfl
  ·exact pc_w _
  ·exact pc_w _
  ·exact pc_w _
  ·exact pc_n q1
  ·exact pc_w _
  ·exact pc_f q2 q3) (show 6 ≤ 1000 by omega) (by rw [Axl]; omega)
 have L2 := Fj k (by omega) ([125] : List Int) [] false 0 ((buf ++ (timX t).flatten) ++ t.2.2.1.flatMap Fu) (by omega) (by intro x hx; cases hx) (by simp) (show _ + List.length ([125, 10] : List Int) ≤ 1000000 by rw [List.length_append, List.length_append]; omega)
 rw [Axl] at L1
 rw [A9e, Aqm, show (0 : Int) = ((0 : Nat) : Int) from rfl, L1, Option.bind_some]
 simp only
 rw [show IntKind.wrap .i64 (((0 : Nat) : Int) + 1) = (1 : Int) from rfl, A6r, Anb, Bc4 k hk t hb _ (by rw [List.length_append]; omega), Option.bind_some, Option.bind_some]
 simp only
 rw [show IntKind.wrap .i64 ((1 : Int) - 1) = ((0 : Nat) : Int) from rfl, L2, Option.bind_some, show Au 0 [] ([125] : List Int) = ([125, 10] : List Int) from rfl]
 simp only [List.append_assoc]
theorem Bar (a3 : Int) (a4' : List TimT) (a5 a6 a7 a8 : Int) (y : Bool) (yt : List Int) (s : Int) (hs : inM s) (buf : List Int) (h : buf.length + (([98, 101, 115, 116, 32] : List Int) ++ (yt ++ (([59, 10] : List Int) ++ (([115, 112, 101, 110, 116, 32] : List Int) ++ (numT s ++ ([59, 10] : List Int)))))).length ≤ 1000000) :
  (Cq k).J 15 [] (Ov (yt, a3, a4', a5, a6, a7, a8, y, s, false, 0, buf)) = some (buf ++ (([98, 101, 115, 116, 32] : List Int) ++ (yt ++ (([59, 10] : List Int) ++ (([115, 112, 101, 110, 116, 32] : List Int) ++ (numT s ++ ([59, 10] : List Int)))))), 0) := by
 have e1 : Au 0 [pw ([98, 101, 115, 116] : List Int), pw yt] ([59] : List Int) = ([98, 101, 115, 116, 32] : List Int) ++ (yt ++ ([59, 10] : List Int)) := by
  unfold Au
  rw [Cr]
  simp only [List.flatMap_cons, List.flatMap_nil, List.append_nil, List.append_assoc, List.cons_append, List.nil_append, show ∀ t, pcT (pw t) = t from fun _ => rfl]
  rfl
 have e2 : Au 0 [pw ([115, 112, 101, 110, 116] : List Int), pn s] ([59] : List Int) = ([115, 112, 101, 110, 116, 32] : List Int) ++ (numT s ++ ([59, 10] : List Int)) := by
  unfold Au
  rw [Cr]
  simp only [List.flatMap_cons, List.flatMap_nil, List.append_nil, List.append_assoc, List.cons_append, List.nil_append, show ∀ t, pcT (pw t) = t from fun _ => rfl, show ∀ n, pcT (pn n) = numT n from fun _ => rfl]
  rfl
 rw [← List.append_assoc yt, ← List.append_assoc ([98, 101, 115, 116, 32] : List Int), ← e1, ← e2] at h ⊢
 rw [List.length_append] at h
 have L1 := Fj k (by omega) ([59] : List Int) [pw ([98, 101, 115, 116] : List Int), pw yt] false 0 buf (by omega) (by
  intro x hx
  simp only [List.mem_cons, List.not_mem_nil, or_false] at hx
  rcases hx with rfl | rfl <;> exact pc_w _) (by simp) (by omega)
 have L2 := Fj k (by omega) ([59] : List Int) [pw ([115, 112, 101, 110, 116] : List Int), pn s] false 0 (buf ++ Au 0 [pw ([98, 101, 115, 116] : List Int), pw yt] ([59] : List Int)) (by omega) (by
  intro x hx
  simp only [List.mem_cons, List.not_mem_nil, or_false] at hx
  rcases hx with rfl | rfl
  ·exact pc_w _
  ·exact pc_n hs) (by simp) (by rw [List.length_append]; omega)
 unfold pw pn at *
 rw [A6t, Ab6, show (0 : Int) = ((0 : Nat) : Int) from rfl, L1, Option.bind_some, L2, Option.bind_some]
 unfold Xe strC
 simp only
 rw [if_neg (by
  intro e
  have e := congrArg List.length e
  rw [List.length_append] at e
  unfold Au at e
  simp only [List.length_append, List.length_cons, List.length_nil] at e
  omega), Option.bind_some, List.append_assoc]
end
theorem wu64 {n : Int} (h : 0 ≤ n ∧ n < 18446744073709551616) : IntKind.wrap .u64 n = n := by
 have : IntKind.wrap .u64 n = n % 18446744073709551616 := rfl
 rw [this]
 omega
section
variable (k : Nat) (hk : 100000 < k)
include hk
omit hk in
theorem Bbm {p : A4} : Ju p = Au 0 [pw ([112, 108, 97, 110] : List Int), pw ([99, 121, 99, 108, 101] : List Int), pn p.1] ([59] : List Int) ++ (p.2.1.flatMap timT ++ (Au 0 [pw ([111, 117, 116] : List Int), pn p.2.2.1, pn p.2.2.2.1] ([59] : List Int) ++ (Au 0 [pw ([105, 110] : List Int), pn p.2.2.2.2.1, pn p.2.2.2.2.2.1] ([59] : List Int) ++ (([98, 101, 115, 116, 32] : List Int) ++ (yesT p.2.2.2.2.2.2.1 ++ (([59, 10] : List Int) ++ (([115, 112, 101, 110, 116, 32] : List Int) ++ (numT p.2.2.2.2.2.2.2 ++ ([59, 10] : List Int))))))))) := by
 unfold Ju Py Au
 rw [Cr, Cr, Cr]
 simp only [List.flatMap_cons, List.flatMap_nil, List.flatten_cons, List.flatten_nil, List.append_nil, List.append_assoc, List.cons_append, List.nil_append,
  show ∀ t, pcT (pw t) = t from fun _ => rfl, show ∀ n, pcT (pn n) = numT n from fun _ => rfl]
 rfl
attribute [local irreducible] numT Au timT in
theorem Bbr (p : A4) (hp : PlanS p) (hb : B8 p = true) : Ki k p = some (Ju p, 0) := by
 have hr := Bb8 k hk p hp
 have hT := Bbo hb
 rw [Bbm] at hT ⊢
 rw [hb] at hr
 obtain ⟨a0, a1, a2, a3, a4, a5, a6, a7⟩ := p
 obtain ⟨q0, q1, q2, q3, q4, q5, q6, q7⟩ := Afj hb
 simp only at q0 q1 q2 q3 q4 q5 q6 q7 hT ⊢
 simp only [List.length_append] at hT
 have w1 : Nh k (([59] : List Int), [pw ([112, 108, 97, 110] : List Int), pw ([99, 121, 99, 108, 101] : List Int), pn a0], true, 0) = some (false, 0, Au 0 [pw ([112, 108, 97, 110] : List Int), pw ([99, 121, 99, 108, 101] : List Int), pn a0] ([59] : List Int)) := Bau k (by omega) ([59] : List Int) [pw ([112, 108, 97, 110] : List Int), pw ([99, 121, 99, 108, 101] : List Int), pn a0] 0 (by omega) (by
  intro x hx
  simp only [List.mem_cons, List.not_mem_nil, or_false] at hx
  rcases hx with rfl | rfl | rfl
  ·exact pc_w _
  ·exact pc_w _
  ·exact pc_n q0) (by simp) (by omega)
 have L := I2 600000 a1 timT (fun j i b => (Cq k).L 6 [] j (Ow (a1, ((a1.length : Nat) : Int), i, a0, a1, a2, a3, a4, a5, a6, a7, false, 0, b)))
  (fun b => some (b ++ (Au 0 [pw ([111, 117, 116] : List Int), pn a2, pn a3] ([59] : List Int) ++ (Au 0 [pw ([105, 110] : List Int), pn a4, pn a5] ([59] : List Int) ++ (([98, 101, 115, 116, 32] : List Int) ++ (yesT a6 ++ (([59, 10] : List Int) ++ (([115, 112, 101, 110, 116, 32] : List Int) ++ (numT a7 ++ ([59, 10] : List Int)))))))), 0))
  (fun j i t b ht hb' => by
   have := Bbt k hk t (q7 t (I3 ht)) b (by omega)
   unfold timL pw pn pf at this
   rw [Anf, To, Ee ht, Df ht, this, Option.bind_some, Gu ht (by omega)])
  (fun j b hb' => by
   have l1 : Cd k (([59] : List Int), [pw ([111, 117, 116] : List Int), pn a2, pn a3], false, 0, b) = some (false, 0, b ++ Au 0 [pw ([111, 117, 116] : List Int), pn a2, pn a3] ([59] : List Int)) := Fj k (by omega) ([59] : List Int) [pw ([111, 117, 116] : List Int), pn a2, pn a3] false 0 b (by omega) (by
    intro x hx
    simp only [List.mem_cons, List.not_mem_nil, or_false] at hx
    rcases hx with rfl | rfl | rfl
    ·exact pc_w _
    ·exact pc_n q1
    ·exact pc_n q2) (by simp) (by omega)
   have l2 : Cd k (([59] : List Int), [pw ([105, 110] : List Int), pn a4, pn a5], false, 0, b ++ Au 0 [pw ([111, 117, 116] : List Int), pn a2, pn a3] ([59] : List Int)) = some (false, 0, (b ++ Au 0 [pw ([111, 117, 116] : List Int), pn a2, pn a3] ([59] : List Int)) ++ Au 0 [pw ([105, 110] : List Int), pn a4, pn a5] ([59] : List Int)) := Fj k (by omega) ([59] : List Int) [pw ([105, 110] : List Int), pn a4, pn a5] false 0 (b ++ Au 0 [pw ([111, 117, 116] : List Int), pn a2, pn a3] ([59] : List Int)) (by omega) (by
    intro x hx
    simp only [List.mem_cons, List.not_mem_nil, or_false] at hx
    rcases hx with rfl | rfl | rfl
    ·exact pc_w _
    ·exact pc_n q3
    ·exact pc_n q4) (by simp) (by rw [List.length_append]; omega)
   have l3 := Bar k hk a0 a1 a2 a3 a4 a5 a6 (yesT a6) a7 q5 ((b ++ Au 0 [pw ([111, 117, 116] : List Int), pn a2, pn a3] ([59] : List Int)) ++ Au 0 [pw ([105, 110] : List Int), pn a4, pn a5] ([59] : List Int)) (by simp only [List.length_append]; omega)
   rw [← List.append_assoc b, ← List.append_assoc (b ++ _)]
   generalize hF : some ((b ++ Au 0 [pw ([111, 117, 116] : List Int), pn a2, pn a3] ([59] : List Int) ++ Au 0 [pw ([105, 110] : List Int), pn a4, pn a5] ([59] : List Int)) ++ (([98, 101, 115, 116, 32] : List Int) ++ (yesT a6 ++ (([59, 10] : List Int) ++ (([115, 112, 101, 110, 116, 32] : List Int) ++ (numT a7 ++ ([59, 10] : List Int)))))), (0 : Int)) = F at l3 ⊢
   unfold pw pn at l1 l2
   rw [Anf, To, Gj, l1, Option.bind_some, l2, Option.bind_some]
   simp only
   cases a6
   ·rw [cond_false]; exact l3
   ·rw [cond_true]; exact l3)
  k (Au 0 [pw ([112, 108, 97, 110] : List Int), pw ([99, 121, 99, 108, 101] : List Int), pn a0] ([59] : List Int)) (by omega) (by omega)
 rw [A6s, Ab5, hr, Option.bind_some, Bool.not_true, cond_false]
 unfold pw pn at w1
 rw [w1, Option.bind_some]
 refine L.trans ?_
 simp only [List.append_assoc]
end
def I64 (x : Int) : Prop := -9223372036854775808 ≤ x ∧ x ≤ 9223372036854775807
def vi (n : Nat) : List Int := if h : n < 128 then [(n : Int)] else ((128 + n % 128 : Nat) : Int) :: vi (n / 128)
termination_by n
decreasing_by omega
theorem Dz {n : Nat} (h : n < 128) : vi n = [(n : Int)] := by rw [vi]; simp [h]
theorem J5 {n : Nat} (h : ¬ n < 128) : vi n = ((128 + n % 128 : Nat) : Int) :: vi (n / 128) := by rw [vi]; simp [h]
theorem Ax0 : ∀ (m n : Nat), n < 128 ^ (m + 1) → (vi n).length ≤ m + 1
 | 0, n, h => by rw [Dz (by simpa using h)]; simp
 | m + 1, n, h => by
  by_cases hn : n < 128
  ·rw [Dz hn]; simp
  ·rw [J5 hn]
   have := Ax0 m (n / 128) (by rw [Nat.pow_succ] at h; exact Nat.div_lt_of_lt_mul (by rw [Nat.mul_comm]; exact h))
   simp; omega
theorem p128 : (128:Nat) ^ (8 + 1) = 9223372036854775808 := by decide
theorem Agu {n : Nat} (h : n < 9223372036854775808) : (vi n).length ≤ 9 := Ax0 8 n (by rw [p128]; exact h)
def numE : List Int → Option (List Int)
 | [] => some []
 | x :: r => if x < 0 then none else (numE r).map fun c => vi x.toNat ++ c
theorem Il : ∀ {l : List Int} {c : List Int}, (∀ x ∈ l, I64 x) → numE l = some c → c.length ≤ 9 * l.length
 | [], c, _, h => by cases h; simp
 | x :: r, c, hx, h => by
  unfold numE at h
  split at h
  ·cases h
  ·obtain ⟨c0, h0, rfl⟩ := Option.map_eq_some_iff.1 h
   have h1 := Il (fun y hy => hx y (by simp [hy])) h0
   obtain ⟨h2, h3⟩ := hx x (by simp)
   have := Agu (n := x.toNat) (by omega)
   simp only [List.length_append, List.length_cons]; omega
def wr (b : List Int) : Option (List Int) → Option (List Int ⊕ Unit)
 | some c => some (.inl (b ++ c))
 | none => some (.inr ())
def app2 (x y : Option (List Int)) : Option (List Int) := x.bind fun c => y.map fun d => c ++ d
def seqE {X : Type} (e : X → Option (List Int)) : List X → Option (List Int)
 | [] => some []
 | x :: r => app2 (e x) (seqE e r)
def putE {X : Type} (lim : Nat) (e : X → Option (List Int)) (l : List X) : Option (List Int) := if lim < l.length then none else app2 (numE [(l.length : Int)]) (seqE e l)
def Hd (s : List Int) : Option (List Int) := if 24 < s.length then none else some (vi s.length ++ s)
def Iv (x : Bb) : Option (List Int) := app2 (Hd x.1) (numE [x.2.1, x.2.2.1])
def J0 (x : Ar) : Option (List Int) := app2 (Hd x.1) (app2 (numE [x.2.1, x.2.2.1, x.2.2.2.1]) (putE 8 Iv x.2.2.2.2.1))
def Jw (l : List Ar) : Option (List Int) := putE 4 J0 l
def Ir (x : Bd) : Option (List Int) := putE 2 Jw x.1
def Ho (x : TimT) : Option (List Int) := app2 (Hd x.1) (app2 (numE [x.2.1, x.2.2.2.1.1, x.2.2.2.1.2.1]) (putE 4 Ir x.2.2.1))
theorem I1 {x y : Option (List Int)} {c : List Int} {m n : Nat} (h : app2 x y = some c) (hx : ∀ c, x = some c → c.length ≤ m) (hy : ∀ c, y = some c → c.length ≤ n) : c.length ≤ m + n := by
 obtain ⟨a, h1, h2⟩ := Option.bind_eq_some_iff.1 h
 obtain ⟨b, h3, rfl⟩ := Option.map_eq_some_iff.1 h2
 have := hx a h1
 have := hy b h3
 simp only [List.length_append]; omega
theorem Auj {X : Type} {e : X → Option (List Int)} {B : Nat} : ∀ {l : List X} {c : List Int}, (∀ x ∈ l, ∀ c, e x = some c → c.length ≤ B) → seqE e l = some c → c.length ≤ l.length * B
 | [], c, _, h => by cases h; simp
 | x :: r, c, hB, h => by
  have := I1 h (hB x (by simp)) (fun c hc => Auj (fun y hy => hB y (by simp [hy])) hc)
  simp only [List.length_cons, Nat.succ_mul]; omega
theorem Pu {X : Type} {e : X → Option (List Int)} {lim B : Nat} {l : List X} {c : List Int} (hl : lim ≤ 12) (hB : ∀ x ∈ l, ∀ c, e x = some c → c.length ≤ B) (h : putE lim e l = some c) : c.length ≤ 1 + lim * B := by
 unfold putE at h
 split at h
 ·cases h
 ·rename_i hn
  have := I1 (m := 1) (n := l.length * B) h (fun c hc => by
   simp only [numE] at hc
   split at hc
   ·cases hc
   ·cases hc
    rw [Dz (by omega)]
    simp) (fun c hc => Auj hB hc)
  have h2 : l.length * B ≤ lim * B := Nat.mul_le_mul_right _ (by omega)
  omega
theorem Li {s c : List Int} (h : Hd s = some c) : c.length ≤ 25 := by
 unfold Hd at h
 split at h
 ·cases h
 ·cases h
  rw [Dz (by omega)]
  simp; omega
set_option maxRecDepth 20000 in
theorem byte_or (x : Nat) : IntKind.wrap .u8 ((BitVec.ofInt (IntKind.bits .u8) (IntKind.wrap .u8 (x : Int)) ||| BitVec.ofInt (IntKind.bits .u8) (128 : Int)).toNat : Int) = ((128 + x % 128 : Nat) : Int) := by
 have h1 : IntKind.wrap .u8 (x : Int) = ((x % 256 : Nat) : Int) := by
  show (x : Int) % 256 = _
  omega
 have h2 : ∀ y : Fin 256, (BitVec.ofInt 8 ((y.val : Nat) : Int) ||| BitVec.ofInt 8 (128 : Int)).toNat = 128 + y.val % 128 := by decide
 have h3 := h2 ⟨x % 256, Nat.mod_lt _ (by decide)⟩
 rw [h1]
 have h4 : (BitVec.ofInt (IntKind.bits .u8) ((x % 256 : Nat) : Int) ||| BitVec.ofInt (IntKind.bits .u8) (128 : Int)).toNat = 128 + x % 256 % 128 := h3
 rw [h4, wu8 (by omega)]
 omega
theorem w_in (k j1 : Nat) (l : List Int) (n i : Int) : ∀ (m j x : Nat) (b : List Int), x < 128 ^ (m + 1) → x < 9223372036854775808 → m + 1 ≤ j → b.length + m + 1 ≤ 1000000 →
  (Bo k).L 6 [j1] j (Of ((x : Int), l, n, i, b)) = (Bo k).L 1 [] j1 (Kw (l, n, (IntKind.wrap .i64 (i + 1)), (b ++ vi x))) := by
 intro m
 induction m with
 | zero =>
  intro j x b hx hx2 hj hb
  obtain ⟨j, rfl⟩ : ∃ t, j = t + 1 := ⟨j - 1, by omega⟩
  have hx' : x < 128 := by simpa using hx
  rw [Ak0, Te, cd, if_neg (by omega), Cw (by simp; omega) (by simp; omega), Dz hx', wu8 (by omega)]
 | succ m ih =>
  intro j x b hx hx2 hj hb
  obtain ⟨j, rfl⟩ : ∃ t, j = t + 1 := ⟨j - 1, by omega⟩
  rw [Ak0, Te, cd]
  by_cases hn : x < 128
  ·rw [if_neg (by omega), Cw (by simp; omega) (by simp; omega), Dz hn, wu8 (by omega)]
  ·rw [if_pos (by omega), Cw (by simp; omega) (by simp; omega), byte_or]
   have e : Int.fdiv (x : Int) (2 ^ (min (Int.toNat (7 : Int)) (IntKind.bits .u64))) = ((x / 128 : Nat) : Int) := by
    have : ((2 : Int) ^ (min (Int.toNat (7 : Int)) (IntKind.bits .u64))) = 128 := by decide
    rw [this, Int.fdiv_eq_ediv_of_nonneg _ (by decide)]
    omega
   rw [e, ih j (x / 128) _ (by rw [Nat.pow_succ] at hx; exact Nat.div_lt_of_lt_mul (by rw [Nat.mul_comm]; exact hx)) (by omega) (by omega) (by simp; omega), J5 hn]
   simp
theorem Hg (k : Nat) (hk : 20 ≤ k) (l : List Int) (hl : ∀ x ∈ l, I64 x) (hn : l.length ≤ 10) (b : List Int) (hb : b.length + 9 * l.length ≤ 999000) : Cc k (l, b) = wr b (numE l) := by
 have key : ∀ (r p : List Int) (b : List Int) (j : Nat), l = p ++ r → r.length < j → b.length + 9 * r.length ≤ 999000 → (Bo k).L 1 [] j (Kw (l, (l.length : Int), (p.length : Int), b)) = wr b (numE r) := by
  intro r
  induction r with
  | nil =>
   intro p b j e hj hb
   obtain ⟨j, rfl⟩ : ∃ t, j = t + 1 := ⟨j - 1, by simp at hj; omega⟩
   have : l.length = p.length := by rw [e]; simp
   rw [Akz, Td, cd, if_neg (by omega)]
   simp [wr, numE]
  | cons x r ih =>
   intro p b j e hj hb
   obtain ⟨j, rfl⟩ : ∃ t, j = t + 1 := ⟨j - 1, by simp at hj; omega⟩
   have hlen : l.length = p.length + r.length + 1 := by rw [e]; simp; omega
   obtain ⟨hx1, hx2⟩ := hl x (by rw [e]; simp)
   simp only [List.length_cons] at hj hb
   have hx : l[p.length]? = some x := by rw [e]; simp
   rw [Akz, Td, cd, if_pos (by omega), Ar8 hx, cd]
   by_cases h0 : x < 0
   ·rw [if_pos h0]
    simp [numE, h0, wr]
   ·rw [if_neg h0, A4k, Zs]
    have hw : IntKind.wrap .u64 x = ((x.toNat : Nat) : Int) := by
     show x % 18446744073709551616 = _
     omega
    have h9 : x.toNat < 9223372036854775808 := by omega
    rw [hw, w_in k j l _ _ 8 k x.toNat b (by rw [p128]; exact h9) h9 (by omega) (by omega), Gv, w64 (by omega)]
    have hv := Agu h9
    have := ih (p ++ [x]) (b ++ vi x.toNat) j (by rw [e]; simp) (by omega) (by simp only [List.length_append]; omega)
    rw [show ((p ++ [x]).length : Int) = ((p.length + 1 : Nat) : Int) by simp] at this
    rw [this]
    simp only [numE, h0, if_false]
    cases numE r <;> simp [wr]
 rw [A4j, Zr]
 exact key l [] b k rfl (by omega) hb
theorem Fw (b : List Int) (x y : Option (List Int)) : wr b (app2 x y) = (wr b x).bind (orP (fun o => wr o y) (fun _ => some (.inr ()))) := by
 cases x with
 | none => rfl
 | some c => cases y <;> simp [wr, app2, orP]
theorem P8 (x : Option (List Int ⊕ Unit)) : x.bind (orP (fun o => some (.inl o)) (fun _ => some (.inr ()))) = x := by
 cases x with
 | none => rfl
 | some y => cases y <;> rfl
theorem Fx {β : Type} {b : List Int} {x : Option (List Int)} {f f' : List Int → Option β} {g : Unit → Option β} (h : ∀ c, x = some c → f (b ++ c) = f' (b ++ c)) : (wr b x).bind (orP f g) = (wr b x).bind (orP f' g) := by
 cases x with
 | none => rfl
 | some c => simp only [wr, Option.bind_some, orP]; exact h c rfl
theorem Ae8 (k : Nat) (hk : 20 ≤ k) (s : List Int) (hs : s.length ≤ maxLen) (b : List Int) (hb : b.length ≤ 900000) : Kg k (s, b) = wr b (Hd s) := by
 rw [A4h, Zl, cd]
 unfold Hd
 by_cases h : 24 < s.length
 ·rw [if_pos (by omega), if_pos h]; rfl
 ·rw [if_neg (by omega), if_neg h, A4i, Zm, Hg k hk _ (by intro x hx; simp at hx; subst hx; unfold I64; omega) (by simp) _ (by simp; omega)]
  have hv : (vi s.length).length = 1 := by rw [Dz (by omega)]; rfl
  simp only [numE, show ¬ ((s.length : Int) < 0) by omega, if_false, Option.map_some, wr, Option.bind_some, orP, Int.toNat_natCast, List.append_nil]
  rw [Cw (by simp only [List.length_append]; omega) (by simp only [List.length_append]; omega), List.append_assoc]
def OkW (x : Bb) : Prop := x.1.length ≤ maxLen ∧ I64 x.2.1 ∧ I64 x.2.2.1
theorem i64s2 {a b : Int} (ha : I64 a) (hb : I64 b) : ∀ x ∈ [a, b], I64 x := by
 intro x hx; simp at hx; rcases hx with rfl | rfl <;> assumption
theorem Lc {a b c : Int} (ha : I64 a) (hb : I64 b) (hc : I64 c) : ∀ x ∈ [a, b, c], I64 x := by
 intro x hx; simp at hx; rcases hx with rfl | rfl | rfl <;> assumption
theorem walk_w (k : Nat) (hk : 20 ≤ k) (x : Bb) (hx : OkW x) (b : List Int) (hb : b.length ≤ 800000) : My k (x.1, x.2.1, x.2.2.1, b) = wr b (Iv x) := by
 rw [A4u, Ald, Ae8 k hk _ hx.1 _ (by omega)]
 unfold Iv
 rw [Fw]
 refine Fx fun c hc => ?_
 have := Li hc
 rw [P8, Hg k hk _ (i64s2 hx.2.1 hx.2.2) (by simp) _ (by simp only [List.length_append, List.length_cons, List.length_nil]; omega)]
theorem Ax1 {x : Bb} (hx : OkW x) (c : List Int) (h : Iv x = some c) : c.length ≤ 43 := by
 exact I1 h (fun c hc => Li hc) (fun c hc => Il (i64s2 hx.2.1 hx.2.2) hc)
theorem Pv {X : Type} (z : X) (L : Nat → List X → Int → Int → List Int → Option (List Int ⊕ Unit)) (f : X → List Int → Option (List Int ⊕ Unit)) (e : X → Option (List Int)) (B cap : Nat)
  (hL : ∀ j l n i b, L (j + 1) l n i b = bif decide (i < n) then (idx z l i fun x => (f x b).bind (orP (fun o1 => L j l n (IntKind.wrap .i64 (i + 1)) o1) (fun _ => some (.inr ())))) else some (.inl b))
  (l : List X) (hlen : l.length ≤ 100) (hf : ∀ x ∈ l, ∀ b : List Int, b.length ≤ cap → f x b = wr b (e x)) (hB : ∀ x ∈ l, ∀ c, e x = some c → c.length ≤ B) :
  ∀ (r p : List X) (b : List Int) (j : Nat), l = p ++ r → r.length < j → b.length + r.length * B ≤ cap → L j l (l.length : Int) (p.length : Int) b = wr b (seqE e r) := by
 intro r
 induction r with
 | nil =>
  intro p b j e hj hb
  obtain ⟨j, rfl⟩ : ∃ t, j = t + 1 := ⟨j - 1, by simp at hj; omega⟩
  have : l.length = p.length := by rw [e]; simp
  rw [hL, cd, if_neg (by omega)]
  simp [wr, seqE]
 | cons x r ih =>
  intro p b j el hj hb
  obtain ⟨j, rfl⟩ : ∃ t, j = t + 1 := ⟨j - 1, by simp at hj; omega⟩
  have hl2 : l.length = p.length + r.length + 1 := by rw [el]; simp; omega
  simp only [List.length_cons, Nat.succ_mul] at hj hb
  have hx : l[p.length]? = some x := by rw [el]; simp
  rw [hL, cd, if_pos (by omega), Df hx, hf x (by rw [el]; simp) b (by omega)]
  unfold seqE
  rw [Fw]
  refine Fx fun c hc => ?_
  have h1 := hB x (by rw [el]; simp) c hc
  have := ih (p ++ [x]) (b ++ c) j (by rw [el]; simp) (by omega) (by simp only [List.length_append]; omega)
  rw [show ((p ++ [x]).length : Int) = ((p.length + 1 : Nat) : Int) by simp] at this
  rw [Gv, w64 (by omega), this]
theorem M7 (k : Nat) (hk : 20 ≤ k) (n : Nat) (hn : n ≤ 100) (b : List Int) (hb : b.length ≤ 900000) : Cc k ([(n : Int)], b) = wr b (numE [(n : Int)]) :=
 Hg k hk _ (by intro x hx; simp at hx; subst hx; unfold I64; omega) (by simp) _ (by simp; omega)
theorem M6 {n : Nat} (hn : n ≤ 100) {c : List Int} (h : numE [(n : Int)] = some c) : c.length = 1 := by
 simp only [numE] at h
 split at h
 ·cases h
 ·cases h; rw [Dz (by omega)]; rfl
theorem Bbu (k : Nat) (hk : 120 ≤ k) (l : List Bb) (hl : ∀ x ∈ l, OkW x) (b : List Int) (hb : b.length ≤ 700000) : Qw k (l, (8 : Int), b) = wr b (putE 8 Iv l) := by
 rw [A3c, Yi, cd]
 unfold putE
 by_cases h : 8 < l.length
 ·rw [if_pos (by omega), if_pos h]; rfl
 ·rw [if_neg (by omega), if_neg h, A3d, Yj, M7 k (by omega) _ (by omega) _ (by omega), Fw]
  refine Fx fun c hc => ?_
  have hc1 := M6 (by omega) hc
  have hm : l.length * 43 ≤ 8 * 43 := Nat.mul_le_mul_right _ (by omega)
  exact Pv _ (fun j l n i b => (C5 k).L 4 [] j (Nx (l, n, i, b))) (fun x b => My k (x.1, x.2.1, x.2.2.1, b)) Iv 43 800000 (fun j l n i b => by rw [A3e, Yk]) l (by omega)
   (fun x hx b hb => walk_w k (by omega) x (hl x hx) b hb) (fun x hx => Ax1 (hl x hx)) l [] (b ++ c) k rfl (by omega) (by simp only [List.length_append]; omega)
def OkS (x : Ar) : Prop := x.1.length ≤ maxLen ∧ I64 x.2.1 ∧ I64 x.2.2.1 ∧ I64 x.2.2.2.1 ∧ ∀ y ∈ x.2.2.2.2.1, OkW y
theorem slot_w (k : Nat) (hk : 120 ≤ k) (x : Ar) (hx : OkS x) (b : List Int) (hb : b.length ≤ 600000) : Mv k (x.1, x.2.1, x.2.2.1, x.2.2.2.1, x.2.2.2.2.1, b) = wr b (J0 x) := by
 rw [A4o, Ak7, Ae8 k (by omega) _ hx.1 _ (by omega)]
 unfold J0
 rw [Fw]
 refine Fx fun c hc => ?_
 have := Li hc
 rw [Hg k (by omega) _ (Lc hx.2.1 hx.2.2.1 hx.2.2.2.1) (by simp) _ (by simp only [List.length_append, List.length_cons, List.length_nil]; omega), Fw]
 refine Fx fun d hd => ?_
 have h2 := Il (Lc hx.2.1 hx.2.2.1 hx.2.2.2.1) hd
 simp only [List.length_cons, List.length_nil] at h2
 rw [P8, Bbu k hk _ hx.2.2.2.2 _ (by simp only [List.length_append]; omega)]
theorem Axd {x : Ar} (hx : OkS x) (c : List Int) (h : J0 x = some c) : c.length ≤ 400 := by
 have := I1 (m := 25) (n := 27 + (1 + 8 * 43)) h (fun c hc => Li hc) (fun c hc => I1 hc (fun c hc => Il (Lc hx.2.1 hx.2.2.1 hx.2.2.2.1) hc) (fun c hc => Pu (by omega) (fun x2 hx2 => Ax1 (hx.2.2.2.2 x2 hx2)) hc))
 omega
def OkR (l : List Ar) : Prop := ∀ x ∈ l, OkS x
theorem ring_w (k : Nat) (hk : 120 ≤ k) (l : List Ar) (hl : OkR l) (b : List Int) (hb : b.length ≤ 500000) : Mu k (l, b) = wr b (Jw l) := by
 rw [A4m, Ak5, P8]
 rw [A20, X0, cd]
 unfold Jw putE
 by_cases h : 4 < l.length
 ·rw [if_pos (by omega), if_pos h]; rfl
 ·rw [if_neg (by omega), if_neg h, A21, X1, M7 k (by omega) _ (by omega) _ (by omega), Fw]
  refine Fx fun c hc => ?_
  have hc1 := M6 (by omega) hc
  have hm : l.length * 400 ≤ 4 * 400 := Nat.mul_le_mul_right _ (by omega)
  exact Pv _ (fun j l n i b => (C2 k).L 4 [] j (Nu (l, n, i, b))) (fun x b => Mv k (x.1, x.2.1, x.2.2.1, x.2.2.2.1, x.2.2.2.2.1, b)) J0 400 600000 (fun j l n i b => by rw [A22, X2]) l (by omega)
   (fun x hx b hb => slot_w k (by omega) x (hl x hx) b hb) (fun x hx => Axd (hl x hx)) l [] (b ++ c) k rfl (by omega) (by simp only [List.length_append]; omega)
theorem At8 {l : List Ar} (hl : OkR l) (c : List Int) (h : Jw l = some c) : c.length ≤ 1700 := by
 have := Pu (lim := 4) (by omega) (fun x hx => Axd (hl x hx)) h
 omega
def OkP (x : Bd) : Prop := ∀ r ∈ x.1, OkR r
theorem span_w (k : Nat) (hk : 120 ≤ k) (x : Bd) (hl : OkP x) (b : List Int) (hb : b.length ≤ 400000) : Mw k (x.1, b) = wr b (Ir x) := by
 rw [A4q, Ak9, P8]
 rw [A2w, Xu, cd]
 unfold Ir putE
 obtain ⟨l, u⟩ := x
 simp only []
 by_cases h : 2 < l.length
 ·rw [if_pos (by omega), if_pos h]; rfl
 ·rw [if_neg (by omega), if_neg h, A2x, Xv, M7 k (by omega) _ (by omega) _ (by omega), Fw]
  refine Fx fun c hc => ?_
  have hc1 := M6 (by omega) hc
  have hm : l.length * 1700 ≤ 2 * 1700 := Nat.mul_le_mul_right _ (by omega)
  exact Pv _ (fun j l n i b => (C0 k).L 4 [] j (Nt (l, n, i, b))) (fun x b => Mu k (x, b)) Jw 1700 500000 (fun j l n i b => by rw [A2y, Xw]) l (by omega)
   (fun x hx b hb => ring_w k (by omega) x (hl x hx) b hb) (fun x hx => At8 (hl x hx)) l [] (b ++ c) k rfl (by omega) (by simp only [List.length_append]; omega)
theorem Axf {x : Bd} (hl : OkP x) (c : List Int) (h : Ir x = some c) : c.length ≤ 3500 := by
 have := Pu (lim := 2) (by omega) (fun y hy => At8 (hl y hy)) h
 omega
theorem spans_w (k : Nat) (hk : 120 ≤ k) (l : List (Bd)) (hl : ∀ x ∈ l, OkP x) (b : List Int) (hb : b.length ≤ 350000) : Qu k (l, (4 : Int), b) = wr b (putE 4 Ir l) := by
 rw [A24, X6, cd]
 unfold putE
 by_cases h : 4 < l.length
 ·rw [if_pos (by omega), if_pos h]; rfl
 ·rw [if_neg (by omega), if_neg h, A25, X7, M7 k (by omega) _ (by omega) _ (by omega), Fw]
  refine Fx fun c hc => ?_
  have hc1 := M6 (by omega) hc
  have hm : l.length * 3500 ≤ 4 * 3500 := Nat.mul_le_mul_right _ (by omega)
  exact Pv _ (fun j l n i b => (C3 k).L 4 [] j (Nv (l, n, i, b))) (fun x b => Mw k (x.1, b)) Ir 3500 400000 (fun j l n i b => by rw [A26, X8]) l (by omega)
   (fun x hx b hb => span_w k (by omega) x (hl x hx) b hb) (fun x hx => Axf (hl x hx)) l [] (b ++ c) k rfl (by omega) (by simp only [List.length_append]; omega)
def OkT (x : TimT) : Prop := x.1.length ≤ maxLen ∧ I64 x.2.1 ∧ I64 x.2.2.2.1.1 ∧ I64 x.2.2.2.1.2.1 ∧ ∀ y ∈ x.2.2.1, OkP y
theorem Bdf (k : Nat) (hk : 120 ≤ k) (x : TimT) (hx : OkT x) (b : List Int) (hb : b.length ≤ 300000) : Mx k (x.1, x.2.1, x.2.2.1, x.2.2.2.1.1, x.2.2.2.1.2.1, b) = wr b (Ho x) := by
 rw [A4s, Alb, Ae8 k (by omega) _ hx.1 _ (by omega)]
 unfold Ho
 rw [Fw]
 refine Fx fun c hc => ?_
 have := Li hc
 rw [Hg k (by omega) _ (Lc hx.2.1 hx.2.2.1 hx.2.2.2.1) (by simp) _ (by simp only [List.length_append, List.length_cons, List.length_nil]; omega), Fw]
 refine Fx fun d hd => ?_
 have h2 := Il (Lc hx.2.1 hx.2.2.1 hx.2.2.2.1) hd
 simp only [List.length_cons, List.length_nil] at h2
 rw [P8, spans_w k hk _ hx.2.2.2.2 _ (by simp only [List.length_append]; omega)]
theorem Axm {x : TimT} (hx : OkT x) (c : List Int) (h : Ho x = some c) : c.length ≤ 15000 := by
 have := I1 (m := 25) (n := 27 + (1 + 4 * 3500)) h (fun c hc => Li hc) (fun c hc => I1 hc (fun c hc => Il (Lc hx.2.1 hx.2.2.1 hx.2.2.2.1) hc) (fun c hc => Pu (by omega) (fun x2 hx2 => Axf (hx.2.2.2.2 x2 hx2)) hc))
 omega
theorem Bdg (k : Nat) (hk : 120 ≤ k) (l : List TimT) (hl : ∀ x ∈ l, OkT x) (b : List Int) (hb : b.length ≤ 1000) : Qv k (l, (12 : Int), b) = wr b (putE 12 Ho l) := by
 rw [A28, Yc, cd]
 unfold putE
 by_cases h : 12 < l.length
 ·rw [if_pos (by omega), if_pos h]; rfl
 ·rw [if_neg (by omega), if_neg h, A29, Yd, M7 k (by omega) _ (by omega) _ (by omega), Fw]
  refine Fx fun c hc => ?_
  have hc1 := M6 (by omega) hc
  have hm : l.length * 15000 ≤ 12 * 15000 := Nat.mul_le_mul_right _ (by omega)
  exact Pv _ (fun j l n i b => (C4 k).L 4 [] j (Nw (l, n, i, b))) (fun x b => Mx k (x.1, x.2.1, x.2.2.1, x.2.2.2.1.1, x.2.2.2.1.2.1, b)) Ho 15000 300000 (fun j l n i b => by rw [A3a, Ye]) l (by omega)
   (fun x hx b hb => Bdf k (by omega) x (hl x hx) b hb) (fun x hx => Axm (hl x hx)) l [] (b ++ c) k rfl (by omega) (by simp only [List.length_append]; omega)
theorem Axn {l : List TimT} (hl : ∀ x ∈ l, OkT x) (c : List Int) (h : putE 12 Ho l = some c) : c.length ≤ 181000 := by
 have := Pu (lim := 12) (by omega) (fun x hx => Axm (hl x hx)) h
 omega
def mch {R : Type} (x : Option (List Int)) (fin : List Int → Option R) (bad : Option R) (b : List Int) : Option R := match x with
 | some c => fin (b ++ c)
 | none => bad
theorem U2 {R : Type} (x y : Option (List Int)) (fin : List Int → Option R) (bad : Option R) (b : List Int) : mch (app2 x y) fin bad b = mch x (fun b => mch y fin bad b) bad b := by
 cases x with
 | none => rfl
 | some c => cases y <;> simp [mch, app2]
theorem Ae2 {R : Type} {x : Option (List Int)} {f f' : List Int → Option R} {bad : Option R} {b : List Int} (h : ∀ c, x = some c → f (b ++ c) = f' (b ++ c)) : mch x f bad b = mch x f' bad b := by
 cases x with
 | none => rfl
 | some c => exact h c rfl
theorem Baw {R : Type} {c : List Int} {fin : List Int → Option R} {bad : Option R} {b : List Int} : mch (some c) fin bad b = fin (b ++ c) := rfl
def plE (a0 : Int) (l : List TimT) (a2 a3 a4 a5 : Int) (a6 : Bool) (a7 : Int) : Option (List Int) :=
 app2 (numE [a0]) (app2 (putE 12 Ho l) (app2 (numE [a2, a3, a4, a5]) (app2 (some [if a6 then (1 : Int) else 0]) (numE [a7]))))
def encV (x : Option (List Int)) (b : List Int) : Option (Int × List Int) := mch x (fun b => some ((0 : Int), b)) (some ((1 : Int), [])) b
theorem P9 {R : Type} {x : Option (List Int)} {b : List Int} {f : List Int → Option R} {g : Option R} : (wr b x).bind (orP f (fun _ => g)) = mch x f g b := by cases x <;> rfl
theorem i64s4 {a b c d : Int} (ha : I64 a) (hb : I64 b) (hc : I64 c) (hd : I64 d) : ∀ x ∈ [a, b, c, d], I64 x := by
 intro x hx; simp at hx; rcases hx with rfl | rfl | rfl | rfl <;> assumption
theorem Uv {a : Int} (ha : I64 a) : ∀ x ∈ [a], I64 x := by intro x hx; simp at hx; subst hx; exact ha
theorem enc_w (k : Nat) (hk : 120 ≤ k) (a0 : Int) (l : List TimT) (a2 a3 a4 a5 : Int) (a6 : Bool) (a7 : Int) (h0 : I64 a0) (hl : ∀ x ∈ l, OkT x) (h2 : I64 a2) (h3 : I64 a3) (h4 : I64 a4) (h5 : I64 a5) (h7 : I64 a7) :
  F2 k (a0, l, a2, a3, a4, a5, a6, a7) = encV (plE a0 l a2 a3 a4 a5 a6 a7) [67, 70, 1] := by
 rw [A2t, Aju, Hg k (by omega) _ (Uv h0) (by simp) _ (by simp), P9]
 unfold encV plE
 rw [U2]
 refine Ae2 fun c1 e1 => ?_
 have l1 := Il (Uv h0) e1
 simp only [List.length_cons, List.length_nil] at l1
 rw [Bdg k hk l hl _ (by simp only [List.length_append, List.length_cons, List.length_nil]; omega), P9, U2]
 refine Ae2 fun c2 e2 => ?_
 have l2 := Axn hl _ e2
 rw [Hg k (by omega) _ (i64s4 h2 h3 h4 h5) (by simp) _ (by simp only [List.length_append, List.length_cons, List.length_nil]; omega), P9, U2]
 refine Ae2 fun c3 e3 => ?_
 have l3 := Il (i64s4 h2 h3 h4 h5) e3
 simp only [List.length_cons, List.length_nil] at l3
 rw [U2, Baw]
 cases a6 with
 | true =>
  simp only [cond_true, if_true]
  rw [Cw (by simp only [List.length_append, List.length_cons, List.length_nil]; omega) (by simp only [List.length_append, List.length_cons, List.length_nil]; omega), Hg k (by omega) _ (Uv h7) (by simp) _ (by simp only [List.length_append, List.length_cons, List.length_nil]; omega), P9]
 | false =>
  simp only [cond_false, Bool.false_eq_true, if_false]
  rw [Cw (by simp only [List.length_append, List.length_cons, List.length_nil]; omega) (by simp only [List.length_append, List.length_cons, List.length_nil]; omega), Hg k (by omega) _ (Uv h7) (by simp) _ (by simp only [List.length_append, List.length_cons, List.length_nil]; omega), P9]
end Go.Proofs.YtghmhkpgdmgepaaGreatDoorV
