import Derived.Test.YtcmmgllmncllfaaGreatDoorB7
import Derived.Test.YtcmmgllmncllfaaGreatDoorB3
/-! Joined, names shortened: LxP, LxR, LxQ, FG0, FG1, FG2, FA, FB, FC, FD, FS, FS2, LJ, FT, FE, FF. -/
set_option linter.unusedVariables false
set_option linter.unusedSimpArgs false
namespace Go.Proofs.YtcmmgllmncllfaaGreatDoorV
open Go Go.RowKit
def kdS (a : Int) : Int := if A5 a then 3 else if Ak a then 4 else if Bc a then 1 else if a = 35 then 2 else if a = 95 then 6 else if C3 a then 5 else 0
theorem Aqv (k : Nat) (a : Int) : clexkind k a = some (kdS a) := by
 skip
 rw [A10, Xr, A11, Xs, A12, Xt]
 simp only [cd, cbeq]
 unfold kdS A5 Ak Bc C3
 simp only [Bool.and_eq_true, decide_eq_true_eq]
 repeat' (first | (exfalso; omega) | (refine iteS (fun _ => ?_) (fun _ => ?_)))
 all_goals (refine congrArg some ?_; repeat' (first | rfl | (exfalso; omega) | (refine iteR (fun _ => ?_) (fun _ => ?_))))
theorem kd1 (a : Int) : kdS a = 1 ↔ Bc a = true := by
 unfold kdS A5 Ak Bc C3
 simp only [Bool.and_eq_true, decide_eq_true_eq]
 repeat' split
 all_goals first | omega
theorem kd2 (a : Int) : kdS a = 2 ↔ a = 35 := by
 unfold kdS A5 Ak Bc C3
 simp only [Bool.and_eq_true, decide_eq_true_eq]
 repeat' split
 all_goals first | omega
theorem kd3 (a : Int) : kdS a = 3 ↔ A5 a = true := by
 unfold kdS A5 Ak Bc C3
 simp only [Bool.and_eq_true, decide_eq_true_eq]
 repeat' split
 all_goals first | omega
theorem kd4 (a : Int) : kdS a = 4 ↔ Ak a = true := by
 unfold kdS A5 Ak Bc C3
 simp only [Bool.and_eq_true, decide_eq_true_eq]
 repeat' split
 all_goals first | omega
theorem kd5 (a : Int) : kdS a = 5 ↔ C3 a = true := by
 unfold kdS A5 Ak Bc C3
 simp only [Bool.and_eq_true, decide_eq_true_eq]
 repeat' split
 all_goals first | omega
theorem kd6 (a : Int) : kdS a = 6 ↔ a = 95 := by
 unfold kdS A5 Ak Bc C3
 simp only [Bool.and_eq_true, decide_eq_true_eq]
 repeat' split
 all_goals first | omega
theorem Aqu (k : Nat) (b : List Int) (i : Nat) (h : i < b.length) : L7 k (b, (i : Int)) = some (kdS (b.getD i 0), b, (i : Int)) := by
 skip
 rw [A16, Ah9, cinB, if_pos (by omega), Gy, Aqv]; rfl
theorem A7y (k : Nat) (b : List Int) (i : Nat) (h : i < b.length) : Jr k (b, (i : Int)) = some (kdS (b.getD i 0)) := by
 skip
 rw [A14, Ah5, cinB, if_pos (by omega), Gy, Aqv]; rfl
def fstI (v : Int) : List Int → Option Nat
 | [] => none
 | x :: r => if v = x then some 0 else (fstI v r).map (· + 1)
theorem Aqo (k : Nat) (l : List Int) (v : Int) (hl : l.length < 9223372036854775807) : ∀ (j i : Nat), i ≤ l.length → l.length - i < j →
  (E0 k).L 2 [] j (M2 (l, v, (l.length : Int), (i : Int))) = some (match fstI v (l.drop i) with | some n => ((i + n : Nat) : Int) | none => -1)
 | 0, i, _, h => by omega
 | j + 1, i, hi, h => by
  rw [A1j, W4, cd, cinB, Gy]
  by_cases hlt : i < l.length
  ·rw [if_pos (by omega), if_pos (by omega), Dd hlt, fstI, cbeq]
   split
   ·rfl
   ·rw [w64 (by omega), Fs, Aqo k l v hl j (i + 1) (by omega) (by omega)]
    cases fstI v (l.drop (i + 1)) with
    | none => rfl
    | some n => simp only [Option.map_some]; congr 2; omega
  ·have hi2 : i = l.length := by omega
   rw [if_neg (by omega)]
   subst hi2
   simp [fstI]
theorem A7u (k : Nat) (l : List Int) (v : Int) (hk : l.length < k) (hl : l.length < 9223372036854775807) : Pr k (l, v) = some (match fstI v l with | some n => (n : Int) | none => -1) := by
 skip
 rw [A1i, W3]
 have := Aqo k l v hl k 0 (by omega) (by omega)
 simpa using this
theorem Apf : ∀ (s : List Int), drp true s = match fstI 10 s with | some n => drp false (s.drop n) | none => []
 | [] => rfl
 | x :: r => by
  rw [drp, fstI]
  by_cases h : x = 10
  ·subst h; simp [drp, Bc]
  ·rw [if_neg h, if_neg (fun e => h e.symm), Apf r]
   cases fstI 10 r <;> rfl
theorem Ape {v : Int} : ∀ {l : List Int} {n : Nat}, fstI v l = some n → n < l.length ∧ l.getD n 0 = v
 | [], n, h => by cases h
 | x :: r, n, h => by
  simp only [fstI] at h
  split at h
  ·rename_i e; cases h; exact ⟨by simp, by simp [e]⟩
  ·obtain ⟨m, hm, rfl⟩ := Option.map_eq_some_iff.1 h
   have := Ape hm
   exact ⟨by simp; omega, by simpa using this.2⟩
theorem Ui (k : Nat) (b : List Int) (hk : b.length < k) (hl : b.length < 1000000) : ∀ (j i : Nat), i ≤ b.length → b.length - i < j → (E4 k).L 0 [] j (Ix (b, (i : Int))) = some (b, ((b.length - (drp false (b.drop i)).length : Nat) : Int))
 | 0, i, _, h => by omega
 | j + 1, i, hi, h => by
  rw [A2i, X4, cd]
  by_cases hlt : i < b.length
  ·rw [if_pos (by omega), Aqu k b i hlt, Option.bind_some]
   dsimp only
   rw [cbeq, cbeq, Hi, if_pos (by omega : (0 : Int) ≤ i ∧ (i : Int) ≤ ((b.length : Nat) : Int) ∧ ((b.length : Nat) : Int) ≤ ((b.length : Nat) : Int)), Is, List.take_length, Dd hlt]
   simp only [kd1, kd2, drp]
   split
   ·rename_i h2
    rw [Apf, ← Dd hlt, A7u k _ _ (by rw [List.length_drop]; omega) (by rw [List.length_drop]; omega), Option.bind_some, Dd hlt, fstI, if_neg (by omega)]
    cases hf : fstI 10 (b.drop (i + 1)) with
    | none =>
     simp only [Option.map_none, cd]
     rw [if_neg (by omega), Ui k b hk hl j b.length (Nat.le_refl _) (by omega)]
     simp [drp]
    | some n =>
     obtain ⟨n1, n2⟩ := Ape hf
     rw [List.length_drop] at n1
     simp only [Option.map_some, cd]
     have hpos : ((n + 1 : Nat) : Int) ≥ 0 := by omega
     have hw : -9223372036854775808 ≤ (i : Int) + ((n + 1 : Nat) : Int) ∧ (i : Int) + ((n + 1 : Nat) : Int) ≤ 9223372036854775807 := by omega
     rw [if_pos hpos, w64 hw, show ((i : Int) + ((n + 1 : Nat) : Int)) = ((i + (n + 1) : Nat) : Int) by simp, Ui k b hk hl j (i + (n + 1)) (by omega) (by omega), List.drop_drop]
     rw [show i + 1 + n = i + (n + 1) by omega]
   ·split
    ·rw [w64 (by omega), Fs]
     exact Ui k b hk hl j (i + 1) (by omega) (by omega)
    ·rw [← Dd hlt, List.length_drop]
     congr 3
     omega
  ·rw [if_neg (by omega), List.drop_eq_nil_of_le (by omega)]
   simp [drp]
   omega
theorem Bag (k : Nat) (b : List Int) (hk : b.length < k) (hl : b.length < 1000000) (i : Nat) (hi : i ≤ b.length) : Pw k (b, (i : Int)) = some (b, ((b.length - (drp false (b.drop i)).length : Nat) : Int)) := by
 skip
 rw [A2h, X3, Ui k b hk hl k i hi (by omega)]
theorem Add (k : Nat) (b : List Int) (g : Int → Option Bool) (p : Int → Bool) (hg : ∀ x, g (kdS x) = some (p x)) (L : Nat → Int → List Int → Int → Option (List Int × List Int × Int))
  (hL : ∀ j a0 a1 a2, L (j + 1) a0 a1 a2 = bif (decide (a2 < ((List.length a1 : Nat) : Int))) then ((Jr k (a1, a2)).bind fun o1 => (g o1).bind fun o2 => bif o2 then L j a0 a1 (IntKind.wrap .i64 (a2 + (1 : Int))) else (bif (cutB a0 a2 (List.length a1)) then some ((cutL a1 a0 a2), a1, a2) else none)) else (bif (cutB a0 a2 (List.length a1)) then some ((cutL a1 a0 a2), a1, a2) else none)) (hl : b.length < 1000000) (s : Nat) :
  ∀ (j i : Nat), s ≤ i → i ≤ b.length → b.length - i < j → L j (s : Int) b (i : Int) = some ((b.take (i + ((b.drop i).takeWhile p).length)).drop s, b, ((i + ((b.drop i).takeWhile p).length : Nat) : Int))
 | 0, i, _, _, h => by omega
 | j + 1, i, hs, hi, h => by
  rw [hL, cd]
  by_cases hlt : i < b.length
  ·rw [if_pos (by omega), A7y k b i hlt, Option.bind_some, hg, Option.bind_some, Dd hlt, List.takeWhile_cons]
   cases hp : p (b.getD i 0) with
   | true =>
    rw [cond_true, w64 (by omega), Fs, Add k b g p hg L hL hl s j (i + 1) (by omega) (by omega) (by omega)]
    simp only [if_true, List.length_cons]
    rw [show i + 1 + ((b.drop (i + 1)).takeWhile p).length = i + (((b.drop (i + 1)).takeWhile p).length + 1) by omega]
   | false =>
    rw [cond_false, Hi, if_pos (by omega), Is]
    simp
  ·rw [if_neg (by omega), Hi, if_pos (by omega), Is, @List.drop_eq_nil_of_le _ b i (by omega)]
   simp
theorem Ul (p : Int → Bool) (b : List Int) (i : Nat) : (b.take (i + ((b.drop i).takeWhile p).length)).drop i = (b.drop i).takeWhile p := by
 rw [List.drop_take]
 simp only [Nat.add_sub_cancel_left]
 exact (List.prefix_iff_eq_take.1 (List.takeWhile_prefix p)).symm
theorem A8y (k : Nat) (b : List Int) (hk : b.length < k) (hl : b.length < 1000000) (i : Nat) (hi : i ≤ b.length) :
  Pu k (b, (i : Int)) = some ((b.drop i).takeWhile Am, b, ((i + ((b.drop i).takeWhile Am).length : Nat) : Int)) := by
 have := Add k b (Py k) Am (fun x => by
  skip
  rw [A2m, Ais, cbeq, cbeq]
  unfold Am
  have h6 : (kdS x == 6) = decide (x = 95) := by
   rw [Bool.eq_iff_iff]; simp [kd6]
  rw [h6]
  simp only [kd3, kd4]
  cases A5 x <;> cases Ak x <;> simp) (fun j a0 a1 a2 => (E2 k).L 2 [] j (M6 (a0, a1, a2))) (fun j a0 a1 a2 => A2f k j (a0, a1, a2)) hl i k i (Nat.le_refl _) (by omega) (by omega)
 skip
 rw [A2e, X0]
 rw [Ul] at this
 exact this
theorem A8x (k : Nat) (b : List Int) (hk : b.length < k) (hl : b.length < 1000000) (i : Nat) (hi : i ≤ b.length) :
  Pv k (b, (i : Int)) = some ((b.drop i).takeWhile Ak, b, ((i + ((b.drop i).takeWhile Ak).length : Nat) : Int)) := by
 have := Add k b (Pt k) Ak (fun x => by
  skip
  rw [A18, Aid]
  congr 1
  rw [Bool.eq_iff_iff]; simp [kd4]) (fun j a0 a1 a2 => (E3 k).L 2 [] j (M5 (a0, a1, a2))) (fun j a0 a1 a2 => A2c k j (a0, a1, a2)) hl i k i (Nat.le_refl _) (by omega) (by omega)
 skip
 rw [A2b, Xx]
 rw [Ul] at this
 exact this
theorem Od {p : Int → Bool} : ∀ {l : List Int} {x : Int}, x ∈ l.takeWhile p → p x = true
 | [], x, h => by simp at h
 | y :: l, x, h => by
  rw [List.takeWhile_cons] at h
  split at h
  ·rename_i hp
   rcases List.mem_cons.1 h with rfl | h
   ·exact hp
   ·exact Od h
  ·cases h
theorem Ar0 : ∀ (l : List Int) (acc m : Nat), acc < 10 ^ m → m + l.length ≤ 18 → (∀ c ∈ l, Ak c = true) →
  ∃ u : Nat, Lib.parseUintM (2 ^ 64 - 1) acc (u8s l) = .ok u ∧ u < 10 ^ 18 ∧ (u : Int) = l.foldl (fun v c => 10 * v + (c - 48)) (acc : Int)
 | [], acc, m, h1, h2, _ => ⟨acc, rfl, Nat.lt_of_lt_of_le h1 (Nat.pow_le_pow_right (by decide) (by simpa using h2)), rfl⟩
 | c :: r, acc, m, h1, h2, h3 => by
  have hc := h3 c (by simp)
  unfold Ak at hc
  simp only [Bool.and_eq_true, decide_eq_true_eq] at hc
  have hu : (UInt8.ofNat c.toNat).toNat = c.toNat := by rw [UInt8.toNat_ofNat']; omega
  have hm : m ≤ 17 := by simp at h2; omega
  have ha : acc < 10 ^ 17 := Nat.lt_of_lt_of_le h1 (Nat.pow_le_pow_right (by decide) hm)
  have hb : acc * 10 + (c.toNat - 48) < 10 ^ (m + 1) := by
   rw [Nat.pow_succ]
   omega
  have hb2 : acc * 10 + (c.toNat - 48) < 10 ^ 18 := Nat.lt_of_lt_of_le hb (Nat.pow_le_pow_right (by decide) (by omega))
  obtain ⟨u, e1, e2, e3⟩ := Ar0 r (acc * 10 + (c.toNat - 48)) (m + 1) hb (by simp at h2; omega) fun x hx => h3 x (by simp [hx])
  refine ⟨u, ?_, e2, ?_⟩
  ·show Lib.parseUintM _ _ (UInt8.ofNat c.toNat :: u8s r) = _
   simp only [Lib.parseUintM]
   rw [hu, if_pos (by omega), if_neg (by omega), if_neg (by omega)]
   exact e1
  ·rw [e3, List.foldl_cons]
   congr 1
   omega
theorem Awd : ∀ (l : List Int) (acc : Int) (m : Nat), 0 ≤ acc → acc < 10 ^ m → (∀ c ∈ l, Ak c = true) → 0 ≤ l.foldl (fun v c => 10 * v + (c - 48)) acc ∧ l.foldl (fun v c => 10 * v + (c - 48)) acc < 10 ^ (m + l.length)
 | [], acc, m, h0, h1, _ => ⟨h0, by simpa using h1⟩
 | c :: r, acc, m, h0, h1, h3 => by
  have hc := h3 c (by simp)
  unfold Ak at hc
  simp only [Bool.and_eq_true, decide_eq_true_eq] at hc
  have := Awd r (10 * acc + (c - 48)) (m + 1) (by omega) (by rw [Int.pow_succ]; omega) fun x hx => h3 x (by simp [hx])
  rw [List.foldl_cons, List.length_cons, show m + (r.length + 1) = m + 1 + r.length by omega]
  exact this
theorem A8u {l : List Int} (h0 : l ≠ []) (h1 : l.length ≤ 18) (h2 : ∀ x ∈ l, Ak x = true) : Kz (l, 10, 64) = some (valD l, true) := by
 unfold Kz
 rw [if_pos ⟨rfl, rfl, by simp only; omega⟩]
 obtain ⟨u, hu, hlt, hv⟩ := Ar0 l 0 0 (by decide) (by simpa using h1) h2
 have : Lib.parseIntB 64 (u8s l) = .ok (u : Int) := by
  cases l with
  | nil => exact absurd rfl h0
  | cons x r =>
   have hc := h2 x (by simp)
   unfold Ak at hc
   simp only [Bool.and_eq_true, decide_eq_true_eq] at hc
   have hx : (UInt8.ofNat x.toNat).toNat = x.toNat := by rw [UInt8.toNat_ofNat']; omega
   have hl : u8s (x :: r) = UInt8.ofNat x.toNat :: u8s r := rfl
   rw [hl] at hu ⊢
   have e1 : ¬ ((UInt8.ofNat x.toNat).toNat = 43 ∨ (UInt8.ofNat x.toNat).toNat = 45) := by omega
   have e2 : ¬ ((UInt8.ofNat x.toNat).toNat = 45) := by omega
   simp only [Lib.parseIntB, Lib.parseUintB, if_neg e1]
   rw [if_neg (by simp), hu]
   simp only [e2]
   rw [if_neg (by simp; omega), if_neg (by simp)]
   simp
 rw [this]
 simp only []
 have hv2 : (u : Int) = valD l := hv
 rw [if_pos, hv2]
 ·have h1 : (u : Int) < 10 ^ 18 := by exact_mod_cast hlt
  simp only [Lit.wf, Bool.and_eq_true, decide_eq_true_eq]
  constructor
  ·exact Int.le_trans (by decide) (Int.natCast_nonneg u)
  ·exact Int.le_trans (Int.le_of_lt h1) (by decide)
theorem Ba0 (k : Nat) (b : List Int) (hk : b.length < k) (hl : b.length < 1000000) (i : Nat) (hi : i < b.length) (hx : b.getD i 0 ≠ 35) (hb : Bc (b.getD i 0) = false) :
  ∃ q : Int, Px k (b, (i : Int)) = some ((tok1 (b.drop i)).2.1, (tok1 (b.drop i)).2.2.1, (tok1 (b.drop i)).2.2.2.1, 0, (tok1 (b.drop i)).1, b, q) ∧ ((tok1 (b.drop i)).1 = 0 → q = ((b.length - (tok1 (b.drop i)).2.2.2.2.length : Nat) : Int)) := by
 have e0 := Dd hi
 have elen : (b.drop i).length = b.length - i := List.length_drop
 skip
 rw [A2k, Aio, Aqu k b i hi, Option.bind_some]
 dsimp only
 rw [cbeq, cbeq, cbeq]
 simp only [kd3, kd4, kd5]
 split
 ·rename_i h3
  have hw := List.takeWhile_append_dropWhile (p := Am) (l := b.drop i)
  have hw2 := congrArg List.length hw
  rw [List.length_append, elen] at hw2
  skip
  rw [A2n, Aiv, A8y k b hk hl i (by omega), Option.bind_some]
  simp only [cd]
  have et : tok1 (b.drop i) = if 24 < ((b.drop i).takeWhile Am).length then (4, 0, [], 0, []) else (0, 1, (b.drop i).takeWhile Am, 0, (b.drop i).dropWhile Am) := by
   rw [e0, tok1, if_pos h3]
  rw [et]
  by_cases h24 : 24 < ((b.drop i).takeWhile Am).length
  ·rw [if_pos (by omega), if_pos h24]
   exact ⟨_, rfl, fun h => by simp at h⟩
  ·rw [if_neg (by omega), if_neg h24]
   exact ⟨_, rfl, fun _ => by simp only []; omega⟩
 ·rename_i h3
  split
  ·rename_i h4
   have hw := List.takeWhile_append_dropWhile (p := Ak) (l := b.drop i)
   have hw2 := congrArg List.length hw
   rw [List.length_append, elen] at hw2
   skip
   rw [A19, Aig, A8x k b hk hl i (by omega), Option.bind_some]
   simp only [cd]
   have et : tok1 (b.drop i) = if 18 < ((b.drop i).takeWhile Ak).length then (4, 0, [], 0, []) else (0, 2, (b.drop i).takeWhile Ak, valD ((b.drop i).takeWhile Ak), (b.drop i).dropWhile Ak) := by
    rw [e0, tok1, if_neg h3, if_pos h4]
   rw [et]
   by_cases h18 : 18 < ((b.drop i).takeWhile Ak).length
   ·rw [if_pos (by omega), if_pos h18]
    exact ⟨_, rfl, fun h => by simp at h⟩
   ·rw [if_neg (by omega), if_neg h18]
    rw [show Vx k ((b.drop i).takeWhile Ak, 10, 64) = some (valD ((b.drop i).takeWhile Ak), true) from A8u (by rw [e0, List.takeWhile_cons, if_pos h4]; simp) (by omega) (fun x hx => Od hx), Option.bind_some]
    exact ⟨_, rfl, fun _ => by simp only []; omega⟩
  ·rename_i h4
   have et : tok1 (b.drop i) = if C3 (b.getD i 0) then (0, 3, [b.getD i 0], 0, b.drop (i + 1)) else (40, 0, [], 0, []) := by
    rw [e0, tok1, if_neg h3, if_neg h4]
   rw [et]
   split
   ·rename_i h5
    rw [w64 (n := (i : Int) + 1) (by omega), w64 (by omega), Hi, if_pos (by omega), Fs]
    rw [show (((i + 1 : Nat) : Int) - 1) = (i : Int) by omega, Is]
    refine ⟨_, ?_, fun _ => rfl⟩
    have e1 : (b.take (i + 1)).drop i = [b.getD i 0] := by
     rw [List.drop_take, e0, show i + 1 - i = 1 by omega]; rfl
    rw [e1]
    congr 7
    simp only [List.length_drop]
    omega
   ·exact ⟨_, rfl, fun h => by simp at h⟩
theorem Av2 (k : Nat) (b : List Int) (hk : b.length < k) (hl : b.length < 1000000) : ∀ (j i : Nat) (out : List Tk), i ≤ b.length → b.length - i < j → out.length ≤ i →
  (E1 k).L 5 [] j (M4 (b, b, (i : Int), out)) = some ((lx b.length j (b.drop i)).1, (lx b.length j (b.drop i)).2.1, if (lx b.length j (b.drop i)).1 = 0 then out ++ (lx b.length j (b.drop i)).2.2 else [])
 | 0, i, out, _, h, _ => by omega
 | j + 1, i, out, hi, h, ho => by
  have hd := Jz false (b.drop i)
  have hsuf := (Ho false (b.drop i)).trans (List.drop_suffix i b)
  rw [List.length_drop] at hd
  rw [A1x, Xn, Bag k b hk hl i hi, Option.bind_some, lx]
  cases hs : drp false (b.drop i) with
  | nil =>
   dsimp only
   rw [List.length_nil, Nat.sub_zero, cbeq, if_pos rfl, Lt, if_pos (by simp only [List.length_cons, List.length_nil]; omega)]
   rfl
  | cons x r =>
   rw [hs] at hd hsuf
   obtain ⟨h35, hbl⟩ := Jy false _ hs
   have hsuf2 := List.suffix_iff_eq_drop.1 hsuf
   generalize hp : b.length - (x :: r).length = p at *
   have hlen2 : (x :: r).length ≤ b.length := by omega
   have hpl : p < b.length := by rw [List.length_cons] at hd hp; omega
   have hx : b.getD p 0 = x := by
    have := Dd hpl
    rw [← hsuf2] at this
    exact (List.cons.inj this).1.symm
   dsimp only
   rw [cbeq, if_neg (by omega)]
   obtain ⟨q, e, hq⟩ := Ba0 k b hk hl p hpl (by rw [hx]; exact h35) (by rw [hx]; exact hbl)
   rw [← hsuf2] at e hq
   rw [e, Option.bind_some]
   dsimp only
   rw [cbne]
   by_cases h0 : (tok1 (x :: r)).1 = 0
   ·have hr := Ld h0
    obtain ⟨s1, s2, s3, s4⟩ := Jk h0
    simp only [if_pos h0]
    rw [Lt, if_pos (by simp only [List.length_cons, List.length_nil]; omega), hq h0]
    rw [List.length_cons] at hd hp
    have hsub : b.drop (b.length - (tok1 (x :: r)).2.2.2.2.length) = (tok1 (x :: r)).2.2.2.2 := by
     have hs3 : (tok1 (x :: r)).2.2.2.2 <:+ b := (List.suffix_append _ _).trans (s1 ▸ hsuf)
     exact (List.suffix_iff_eq_drop.1 hs3).symm
    have := Av2 k b hk hl j (b.length - (tok1 (x :: r)).2.2.2.2.length) (out ++ [((tok1 (x :: r)).2.1, ((tok1 (x :: r)).2.2.1, ((tok1 (x :: r)).2.2.2.1, (((p : Nat) : Int), ()))))]) (by omega) (by omega) (by rw [List.length_append]; simp only [List.length_cons, List.length_nil]; omega)
    rw [hsub] at this
    rw [this]
    by_cases h1 : (lx b.length j (tok1 (x :: r)).2.2.2.2).1 = 0
    ·have hz := Aq9 _ _ _ h1
     simp only [if_pos h1, h1, hz]
     simp
     omega
    ·simp only [if_neg h1]
   ·simp only [if_neg h0, hp]
theorem Av3 (k : Nat) (b : List Int) (hk : b.length < k) (hm : b.length < 1000000) : L6 k b = some (toks b) := by
 unfold toks
 rw [A1w, Xm, cd]
 by_cases hl : 65536 < b.length
 ·rw [if_pos (by omega), if_pos hl]
 ·rw [if_neg (by omega), if_neg hl, show (0 : Int) = ((0 : Nat) : Int) from rfl, Av2 k b hk (by omega) k 0 [] (Nat.zero_le _) (by omega) (Nat.zero_le _)]
  rw [List.drop_zero, Ac0 _ k (b.length + 1) b (by omega) (by omega), List.nil_append]
  have : ∀ (f : Nat) (s : List Int), (if (lx b.length f s).1 = 0 then (lx b.length f s).2.2 else []) = (lx b.length f s).2.2 := by
   intro f s
   split
   ·rfl
   ·rename_i h
    cases f with
    | zero => exact absurd rfl h
    | succ f =>
     rw [lx] at h ⊢
     cases hd : drp false s with
     | nil => rw [hd] at h; exact absurd rfl h
     | cons x r =>
      rw [hd] at h
      simp only [] at h ⊢
      split
      ·rename_i h0
       rw [if_pos h0] at h
       split
       ·rename_i h1; rw [if_pos h1] at h; exact absurd rfl h
       ·rfl
      ·rfl
  rw [this]
theorem Asw (k : Nat) (b : List Int) (hl : b.length < 1000000) (j1 i0 : Nat) (H : ∀ i, i0 < i → i ≤ b.length → (C0 k).L 1 [] j1 (Ff (b, (i : Int))) = some ((b.length - (drp false (b.drop i)).length : Nat) : Int)) :
  ∀ (j i : Nat), i0 < i → i ≤ b.length → b.length - i < j → (C0 k).L 3 [j1] j (Nv (b, (i : Int))) = some ((b.length - (drp true (b.drop i)).length : Nat) : Int)
 | 0, i, _, _, h => by omega
 | j + 1, i, h0, hi, h => by
  rw [An2, Sm, cd, cinB, cbne, Gy]
  by_cases hlt : i < b.length
  ·rw [if_pos (by omega), if_pos (by omega), Dd hlt, drp]
   by_cases hn : b.getD i 0 = 10
   ·rw [if_pos hn, if_pos hn, H i h0 hi, Dd hlt, drp, hn]
    rfl
   ·rw [if_neg hn, if_neg hn, w64 (by omega), Fs]
    exact Asw k b hl j1 i0 H j (i + 1) (by omega) (by omega) (by omega)
  ·rw [if_neg (by omega), H i h0 hi, @List.drop_eq_nil_of_le _ b i (by omega)]
   simp [drp]
theorem Ad0 (k : Nat) (b : List Int) (hk : b.length < k) (hl : b.length < 1000000) : ∀ (j i : Nat), i ≤ b.length → b.length - i < j → (C0 k).L 1 [] j (Ff (b, (i : Int))) = some ((b.length - (drp false (b.drop i)).length : Nat) : Int)
 | 0, i, _, h => by omega
 | j + 1, i, hi, h => by
  rw [A6j, Abf]
  simp only [cd, cinB, cbeq, Gy]
  by_cases hlt : i < b.length
  ·rw [if_pos (by omega)]
   simp only [if_pos (show (0 : Int) ≤ (i : Int) ∧ (i : Int) < (b.length : Int) by omega)]
   have IH := Ad0 k b hk hl j (i + 1) (by omega) (by omega)
   rw [w64 (by omega), Fs, IH, Dd hlt, drp]
   by_cases h35 : b.getD i 0 = 35
   ·rw [if_pos h35, if_pos h35]
    obtain ⟨k', rfl⟩ : ∃ k', k = k' + 1 := ⟨k - 1, by omega⟩
    rw [An2, Sm, cd, cinB, cbne, Gy, if_pos (by omega), if_pos (by omega), if_neg (by omega), w64 (by omega), Fs]
    exact Asw _ b hl j i (fun i' h1 h2 => Ad0 _ b hk hl j i' h2 (by omega)) k' (i + 1) (by omega) (by omega) (by omega)
   ·rw [if_neg h35, if_neg h35]
    unfold Bc
    simp only [decide_eq_true_eq]
    have e : b.length - (b.getD i 0 :: b.drop (i + 1)).length = i := by rw [List.length_cons, List.length_drop]; omega
    by_cases h1 : b.getD i 0 = 32
    ·rw [if_pos h1, if_pos (by omega)]
    ·rw [if_neg h1]
     by_cases h2 : b.getD i 0 = 9
     ·rw [if_pos h2, if_pos (by omega)]
     ·rw [if_neg h2]
      by_cases h3 : b.getD i 0 = 10
      ·rw [if_pos h3, if_pos (by omega)]
      ·rw [if_neg h3]
       by_cases h4 : b.getD i 0 = 13
       ·rw [if_pos h4, if_pos (by omega)]
       ·rw [if_neg h4, if_neg (by omega), e]
  ·rw [if_neg (by omega), @List.drop_eq_nil_of_le _ b i (by omega)]
   simp [drp]
   omega
theorem Asx (k : Nat) (b : List Int) (hk : b.length < k) (hl : b.length < 1000000) (i : Nat) (hi : i ≤ b.length) : Ml k (b, (i : Int)) = some ((b.length - (drp false (b.drop i)).length : Nat) : Int) := by
 skip
 rw [A6i, Abe, Ad0 k b hk hl k i hi (by omega)]
theorem Avu (k : Nat) (a : Int) : Mm k a = some (A5 a) := by
 unfold A5
 rw [A6k, An6]
 by_cases h : a ≥ 97
 ·simp [h]
 ·have : ¬ 97 ≤ a := by omega
  simp [h]
theorem V6 (k : Nat) (a : Int) : Jw k a = some (Ak a) := by
 unfold Ak
 rw [A6c, Ans]
 by_cases h : a ≥ 48
 ·simp [h]
 ·simp [h]
theorem Baf (k : Nat) (a : Int) : Qz k a = some (C3 a) := by
 unfold C3
 rw [A6h, Anz]
 simp only [cbeq]
 repeat' (first | (refine iteS (fun _ => ?_) (fun _ => ?_)))
 all_goals (refine congrArg some ?_; rw [Bool.eq_iff_iff]; simp; try omega)
theorem rword (k : Nat) (b : List Int) (hl : b.length < 1000000) (s : Nat) (x3 : Int) (x4 : List Int) (x5 x6 : Int) :
  ∀ (j i : Nat), s ≤ i → i ≤ b.length → b.length - i < j → (C7 k).L 3 [] j (I4 (b, (s : Int), (i : Int), x3, x4, x5, x6)) =
   (if 24 < i + ((b.drop i).takeWhile Am).length - s then some (0, [], 0, 0, 4) else some (1, (b.take (i + ((b.drop i).takeWhile Am).length)).drop s, 0, (s : Int), 0))
 | 0, i, _, _, h => by omega
 | j + 1, i, hs, hi, h => by
  have fin : ∀ n : Nat, n = i → (if 24 < n - s then some ((0 : Int), ([] : List Int), (0 : Int), (0 : Int), (4 : Int)) else if (0 : Int) ≤ (s : Int) ∧ (s : Int) ≤ (i : Int) ∧ (i : Int) ≤ (b.length : Int) then some (1, cutL b (s : Int) (i : Int), 0, (s : Int), 0) else none) = (if 24 < n - s then some (0, [], 0, 0, 4) else some (1, (b.take n).drop s, 0, (s : Int), 0)) := by
   rintro n rfl
   rw [if_pos (by omega : (0 : Int) ≤ (s : Int) ∧ (s : Int) ≤ (n : Int) ∧ (n : Int) ≤ (b.length : Int)), Is]
  rw [A6g, Aa9]
  simp only [cd, cinB, cbeq, Gy, Hi]
  rw [w64 (n := (i : Int) - (s : Int)) (by omega)]
  have e24 : ((i : Int) - (s : Int) > 24) = (24 < i - s) := by rw [eq_iff_iff]; omega
  simp only [e24]
  by_cases hlt : i < b.length
  ·rw [if_pos (by omega)]
   simp only [if_pos (show (0 : Int) ≤ (i : Int) ∧ (i : Int) < (b.length : Int) by omega)]
   rw [Avu, Option.bind_some, V6, Option.bind_some, w64 (n := (i : Int) + 1) (by omega), Fs, Dd hlt, List.takeWhile_cons]
   have IH := rword k b hl s x3 x4 x5 x6 j (i + 1) (by omega) (by omega) (by omega)
   rw [show i + 1 + ((b.drop (i + 1)).takeWhile Am).length = i + (((b.drop (i + 1)).takeWhile Am).length + 1) by omega] at IH
   rw [IH]
   cases hw : Am (b.getD i 0) with
   | true =>
    simp only [if_true, List.length_cons]
    unfold Am at hw
    cases h1 : A5 (b.getD i 0) with
    | true => rw [cond_true]
    | false =>
     rw [cond_false]
     cases h2 : Ak (b.getD i 0) with
     | true => rw [cond_true]
     | false =>
      rw [cond_false]
      rw [h1, h2] at hw
      rw [if_pos (by simpa using hw)]
   | false =>
    unfold Am at hw
    simp only [Bool.or_eq_false_iff, decide_eq_false_iff_not] at hw
    rw [hw.1, cond_false, hw.2.1, cond_false, if_neg hw.2.2]
    simp only [Bool.false_eq_true, if_false, List.length_nil]
    exact fin _ rfl
  ·rw [if_neg (by omega), @List.drop_eq_nil_of_le _ b i (by omega)]
   simp only [List.takeWhile_nil, List.length_nil]
   exact fin _ rfl
theorem rnum (k : Nat) (b : List Int) (hl : b.length < 1000000) (s : Nat) (x4 : Int) (x5 : List Int) (x6 x7 : Int) :
  ∀ (j i : Nat) (v : Int), s ≤ i → i ≤ b.length → b.length - i < j → (i - s ≤ 18 → 0 ≤ v ∧ v < 10 ^ (i - s)) → (C7 k).L 10 [] j (Kf (b, (s : Int), (i : Int), v, x4, x5, x6, x7)) =
   (if 18 < i + ((b.drop i).takeWhile Ak).length - s then some (0, [], 0, 0, 4) else some (2, (b.take (i + ((b.drop i).takeWhile Ak).length)).drop s, ((b.drop i).takeWhile Ak).foldl (fun v c => 10 * v + (c - 48)) v, (s : Int), 0))
 | 0, i, v, _, _, h, _ => by omega
 | j + 1, i, v, hs, hi, h, hv => by
  have fin : ∀ n : Nat, n = i → (if 18 < n - s then some ((0 : Int), ([] : List Int), (0 : Int), (0 : Int), (4 : Int)) else if (0 : Int) ≤ (s : Int) ∧ (s : Int) ≤ (i : Int) ∧ (i : Int) ≤ (b.length : Int) then some (2, cutL b (s : Int) (i : Int), v, (s : Int), 0) else none) = (if 18 < n - s then some (0, [], 0, 0, 4) else some (2, (b.take n).drop s, v, (s : Int), 0)) := by
   rintro n rfl
   rw [if_pos (by omega : (0 : Int) ≤ (s : Int) ∧ (s : Int) ≤ (n : Int) ∧ (n : Int) ≤ (b.length : Int)), Is]
  rw [A6f, Aa8]
  simp only [cd, cinB, cbeq, Gy, Hi]
  rw [w64 (n := (i : Int) - (s : Int)) (by omega)]
  have e24 : ((i : Int) - (s : Int) > 18) = (18 < i - s) := by rw [eq_iff_iff]; omega
  have e25 : ((i : Int) - (s : Int) < 18) = (i - s < 18) := by rw [eq_iff_iff]; omega
  simp only [e24, e25]
  by_cases hlt : i < b.length
  ·rw [if_pos (by omega)]
   simp only [if_pos (show (0 : Int) ≤ (i : Int) ∧ (i : Int) < (b.length : Int) by omega)]
   rw [V6, Option.bind_some, w64 (n := (i : Int) + 1) (by omega), Fs, Dd hlt, List.takeWhile_cons]
   cases hw : Ak (b.getD i 0) with
   | true =>
    have hd := hw
    unfold Ak at hd
    simp only [Bool.and_eq_true, decide_eq_true_eq] at hd
    simp only [if_true, List.length_cons, cond_true, List.foldl_cons]
    by_cases h18 : i - s < 18
    ·obtain ⟨v1, v2⟩ := hv (by omega)
     have v3 : v < 10 ^ 17 := Int.lt_of_lt_of_le v2 (by exact_mod_cast Nat.pow_le_pow_right (by decide) (by omega : i - s ≤ 17))
     have v4 : 10 * v + (b.getD i 0 - 48) < 10 ^ (i + 1 - s) := by
      rw [show i + 1 - s = (i - s) + 1 by omega, Int.pow_succ]
      omega
     rw [if_pos h18, wu8 (by omega), w64 (n := 10 * v) (by omega), w64 (n := b.getD i 0 - 48) (by omega), w64 (n := 10 * v + (b.getD i 0 - 48)) (by omega)]
     have IH := rnum k b hl s x4 x5 x6 x7 j (i + 1) (10 * v + (b.getD i 0 - 48)) (by omega) (by omega) (by omega) (fun _ => ⟨by omega, v4⟩)
     rw [show i + 1 + ((b.drop (i + 1)).takeWhile Ak).length = i + (((b.drop (i + 1)).takeWhile Ak).length + 1) by omega] at IH
     exact IH
    ·rw [if_neg h18]
     have IH := rnum k b hl s x4 x5 x6 x7 j (i + 1) v (by omega) (by omega) (by omega) (fun h => by omega)
     rw [IH, if_pos (by omega), if_pos (by omega)]
   | false =>
    simp only [Bool.false_eq_true, if_false, List.length_nil, cond_false, List.foldl_nil]
    exact fin _ rfl
  ·rw [if_neg (by omega), @List.drop_eq_nil_of_le _ b i (by omega)]
   simp only [List.takeWhile_nil, List.length_nil, List.foldl_nil]
   exact fin _ rfl
theorem A8m (k : Nat) (b : List Int) (hk : b.length < k) (hl : b.length < 1000000) (i : Nat) (hi : i < b.length) :
  ∃ q : Int, Qy k (b, (i : Int)) = some ((tok1 (b.drop i)).2.1, (tok1 (b.drop i)).2.2.1, (tok1 (b.drop i)).2.2.2.1, q, (tok1 (b.drop i)).1) ∧ ((tok1 (b.drop i)).1 = 0 → q = (i : Int)) := by
 have e0 := Dd hi
 skip
 rw [A6e, Aa7]
 simp only [cinB, Gy]
 simp only [if_pos (show (0 : Int) ≤ (i : Int) ∧ (i : Int) < (b.length : Int) by omega)]
 rw [Avu, Option.bind_some, V6, Option.bind_some, Baf, Option.bind_some]
 rw [rword k b hl i _ _ _ _ k i (Nat.le_refl _) (by omega) (by omega), rnum k b hl i _ _ _ _ k i 0 (Nat.le_refl _) (by omega) (by omega) (fun _ => by rw [Nat.sub_self]; decide)]
 rw [Ul, Ul, Nat.add_sub_cancel_left, Nat.add_sub_cancel_left]
 cases h1 : A5 (b.getD i 0) with
 | true =>
  have et : tok1 (b.drop i) = if 24 < ((b.drop i).takeWhile Am).length then (4, 0, [], 0, []) else (0, 1, (b.drop i).takeWhile Am, 0, (b.drop i).dropWhile Am) := by
   rw [e0, tok1, if_pos h1]
  rw [et, cond_true]
  split
  ·exact ⟨_, rfl, fun h => by simp at h⟩
  ·exact ⟨_, rfl, fun _ => rfl⟩
 | false =>
  rw [cond_false]
  cases h2 : Ak (b.getD i 0) with
  | true =>
   have et : tok1 (b.drop i) = if 18 < ((b.drop i).takeWhile Ak).length then (4, 0, [], 0, []) else (0, 2, (b.drop i).takeWhile Ak, valD ((b.drop i).takeWhile Ak), (b.drop i).dropWhile Ak) := by
    rw [e0, tok1, if_neg (by rw [h1]; exact Bool.false_ne_true), if_pos h2]
   rw [et, cond_true]
   split
   ·exact ⟨_, rfl, fun h => by simp at h⟩
   ·exact ⟨_, rfl, fun _ => rfl⟩
  | false =>
   rw [cond_false]
   have et : tok1 (b.drop i) = if C3 (b.getD i 0) then (0, 3, [b.getD i 0], 0, b.drop (i + 1)) else (40, 0, [], 0, []) := by
    rw [e0, tok1, if_neg (by rw [h1]; exact Bool.false_ne_true), if_neg (by rw [h2]; exact Bool.false_ne_true)]
   rw [et]
   cases h3 : C3 (b.getD i 0) with
   | true =>
    rw [cond_true, w64 (by omega), Hi, if_pos (by omega), Fs, Is]
    have e1 : (b.take (i + 1)).drop i = [b.getD i 0] := by
     rw [List.drop_take, e0, show i + 1 - i = 1 by omega]; rfl
    rw [e1]
    exact ⟨_, rfl, fun _ => rfl⟩
   | false =>
    rw [cond_false]
    exact ⟨_, rfl, fun h => by simp at h⟩
theorem Asy (k : Nat) (b : List Int) (hk : b.length < k) (hl : b.length < 1000000) : ∀ (j i : Nat) (out : List Tk), i ≤ b.length → b.length - i < j → out.length ≤ i → drp false (b.drop i) = b.drop i →
  (Fe k).L 5 [] j (Nu (b, (i : Int), out)) = some ((lx b.length j (b.drop i)).1, (lx b.length j (b.drop i)).2.1, if (lx b.length j (b.drop i)).1 = 0 then out ++ (lx b.length j (b.drop i)).2.2 else [])
 | 0, i, out, _, h, _, _ => by omega
 | j + 1, i, out, hi, h, ho, hd => by
  rw [A6a, Aa2, cd, lx, hd]
  by_cases hlt : i < b.length
  ·rw [if_pos (by omega)]
   obtain ⟨q, e, hq⟩ := A8m k b hk hl i hlt
   rw [e, Option.bind_some]
   have el : b.length - (b.drop i).length = i := by rw [List.length_drop]; omega
   have e0 := Dd hlt
   generalize hx : b.getD i 0 = x at e0
   generalize hr : b.drop (i + 1) = r at e0
   have hlr : r.length = b.length - (i + 1) := by rw [← hr, List.length_drop]
   rw [e0] at el hq
   rw [e0]
   dsimp only
   rw [cbne]
   by_cases h0 : (tok1 (x :: r)).1 = 0
   ·have hr1 := Ld h0
    obtain ⟨s1, s2, s3, s4⟩ := Jk h0
    have s5 := congrArg List.length s1
    rw [List.length_append, List.length_cons] at s5
    simp only [if_pos h0]
    rw [Lt, if_pos (by simp only [List.length_cons, List.length_nil]; omega), hq h0, w64 (by omega)]
    generalize hp : i + (tok1 (x :: r)).2.2.1.length = p
    have hpq : b.drop p = (tok1 (x :: r)).2.2.2.2 := by
     rw [← hp, ← List.drop_drop, e0]
     have s6 := congrArg (List.drop (tok1 (x :: r)).2.2.1.length) s1
     rw [List.drop_left] at s6
     exact s6.symm
    have hpl : p ≤ b.length := by omega
    rw [show (i : Int) + (((tok1 (x :: r)).2.2.1.length : Nat) : Int) = (p : Int) by omega, Asx k b hk hl p hpl, Option.bind_some, hpq]
    have hdl := Jz false (tok1 (x :: r)).2.2.2.2
    have hdd := Agf (tok1 (x :: r)).2.2.2.2 false
    have hsuf : drp false (tok1 (x :: r)).2.2.2.2 <:+ b := (Ho false _).trans (hpq ▸ List.drop_suffix p b)
    have hdr : b.drop (b.length - (drp false (tok1 (x :: r)).2.2.2.2).length) = drp false (tok1 (x :: r)).2.2.2.2 := (List.suffix_iff_eq_drop.1 hsuf).symm
    have := Asy k b hk hl j (b.length - (drp false (tok1 (x :: r)).2.2.2.2).length) (out ++ [((tok1 (x :: r)).2.1, ((tok1 (x :: r)).2.2.1, ((tok1 (x :: r)).2.2.2.1, ((i : Int), ()))))]) (by omega) (by omega) (by rw [List.length_append]; simp only [List.length_cons, List.length_nil]; omega) (by rw [hdr, hdd])
    rw [hdr] at this
    rw [this]
    have hsame : lx b.length j (drp false (tok1 (x :: r)).2.2.2.2) = lx b.length j (tok1 (x :: r)).2.2.2.2 := by
     cases j with
     | zero => rfl
     | succ j => rw [lx, lx, hdd]
    rw [hsame]
    by_cases h1 : (lx b.length j (tok1 (x :: r)).2.2.2.2).1 = 0
    ·have hz := Aq9 _ _ _ h1
     simp only [if_pos h1, h1, hz, el]
     simp
    ·simp only [if_neg h1]
   ·simp only [if_neg h0, el]
  ·rw [if_neg (by omega), @List.drop_eq_nil_of_le _ b i (by omega), Lt, if_pos (by simp only [List.length_cons, List.length_nil]; omega)]
   have : i = b.length := by omega
   subst this
   rfl
theorem lx_nil (n : Nat) : ∀ (f : Nat) (s : List Int), (if (lx n f s).1 = 0 then (lx n f s).2.2 else []) = (lx n f s).2.2 := by
 intro f s
 split
 ·rfl
 ·rename_i h
  cases f with
  | zero => exact absurd rfl h
  | succ f =>
   rw [lx] at h ⊢
   cases hd : drp false s with
   | nil => rw [hd] at h; exact absurd rfl h
   | cons x r =>
    rw [hd] at h
    simp only [] at h ⊢
    split
    ·rename_i h0
     rw [if_pos h0] at h
     split
     ·rename_i h1; rw [if_pos h1] at h; exact absurd rfl h
     ·rfl
    ·rfl
theorem A93 (k : Nat) (b : List Int) (hk : b.length < k) (hm : b.length < 1000000) : Qw k b = some (toks b) := by
 unfold toks
 rw [A59, Aa1, cd]
 by_cases hl : 65536 < b.length
 ·rw [if_pos (by omega), if_pos hl]
 ·have hdd := Agf b false
  have hdl := Jz false b
  have hdr : b.drop (b.length - (drp false b).length) = drp false b := (List.suffix_iff_eq_drop.1 (Ho false b)).symm
  have h0 := Asx k b hk (by omega) 0 (Nat.zero_le _)
  rw [List.drop_zero] at h0
  rw [if_neg (by omega), if_neg hl, show (0 : Int) = ((0 : Nat) : Int) from rfl, h0, Option.bind_some, Asy k b hk (by omega) k _ [] (by omega) (by omega) (Nat.zero_le _) (by rw [hdr, hdd])]
  have hsame : lx b.length k (drp false b) = lx b.length (b.length + 1) b := by
   rw [Ac0 _ (b.length + 1) k b (by omega) (by omega)]
   cases k with
   | zero => rfl
   | succ j => rw [lx, lx, hdd]
  rw [hdr, hsame, List.nil_append, lx_nil]
def Dy (kd : Int) (tx : List Int) (v : Int) : Bool := decide (tx ≠ [] ∧ drp false tx = tx ∧ tok1 tx = (0, kd, tx, v, []))
abbrev tkD : Tk := ((0 : Int), ([], ((0 : Int), ((0 : Int), ()))))
theorem Av5 (kd : Int) (tx : List Int) (v : Int) :
  ((toks tx).1 = 0 ∧ (toks tx).2.2.length = 2 ∧ ((toks tx).2.2.getD 0 tkD).1 = kd ∧ ((toks tx).2.2.getD 0 tkD).2.1 = tx ∧ ((toks tx).2.2.getD 0 tkD).2.2.1 = v) ↔ Dy kd tx v = true := by
 unfold Dy
 rw [decide_eq_true_eq]
 unfold toks
 by_cases hl : 65536 < tx.length
 ·rw [if_pos hl]
  constructor
  ·intro h; simp at h
  ·rintro ⟨h1, h2, h3⟩
   cases tx with
   | nil => exact absurd rfl h1
   | cons x r =>
    have := Jk (x := x) (r := r) (by rw [h3])
    rw [h3] at this
    have := this.2.2.2
    simp only [] at this
    omega
 ·rw [if_neg hl, lx]
  cases hd : drp false tx with
  | nil =>
   simp only []
   constructor
   ·intro h; simp at h
   ·rintro ⟨h1, h2, h3⟩; exact absurd h2.symm h1
  | cons x r =>
   simp only []
   by_cases h0 : (tok1 (x :: r)).1 = 0
   ·obtain ⟨s1, s2, s3, s4⟩ := Jk h0
    have hlen := Jz false tx
    rw [hd] at hlen
    have s5 := congrArg List.length s1
    rw [List.length_append] at s5
    have s6 := Ld h0
    rw [if_pos h0]
    generalize hq : (tok1 (x :: r)).2.2.2.2 = q at *
    by_cases h1 : (lx tx.length tx.length q).1 = 0
    ·rw [if_pos h1]
     simp only [List.length_cons, List.getD_cons_zero]
     constructor
     ·rintro ⟨_, g1, g2, g3, g4⟩
      rw [g3] at s5
      have hq0 : q = [] := by
       apply List.length_eq_zero_iff.1
       omega
      have htx : tx = x :: r := by rw [← s1, g3, hq0, List.append_nil]
      refine ⟨by rw [htx]; simp, by rw [← htx], ?_⟩
      have : tok1 tx = tok1 (x :: r) := by rw [htx]
      rw [this]
      ext1; exact h0
      ext1; exact g2
      ext1; exact g3
      ext1; exact g4
      show (tok1 (x :: r)).2.2.2.2 = []
      rw [hq, hq0]
     ·rintro ⟨g1, g2, g3⟩
      rw [← g2] at g3
      have hq0 : q = [] := by rw [← hq, g3]
      rw [g3]
      refine ⟨trivial, ?_, rfl, g2.symm ▸ rfl, rfl⟩
      have hpos : ∃ m, tx.length = m + 1 := ⟨tx.length - 1, by rw [List.length_cons] at hlen; omega⟩
      obtain ⟨m, hm⟩ := hpos
      rw [hq0, hm, lx]
      rfl
    ·rw [if_neg h1]
     constructor
     ·rintro ⟨g, _⟩; exact absurd g h1
     ·rintro ⟨g1, g2, g3⟩
      rw [← g2] at g3
      have hq0 : q = [] := by rw [← hq, g3]
      have hpos : ∃ m, tx.length = m + 1 := ⟨tx.length - 1, by rw [List.length_cons] at hlen; omega⟩
      obtain ⟨m, hm⟩ := hpos
      rw [hq0, hm, lx] at h1
      exact absurd rfl h1
   ·rw [if_neg h0]
    constructor
    ·rintro ⟨g, _⟩; exact absurd g h0
    ·rintro ⟨g1, g2, g3⟩
     rw [← g2] at g3
     rw [g3] at h0
     exact absurd rfl h0
theorem Ba2 {kd : Int} {tx : List Int} {v : Int} (h : Dy kd tx v = true) : ((toks tx).2.2.getD 0 tkD).2.2.2.1 = 0 := by
 unfold Dy at h
 rw [decide_eq_true_eq] at h
 obtain ⟨h1, h2, h3⟩ := h
 unfold toks
 cases tx with
 | nil => exact absurd rfl h1
 | cons x r =>
  have := Jk (x := x) (r := r) (by rw [h3])
  rw [h3] at this
  have h24 := this.2.2.2
  simp only [] at h24
  rw [if_neg (by omega), lx, h2]
  simp only [h3, if_true]
  have h0 : (lx (x :: r).length (x :: r).length []).1 = 0 := by
   rw [List.length_cons, lx]; rfl
  rw [if_pos h0]
  simp
theorem eqI_d (a b : Int) : eqI a b = decide (a = b) := by
 unfold eqI; rw [Bool.eq_iff_iff]; simp
theorem eqS_d (a b : List Int) : eqS a b = decide (a = b) := by
 unfold eqS; rw [Bool.eq_iff_iff]; simp
theorem A9m (k : Nat) (kd : Int) (tx : List Int) (v p : Int) (hk : tx.length < k) (hm : tx.length < 1000000) : Ps k (kd, tx, v, p) = some (Dy kd tx v) := by
 skip
 rw [A1u, Ahy, Av3 k tx hk hm, Option.bind_some, cbeq, cbeq, cinB]
 have T := Av5 kd tx v
 have Tp := @Ba2 kd tx v
 have hz : (Int.toNat 0) = 0 := rfl
 unfold rdA at *
 rw [hz]
 generalize toks tx = tt at *
 by_cases h0 : tt.1 = 0
 ·rw [if_pos h0]
  by_cases h2 : tt.2.2.length = 2
  ·rw [if_pos (by omega), if_pos (by omega), eqI_d, eqI_d, eqS_d, eqI_d]
   refine congrArg some ?_
   rw [Bool.eq_iff_iff]
   simp only [Bool.and_eq_true, decide_eq_true_eq, and_true]
   constructor
   ·rintro ⟨a1, a2, a3, a4⟩
    exact T.1 ⟨h0, h2, a1, a2, a3⟩
   ·intro h
    have := T.2 h
    exact ⟨this.2.2.1, this.2.2.2.1, this.2.2.2.2, Tp h⟩
  ·rw [if_neg (by omega)]
   refine congrArg some ?_
   rw [eq_comm, Bool.eq_false_iff]
   exact fun h => h2 (T.2 h).2.1
 ·rw [if_neg h0]
  refine congrArg some ?_
  rw [eq_comm, Bool.eq_false_iff]
  exact fun h => h0 (T.2 h).1
theorem A90 (k : Nat) (kd : Int) (tx : List Int) (v p : Int) (hk : tx.length < k) (hm : tx.length < 1000000) : Qv k (kd, tx, v, p) = some (Dy kd tx v) := by
 skip
 rw [A57, Anj, A93 k tx hk hm, Option.bind_some]
 simp only [cbeq, cinB]
 have T := Av5 kd tx v
 have hz : (Int.toNat 0) = 0 := rfl
 unfold rdA at *
 rw [hz]
 generalize toks tx = tt at *
 by_cases h0 : tt.1 = 0
 ·rw [if_pos h0]
  by_cases h2 : tt.2.2.length = 2
  ·simp only [if_pos (show ((tt.2.2.length : Nat) : Int) = 2 by omega), if_pos (show (0 : Int) ≤ 0 ∧ (0 : Int) < ((tt.2.2.length : Nat) : Int) by omega)]
   refine iteS (fun a1 => iteS (fun a2 => ?_) (fun a2 => ?_)) (fun a1 => ?_)
   ·refine congrArg some ?_
    rw [Bool.eq_iff_iff]
    constructor
    ·intro a3
     exact T.1 ⟨h0, h2, a1, by simpa using a3, a2⟩
    ·intro h
     simpa using (T.2 h).2.2.2.1
   ·refine congrArg some ?_
    rw [eq_comm, Bool.eq_false_iff]
    exact fun h => a2 (T.2 h).2.2.2.2
   ·refine congrArg some ?_
    rw [eq_comm, Bool.eq_false_iff]
    exact fun h => a1 (T.2 h).2.2.1
  ·rw [if_neg (by omega)]
   refine congrArg some ?_
   rw [eq_comm, Bool.eq_false_iff]
   exact fun h => h2 (T.2 h).2.1
 ·rw [if_neg h0]
  refine congrArg some ?_
  rw [eq_comm, Bool.eq_false_iff]
  exact fun h => h0 (T.2 h).1
def resW : List (List Int) := [[99, 121, 99, 108, 101],
 [116, 111],
 [98, 121],
 [112, 101, 97, 107],
 [110, 111, 100, 101],
 [104, 101, 97, 100],
 [118, 111, 108, 117, 109, 101],
 [102, 108, 111, 119],
 [117, 115, 101],
 [115, 112, 101, 101, 100],
 [103, 114, 97, 100, 101],
 [119, 105, 100, 116, 104],
 [108, 101, 110, 103, 116, 104],
 [103, 114, 101, 101, 110],
 [119, 97, 108, 107],
 [119, 105, 116, 104],
 [108, 111, 110, 103],
 [112, 97, 99, 101],
 [108, 101, 97, 115, 116],
 [112, 104, 97, 115, 101],
 [103, 114, 111, 117, 112],
 [114, 105, 110, 103],
 [102, 114, 101, 101],
 [102, 111, 101],
 [97, 114, 116, 101, 114, 121],
 [115, 116, 111, 112],
 [111, 117, 116],
 [105, 110],
 [97, 104, 101, 97, 100],
 [98, 97, 99, 107],
 [119, 101, 105, 103, 104, 116, 115],
 [112, 108, 97, 110],
 [111, 102, 102, 115, 101, 116],
 [115, 117, 109],
 [115, 112, 108, 105, 116],
 [121, 101, 108, 108, 111, 119],
 [114, 101, 100],
 [102, 108, 97, 115, 104],
 [98, 101, 115, 116],
 [121, 101, 115],
 [110, 111],
 [115, 112, 101, 110, 116]]
def resB (s : List Int) : Bool := resW.contains s
theorem Aqn (k : Nat) (s : List Int) (l : List (List Int)) (hl : l.length < 1000000) : ∀ (r pre : List (List Int)) (j : Nat), l = pre ++ r → r.length < j → (Fd k).L 2 [] j (Nt (s, l, (pre.length : Int))) = some (r.contains s)
 | _, _, 0, _, h => by omega
 | [], pre, j + 1, hp, h => by
  have : l.length = pre.length := by rw [hp]; simp
  rw [Am7, Sl, cd, if_neg (by omega)]
  rfl
 | x :: r, pre, j + 1, hp, h => by
  have hlen : l.length = pre.length + (r.length + 1) := by rw [hp]; simp
  have IH := Aqn k s l hl r (pre ++ [x]) j (by rw [hp]; simp) (by simp at h; omega)
  rw [Am7, Sl, cd, if_pos (by omega), cinB, if_pos (by omega), Asi, cbeq, w64 (by omega), Fs]
  rw [List.length_append, List.length_singleton] at IH
  rw [IH, hp, A7n]
  rw [List.contains_cons]
  by_cases hx : x = s
  ·rw [if_pos hx, hx]; simp
  ·rw [if_neg hx]
   have : (s == x) = false := by simpa using fun e : s = x => hx e.symm
   rw [this, Bool.false_or]
theorem A9z (k : Nat) (s : List Int) (hk : 100 < k) : Qu k s = some (resB s) := by
 have hw : ∀ k, Qx k () = some resW := by
  intro k
  skip
  rw [A6b, Ano]
  rfl
 have hlen : resW.length = 42 := rfl
 skip
 rw [A55, Anf, hw, Option.bind_some]
 skip
 rw [A51, Aax]
 have := Aqn k s resW (by omega) resW [] k rfl (by omega)
 rw [List.length_nil] at this
 rw [show (0 : Int) = ((0 : Nat) : Int) from rfl, this]
 rfl
set_option maxRecDepth 20000 in
theorem Ass (k : Nat) (s : List Int) : L5 k s = some (resB s) := by
 unfold resB resW
 skip
 rw [A1p, Xf, A1q, Xg, A1r, Xh, A1s, Xi]
 have step : ∀ (a : List Int) (x : Option Bool) (l : List (List Int)), x = some (l.contains s) → (bif s == a then some true else x) = some ((a :: l).contains s) := by
  intro a x l h
  rw [List.contains_cons]
  cases s == a with
  | true => simp
  | false => simp [h]
 repeat (refine step _ _ _ ?_)
 rfl
set_option maxRecDepth 100000
section
variable {α R : Type}
theorem Jx {d : α} (l : List α) (p : α → Bool) (g : α → Option Bool) (F : Nat → Int → Option Int) (k : Nat) (hl : l.length < 1000000) (hk : l.length < k)
  (hF : ∀ j i, F (j + 1) i = bif decide (i < ((l.length : Nat) : Int)) then (idx d l i fun o => (g o).bind fun o2 => bif o2 then some i else F j (IntKind.wrap .i64 (i + 1))) else some (-1))
  (c : Option Bool) (hc : c = (F k 0).bind fun o1 => some (decide (o1 ≥ 0))) (hg : ∀ x ∈ l, g x = some (!p x)) : c = some (!(l.all p)) := by
 obtain ⟨r, h1, h2⟩ := Ae9 l (fun x => !p x) g F hl hF hg k 0 (by omega) (by omega)
 rw [hc, show (0 : Int) = ((0 : Nat) : Int) from rfl, h1, Option.bind_some, ← any_all]
 exact congrArg some h2
end
def Bf (s : List Int) : Bool := Dy 1 s 0 && !resB s
def numB (n : Int) : Bool := decide (0 ≤ n) && decide (n ≤ 999999999999999999)
def byB (l : List Int) : Prop := ∀ x ∈ l, 0 ≤ x ∧ x ≤ 255
def digN : Nat → Nat → List Int
 | 0, _ => []
 | f + 1, n => if n < 10 then [((48 + n : Nat) : Int)] else digN f (n / 10) ++ [((48 + n % 10 : Nat) : Int)]
def numT (n : Int) : List Int := if n < 0 then 45 :: digN 18 n.natAbs else digN 18 n.natAbs
theorem V4 : ∀ (f n : Nat), n < 10 ^ f → 1 ≤ f → (Lib.decDigits n).map (fun b => (b.toNat : Int)) = digN f n
 | 0, n, _, h => by omega
 | f + 1, n, h, _ => by
  rw [Lib.decDigits, digN]
  by_cases h10 : n < 10
  ·rw [dif_pos h10, if_pos h10]
   simp
   omega
  ·have hf : n / 10 < 10 ^ f := by rw [Nat.pow_succ] at h; omega
   have h1 : 1 ≤ f := by
    rcases f with _ | f
    ·simp at h; omega
    ·omega
   rw [dif_neg h10, if_neg h10, List.map_append, V4 f (n / 10) hf h1]
   simp
   omega
theorem V5 : ∀ (f n : Nat), (digN f n).length ≤ f
 | 0, _ => Nat.zero_le _
 | f + 1, n => by
  rw [digN]
  have := V5 f (n / 10)
  split <;> simp <;> omega
theorem Agd : ∀ (f n : Nat), ∀ x ∈ digN f n, Ak x = true
 | 0, _, x, h => by cases h
 | f + 1, n, x, h => by
  rw [digN] at h
  unfold Ak
  split at h
  ·simp at h; simp; omega
  ·rcases List.mem_append.1 h with h | h
   ·exact Agd f _ x h
   ·simp at h; simp; omega
theorem digN_ne (f n : Nat) : digN (f + 1) n ≠ [] := by
 rw [digN]; split <;> simp
theorem A6 (n : Int) : (numT n).length ≤ 19 := by
 unfold numT
 have := V5 18 n.natAbs
 split <;> simp <;> omega
def inM (n : Int) : Prop := -999999999999999999 ≤ n ∧ n ≤ 999999999999999999
theorem Dm {n : Int} (h : numB n = true) : inM n := by
 unfold numB at h; unfold inM; simp at h; omega
theorem Aqs {n : Int} (h : inM n) : bs ⟨(Lib.itoa n).toArray⟩ = numT n := by
 unfold inM at h
 unfold bs Lib.itoa numT
 by_cases hn : n < 0
 ·rw [if_pos hn, if_pos hn]
  show ((45 : UInt8) :: Lib.decDigits n.natAbs).map _ = _
  rw [List.map_cons, V4 18 _ (by omega) (by omega)]
  rfl
 ·rw [if_neg hn, if_neg hn]
  show (Lib.decDigits n.toNat).map _ = _
  rw [V4 18 _ (by omega) (by omega), show n.toNat = n.natAbs by omega]
theorem Arg {s : List Int} (h : Bf s = true) : byB s ∧ s.length ≤ 24 ∧ s ≠ [] ∧ (∀ x ∈ s, Am x = true) ∧ (∃ c r, s = c :: r ∧ A5 c = true) := by
 unfold Bf Dy at h
 simp only [Bool.and_eq_true, decide_eq_true_eq] at h
 obtain ⟨⟨h0, h1, h2⟩, _⟩ := h
 cases s with
 | nil => exact absurd rfl h0
 | cons c r =>
  have hs := Jk (x := c) (r := r) (by rw [h2])
  rw [h2] at hs
  have hw : ∀ x ∈ c :: r, Am x = true := by
   intro x hx
   have h3 : (c :: r).takeWhile Am = c :: r ∧ A5 c = true := by
    simp only [tok1] at h2
    split at h2
    ·rename_i hc
     split at h2
     ·simp at h2
     ·simp only [Prod.mk.injEq] at h2
      exact ⟨h2.2.2.1, hc⟩
    ·split at h2
     ·split at h2 <;> simp at h2
     ·split at h2 <;> simp at h2
   rw [← h3.1] at hx
   exact Od hx
  have hc : A5 c = true := by
   simp only [tok1] at h2
   split at h2
   ·rename_i hc; exact hc
   ·split at h2
    ·split at h2 <;> simp at h2
    ·split at h2 <;> simp at h2
  refine ⟨fun x hx => ?_, hs.2.2.2, by simp, hw, c, r, rfl, hc⟩
  have := hw x hx
  unfold Am A5 Ak at this
  simp at this
  omega
theorem Gt {s : List Int} (h : Bf s = true) : s.length ≤ 24 := (Arg h).2.1
abbrev T3 := Int × List Int × Int
def strip (t : Tk) : T3 := (t.1, t.2.1, t.2.2.1)
def Lexes (s : List Int) (A : List T3) : Prop := ∀ n f, s.length < f → (lx n f s).1 = 0 ∧ (lx n f s).2.2.map strip = A
theorem A73 : Lexes [] [(0, [], 0)] := by
 intro n f hf
 obtain ⟨f, rfl⟩ : ∃ g, f = g + 1 := ⟨f - 1, by simp at hf; omega⟩
 rw [lx]
 exact ⟨rfl, rfl⟩
theorem Gr {c : Int} {s : List Int} {A : List T3} (hc : Bc c = true) (h : Lexes s A) : Lexes (c :: s) A := by
 intro n f hf
 obtain ⟨g, rfl⟩ : ∃ g, f = g + 1 := ⟨f - 1, by simp at hf; omega⟩
 rw [List.length_cons] at hf
 have hd : drp false (c :: s) = drp false s := by
  rw [drp]
  have h35 : c ≠ 35 := by
   intro e
   rw [e] at hc
   simp [Bc] at hc
  rw [if_neg h35, if_pos hc]
 have := h n (g + 1) (by omega)
 rw [lx] at this ⊢
 rw [hd]
 exact this
theorem Ti {x : Int} {r s : List Int} {kd v : Int} {tx : List Int} {A : List T3} (h1 : drp false (x :: r) = x :: r) (h2 : tok1 (x :: r) = (0, kd, tx, v, s)) (h : Lexes s A) : Lexes (x :: r) ((kd, tx, v) :: A) := by
 intro n f hf
 obtain ⟨g, rfl⟩ : ∃ g, f = g + 1 := ⟨f - 1, by simp at hf; omega⟩
 have hr := Ld (x := x) (r := r) (by rw [h2])
 rw [h2] at hr
 simp only [] at hr
 rw [List.length_cons] at hf
 have hs := h n g (by omega)
 rw [lx, h1]
 simp only []
 rw [h2]
 simp only [if_true]
 rw [if_pos hs.1]
 refine ⟨rfl, ?_⟩
 rw [List.map_cons, hs.2]
 rfl
theorem N9 {c : Int} {s : List Int} {A : List T3} (hc : C3 c = true) (h : Lexes s A) : Lexes (c :: s) ((3, [c], 0) :: A) := by
 have e1 : A5 c = false ∧ Ak c = false ∧ Bc c = false ∧ c ≠ 35 := by
  unfold C3 at hc
  simp only [decide_eq_true_eq] at hc
  unfold A5 Ak Bc
  simp
  omega
 refine Ti ?_ ?_ h
 ·rw [drp, if_neg e1.2.2.2, e1.2.2.1]; rfl
 ·rw [tok1, e1.1, e1.2.1, hc]; rfl
def Cuts : List Int → Prop
 | [] => True
 | c :: _ => Am c = false
theorem Ow {p : Int → Bool} : ∀ {l : List Int}, (∀ x ∈ l, p x = true) → ∀ {s : List Int}, (∀ c r, s = c :: r → p c = false) → (l ++ s).takeWhile p = l ∧ (l ++ s).dropWhile p = s
 | [], _, [], _ => ⟨rfl, rfl⟩
 | [], _, c :: s, hs => by
  have := hs c s rfl
  simp [List.takeWhile_cons, List.dropWhile_cons, this]
 | x :: l, hl, s, hs => by
  have IH := Ow (fun y hy => hl y (List.mem_cons_of_mem _ hy)) hs
  have := hl x (by simp)
  simp [List.takeWhile_cons, List.dropWhile_cons, this, IH.1, IH.2]
theorem A72 {w s : List Int} {A : List T3} (hw : Bf w = true) (hs : Cuts s) (h : Lexes s A) : Lexes (w ++ s) ((1, w, 0) :: A) := by
 obtain ⟨-, hl, hne, hall, c, r, rfl, hc⟩ := Arg hw
 have hcut : ∀ d q, s = d :: q → Am d = false := by rintro d q rfl; exact hs
 obtain ⟨t1, t2⟩ := Ow hall hcut
 have e : c ≠ 35 ∧ Bc c = false := by
  unfold A5 at hc
  unfold Bc
  simp at hc ⊢
  omega
 refine Ti (x := c) (r := r ++ s) ?_ ?_ h
 ·rw [drp, if_neg e.1, e.2]; rfl
 ·rw [List.cons_append] at t1 t2
  rw [tok1, hc, if_pos rfl, t1, t2, if_neg (by omega)]
theorem A74 {d s : List Int} {A : List T3} (hd : ∀ x ∈ d, Ak x = true) (hne : d ≠ []) (hl : d.length ≤ 18) (hs : Cuts s) (h : Lexes s A) : Lexes (d ++ s) ((2, d, valD d) :: A) := by
 cases d with
 | nil => exact absurd rfl hne
 | cons c r =>
  have hcut : ∀ e q, s = e :: q → Ak e = false := by rintro e q rfl; exact Bba hs
  obtain ⟨t1, t2⟩ := Ow hd hcut
  have hc := hd c (by simp)
  have e : c ≠ 35 ∧ Bc c = false ∧ A5 c = false := by
   unfold Ak at hc
   unfold Bc A5
   simp at hc ⊢
   omega
  refine Ti (x := c) (r := r ++ s) ?_ ?_ h
  ·rw [drp, if_neg e.1, e.2.1]; rfl
  ·rw [List.cons_append] at t1 t2
   rw [tok1, e.2.2, hc]
   simp only [Bool.false_eq_true, if_false, if_true]
   rw [t1, t2, if_neg (by omega)]
theorem Ba8 (l : List Int) (c : Int) : valD (l ++ [c]) = 10 * valD l + (c - 48) := by
 unfold valD
 rw [List.foldl_append]
 rfl
theorem Awc : ∀ (f n : Nat), n < 10 ^ f → 1 ≤ f → valD (digN f n) = n
 | 0, n, _, h => by omega
 | f + 1, n, h, _ => by
  rw [digN]
  by_cases h10 : n < 10
  ·rw [if_pos h10]
   simp [valD]
   omega
  ·rw [if_neg h10, Ba8, Awc f (n / 10) (by rw [Nat.pow_succ] at h; omega) (by
    rcases f with _ | f
    ·simp at h; omega
    ·omega)]
   omega
def numK (n : Int) : List T3 := bif decide (n < 0) then [(3, ([45] : List Int), 0), (2, digN 18 n.natAbs, -n)] else [(2, digN 18 n.natAbs, n)]
theorem Acy {n : Int} (hn : inM n) {s : List Int} {A : List T3} (hs : Cuts s) (h : Lexes s A) : Lexes (numT n ++ s) (numK n ++ A) := by
 unfold inM at hn
 have L := A74 (d := digN 18 n.natAbs) (Agd _ _) (digN_ne 17 _) (V5 _ _) hs h
 rw [Awc 18 _ (by omega) (by omega)] at L
 unfold numT numK
 by_cases h0 : n < 0
 ·rw [if_pos h0, show decide (n < 0) = true by simpa using h0]
  have e : ((n.natAbs : Nat) : Int) = -n := by omega
  rw [e] at L
  exact N9 (by decide) L
 ·rw [if_neg h0, show decide (n < 0) = false by simpa using h0]
  have e : ((n.natAbs : Nat) : Int) = n := by omega
  rw [e] at L
  exact L
def wd (s : List Int) : T3 := (1, s, 0)
def sg (s : List Int) : T3 := (3, s, 0)
def O1 : List Int → Bool
 | [] => false
 | c :: r => A5 c && (r.all Am && decide (r.length < 24))
theorem Tj {w s : List Int} {A : List T3} (hw : O1 w = true) (hs : Cuts s) (h : Lexes s A) : Lexes (w ++ s) (wd w :: A) := by
 cases w with
 | nil => cases hw
 | cons c r =>
  unfold O1 at hw
  simp only [Bool.and_eq_true, List.all_eq_true, decide_eq_true_eq] at hw
  obtain ⟨hc, hr, hl⟩ := hw
  have hall : ∀ x ∈ c :: r, Am x = true := by
   intro x hx
   rcases List.mem_cons.1 hx with rfl | hx
   ·simp [Am, hc]
   ·exact hr x hx
  have hcut : ∀ d q, s = d :: q → Am d = false := by rintro d q rfl; exact hs
  obtain ⟨t1, t2⟩ := Ow hall hcut
  have e : c ≠ 35 ∧ Bc c = false := by
   unfold A5 at hc
   unfold Bc
   simp at hc ⊢
   omega
  refine Ti (x := c) (r := r ++ s) ?_ ?_ h
  ·rw [drp, if_neg e.1, e.2]; rfl
  ·rw [List.cons_append] at t1 t2
   rw [tok1, hc, if_pos rfl, t1, t2, if_neg (by rw [List.length_cons]; omega)]
theorem kw (w : List Int) (hw : O1 w = true) {s : List Int} {A : List T3} (h : Lexes s A) : Lexes (32 :: (w ++ 32 :: s)) (wd w :: A) :=
 Gr (by decide) (Tj hw (show Am 32 = false by decide) (Gr (by decide) h))
theorem kw0 (w : List Int) (hw : O1 w = true) {s : List Int} {A : List T3} (h : Lexes s A) : Lexes (w ++ 32 :: s) (wd w :: A) := Tj hw (show Am 32 = false by decide) (Gr (by decide) h)
theorem semi {s : List Int} {A : List T3} (h : Lexes s A) : Lexes (59 :: 10 :: s) (sg ([59] : List Int) :: A) := N9 (by decide) (Gr (by decide) h)
theorem nm {w s : List Int} {A : List T3} (hw : Bf w = true) {c : Int} (hc : Am c = false) (h : Lexes (c :: s) A) : Lexes (w ++ c :: s) (wd w :: A) := A72 hw hc h
theorem nu {n : Int} (hn : inM n) {c : Int} {s : List Int} {A : List T3} (hc : Am c = false) (h : Lexes (c :: s) A) : Lexes (numT n ++ c :: s) (numK n ++ A) := Acy hn hc h
abbrev Cr : Type := List Int × Int × Int × Unit
abbrev Av : Type := List Int × Int × Int × Int × List Cr × Unit
abbrev Cg : Type := List (List Av) × Unit
abbrev TimT : Type := List Int × Int × List Cg × (Int × Int × Unit) × Unit
abbrev A3 : Type := Int × List TimT × Int × Int × Int × Int × Bool × Int
abbrev RE (α : Type) : Type := (α × List Tk) ⊕ (Int × List Tk)
def hd (l : List Tk) : Tk := l.headD tkD
def Al {α β : Type} (x : RE α) (f : α → List Tk → RE β) : RE β := match x with
 | .inl y => f y.1 y.2
 | .inr e => .inr e
def tk1 (l : List Tk) : List Tk := bif (hd l).1 != 0 then l.tail else l
def An : List (List Int) → List Tk → RE Unit
 | [], l => .inl ((), l)
 | w :: ws, l => bif (hd l).2.1 == w then An ws (tk1 l) else .inr (50, l)
def F5 (l : List Tk) : RE (List Int) := bif (hd l).1 != 1 || resB (hd l).2.1 then .inr (50, l) else .inl ((hd l).2.1, tk1 l)
def numC (l : List Tk) : RE Int := bif (hd l).1 != 2 then .inr (50, l) else .inl ((hd l).2.2.1, tk1 l)
def numP (ws : List (List Int)) (l : List Tk) : RE Int := Al (An ws l) fun _ l => numC l
def By {α : Type} (w : List Int) (least most : Int) (read : List Tk → RE α) : Nat → List Tk → List α → RE (List α)
 | 0, l, o => .inl (o, l)
 | f + 1, l, o => bif ((hd l).2.1 == w) || decide (((o.length : Nat) : Int) < least) then
   (bif ((o.length : Nat) : Int) == most then .inr (4, l) else Al (An [w] l) fun _ l => Al (read l) fun x l => By w least most read f l (o ++ [x]))
  else .inl (o, l)
def Gb (l : List Tk) : RE Cr := Al (F5 l) fun n l => Al (numP [] l) fun a l => Al (numP [([102, 108, 97, 115, 104] : List Int)] l) fun b l => .inl ((n, a, b, ()), l)
def Fp (l : List Tk) : RE Av :=
 Al (F5 l) fun n l => Al (numP [([115, 112, 108, 105, 116] : List Int)] l) fun a l => Al (numP [([121, 101, 108, 108, 111, 119] : List Int)] l) fun b l => Al (numP [([114, 101, 100] : List Int)] l) fun c l =>
  Al (By ([119, 97, 108, 107] : List Int) 0 8 Gb (l.length + 1) l []) fun ws l => Al (An [([59] : List Int)] l) fun _ l => .inl ((n, a, b, c, ws, ()), l)
def Em {α : Type} (w : List Int) (least most : Int) (read : List Tk → RE α) (l : List Tk) : RE (List α) :=
 Al (An [([123] : List Int)] l) fun _ l => Al (By w least most read (l.length + 1) l []) fun r l => Al (An [([125] : List Int)] l) fun _ l => .inl (r, l)
def Eg (l : List Tk) : RE (List Av) := Em ([112, 104, 97, 115, 101] : List Int) 1 4 Fp l
def Fq (l : List Tk) : RE Cg := Al (Em ([114, 105, 110, 103] : List Int) 1 2 Eg l) fun r l => .inl ((r, ()), l)
def Ga (l : List Tk) : RE TimT :=
 Al (F5 l) fun n l => Al (numP [([111, 102, 102, 115, 101, 116] : List Int)] l) fun o l => Al (numP [([115, 117, 109] : List Int)] l) fun a l => Al (numP [([47] : List Int)] l) fun b l =>
  Al (Em ([103, 114, 111, 117, 112] : List Int) 0 4 Fq l) fun g l => .inl ((n, o, g, (a, b, ()), ()), l)
def Jm (w : List Int) (l : List Tk) : RE (Int × Int) := Al (numP [w] l) fun a l => Al (numP [] l) fun b l => Al (An [([59] : List Int)] l) fun _ l => .inl ((a, b), l)
def Ln (l : List Tk) : RE Bool := bif (hd l).2.1 == ([121, 101, 115] : List Int) then .inl (true, tk1 l) else Al (An [([110, 111] : List Int)] l) fun _ l => .inl (false, l)
def endP (c : Int) (t : List TimT) (o i : Int × Int) (b : Bool) (l : List Tk) : RE A3 :=
 Al (numP [([59] : List Int), ([115, 112, 101, 110, 116] : List Int)] l) fun s l => Al (An [([59] : List Int)] l) fun _ l => bif (hd l).1 != 0 then .inr (50, l) else .inl ((c, t, o.1, o.2, i.1, i.2, b, s), l)
def Oi (l : List Tk) : RE A3 :=
 Al (numP [([112, 108, 97, 110] : List Int), ([99, 121, 99, 108, 101] : List Int)] l) fun c l => Al (An [([59] : List Int)] l) fun _ l => Al (By ([110, 111, 100, 101] : List Int) 0 12 Ga (l.length + 1) l []) fun t l =>
  Al (Jm ([111, 117, 116] : List Int) l) fun o l => Al (Jm ([105, 110] : List Int) l) fun i l => Al (An [([98, 101, 115, 116] : List Int)] l) fun _ l => Al (Ln l) fun b l => endP c t o i b l
def zeroP : A3 := (0, [], 0, 0, 0, 0, false, 0)
def Dg (b : List Int) : A3 × Int × Int :=
 bif (toks b).1 != 0 then (zeroP, (toks b).1, (toks b).2.1)
 else match Oi (toks b).2.2 with
  | .inl y => (y.1, 0, 0)
  | .inr e => (zeroP, e.1, (hd e.2).2.2.2.1)
def EndT (l : List Tk) : Prop := ∃ r t, l = r ++ [t] ∧ t.1 = 0
theorem EndT.ne {l : List Tk} (h : EndT l) : l ≠ [] := by
 obtain ⟨r, t, rfl, _⟩ := h
 simp
theorem EndT.tk1 {l : List Tk} (h : EndT l) : EndT (tk1 l) := by
 unfold Go.Proofs.YtcmmgllmncllfaaGreatDoorV.tk1
 cases hc : (hd l).1 != 0
 ·exact h
 ·obtain ⟨r, t, rfl, ht⟩ := h
  cases r with
  | nil => simp [hd, ht] at hc
  | cons a r => exact ⟨r, t, rfl, ht⟩
theorem Ael (l : List Tk) : tk1 l <:+ l := by
 unfold tk1
 cases (hd l).1 != 0
 ·exact List.suffix_rfl
 ·exact List.tail_suffix l
def lenB {α : Type} (l : List α) (a b : Nat) : Bool := decide (a ≤ l.length) && decide (l.length ≤ b)
def wlkB (w : Cr) : Bool := Bf w.1 && (numB w.2.1 && numB w.2.2.1)
def Cd (s : Av) : Bool := Bf s.1 && (numB s.2.1 && (numB s.2.2.1 && (numB s.2.2.2.1 && (lenB s.2.2.2.2.1 0 8 && s.2.2.2.2.1.all wlkB))))
def Cb (l : List Av) : Bool := lenB l 1 4 && l.all Cd
def Cn (g : Cg) : Bool := lenB g.1 1 2 && g.1.all Cb
def timB (t : TimT) : Bool := Bf t.1 && (numB t.2.1 && (numB t.2.2.2.1.1 && (numB t.2.2.2.1.2.1 && (lenB t.2.2.1 0 4 && t.2.2.1.all Cn))))
def Cl (p : A3) : Bool := numB p.1 && (numB p.2.2.1 && (numB p.2.2.2.1 && (numB p.2.2.2.2.1 && (numB p.2.2.2.2.2.1 && (numB p.2.2.2.2.2.2.2 && (lenB p.2.1 0 12 && p.2.1.all timB))))))
def TokG (t : Tk) : Prop := (t.1 = 1 → Dy 1 t.2.1 0 = true) ∧ (t.1 = 2 → numB t.2.2.1 = true) ∧ (t.1 = 0 → t.2.1 = [])
def Gd (l : List Tk) : Prop := ∀ t ∈ l, TokG t
theorem Gd.suf {l m : List Tk} (g : Gd l) (h : m <:+ l) : Gd m := fun t ht => g t (h.subset ht)
theorem Gd.hd {l : List Tk} (g : Gd l) (h : l ≠ []) : TokG (hd l) := by
 cases l with
 | nil => exact absurd rfl h
 | cons t r => exact g t (by simp)
theorem Ov {l m : List Tk} (h : l.map strip = m.map strip) : (hd l).1 = (hd m).1 ∧ (hd l).2.1 = (hd m).2.1 ∧ (hd l).2.2.1 = (hd m).2.2.1 := by
 cases l with
 | nil => cases m with | nil => exact ⟨rfl, rfl, rfl⟩ | cons => simp at h
 | cons t r => cases m with
  | nil => simp at h
  | cons u q =>
   simp only [List.map_cons, List.cons.injEq, strip, Prod.mk.injEq] at h
   exact h.1
theorem Avy {l m : List Tk} (h : l.map strip = m.map strip) : l.length = m.length := by
 have := congrArg List.length h
 simpa using this
theorem Avz {l m : List Tk} (h : l.map strip = m.map strip) : (tk1 l).map strip = (tk1 m).map strip := by
 unfold tk1
 rw [(Ov h).1]
 cases (Go.Proofs.YtcmmgllmncllfaaGreatDoorV.hd m).1 != 0
 ·exact h
 ·simp only [cond_true]
  rw [List.map_tail, List.map_tail, h]
def Rel {α : Type} (P : α → Prop) (l m : List Tk) : RE α → RE α → Prop
 | .inl a, .inl b => a.1 = b.1 ∧ a.2.map strip = b.2.map strip ∧ a.2 <:+ l ∧ b.2 <:+ m ∧ EndT a.2 ∧ EndT b.2 ∧ P a.1
 | .inr a, .inr b => a.1 = b.1 ∧ (a.1 = 50 ∨ a.1 = 4) ∧ a.2 <:+ l ∧ b.2 <:+ m
 | _, _ => False
theorem Bk {α β : Type} {P : α → Prop} {Q : β → Prop} {l m : List Tk} {x y : RE α} {f g : α → List Tk → RE β} (h : Rel P l m x y)
  (hf : ∀ a l' m', P a → l'.map strip = m'.map strip → l' <:+ l → EndT l' → EndT m' → Rel Q l' m' (f a l') (g a m')) : Rel Q l m (Al x f) (Al y g) := by
 cases x with
 | inr a => cases y with
  | inr b => exact h
  | inl b => exact h.elim
 | inl a => cases y with
  | inr b => exact h.elim
  | inl b =>
   obtain ⟨h1, h2, h3, h4, h5, h6, h7⟩ := h
   have h8 := hf a.1 a.2 b.2 h7 h2 h3 h5 h6
   show Rel Q l m (f a.1 a.2) (g b.1 b.2)
   rw [← h1]
   revert h8
   generalize f a.1 a.2 = u
   generalize g a.1 b.2 = v
   intro h8
   cases u with
   | inr c => cases v with
    | inr d => exact ⟨h8.1, h8.2.1, h8.2.2.1.trans h3, h8.2.2.2.trans h4⟩
    | inl d => exact h8.elim
   | inl c => cases v with
    | inr d => exact h8.elim
    | inl d =>
     obtain ⟨k1, k2, k3, k4, k5, k6, k7⟩ := h8
     exact ⟨k1, k2, k3.trans h3, k4.trans h4, k5, k6, k7⟩
theorem rel_imp {α : Type} {P Q : α → Prop} {l m : List Tk} {x y : RE α} (h : Rel P l m x y) (hpq : ∀ a, P a → Q a) : Rel Q l m x y := by
 cases x with
 | inr a => cases y with
  | inr b => exact h
  | inl b => exact h.elim
 | inl a => cases y with
  | inr b => exact h.elim
  | inl b => exact ⟨h.1, h.2.1, h.2.2.1, h.2.2.2.1, h.2.2.2.2.1, h.2.2.2.2.2.1, hpq _ h.2.2.2.2.2.2⟩
theorem rel_suf {α : Type} {P : α → Prop} {l m l' m' : List Tk} {x y : RE α} (h : Rel P l' m' x y) (h1 : l' <:+ l) (h2 : m' <:+ m) : Rel P l m x y := by
 cases x with
 | inr a => cases y with
  | inr b => exact ⟨h.1, h.2.1, h.2.2.1.trans h1, h.2.2.2.trans h2⟩
  | inl b => exact h.elim
 | inl a => cases y with
  | inr b => exact h.elim
  | inl b => exact ⟨h.1, h.2.1, h.2.2.1.trans h1, h.2.2.2.1.trans h2, h.2.2.2.2.1, h.2.2.2.2.2.1, h.2.2.2.2.2.2⟩
section
variable {l m : List Tk}
theorem Ib {α : Type} {P : α → Prop} {v : α} (h : l.map strip = m.map strip) (e1 : EndT l) (e2 : EndT m) (hv : P v) : Rel P l m (.inl (v, l)) (.inl (v, m)) := ⟨rfl, h, List.suffix_rfl, List.suffix_rfl, e1, e2, hv⟩
theorem Adr {α : Type} {P : α → Prop} {v : α} (h : l.map strip = m.map strip) (e1 : EndT l) (e2 : EndT m) (hv : P v) : Rel P l m (.inl (v, tk1 l)) (.inl (v, tk1 m)) := ⟨rfl, Avz h, Ael l, Ael m, e1.tk1, e2.tk1, hv⟩
theorem T6 {α : Type} {P : α → Prop} {c : Int} (hc : c = 50 ∨ c = 4) : Rel (α := α) P l m (.inr (c, l)) (.inr (c, m)) := ⟨rfl, hc, List.suffix_rfl, List.suffix_rfl⟩
theorem Gz : ∀ (ws : List (List Int)) {l m : List Tk}, l.map strip = m.map strip → EndT l → EndT m → Rel (fun _ => True) l m (An ws l) (An ws m)
 | [], l, m, h, e1, e2 => Ib h e1 e2 trivial
 | w :: ws, l, m, h, e1, e2 => by
  rw [An, An, (Ov h).2.1]
  cases (Go.Proofs.YtcmmgllmncllfaaGreatDoorV.hd m).2.1 == w
  ·exact T6 (.inl rfl)
  ·have IH := Gz ws (Avz h) e1.tk1 e2.tk1
   exact Bk (x := .inl ((), tk1 l)) (y := .inl ((), tk1 m)) (P := fun _ => True) (Adr h e1 e2 trivial) (f := fun _ l => An ws l) (g := fun _ l => An ws l) fun _ l' m' _ h' _ e1' e2' => Gz ws h' e1' e2'
theorem K5 (h : l.map strip = m.map strip) (e1 : EndT l) (e2 : EndT m) (g : Gd l) : Rel (fun s => Bf s = true) l m (F5 l) (F5 m) := by
 unfold F5
 obtain ⟨h1, h2, h3⟩ := Ov h
 rw [← h1, ← h2]
 cases hc : (Go.Proofs.YtcmmgllmncllfaaGreatDoorV.hd l).1 != 1 || resB (Go.Proofs.YtcmmgllmncllfaaGreatDoorV.hd l).2.1
 ·refine Adr h e1 e2 ?_
  simp only [Bool.or_eq_false_iff, bne_eq_false_iff_eq] at hc
  unfold Bf
  rw [(g.hd e1.ne).1 hc.1, hc.2]
  rfl
 ·exact T6 (.inl rfl)
theorem A9f (h : l.map strip = m.map strip) (e1 : EndT l) (e2 : EndT m) (g : Gd l) : Rel (fun n => numB n = true) l m (numC l) (numC m) := by
 unfold numC
 obtain ⟨h1, h2, h3⟩ := Ov h
 rw [← h1, ← h3]
 cases hc : (Go.Proofs.YtcmmgllmncllfaaGreatDoorV.hd l).1 != 2
 ·refine Adr h e1 e2 ?_
  exact (g.hd e1.ne).2.1 (by simpa using hc)
 ·exact T6 (.inl rfl)
theorem Bx (ws : List (List Int)) (h : l.map strip = m.map strip) (e1 : EndT l) (e2 : EndT m) (g : Gd l) : Rel (fun n => numB n = true) l m (numP ws l) (numP ws m) :=
 Bk (Gz ws h e1 e2) fun _ l' m' _ h' hs e1' e2' => A9f h' e1' e2' (g.suf hs)
theorem Awh {w : List Int} {l l' : List Tk} {u : Unit} (hw : w ≠ []) (g : Gd l) (e : EndT l) (h : An [w] l = .inl (u, l')) : l'.length < l.length := by
 rw [An] at h
 cases hc : (Go.Proofs.YtcmmgllmncllfaaGreatDoorV.hd l).2.1 == w <;> rw [hc] at h
 ·cases h
 ·simp only [cond_true, An] at h
  have h2 : tk1 l = l' := by cases h; rfl
  subst h2
  have hk : (Go.Proofs.YtcmmgllmncllfaaGreatDoorV.hd l).1 ≠ 0 := fun h0 => by
   have := (g.hd e.ne).2.2 h0
   rw [this] at hc
   exact hw (by simpa using hc.symm)
  unfold tk1
  rw [show ((Go.Proofs.YtcmmgllmncllfaaGreatDoorV.hd l).1 != 0) = true by simpa using hk, cond_true]
  have := List.length_pos_iff.2 e.ne
  rw [List.length_tail]; omega
theorem Ic {α : Type} {w : List Int} (hw : w ≠ []) {least most : Nat} {read : List Tk → RE α} {P : α → Prop} (hr : ∀ {l m : List Tk}, l.map strip = m.map strip → EndT l → EndT m → Gd l → Rel P l m (read l) (read m)) :
  ∀ (f : Nat) (l m : List Tk) (o : List α), l.map strip = m.map strip → EndT l → EndT m → Gd l → l.length < f → (∀ x ∈ o, P x) → o.length ≤ most →
  Rel (fun r => (∀ x ∈ r, P x) ∧ least ≤ r.length ∧ r.length ≤ most) l m (By w least most read f l o) (By w least most read f m o)
 | 0, l, m, o, _, _, _, _, hf, _, _ => by omega
 | f + 1, l, m, o, h, e1, e2, g, hf, ho, hm => by
  rw [By, By, ← (Ov h).2.1]
  cases hc : ((Go.Proofs.YtcmmgllmncllfaaGreatDoorV.hd l).2.1 == w) || decide (((o.length : Nat) : Int) < (least : Int))
  ·simp only [cond_false]
   refine Ib h e1 e2 ⟨ho, ?_, hm⟩
   simp only [Bool.or_eq_false_iff, decide_eq_false_iff_not] at hc
   omega
  ·simp only [cond_true]
   cases hq : ((o.length : Nat) : Int) == (most : Int)
   ·simp only [cond_false]
    have hq2 : ¬ ((o.length : Nat) : Int) = (most : Int) := by simpa using hq
    have hrw := Gz [w] h e1 e2
    cases hwd : An [w] l with
    | inr a =>
     rw [hwd] at hrw
     cases hwm : An [w] m with
     | inr b => rw [hwm] at hrw; exact hrw
     | inl b => rw [hwm] at hrw; exact hrw.elim
    | inl a =>
     have hlt := Awh hw g e1 (l' := a.2) (u := a.1) hwd
     rw [hwd] at hrw
     cases hwm : An [w] m with
     | inr b => rw [hwm] at hrw; exact hrw.elim
     | inl b =>
      rw [hwm] at hrw
      obtain ⟨q1, q2, q3, q4, q5, q6, _⟩ := hrw
      show Rel _ l m (Al (read a.2) fun x l => By w least most read f l (o ++ [x])) (Al (read b.2) fun x l => By w least most read f l (o ++ [x]))
      refine rel_suf (l' := a.2) (m' := b.2) ?_ q3 q4
      exact Bk (hr q2 q5 q6 (g.suf q3)) fun x l2 m2 hx h2 s2 d3 d4 => Ic hw hr f l2 m2 (o ++ [x]) h2 d3 d4 ((g.suf q3).suf s2) (by have := s2.length_le; omega)
       (fun y hy => by rcases List.mem_append.1 hy with hy | hy; exact ho y hy; rw [List.mem_singleton.1 hy]; exact hx) (by rw [List.length_append, List.length_singleton]; omega)
   ·exact T6 (.inr rfl)
theorem O8 {α : Type} {p : α → Bool} {l : List α} (h : ∀ x ∈ l, p x = true) : l.all p = true := List.all_eq_true.2 h
theorem Th {α : Type} {l : List α} {a b : Nat} (h1 : a ≤ l.length) (h2 : l.length ≤ b) : lenB l a b = true := by
 unfold lenB
 simp [h1, h2]
theorem Ads (h : l.map strip = m.map strip) (e1 : EndT l) (e2 : EndT m) (g : Gd l) : Rel (fun w => wlkB w = true) l m (Gb l) (Gb m) :=
 Bk (K5 h e1 e2 g) fun n l1 m1 p1 h1 s1 d1 d2 => Bk (Bx [] h1 d1 d2 (g.suf s1)) fun a l2 m2 p2 h2 s2 d3 d4 => Bk (Bx [([102, 108, 97, 115, 104] : List Int)] h2 d3 d4 ((g.suf s1).suf s2)) fun b l3 m3 p3 h3 s3 d5 d6 =>
  Ib h3 d5 d6 (by unfold wlkB; simp only; rw [p1, p2, p3]; rfl)
theorem Adp (h : l.map strip = m.map strip) (e1 : EndT l) (e2 : EndT m) (g : Gd l) : Rel (fun w => Cd w = true) l m (Fp l) (Fp m) :=
 Bk (K5 h e1 e2 g) fun n l1 m1 p1 h1 s1 d1 d2 => by
 have g1 := g.suf s1
 refine Bk (Bx [([115, 112, 108, 105, 116] : List Int)] h1 d1 d2 g1) fun a l2 m2 p2 h2 s2 d3 d4 => ?_
 have g2 := g1.suf s2
 refine Bk (Bx [([121, 101, 108, 108, 111, 119] : List Int)] h2 d3 d4 g2) fun b l3 m3 p3 h3 s3 d5 d6 => ?_
 have g3 := g2.suf s3
 refine Bk (Bx [([114, 101, 100] : List Int)] h3 d5 d6 g3) fun c l4 m4 p4 h4 s4 d7 d8 => ?_
 have g4 := g3.suf s4
 rw [← Avy h4]
 refine Bk (Ic (w := ([119, 97, 108, 107] : List Int)) (by decide) (least := 0) (most := 8) Ads (l4.length + 1) l4 m4 [] h4 d7 d8 g4 (Nat.lt_succ_self _) (fun x hx => by cases hx) (Nat.zero_le _)) fun ws l5 m5 p5 h5 s5 d9 d10 => ?_
 refine Bk (Gz [([59] : List Int)] h5 d9 d10) fun _ l6 m6 _ h6 s6 f1 f2 => ?_
 exact Ib h6 f1 f2 (by unfold Cd; simp only; rw [p1, p2, p3, p4, Th p5.2.1 p5.2.2, O8 p5.1]; rfl)
theorem Adn {α : Type} {w : List Int} (hw : w ≠ []) {least most : Nat} {read : List Tk → RE α} {P : α → Prop} (hr : ∀ {l m : List Tk}, l.map strip = m.map strip → EndT l → EndT m → Gd l → Rel P l m (read l) (read m))
  (h : l.map strip = m.map strip) (e1 : EndT l) (e2 : EndT m) (g : Gd l) : Rel (fun r => (∀ x ∈ r, P x) ∧ least ≤ r.length ∧ r.length ≤ most) l m (Em w least most read l) (Em w least most read m) :=
 Bk (Gz [([123] : List Int)] h e1 e2) fun _ l1 m1 _ h1 s1 d1 d2 => by
 rw [← Avy h1]
 refine Bk (Ic hw hr (l1.length + 1) l1 m1 [] h1 d1 d2 (g.suf s1) (Nat.lt_succ_self _) (fun x hx => by cases hx) (Nat.zero_le _)) fun r l2 m2 p2 h2 s2 d3 d4 => ?_
 exact Bk (Gz [([125] : List Int)] h2 d3 d4) fun _ l3 m3 _ h3 s3 d5 d6 => Ib h3 d5 d6 p2
theorem Ado (h : l.map strip = m.map strip) (e1 : EndT l) (e2 : EndT m) (g : Gd l) : Rel (fun r => Cb r = true) l m (Eg l) (Eg m) :=
 rel_imp (Adn (w := ([112, 104, 97, 115, 101] : List Int)) (by decide) (least := 1) (most := 4) Adp h e1 e2 g) fun r hr => by unfold Cb; rw [Th hr.2.1 hr.2.2, O8 hr.1]; rfl
theorem Adq (h : l.map strip = m.map strip) (e1 : EndT l) (e2 : EndT m) (g : Gd l) : Rel (fun r => Cn r = true) l m (Fq l) (Fq m) :=
 Bk (Adn (w := ([114, 105, 110, 103] : List Int)) (by decide) (least := 1) (most := 2) Ado h e1 e2 g) fun r l1 m1 hr h1 s1 d1 d2 => Ib h1 d1 d2 (by unfold Cn; simp only; rw [Th hr.2.1 hr.2.2, O8 hr.1]; rfl)
theorem Asn (h : l.map strip = m.map strip) (e1 : EndT l) (e2 : EndT m) (g : Gd l) : Rel (fun r => timB r = true) l m (Ga l) (Ga m) :=
 Bk (K5 h e1 e2 g) fun n l1 m1 p1 h1 s1 d1 d2 => by
 have g1 := g.suf s1
 refine Bk (Bx [([111, 102, 102, 115, 101, 116] : List Int)] h1 d1 d2 g1) fun a l2 m2 p2 h2 s2 d3 d4 => ?_
 have g2 := g1.suf s2
 refine Bk (Bx [([115, 117, 109] : List Int)] h2 d3 d4 g2) fun b l3 m3 p3 h3 s3 d5 d6 => ?_
 have g3 := g2.suf s3
 refine Bk (Bx [([47] : List Int)] h3 d5 d6 g3) fun c l4 m4 p4 h4 s4 d7 d8 => ?_
 refine Bk (Adn (w := ([103, 114, 111, 117, 112] : List Int)) (by decide) (least := 0) (most := 4) Adq h4 d7 d8 (g3.suf s4)) fun r l5 m5 hr h5 s5 d9 d10 => ?_
 exact Ib h5 d9 d10 (by unfold timB; simp only; rw [p1, p2, p3, p4, Th hr.2.1 hr.2.2, O8 hr.1]; rfl)
theorem Aso (w : List Int) (h : l.map strip = m.map strip) (e1 : EndT l) (e2 : EndT m) (g : Gd l) : Rel (fun r => numB r.1 = true ∧ numB r.2 = true) l m (Jm w l) (Jm w m) :=
 Bk (Bx [w] h e1 e2 g) fun a l1 m1 p1 h1 s1 d1 d2 => Bk (Bx [] h1 d1 d2 (g.suf s1)) fun b l2 m2 p2 h2 s2 d3 d4 => Bk (Gz [([59] : List Int)] h2 d3 d4) fun _ l3 m3 _ h3 s3 d5 d6 => Ib h3 d5 d6 ⟨p1, p2⟩
end
def Ei (w : Cr) : List (List Int) := [([32, 119, 97, 108, 107, 32] : List Int), w.1, ([32] : List Int), numT w.2.1, ([32, 102, 108, 97, 115, 104, 32] : List Int), numT w.2.2.1]
def Ot (s : Av) : List (List Int) := [([32, 32, 32, 32, 32, 32, 112, 104, 97, 115, 101, 32] : List Int), s.1, ([32, 115, 112, 108, 105, 116, 32] : List Int), numT s.2.1, ([32, 121, 101, 108, 108, 111, 119, 32] : List Int), numT s.2.2.1, ([32, 114, 101, 100, 32] : List Int), numT s.2.2.2.1]
def Ce (s : Av) : List Int := (Ot s).flatten ++ (s.2.2.2.2.1.flatMap (fun w => (Ei w).flatten) ++ ([59, 10] : List Int))
def Cc (l : List Av) : List Int := ([32, 32, 32, 32, 114, 105, 110, 103, 32, 123, 10] : List Int) ++ (l.flatMap Ce ++ ([32, 32, 32, 32, 125, 10] : List Int))
def Cf (g : Cg) : List Int := ([32, 32, 103, 114, 111, 117, 112, 32, 123, 10] : List Int) ++ (g.1.flatMap Cc ++ ([32, 32, 125, 10] : List Int))
def timX (t : TimT) : List (List Int) := [([110, 111, 100, 101, 32] : List Int), t.1, ([32, 111, 102, 102, 115, 101, 116, 32] : List Int), numT t.2.1, ([32, 115, 117, 109, 32] : List Int), numT t.2.2.2.1.1, ([47] : List Int), numT t.2.2.2.1.2.1, ([32, 123, 10] : List Int)]
def timT (t : TimT) : List Int := (timX t).flatten ++ (t.2.2.1.flatMap Cf ++ ([125, 10] : List Int))
def yesT (b : Bool) : List Int := bif b then ([121, 101, 115] : List Int) else ([110, 111] : List Int)
def Ig (p : A3) : List (List Int) := [([111, 117, 116, 32] : List Int), numT p.2.2.1, ([32] : List Int), numT p.2.2.2.1, ([59, 10] : List Int), ([105, 110, 32] : List Int), numT p.2.2.2.2.1, ([32] : List Int), numT p.2.2.2.2.2.1, ([59, 10] : List Int), ([98, 101, 115, 116, 32] : List Int), yesT p.2.2.2.2.2.2.1, ([59, 10] : List Int), ([115, 112, 101, 110, 116, 32] : List Int), numT p.2.2.2.2.2.2.2, ([59, 10] : List Int)]
def Bh (p : A3) : List Int := [([112, 108, 97, 110, 32, 99, 121, 99, 108, 101, 32] : List Int), numT p.1, ([59, 10] : List Int)].flatten ++ (p.2.1.flatMap timT ++ (Ig p).flatten)
def Jl (w : Cr) : List T3 := wd ([119, 97, 108, 107] : List Int) :: wd w.1 :: (numK w.2.1 ++ (wd ([102, 108, 97, 115, 104] : List Int) :: numK w.2.2.1))
def Oq (s : Av) : List T3 := wd ([112, 104, 97, 115, 101] : List Int) :: wd s.1 :: wd ([115, 112, 108, 105, 116] : List Int) :: (numK s.2.1 ++ (wd ([121, 101, 108, 108, 111, 119] : List Int) :: (numK s.2.2.1 ++ (wd ([114, 101, 100] : List Int) :: (numK s.2.2.2.1 ++ (s.2.2.2.2.1.flatMap Jl ++ [sg ([59] : List Int)]))))))
def Ol (l : List Av) : List T3 := wd ([114, 105, 110, 103] : List Int) :: sg ([123] : List Int) :: (l.flatMap Oq ++ [sg ([125] : List Int)])
def Ou (g : Cg) : List T3 := wd ([103, 114, 111, 117, 112] : List Int) :: sg ([123] : List Int) :: (g.1.flatMap Ol ++ [sg ([125] : List Int)])
def timK (t : TimT) : List T3 := wd ([110, 111, 100, 101] : List Int) :: wd t.1 :: wd ([111, 102, 102, 115, 101, 116] : List Int) :: (numK t.2.1 ++ (wd ([115, 117, 109] : List Int) :: (numK t.2.2.2.1.1 ++ (sg ([47] : List Int) :: (numK t.2.2.2.1.2.1 ++ (sg ([123] : List Int) :: (t.2.2.1.flatMap Ou ++ [sg ([125] : List Int)])))))))
def tailK (p : A3) : List T3 := wd ([111, 117, 116] : List Int) :: (numK p.2.2.1 ++ (numK p.2.2.2.1 ++ (sg ([59] : List Int) :: wd ([105, 110] : List Int) :: (numK p.2.2.2.2.1 ++ (numK p.2.2.2.2.2.1 ++ (sg ([59] : List Int) :: wd ([98, 101, 115, 116] : List Int) :: wd (yesT p.2.2.2.2.2.2.1) :: sg ([59] : List Int) :: wd ([115, 112, 101, 110, 116] : List Int) :: (numK p.2.2.2.2.2.2.2 ++ [sg ([59] : List Int), (0, [], 0)])))))))
def T2 (p : A3) : List T3 := wd ([112, 108, 97, 110] : List Int) :: wd ([99, 121, 99, 108, 101] : List Int) :: (numK p.1 ++ (sg ([59] : List Int) :: (p.2.1.flatMap timK ++ tailK p)))
theorem N8 {α : Type} {f : α → List Int} {g : α → List T3} : ∀ {l : List α}, (∀ x ∈ l, ∀ {s A}, Lexes s A → Lexes (f x ++ s) (g x ++ A)) → ∀ {s A}, Lexes s A → Lexes (l.flatMap f ++ s) (l.flatMap g ++ A)
 | [], _, s, A, h => h
 | x :: l, hx, s, A, h => by
  rw [List.flatMap_cons, List.flatMap_cons, List.append_assoc, List.append_assoc]
  exact hx x (by simp) (N8 (fun y hy => hx y (by simp [hy])) h)
theorem Uo {w : Cr} (h : wlkB w = true) : Bf w.1 = true ∧ inM w.2.1 ∧ inM w.2.2.1 := by
 unfold wlkB at h
 simp only [Bool.and_eq_true] at h
 exact ⟨h.1, Dm h.2.1, Dm h.2.2⟩
theorem Aq3 : ∀ {l : List Cr}, (∀ w ∈ l, wlkB w = true) → ∀ {s : List Int} {A : List T3}, Cuts s → Lexes s A → Cuts (l.flatMap (fun w => (Ei w).flatten) ++ s) ∧ Lexes (l.flatMap (fun w => (Ei w).flatten) ++ s) (l.flatMap Jl ++ A)
 | [], _, s, A, hc, h => ⟨hc, h⟩
 | w :: l, hw, s, A, hc, h => by
  obtain ⟨i1, i2⟩ := Aq3 (l := l) (fun y hy => hw y (List.mem_cons_of_mem _ hy)) hc h
  obtain ⟨q0, q1, q2⟩ := Uo (hw w (by simp))
  rw [List.flatMap_cons, List.flatMap_cons, List.append_assoc, List.append_assoc]
  generalize l.flatMap (fun w => (Ei w).flatten) ++ s = s' at i1 i2 ⊢
  generalize l.flatMap Jl ++ A = A' at i2 ⊢
  unfold Ei Jl
  simp only [List.flatten_cons, List.flatten_nil, List.append_nil, List.append_assoc, List.cons_append, List.nil_append]
  exact ⟨show Am 32 = false by decide, kw ([119, 97, 108, 107] : List Int) (by decide) (nm q0 (by decide) (Gr (by decide) (nu q1 (by decide) (kw ([102, 108, 97, 115, 104] : List Int) (by decide) (Acy q2 i1 i2)))))⟩
theorem La {s : Av} (h : Cd s = true) : Bf s.1 = true ∧ inM s.2.1 ∧ inM s.2.2.1 ∧ inM s.2.2.2.1 ∧ s.2.2.2.2.1.length ≤ 8 ∧ ∀ w ∈ s.2.2.2.2.1, wlkB w = true := by
 unfold Cd lenB at h
 simp only [Bool.and_eq_true, decide_eq_true_eq, List.all_eq_true] at h
 exact ⟨h.1, Dm h.2.1, Dm h.2.2.1, Dm h.2.2.2.1, h.2.2.2.2.1.2, h.2.2.2.2.2⟩
theorem kwn {w : List Int} (hw : O1 w = true) {s : List Int} {A : List T3} : ∀ (n : Nat), Lexes s A → Lexes (List.replicate n 32 ++ (w ++ 32 :: s)) (wd w :: A)
 | 0, h => kw0 w hw h
 | n + 1, h => by
  rw [List.replicate_succ, List.cons_append]
  exact Gr (by decide) (kwn hw n h)
theorem A77 {x : Av} (hb : Cd x = true) {s : List Int} {A : List T3} (hs : Lexes s A) : Lexes (Ce x ++ s) (Oq x ++ A) := by
 obtain ⟨q0, q1, q2, q3, q4, q5⟩ := La hb
 have hw := Aq3 q5 (s := ([59, 10] : List Int) ++ s) (A := sg ([59] : List Int) :: A) (show Am 59 = false by decide) (semi hs)
 unfold Ce Ot Oq
 simp only [List.flatten_cons, List.flatten_nil, List.append_nil, List.append_assoc, List.cons_append, List.nil_append]
 rw [show ([59, 10] : List Int) ++ s = 59 :: 10 :: s from rfl] at hw
 exact kwn (w := ([112, 104, 97, 115, 101] : List Int)) (by decide) 6 (nm q0 (by decide) (kw ([115, 112, 108, 105, 116] : List Int) (by decide) (nu q1 (by decide) (kw ([121, 101, 108, 108, 111, 119] : List Int) (by decide) (nu q2 (by decide) (kw ([114, 101, 100] : List Int) (by decide) (Acy q3 hw.1 hw.2)))))))
theorem brace {s : List Int} {A : List T3} (h : Lexes s A) : Lexes (123 :: 10 :: s) (sg ([123] : List Int) :: A) := N9 (by decide) (Gr (by decide) h)
theorem close {s : List Int} {A : List T3} (h : Lexes s A) : Lexes (125 :: 10 :: s) (sg ([125] : List Int) :: A) := N9 (by decide) (Gr (by decide) h)
theorem blk {s : List Int} {A : List T3} (h : Lexes s A) : Lexes (32 :: s) A := Gr (by decide) h
theorem A76 {x : List Av} (hb : Cb x = true) {s : List Int} {A : List T3} (hs : Lexes s A) : Lexes (Cc x ++ s) (Ol x ++ A) := by
 unfold Cb at hb
 simp only [Bool.and_eq_true, List.all_eq_true] at hb
 unfold Cc Ol
 simp only [List.append_assoc, List.cons_append, List.nil_append]
 exact kwn (w := ([114, 105, 110, 103] : List Int)) (by decide) 4 (brace (N8 (fun y hy _ _ h => A77 (hb.2 y hy) h) (blk (blk (blk (blk (close hs)))))))
theorem A78 {x : Cg} (hb : Cn x = true) {s : List Int} {A : List T3} (hs : Lexes s A) : Lexes (Cf x ++ s) (Ou x ++ A) := by
 unfold Cn at hb
 simp only [Bool.and_eq_true, List.all_eq_true] at hb
 unfold Cf Ou
 simp only [List.append_assoc, List.cons_append, List.nil_append]
 exact kwn (w := ([103, 114, 111, 117, 112] : List Int)) (by decide) 2 (brace (N8 (fun y hy _ _ h => A76 (hb.2 y hy) h) (blk (blk (close hs)))))
theorem Jj {t : TimT} (h : timB t = true) : Bf t.1 = true ∧ inM t.2.1 ∧ inM t.2.2.2.1.1 ∧ inM t.2.2.2.1.2.1 ∧ t.2.2.1.length ≤ 4 ∧ ∀ w ∈ t.2.2.1, Cn w = true := by
 unfold timB lenB at h
 simp only [Bool.and_eq_true, decide_eq_true_eq, List.all_eq_true] at h
 exact ⟨h.1, Dm h.2.1, Dm h.2.2.1, Dm h.2.2.2.1, h.2.2.2.2.1.2, h.2.2.2.2.2⟩
theorem A79 {x : TimT} (hb : timB x = true) {s : List Int} {A : List T3} (hs : Lexes s A) : Lexes (timT x ++ s) (timK x ++ A) := by
 obtain ⟨q0, q1, q2, q3, q4, q5⟩ := Jj hb
 unfold timT timX timK
 simp only [List.flatten_cons, List.flatten_nil, List.append_nil, List.append_assoc, List.cons_append, List.nil_append]
 exact kw0 ([110, 111, 100, 101] : List Int) (by decide) (nm q0 (by decide) (kw ([111, 102, 102, 115, 101, 116] : List Int) (by decide) (nu q1 (by decide) (kw ([115, 117, 109] : List Int) (by decide) (nu q2 (by decide) (N9 (by decide) (nu q3 (by decide) (blk (brace (N8 (fun y hy _ _ h => A78 (q5 y hy) h) (close hs)))))))))))
theorem K3 {p : A3} (h : Cl p = true) : inM p.1 ∧ inM p.2.2.1 ∧ inM p.2.2.2.1 ∧ inM p.2.2.2.2.1 ∧ inM p.2.2.2.2.2.1 ∧ inM p.2.2.2.2.2.2.2 ∧ p.2.1.length ≤ 12 ∧ ∀ w ∈ p.2.1, timB w = true := by
 unfold Cl lenB at h
 simp only [Bool.and_eq_true, decide_eq_true_eq, List.all_eq_true] at h
 exact ⟨Dm h.1, Dm h.2.1, Dm h.2.2.1, Dm h.2.2.2.1, Dm h.2.2.2.2.1, Dm h.2.2.2.2.2.1, h.2.2.2.2.2.2.1.2, h.2.2.2.2.2.2.2⟩
theorem A8a (b : Bool) {s : List Int} {A : List T3} (hs : Lexes s A) : Lexes (yesT b ++ 59 :: 10 :: s) (wd (yesT b) :: sg ([59] : List Int) :: A) := by
 cases b
 ·exact Tj (by decide) (show Am 59 = false by decide) (semi hs)
 ·exact Tj (by decide) (show Am 59 = false by decide) (semi hs)
theorem A75 {p : A3} (hb : Cl p = true) : Lexes (Bh p) (T2 p) := by
 obtain ⟨q0, q1, q2, q3, q4, q5, q6, q7⟩ := K3 hb
 unfold Bh Ig T2 tailK
 simp only [List.flatten_cons, List.flatten_nil, List.append_nil, List.append_assoc, List.cons_append, List.nil_append]
 exact kw0 ([112, 108, 97, 110] : List Int) (by decide) (kw0 ([99, 121, 99, 108, 101] : List Int) (by decide) (nu q0 (by decide) (semi (N8 (fun y hy _ _ h => A79 (q7 y hy) h)
  (kw0 ([111, 117, 116] : List Int) (by decide) (nu q1 (by decide) (blk (nu q2 (by decide) (semi (kw0 ([105, 110] : List Int) (by decide) (nu q3 (by decide) (blk (nu q4 (by decide) (semi (kw0 ([98, 101, 115, 116] : List Int) (by decide) (A8a _ (kw0 ([115, 112, 101, 110, 116] : List Int) (by decide) (nu q5 (by decide) (semi A73)))))))))))))))))))
def Rd {α : Type} (x : RE α) (v : α) (A : List T3) : Prop := ∃ l, x = .inl (v, l) ∧ l.map strip = A
theorem Aw {α β : Type} {x : RE α} {v : α} {A : List T3} {f : α → List Tk → RE β} {u : β} {B : List T3} (h : Rd x v A) (hf : ∀ l, l.map strip = A → Rd (f v l) u B) : Rd (Al x f) u B := by
 obtain ⟨l, rfl, h2⟩ := h
 exact hf l h2
theorem Fo {α : Type} {v : α} {l : List Tk} {A : List T3} (h : l.map strip = A) : Rd (.inl (v, l)) v A := ⟨l, rfl, h⟩
theorem I6 {l : List Tk} {t : T3} {A : List T3} (h : l.map strip = t :: A) : (hd l).1 = t.1 ∧ (hd l).2.1 = t.2.1 ∧ (hd l).2.2.1 = t.2.2 ∧ (t.1 ≠ 0 → (tk1 l).map strip = A) := by
 cases l with
 | nil => simp at h
 | cons u q =>
  simp only [List.map_cons, List.cons.injEq] at h
  obtain ⟨rfl, rfl⟩ := h
  refine ⟨rfl, rfl, rfl, fun h0 => ?_⟩
  unfold tk1
  rw [show ((Go.Proofs.YtcmmgllmncllfaaGreatDoorV.hd (u :: q)).1 != 0) = true by simpa [Go.Proofs.YtcmmgllmncllfaaGreatDoorV.hd, strip] using h0]
  rfl
theorem Adl {w : List Int} {ws : List (List Int)} {l : List Tk} {t : T3} {A B : List T3} (h : l.map strip = t :: A) (h0 : t.1 ≠ 0) (ht : t.2.1 = w) (hr : ∀ l, l.map strip = A → Rd (An ws l) () B) : Rd (An (w :: ws) l) () B := by
 obtain ⟨_, h2, _, h3⟩ := I6 h
 rw [An, h2, ht, beq_self_eq_true, cond_true]
 exact hr _ (h3 h0)
theorem rd_w {w : List Int} {l : List Tk} {t : T3} {A : List T3} (h : l.map strip = t :: A) (h0 : t.1 ≠ 0) (ht : t.2.1 = w) : Rd (An [w] l) () A := Adl h h0 ht fun l h => Fo h
theorem Adk {s : List Int} {l : List Tk} {A : List T3} (hs : Bf s = true) (h : l.map strip = wd s :: A) : Rd (F5 l) s A := by
 obtain ⟨h1, h2, _, h3⟩ := I6 h
 unfold Bf at hs
 simp only [Bool.and_eq_true, Bool.not_eq_true'] at hs
 unfold F5
 rw [h1, h2]
 refine ⟨tk1 l, ?_, h3 (show (1 : Int) ≠ 0 by decide)⟩
 show (bif (1 : Int) != 1 || resB s then _ else _) = _
 rw [hs.2]
 rfl
theorem A8j {n : Int} (h : 0 ≤ n) : numK n = [(2, digN 18 n.natAbs, n)] := by
 unfold numK
 rw [show decide (n < 0) = false by simp; omega]
 rfl
theorem T4 {n : Int} {l : List Tk} {A : List T3} (hn : 0 ≤ n) (h : l.map strip = numK n ++ A) : Rd (numC l) n A := by
 rw [A8j hn] at h
 obtain ⟨h1, h2, h4, h3⟩ := I6 h
 unfold numC
 rw [h1, h4]
 exact ⟨tk1 l, rfl, h3 (show (2 : Int) ≠ 0 by decide)⟩
theorem Ia {w : List Int} {l : List Tk} {t : T3} {n : Int} {A : List T3} (hn : 0 ≤ n) (h : l.map strip = t :: (numK n ++ A)) (h0 : t.1 ≠ 0) (ht : t.2.1 = w) : Rd (numP [w] l) n A := Aw (rd_w h h0 ht) fun l h => T4 hn h
theorem Asl {l : List Tk} {n : Int} {A : List T3} (hn : 0 ≤ n) (h : l.map strip = numK n ++ A) : Rd (numP [] l) n A := Aw (Fo h) fun l h => T4 hn h
theorem T5 {α : Type} {w : List Int} {least most : Nat} {read : List Tk → RE α} {g : α → List T3} {t : T3} {A : List T3} (ht : t.2.1 ≠ w) : ∀ (vs : List α) (f : Nat) (l : List Tk) (o : List α),
  (∀ v ∈ vs, ∀ (l : List Tk) (B : List T3), l.map strip = g v ++ B → Rd (read l) v B) → l.map strip = vs.flatMap (fun v => wd w :: g v) ++ t :: A → vs.length < f → o.length + vs.length ≤ most → least ≤ o.length + vs.length →
  Rd (By w least most read f l o) (o ++ vs) (t :: A)
 | _, 0, _, _, _, _, h, _, _ => by omega
 | [], f + 1, l, o, hr, h, hf, hm, hl => by
  have h1 := (I6 h).2.1
  rw [By, h1, show (t.2.1 == w) = false by simpa using ht, Bool.false_or, show decide (((o.length : Nat) : Int) < (least : Int)) = false by simp at hl; simp; omega, cond_false, List.append_nil]
  exact Fo h
 | v :: vs, f + 1, l, o, hr, h, hf, hm, hl => by
  rw [List.flatMap_cons, List.cons_append, List.cons_append, List.append_assoc] at h
  have h1 := (I6 h).2.1
  simp only [List.length_cons] at hf hm hl
  rw [By, h1, show ((wd w).2.1 == w) = true by simp [wd], Bool.true_or, cond_true, show (((o.length : Nat) : Int) == (most : Int)) = false by simp; omega, cond_false]
  refine Aw (rd_w h (show (1 : Int) ≠ 0 by decide) rfl) fun l1 h2 => Aw (hr v (by simp) l1 _ h2) fun l2 h3 => ?_
  have := T5 (least := least) (most := most) (w := w) (read := read) (g := g) (A := A) ht vs f l2 (o ++ [v]) (fun u hu => hr u (by simp [hu])) h3 (by omega) (by rw [List.length_append, List.length_singleton]; omega) (by rw [List.length_append, List.length_singleton]; omega)
  rwa [List.append_assoc] at this
theorem Dn {n : Int} (h : numB n = true) : 0 ≤ n := by
 unfold numB at h
 simp only [Bool.and_eq_true, decide_eq_true_eq] at h
 exact h.1
theorem rd_walk {v : Cr} (hb : wlkB v = true) (l : List Tk) (B : List T3) (h : l.map strip = (wd v.1 :: (numK v.2.1 ++ (wd ([102, 108, 97, 115, 104] : List Int) :: numK v.2.2.1))) ++ B) : Rd (Gb l) v B := by
 unfold wlkB at hb
 simp only [Bool.and_eq_true] at hb
 simp only [List.cons_append, List.append_assoc] at h
 exact Aw (Adk hb.1 h) fun l h => Aw (Asl (Dn hb.2.1) h) fun l h => Aw (Ia (Dn hb.2.2) h (by decide) rfl) fun l h => Fo h
theorem Xa {α : Type} {g : α → List T3} (hg : ∀ v, 1 ≤ (g v).length) (vs : List α) : vs.length ≤ (vs.flatMap g).length := by
 induction vs with
 | nil => simp
 | cons w ws ih => rw [List.flatMap_cons, List.length_append, List.length_cons]; have := hg w; omega
theorem rd_slot {v : Av} (hb : Cd v = true) (l : List Tk) (B : List T3) (h : l.map strip = (wd v.1 :: wd ([115, 112, 108, 105, 116] : List Int) :: (numK v.2.1 ++ (wd ([121, 101, 108, 108, 111, 119] : List Int) :: (numK v.2.2.1 ++ (wd ([114, 101, 100] : List Int) :: (numK v.2.2.2.1 ++ (v.2.2.2.2.1.flatMap Jl ++ [sg ([59] : List Int)]))))))) ++ B) : Rd (Fp l) v B := by
 have hb2 := La hb
 unfold Cd at hb
 simp only [Bool.and_eq_true] at hb
 simp only [List.cons_append, List.append_assoc, List.nil_append] at h
 refine Aw (Adk hb.1 h) fun l h => Aw (Ia (Dn hb.2.1) h (by decide) rfl) fun l h => Aw (Ia (Dn hb.2.2.1) h (by decide) rfl) fun l h => Aw (Ia (Dn hb.2.2.2.1) h (by decide) rfl) fun l h => ?_
 have hlen : v.2.2.2.2.1.length ≤ l.length := by
  have := congrArg List.length h
  rw [List.length_map, List.length_append] at this
  have h2 := Xa (g := Jl) (fun v => by unfold Jl; simp) v.2.2.2.2.1
  omega
 have := T5 (least := 0) (most := 8) (w := ([119, 97, 108, 107] : List Int)) (read := Gb) (g := fun v => wd v.1 :: (numK v.2.1 ++ (wd ([102, 108, 97, 115, 104] : List Int) :: numK v.2.2.1))) (t := sg ([59] : List Int)) (A := B) (by decide) v.2.2.2.2.1 (l.length + 1) l [] (fun u hu l B h => rd_walk (hb2.2.2.2.2.2 u hu) l B h) h (by omega) (by simpa using hb2.2.2.2.2.1) (Nat.zero_le _)
 exact Aw this fun l h => Aw (rd_w h (by decide) rfl) fun l h => Fo h
theorem Adj {α : Type} {w : List Int} {least most : Nat} {read : List Tk → RE α} {g : α → List T3} (hw : ([125] : List Int) ≠ w) {vs : List α} (hr : ∀ v ∈ vs, ∀ (l : List Tk) (B : List T3), l.map strip = g v ++ B → Rd (read l) v B) (h1 : least ≤ vs.length) (h2 : vs.length ≤ most)
  (l : List Tk) (B : List T3) (h : l.map strip = sg ([123] : List Int) :: (vs.flatMap (fun v => wd w :: g v) ++ [sg ([125] : List Int)]) ++ B) : Rd (Em w least most read l) vs B := by
 simp only [List.cons_append, List.append_assoc, List.nil_append] at h
 refine Aw (rd_w h (by decide) rfl) fun l h => ?_
 have hlen : vs.length ≤ l.length := by
  have := congrArg List.length h
  rw [List.length_map, List.length_append] at this
  have h2 := Xa (g := fun v => wd w :: g v) (fun v => by simp) vs
  omega
 have := T5 (least := least) (most := most) (w := w) (read := read) (g := g) (t := sg ([125] : List Int)) (A := B) hw vs (l.length + 1) l [] hr h (by omega) (by simpa using h2) (by simpa using h1)
 exact Aw this fun l h => Aw (rd_w h (by decide) rfl) fun l h => Fo h
theorem Je {v : List Av} (hb : Cb v = true) : (1 ≤ v.length ∧ v.length ≤ 4) ∧ ∀ s ∈ v, Cd s = true := by
 unfold Cb lenB at hb
 simp only [Bool.and_eq_true, decide_eq_true_eq, List.all_eq_true] at hb
 exact hb
theorem Ji {v : Cg} (hb : Cn v = true) : (1 ≤ v.1.length ∧ v.1.length ≤ 2) ∧ ∀ s ∈ v.1, Cb s = true := by
 unfold Cn lenB at hb
 simp only [Bool.and_eq_true, decide_eq_true_eq, List.all_eq_true] at hb
 exact hb
theorem rd_ring {v : List Av} (hb : Cb v = true) (l : List Tk) (B : List T3) (h : l.map strip = (sg ([123] : List Int) :: (v.flatMap Oq ++ [sg ([125] : List Int)])) ++ B) : Rd (Eg l) v B :=
 Adj (by decide) (fun u hu l B h => rd_slot ((Je hb).2 u hu) l B h) (Je hb).1.1 (Je hb).1.2 l B h
theorem rd_span {v : Cg} (hb : Cn v = true) (l : List Tk) (B : List T3) (h : l.map strip = (sg ([123] : List Int) :: (v.1.flatMap Ol ++ [sg ([125] : List Int)])) ++ B) : Rd (Fq l) v B :=
 Aw (Adj (vs := v.1) (g := fun v : List Av => sg ([123] : List Int) :: (v.flatMap Oq ++ [sg ([125] : List Int)])) (by decide) (fun u hu l B h => rd_ring ((Ji hb).2 u hu) l B h) (Ji hb).1.1 (Ji hb).1.2 l B h) fun l h => Fo h
theorem A9d {v : TimT} (hb : timB v = true) (l : List Tk) (B : List T3) (h : l.map strip = (wd v.1 :: wd ([111, 102, 102, 115, 101, 116] : List Int) :: (numK v.2.1 ++ (wd ([115, 117, 109] : List Int) :: (numK v.2.2.2.1.1 ++ (sg ([47] : List Int) :: (numK v.2.2.2.1.2.1 ++ (sg ([123] : List Int) :: (v.2.2.1.flatMap Ou ++ [sg ([125] : List Int)])))))))) ++ B) : Rd (Ga l) v B := by
 have hb2 := Jj hb
 unfold timB at hb
 simp only [Bool.and_eq_true] at hb
 simp only [List.cons_append, List.append_assoc, List.nil_append] at h
 exact Aw (Adk hb.1 h) fun l h => Aw (Ia (Dn hb.2.1) h (by decide) rfl) fun l h => Aw (Ia (Dn hb.2.2.1) h (by decide) rfl) fun l h => Aw (Ia (Dn hb.2.2.2.1) h (by decide) rfl) fun l h =>
  Aw (Adj (w := ([103, 114, 111, 117, 112] : List Int)) (least := 0) (most := 4) (vs := v.2.2.1) (g := fun v : Cg => sg ([123] : List Int) :: (v.1.flatMap Ol ++ [sg ([125] : List Int)])) (by decide) (fun u hu l B h => rd_span (hb2.2.2.2.2.2 u hu) l B h) (Nat.zero_le _) hb2.2.2.2.2.1 l B (by
   simp only [List.cons_append, List.append_assoc, List.nil_append]; exact h)) fun l h => Fo h
theorem Asm {w : List Int} {a b : Int} (ha : 0 ≤ a) (hb : 0 ≤ b) {l : List Tk} {t : T3} {A : List T3} (h : l.map strip = t :: (numK a ++ (numK b ++ (sg ([59] : List Int) :: A)))) (h0 : t.1 ≠ 0) (ht : t.2.1 = w) : Rd (Jm w l) (a, b) A :=
 by
 unfold Jm
 refine Aw (Ia ha h h0 ht) fun l h => ?_
 refine Aw (Asl hb h) fun l h => ?_
 exact Aw (rd_w h (by decide) rfl) fun l h => Fo h
theorem rd_best {b : Bool} {l : List Tk} {A : List T3} (h : l.map strip = wd (yesT b) :: A) : Rd (Ln l) b A := by
 unfold Ln
 obtain ⟨h1, h2, _, h3⟩ := I6 h
 rw [h2]
 cases b
 ·show Rd (Al (An [([110, 111] : List Int)] l) fun _ l => .inl (false, l)) false A
  exact Aw (rd_w (w := ([110, 111] : List Int)) h (by decide) rfl) fun l h => Fo h
 ·exact ⟨tk1 l, rfl, h3 (by decide)⟩
theorem rd_plan {p : A3} (hb : Cl p = true) {l : List Tk} (h : l.map strip = T2 p) : Rd (Oi l) p [(0, [], 0)] := by
 have hb2 := K3 hb
 unfold Cl at hb
 simp only [Bool.and_eq_true] at hb
 unfold T2 tailK at h
 refine Aw (Aw (Adl h (by decide) rfl fun l h => rd_w h (by decide) rfl) fun l h => T4 (Dn hb.1) h) fun l h => Aw (rd_w h (by decide) rfl) fun l h => ?_
 have hlen : p.2.1.length ≤ l.length := by
  have := congrArg List.length h
  rw [List.length_map, List.length_append] at this
  have h2 := Xa (g := timK) (fun v => by unfold timK; simp) p.2.1
  omega
 have := T5 (least := 0) (most := 12) (w := ([110, 111, 100, 101] : List Int)) (read := Ga) (g := fun v : TimT => wd v.1 :: wd ([111, 102, 102, 115, 101, 116] : List Int) :: (numK v.2.1 ++ (wd ([115, 117, 109] : List Int) :: (numK v.2.2.2.1.1 ++ (sg ([47] : List Int) :: (numK v.2.2.2.1.2.1 ++ (sg ([123] : List Int) :: (v.2.2.1.flatMap Ou ++ [sg ([125] : List Int)]))))))))
  (t := wd ([111, 117, 116] : List Int)) (by decide) p.2.1 (l.length + 1) l [] (fun u hu l B h => A9d (hb2.2.2.2.2.2.2.2 u hu) l B h) h (by omega) (by simpa using hb2.2.2.2.2.2.2.1) (Nat.zero_le _)
 refine Aw this fun l h => Aw (Asm (Dn hb.2.1) (Dn hb.2.2.1) h (by decide) rfl) fun l h => Aw (Asm (Dn hb.2.2.2.1) (Dn hb.2.2.2.2.1) h (by decide) rfl) fun l h => Aw (rd_w h (by decide) rfl) fun l h => Aw (rd_best h) fun l h => ?_
 unfold endP
 refine Aw (Aw (Adl h (by decide) rfl fun l h => rd_w h (by decide) rfl) fun l h => T4 (Dn hb.2.2.2.2.2.1) h) fun l h => Aw (rd_w h (by decide) rfl) fun l h => ?_
 obtain ⟨h1, _⟩ := I6 h
 rw [h1]
 exact Fo h
theorem Bax {p : A3} (hB : Cl p = true) (h : (Bh p).length ≤ 65536) : Dg (Bh p) = (p, 0, 0) := by
 obtain ⟨h1, h2⟩ := A75 hB (Bh p).length ((Bh p).length + 1) (Nat.lt_succ_self _)
 have e : toks (Bh p) = lx (Bh p).length ((Bh p).length + 1) (Bh p) := by unfold toks; rw [if_neg (by omega)]
 rw [← e] at h1 h2
 obtain ⟨l, h3, _⟩ := rd_plan hB h2
 unfold Dg
 rw [h1, h3]
 rfl
def outR (e : Int × List Tk) : Int × Int := (e.1, (hd e.2).2.2.2.1)
def res {α β : Type} (x : RE α) (f : α → List Tk → β) : β ⊕ (Int × Int) := match x with
 | .inl y => .inl (f y.1 y.2)
 | .inr e => .inr (outR e)
structure Rdy (l : List Tk) : Prop where
 e : EndT l
 g : Gd l
theorem Rdy.suf {l m : List Tk} (r : Rdy l) (h : m <:+ l) (e : EndT m) : Rdy m := ⟨e, r.g.suf h⟩
theorem Bs {α : Type} {P : α → Prop} {l : List Tk} {x : RE α} (r : Rdy l) (h : Rel P l l x x) {v : α} {m : List Tk} (e : x = .inl (v, m)) : Rdy m ∧ m.length ≤ l.length ∧ P v := by
 subst e
 exact ⟨r.suf h.2.2.1 h.2.2.2.2.1, h.2.2.1.length_le, h.2.2.2.2.2.2⟩
theorem Ax {α β γ δ : Type} {x : RE α} {h : α → List Tk → RE γ} {f : α → List Tk → β} {f' : γ → List Tk → δ} {G : β → Option (δ ⊕ (Int × Int))} (hG : ∀ v l, x = .inl (v, l) → G (f v l) = some (res (h v l) f')) :
  (some (res x f)).bind (orP G (fun o => some (.inr (o.1, o.2)))) = some (res (Al x h) f') := by
 cases x with
 | inr e => rfl
 | inl y => exact hG y.1 y.2 rfl
section
variable (k : Nat) {l : List Tk}
theorem I7 {R : Type} {l : List Tk} {K : Tk → Option R} (h : l ≠ []) : idx tkD l 0 K = K (hd l) := by
 cases l with
 | nil => exact absurd rfl h
 | cons x r => exact At (i := 0) rfl
theorem cutB_hd {R : Type} {l : List Tk} {a b : Option R} (h : l ≠ []) : (bif cutB (1 : Int) ((l.length : Nat) : Int) l.length then a else b) = a := by
 cases l with
 | nil => exact absurd rfl h
 | cons x r => rw [Hi, if_pos (by simp; omega)]
theorem cutL_hd {l : List Tk} : cutL l 1 ((l.length : Nat) : Int) = l.tail := by
 cases l <;> simp [cutL]
theorem cut_hd {R : Type} {l : List Tk} {K : List Tk → Option R} (h : l ≠ []) : cut l 1 ((l.length : Nat) : Int) K = K l.tail := by
 unfold cut
 rw [cutB_hd h, cutL_hd]
theorem Ht (w : List Int) (r : Rdy l) : D5 k (w, l) = some ((hd l).2.1 == w, l) := by
 rw [A3v, Ak5, I7 r.e.ne]
theorem Es (c : Int) (r : Rdy l) : B0 k (c, l) = some (.inr (c, (hd l).2.2.2.1)) := by
 rw [A3u, Ak2, I7 r.e.ne]
theorem Lc (r : Rdy l) : D6 k l = some ((hd l).1, (hd l).2.1, (hd l).2.2.1, (hd l).2.2.2.1, tk1 l) := by
 rw [A4h, Alk, I7 r.e.ne, cut_hd r.e.ne]
 unfold tk1
 cases (hd l).1 != 0 <;> rfl
theorem Rdy.tk1 (r : Rdy l) : Rdy (tk1 l) := r.suf (Ael l) r.e.tk1
theorem Awj (ws : List (List Int)) (hw : ws.length < 1000) : ∀ (r pre : List (List Int)) (j : Nat) (l : List Tk), ws = pre ++ r → r.length < j → Rdy l →
  (E6 k).L 1 [] j (J8 (ws, ((ws.length : Nat) : Int), ((pre.length : Nat) : Int), l)) = some (res (An r l) fun _ l => l)
 | _, _, 0, _, _, h, _ => by omega
 | [], pre, j + 1, l, e, h, q => by
  have e2 : ws = pre := by rw [e]; simp
  rw [Alv, R5, ← e2, Be]
  rfl
 | w :: r, pre, j + 1, l, e, h, q => by
  have hx : ws[pre.length]? = some w := by rw [e]; simp
  have IH := Awj ws hw r (pre ++ [w]) j (tk1 l) (by rw [e]; simp) (by simp at h; omega) q.tk1
  rw [List.length_append, List.length_singleton] at IH
  rw [Alv, R5, A9 hx, At hx, Ht k w q, Option.bind_some, An]
  cases hc : (hd l).2.1 == w
  ·rw [Bool.not_false, cond_true, Es k 50 q]
   rfl
  ·rw [Bool.not_true, cond_false, Lc k q, Option.bind_some, Bi hx (by omega), cond_true]
   exact IH
theorem Cq (ws : List (List Int)) (hw : ws.length < 1000) (hk : 1000 ≤ k) (q : Rdy l) : Bu k (ws, l) = some (res (An ws l) fun _ l => l) := by
 rw [A4p, Y6]
 exact Awj k ws hw ws [] k l rfl (by omega) q
theorem Awi (ws : List (List Int)) (hw : ws.length < 1000) : ∀ (r pre : List (List Int)) (j : Nat) (l : List Tk), ws = pre ++ r → r.length < j → Rdy l →
  (E5 k).L 1 [] j (J9 (ws, ((ws.length : Nat) : Int), ((pre.length : Nat) : Int), l)) = some (res (An r l) fun _ l => l)
 | _, _, 0, _, _, h, _ => by omega
 | [], pre, j + 1, l, e, h, q => by
  have e2 : ws = pre := by rw [e]; simp
  rw [Alx, R7, ← e2, Be]
  rfl
 | w :: r, pre, j + 1, l, e, h, q => by
  have hx : ws[pre.length]? = some w := by rw [e]; simp
  have IH := Awi ws hw r (pre ++ [w]) j (tk1 l) (by rw [e]; simp) (by simp at h; omega) q.tk1
  rw [List.length_append, List.length_singleton] at IH
  rw [Alx, R7, A9 hx, At hx, Ht k w q, Option.bind_some, An]
  cases hc : (hd l).2.1 == w
  ·rw [Bool.not_false, cond_true, Es k 50 q]
   rfl
  ·rw [Bool.not_true, cond_false, Lc k q, Option.bind_some, Bi hx (by omega), cond_true]
   exact IH
theorem Bbc (ws : List (List Int)) (hw : ws.length < 1000) (hk : 1000 ≤ k) (q : Rdy l) : Qg k (ws, l) = some (res (An ws l) fun _ l => l) := by
 rw [A4r, Y8]
 exact Awi k ws hw ws [] k l rfl (by omega) q
theorem Dh {ws : List (List Int)} (q : Rdy l) {v : Unit} {m : List Tk} (e : An ws l = .inl (v, m)) : Rdy m ∧ m.length ≤ l.length := by
 have := Bs q (Gz ws rfl q.e q.e) e
 exact ⟨this.1, this.2.1⟩
theorem Fk (ws : List (List Int)) (hw : ws.length < 1000) (hk : 1000 ≤ k) (q : Rdy l) : Dj k (ws, l) = some (res (numP ws l) fun n l => (n, l)) := by
 rw [A32, Yr, Cq k ws hw hk q]
 refine Ax fun v m e => ?_
 have r := (Dh q e).1
 rw [I7 r.e.ne, Es k 50 r, A33, Ys, Lc k r]
 unfold numC
 cases (hd m).1 != 2 <;> rfl
theorem A8h (ws : List (List Int)) (hw : ws.length < 1000) (hk : 1000 ≤ k) (q : Rdy l) : P9 k (ws, l) = some (res (numP ws l) fun n l => (n, l)) := by
 rw [A36, Yt, Bbc k ws hw hk q]
 refine Ax fun v m e => ?_
 have r := (Dh q e).1
 rw [I7 r.e.ne, Es k 50 r, A37, Yu, Lc k r]
 unfold numC
 cases (hd m).1 != 2 <;> rfl
theorem Ac3 (q : Rdy l) : Js k l = some (res (F5 l) fun n l => (n, l)) := by
 rw [A3y, Yp, I7 q.e.ne, Es k 50 q, Ass, A3z, Yq, Lc k q]
 unfold F5
 cases (hd l).1 != 1
 ·simp only [cond_false, Option.bind_some, Bool.false_or]
  cases resB (hd l).2.1 <;> rfl
 ·rfl
def Ef {α β : Type} (x : RE α) (K : List Tk → α → Option (β ⊕ (Int × Int))) : Option (β ⊕ (Int × Int)) := match x with
 | .inl y => K y.2 y.1
 | .inr e => some (.inr (outR e))
theorem K7 {α : Type} (F : Nat → List Tk → List α → Option ((List Tk × List α) ⊕ (Int × Int))) {w : List Int} (hw : w ≠ []) (least most : Nat) (read : List Tk → RE α) {P : α → Prop}
  (hr : ∀ {l m : List Tk}, l.map strip = m.map strip → EndT l → EndT m → Gd l → Rel P l m (read l) (read m))
  (hF : ∀ (j : Nat) (l : List Tk) (o : List α), Rdy l → l.length ≤ 100000 → o.length ≤ most → F (j + 1) l o = bif ((hd l).2.1 == w) || decide (((o.length : Nat) : Int) < (least : Int)) then
   (bif ((o.length : Nat) : Int) == (most : Int) then some (.inr (4, (hd l).2.2.2.1)) else Ef (Al (An [w] l) (fun _ l => read l)) fun l x => F j l (o ++ [x])) else some (.inl (l, o))) :
  ∀ (f j : Nat) (l : List Tk) (o : List α), l.length < f → l.length < j → Rdy l → l.length ≤ 100000 → o.length ≤ most → F j l o = some (res (By w least most read f l o) fun v l => (l, v))
 | 0, j, l, o, h, _, _, _, _ => by omega
 | f + 1, 0, l, o, _, h, _, _, _ => by omega
 | f + 1, j + 1, l, o, h1, h2, q, hl, ho => by
  rw [hF j l o q hl ho, By]
  cases ((hd l).2.1 == w) || decide (((o.length : Nat) : Int) < (least : Int))
  ·rfl
  ·cases hm : ((o.length : Nat) : Int) == (most : Int)
   ·have hm2 : ¬ ((o.length : Nat) : Int) = (most : Int) := by simpa using hm
    simp only [cond_true, cond_false]
    cases hwd : An [w] l with
    | inr e => rfl
    | inl a =>
     have hlt := Awh hw q.g q.e (l' := a.2) (u := a.1) hwd
     have r2 := (Dh q (m := a.2) (v := a.1) hwd).1
     show Ef (read a.2) (fun l x => F j l (o ++ [x])) = some (res (Al (read a.2) fun x l => By w least most read f l (o ++ [x])) _)
     cases hrd : read a.2 with
     | inr e => rfl
     | inl b =>
      obtain ⟨r3, h3, _⟩ := Bs r2 (hr rfl r2.e r2.e r2.g) (v := b.1) (m := b.2) hrd
      exact K7 F hw least most read hr hF f j b.2 (o ++ [b.1]) (by omega) (by omega) r3 (by omega) (by rw [List.length_append, List.length_singleton]; omega)
   ·rfl
end
section
variable (k : Nat) (hk : 100000 < k) {l : List Tk}
include hk
theorem Ba9 (q : Rdy l) : Qf k l = some (res (Gb l) fun w l => (w.1, w.2.1, w.2.2.1, l)) := by
 rw [A4l, Als, Ac3 k q]
 refine Ax fun n l1 e1 => ?_
 have r1 := (Bs q (K5 rfl q.e q.e q.g) e1).1
 rw [Fk k [] (by decide) (by omega) r1]
 refine Ax fun a l2 e2 => ?_
 have r2 := (Bs r1 (Bx [] rfl r1.e r1.e r1.g) e2).1
 rw [Fk k [([102, 108, 97, 115, 104] : List Int)] (by decide) (by omega) r2]
 exact Ax fun b l3 e3 => rfl
theorem A9w (q : Rdy l) (hl : l.length ≤ 100000) : Ql k (([119, 97, 108, 107] : List Int), 0, 8, l) = some (res (By ([119, 97, 108, 107] : List Int) 0 8 Gb (l.length + 1) l []) fun v l => (l, v)) := by
 rw [A49, Zv]
 refine K7 (fun j l o => (Cz k).L 2 [] j (Ke (([119, 97, 108, 107] : List Int), 0, 8, l, o))) (w := ([119, 97, 108, 107] : List Int)) (by decide) 0 8 Gb Ads (fun j l o r hl ho => ?_) (l.length + 1) k l [] (by omega) (by omega) q hl (Nat.zero_le _)
 have J : (Cz k).J 5 [j] (I2 (([119, 97, 108, 107] : List Int), 0, 8, l, o)) = Ef (Al (An [([119, 97, 108, 107] : List Int)] l) (fun _ l => Gb l)) fun l x => (Cz k).L 2 [] j (Ke (([119, 97, 108, 107] : List Int), 0, 8, l, o ++ [x])) := by
  rw [A5a, Zw, Cq k [([119, 97, 108, 107] : List Int)] (by decide) (by omega) r]
  cases hwd : An [([119, 97, 108, 107] : List Int)] l with
  | inr e => rfl
  | inl a =>
   obtain ⟨r2, h2⟩ := Dh r (m := a.2) (v := a.1) hwd
   simp only [res, Option.bind_some, orP, Al, Ef]
   rw [Ba9 k hk r2]
   cases Gb a.2 with
   | inr e => rfl
   | inl b =>
    simp only [res, Option.bind_some, orP]
    rw [Hf (by rw [List.length_singleton]; omega) (by rw [List.length_singleton]; omega)]
 rw [A5b, Zx, Ht k _ r, Option.bind_some, Es k 4 r, J]
 have e1 : decide (((o.length : Nat) : Int) < (0 : Int)) = decide (((o.length : Nat) : Int) < ((0 : Nat) : Int)) := rfl
 have e2 : (((o.length : Nat) : Int) == (8 : Int)) = (((o.length : Nat) : Int) == ((8 : Nat) : Int)) := rfl
 rw [e1, e2]
 cases (hd l).2.1 == ([119, 97, 108, 107] : List Int) <;> cases decide (((o.length : Nat) : Int) < ((0 : Nat) : Int)) <;> cases ((o.length : Nat) : Int) == ((8 : Nat) : Int) <;> rfl
theorem Baj (q : Rdy l) (hl : l.length ≤ 100000) : Qc k l = some (res (Fp l) fun s l => (s.1, s.2.1, s.2.2.1, s.2.2.2.1, l, s.2.2.2.2.1)) := by
 rw [A4e, Alg, Ac3 k q]
 refine Ax fun n l1 e1 => ?_
 obtain ⟨r1, h1, -⟩ := Bs q (K5 rfl q.e q.e q.g) e1
 rw [Fk k [([115, 112, 108, 105, 116] : List Int)] (by decide) (by omega) r1]
 refine Ax fun a l2 e2 => ?_
 obtain ⟨r2, h2, -⟩ := Bs r1 (Bx [([115, 112, 108, 105, 116] : List Int)] rfl r1.e r1.e r1.g) e2
 rw [Fk k [([121, 101, 108, 108, 111, 119] : List Int)] (by decide) (by omega) r2]
 refine Ax fun b l3 e3 => ?_
 obtain ⟨r3, h3, -⟩ := Bs r2 (Bx [([121, 101, 108, 108, 111, 119] : List Int)] rfl r2.e r2.e r2.g) e3
 rw [Fk k [([114, 101, 100] : List Int)] (by decide) (by omega) r3]
 refine Ax fun c l4 e4 => ?_
 obtain ⟨r4, h4, -⟩ := Bs r3 (Bx [([114, 101, 100] : List Int)] rfl r3.e r3.e r3.g) e4
 rw [A9w k hk r4 (by omega)]
 refine Ax fun ws l5 e5 => ?_
 have r5 := (Bs r4 (Ic (w := ([119, 97, 108, 107] : List Int)) (by decide) (least := 0) (most := 8) Ads (l4.length + 1) l4 l4 [] rfl r4.e r4.e r4.g (Nat.lt_succ_self _) (fun x hx => by cases hx) (Nat.zero_le _)) e5).1
 rw [Cq k [([59] : List Int)] (by decide) (by omega) r5]
 exact Ax fun _ l6 e6 => rfl
theorem A9t (q : Rdy l) (hl : l.length ≤ 100000) : Qi k (([112, 104, 97, 115, 101] : List Int), 1, 4, l) = some (res (By ([112, 104, 97, 115, 101] : List Int) 1 4 Fp (l.length + 1) l []) fun v l => (l, v)) := by
 rw [A4x, Zg]
 refine K7 (fun j l o => (Cw k).L 2 [] j (Kb (([112, 104, 97, 115, 101] : List Int), 1, 4, l, o))) (w := ([112, 104, 97, 115, 101] : List Int)) (by decide) 1 4 Fp Adp (fun j l o r hl ho => ?_) (l.length + 1) k l [] (by omega) (by omega) q hl (Nat.zero_le _)
 have J : (Cw k).J 5 [j] (Iz (([112, 104, 97, 115, 101] : List Int), 1, 4, l, o)) = Ef (Al (An [([112, 104, 97, 115, 101] : List Int)] l) (fun _ l => Fp l)) fun l x => (Cw k).L 2 [] j (Kb (([112, 104, 97, 115, 101] : List Int), 1, 4, l, o ++ [x])) := by
  rw [A4y, Zh, Cq k [([112, 104, 97, 115, 101] : List Int)] (by decide) (by omega) r]
  cases hwd : An [([112, 104, 97, 115, 101] : List Int)] l with
  | inr e => rfl
  | inl a =>
   obtain ⟨r2, h2⟩ := Dh r (m := a.2) (v := a.1) hwd
   simp only [res, Option.bind_some, orP, Al, Ef]
   rw [Baj k hk r2 (by omega)]
   cases Fp a.2 with
   | inr e => rfl
   | inl b =>
    simp only [res, Option.bind_some, orP]
    rw [Hf (by rw [List.length_singleton]; omega) (by rw [List.length_singleton]; omega)]
 rw [A4z, Zi, Ht k _ r, Option.bind_some, Es k 4 r, J]
 have e1 : decide (((o.length : Nat) : Int) < (1 : Int)) = decide (((o.length : Nat) : Int) < ((1 : Nat) : Int)) := rfl
 have e2 : (((o.length : Nat) : Int) == (4 : Int)) = (((o.length : Nat) : Int) == ((4 : Nat) : Int)) := rfl
 rw [e1, e2]
 cases (hd l).2.1 == ([112, 104, 97, 115, 101] : List Int) <;> cases decide (((o.length : Nat) : Int) < ((1 : Nat) : Int)) <;> cases ((o.length : Nat) : Int) == ((4 : Nat) : Int) <;> rfl
theorem Axb (q : Rdy l) (hl : l.length ≤ 100000) : P5 k (([112, 104, 97, 115, 101] : List Int), 1, 4, l) = some (res (Em ([112, 104, 97, 115, 101] : List Int) 1 4 Fp l) fun v l => (l, v)) := by
 rw [A3m, Akq, Cq k [([123] : List Int)] (by decide) (by omega) q]
 refine Ax fun _ l1 e1 => ?_
 obtain ⟨r1, h1⟩ := Dh q e1
 rw [A9t k hk r1 (by omega)]
 refine Ax fun v l2 e2 => ?_
 have r2 := (Bs r1 (Ic (w := ([112, 104, 97, 115, 101] : List Int)) (by decide) (least := 1) (most := 4) Adp (l1.length + 1) l1 l1 [] rfl r1.e r1.e r1.g (Nat.lt_succ_self _) (fun x hx => by cases hx) (Nat.zero_le _)) e2).1
 rw [Cq k [([125] : List Int)] (by decide) (by omega) r2]
 exact Ax fun _ l3 e3 => rfl
theorem A9o (q : Rdy l) (hl : l.length ≤ 100000) : Qb k l = some (res (Eg l) fun s l => (l, s)) := by
 rw [A4c, Ale, Axb k hk q hl]
 unfold Eg
 cases Em ([112, 104, 97, 115, 101] : List Int) 1 4 Fp l <;> rfl
theorem A9s (q : Rdy l) (hl : l.length ≤ 100000) : Qh k (([114, 105, 110, 103] : List Int), 1, 2, l) = some (res (By ([114, 105, 110, 103] : List Int) 1 2 Eg (l.length + 1) l []) fun v l => (l, v)) := by
 rw [A4t, Zb]
 refine K7 (fun j l o => (Cv k).L 2 [] j (Ka (([114, 105, 110, 103] : List Int), 1, 2, l, o))) (w := ([114, 105, 110, 103] : List Int)) (by decide) 1 2 Eg Ado (fun j l o r hl ho => ?_) (l.length + 1) k l [] (by omega) (by omega) q hl (Nat.zero_le _)
 have J : (Cv k).J 5 [j] (Iy (([114, 105, 110, 103] : List Int), 1, 2, l, o)) = Ef (Al (An [([114, 105, 110, 103] : List Int)] l) (fun _ l => Eg l)) fun l x => (Cv k).L 2 [] j (Ka (([114, 105, 110, 103] : List Int), 1, 2, l, o ++ [x])) := by
  rw [A4u, Zc, Cq k [([114, 105, 110, 103] : List Int)] (by decide) (by omega) r]
  cases hwd : An [([114, 105, 110, 103] : List Int)] l with
  | inr e => rfl
  | inl a =>
   obtain ⟨r2, h2⟩ := Dh r (m := a.2) (v := a.1) hwd
   simp only [res, Option.bind_some, orP, Al, Ef]
   rw [A9o k hk r2 (by omega)]
   cases Eg a.2 with
   | inr e => rfl
   | inl b =>
    simp only [res, Option.bind_some, orP]
    rw [Hf (by rw [List.length_singleton]; omega) (by rw [List.length_singleton]; omega)]
 rw [A4v, Zd, Ht k _ r, Option.bind_some, Es k 4 r, J]
 have e1 : decide (((o.length : Nat) : Int) < (1 : Int)) = decide (((o.length : Nat) : Int) < ((1 : Nat) : Int)) := rfl
 have e2 : (((o.length : Nat) : Int) == (2 : Int)) = (((o.length : Nat) : Int) == ((2 : Nat) : Int)) := rfl
 rw [e1, e2]
 cases (hd l).2.1 == ([114, 105, 110, 103] : List Int) <;> cases decide (((o.length : Nat) : Int) < ((1 : Nat) : Int)) <;> cases ((o.length : Nat) : Int) == ((2 : Nat) : Int) <;> rfl
theorem Axa (q : Rdy l) (hl : l.length ≤ 100000) : P4 k (([114, 105, 110, 103] : List Int), 1, 2, l) = some (res (Em ([114, 105, 110, 103] : List Int) 1 2 Eg l) fun v l => (l, v)) := by
 rw [A3k, Ako, Cq k [([123] : List Int)] (by decide) (by omega) q]
 refine Ax fun _ l1 e1 => ?_
 obtain ⟨r1, h1⟩ := Dh q e1
 rw [A9s k hk r1 (by omega)]
 refine Ax fun v l2 e2 => ?_
 have r2 := (Bs r1 (Ic (w := ([114, 105, 110, 103] : List Int)) (by decide) (least := 1) (most := 2) Ado (l1.length + 1) l1 l1 [] rfl r1.e r1.e r1.g (Nat.lt_succ_self _) (fun x hx => by cases hx) (Nat.zero_le _)) e2).1
 rw [Cq k [([125] : List Int)] (by decide) (by omega) r2]
 exact Ax fun _ l3 e3 => rfl
theorem Bao (q : Rdy l) (hl : l.length ≤ 100000) : Qd k l = some (res (Fq l) fun s l => (l, s.1)) := by
 rw [A4g, Ali, Axa k hk q hl]
 unfold Fq
 cases Em ([114, 105, 110, 103] : List Int) 1 2 Eg l <;> rfl
theorem A9u (q : Rdy l) (hl : l.length ≤ 100000) : Qj k (([103, 114, 111, 117, 112] : List Int), 0, 4, l) = some (res (By ([103, 114, 111, 117, 112] : List Int) 0 4 Fq (l.length + 1) l []) fun v l => (l, v)) := by
 rw [A41, Zl]
 refine K7 (fun j l o => (Cx k).L 2 [] j (Kc (([103, 114, 111, 117, 112] : List Int), 0, 4, l, o))) (w := ([103, 114, 111, 117, 112] : List Int)) (by decide) 0 4 Fq Adq (fun j l o r hl ho => ?_) (l.length + 1) k l [] (by omega) (by omega) q hl (Nat.zero_le _)
 have J : (Cx k).J 5 [j] (I0 (([103, 114, 111, 117, 112] : List Int), 0, 4, l, o)) = Ef (Al (An [([103, 114, 111, 117, 112] : List Int)] l) (fun _ l => Fq l)) fun l x => (Cx k).L 2 [] j (Kc (([103, 114, 111, 117, 112] : List Int), 0, 4, l, o ++ [x])) := by
  rw [A42, Zm, Cq k [([103, 114, 111, 117, 112] : List Int)] (by decide) (by omega) r]
  cases hwd : An [([103, 114, 111, 117, 112] : List Int)] l with
  | inr e => rfl
  | inl a =>
   obtain ⟨r2, h2⟩ := Dh r (m := a.2) (v := a.1) hwd
   simp only [res, Option.bind_some, orP, Al, Ef]
   rw [Bao k hk r2 (by omega)]
   cases Fq a.2 with
   | inr e => rfl
   | inl b =>
    simp only [res, Option.bind_some, orP]
    rw [Hf (by rw [List.length_singleton]; omega) (by rw [List.length_singleton]; omega)]
 rw [A43, Zn, Ht k _ r, Option.bind_some, Es k 4 r, J]
 have e1 : decide (((o.length : Nat) : Int) < (0 : Int)) = decide (((o.length : Nat) : Int) < ((0 : Nat) : Int)) := rfl
 have e2 : (((o.length : Nat) : Int) == (4 : Int)) = (((o.length : Nat) : Int) == ((4 : Nat) : Int)) := rfl
 rw [e1, e2]
 cases (hd l).2.1 == ([103, 114, 111, 117, 112] : List Int) <;> cases decide (((o.length : Nat) : Int) < ((0 : Nat) : Int)) <;> cases ((o.length : Nat) : Int) == ((4 : Nat) : Int) <;> rfl
theorem Axc (q : Rdy l) (hl : l.length ≤ 100000) : P6 k (([103, 114, 111, 117, 112] : List Int), 0, 4, l) = some (res (Em ([103, 114, 111, 117, 112] : List Int) 0 4 Fq l) fun v l => (l, v)) := by
 rw [A3o, Aks, Cq k [([123] : List Int)] (by decide) (by omega) q]
 refine Ax fun _ l1 e1 => ?_
 obtain ⟨r1, h1⟩ := Dh q e1
 rw [A9u k hk r1 (by omega)]
 refine Ax fun v l2 e2 => ?_
 have r2 := (Bs r1 (Ic (w := ([103, 114, 111, 117, 112] : List Int)) (by decide) (least := 0) (most := 4) Adq (l1.length + 1) l1 l1 [] rfl r1.e r1.e r1.g (Nat.lt_succ_self _) (fun x hx => by cases hx) (Nat.zero_le _)) e2).1
 rw [Cq k [([125] : List Int)] (by decide) (by omega) r2]
 exact Ax fun _ l3 e3 => rfl
theorem Bay (q : Rdy l) (hl : l.length ≤ 100000) : Qe k l = some (res (Ga l) fun t l => (t.1, t.2.1, t.2.2.2.1.1, t.2.2.2.1.2.1, l, t.2.2.1)) := by
 rw [A4j, Alq, Ac3 k q]
 refine Ax fun n l1 e1 => ?_
 obtain ⟨r1, h1, -⟩ := Bs q (K5 rfl q.e q.e q.g) e1
 rw [Fk k [([111, 102, 102, 115, 101, 116] : List Int)] (by decide) (by omega) r1]
 refine Ax fun a l2 e2 => ?_
 obtain ⟨r2, h2, -⟩ := Bs r1 (Bx [([111, 102, 102, 115, 101, 116] : List Int)] rfl r1.e r1.e r1.g) e2
 rw [Fk k [([115, 117, 109] : List Int)] (by decide) (by omega) r2]
 refine Ax fun b l3 e3 => ?_
 obtain ⟨r3, h3, -⟩ := Bs r2 (Bx [([115, 117, 109] : List Int)] rfl r2.e r2.e r2.g) e3
 rw [Fk k [([47] : List Int)] (by decide) (by omega) r3]
 refine Ax fun c l4 e4 => ?_
 obtain ⟨r4, h4, -⟩ := Bs r3 (Bx [([47] : List Int)] rfl r3.e r3.e r3.g) e4
 rw [Axc k hk r4 (by omega)]
 exact Ax fun g l5 e5 => rfl
theorem A9v (q : Rdy l) (hl : l.length ≤ 100000) : Qk k (([110, 111, 100, 101] : List Int), 0, 12, l) = some (res (By ([110, 111, 100, 101] : List Int) 0 12 Ga (l.length + 1) l []) fun v l => (l, v)) := by
 rw [A45, Zq]
 refine K7 (fun j l o => (Cy k).L 2 [] j (Kd (([110, 111, 100, 101] : List Int), 0, 12, l, o))) (w := ([110, 111, 100, 101] : List Int)) (by decide) 0 12 Ga Asn (fun j l o r hl ho => ?_) (l.length + 1) k l [] (by omega) (by omega) q hl (Nat.zero_le _)
 have J : (Cy k).J 5 [j] (I1 (([110, 111, 100, 101] : List Int), 0, 12, l, o)) = Ef (Al (An [([110, 111, 100, 101] : List Int)] l) (fun _ l => Ga l)) fun l x => (Cy k).L 2 [] j (Kd (([110, 111, 100, 101] : List Int), 0, 12, l, o ++ [x])) := by
  rw [A46, Zr, Cq k [([110, 111, 100, 101] : List Int)] (by decide) (by omega) r]
  cases hwd : An [([110, 111, 100, 101] : List Int)] l with
  | inr e => rfl
  | inl a =>
   obtain ⟨r2, h2⟩ := Dh r (m := a.2) (v := a.1) hwd
   simp only [res, Option.bind_some, orP, Al, Ef]
   rw [Bay k hk r2 (by omega)]
   cases Ga a.2 with
   | inr e => rfl
   | inl b =>
    simp only [res, Option.bind_some, orP]
    rw [Hf (by rw [List.length_singleton]; omega) (by rw [List.length_singleton]; omega)]
 rw [A47, Zs, Ht k _ r, Option.bind_some, Es k 4 r, J]
 have e1 : decide (((o.length : Nat) : Int) < (0 : Int)) = decide (((o.length : Nat) : Int) < ((0 : Nat) : Int)) := rfl
 have e2 : (((o.length : Nat) : Int) == (12 : Int)) = (((o.length : Nat) : Int) == ((12 : Nat) : Int)) := rfl
 rw [e1, e2]
 cases (hd l).2.1 == ([110, 111, 100, 101] : List Int) <;> cases decide (((o.length : Nat) : Int) < ((0 : Nat) : Int)) <;> cases ((o.length : Nat) : Int) == ((12 : Nat) : Int) <;> rfl
theorem Awg (w : List Int) (q : Rdy l) : Mi k (w, l) = some (res (Jm w l) fun s l => (s.1, s.2, l)) := by
 rw [A4n, Alu, Fk k [w] (by simp) (by omega) q]
 refine Ax fun a l1 e1 => ?_
 have r1 := (Bs q (Bx [w] rfl q.e q.e q.g) e1).1
 rw [Fk k [] (by decide) (by omega) r1]
 refine Ax fun b l2 e2 => ?_
 have r2 := (Bs r1 (Bx [] rfl r1.e r1.e r1.g) e2).1
 rw [Cq k [([59] : List Int)] (by decide) (by omega) r2]
 exact Ax fun _ l3 e3 => rfl
def outP (p : A3) (l : List Tk) := (p.1, p.2.2.1, p.2.2.2.1, p.2.2.2.2.1, p.2.2.2.2.2.1, p.2.2.2.2.2.2.1, p.2.2.2.2.2.2.2, l, p.2.1)
theorem end_run (c : Int) (t : List TimT) (o i : Int × Int) (b : Bool) (z : Bool) (q : Rdy l) : (D9 k).J 11 [] (J7 (l, (0 : Int), (0 : Int), (0 : Int), (0 : Int), (0 : Int), false, (0 : Int), c, o.1, o.2, i.1, i.2, b, (0 : Int), t)) = some (res (endP c t o i b l) outP) := by
 rw [A4a, Yx, Fk k [([59] : List Int), ([115, 112, 101, 110, 116] : List Int)] (by decide) (by omega) q]
 refine Ax fun s l8 e8 => ?_
 have r8 := (Bs q (Bx [([59] : List Int), ([115, 112, 101, 110, 116] : List Int)] rfl q.e q.e q.g) e8).1
 rw [Cq k [([59] : List Int)] (by decide) (by omega) r8]
 refine Ax fun _ l9 e9 => ?_
 have r9 := (Dh r8 e9).1
 rw [I7 r9.e.ne, Es k 50 r9]
 cases (hd l9).1 != 0 <;> simp only [cond_false, cond_true, Option.bind_some, orP, res, outR, outP]
theorem Aw3 {X Y : Type} (F : Bool → List Tk → Option (X ⊕ (Int × Int))) (E : Bool → List Tk → RE Y) (out : Y → List Tk → X) (hF : ∀ b m, Rdy m → F b m = some (res (E b m) out)) (q : Rdy l) : ((D5 k) (([121, 101, 115] : List Int), l)).bind (fun o13 => bif o13.1 then (((D6 k) (o13.2)).bind fun o14 => F o13.1 o14.2.2.2.2)
  else (((Bu k) (([([110, 111] : List Int)] : List (List Int)), o13.2)).bind (orP (fun o15 => F o13.1 o15) (fun o16 => some (.inr (o16.1, o16.2)))))) =
  some (res (Al (Ln l) E) out) := by
 rw [Ht k _ q, Option.bind_some]
 unfold Ln
 cases (hd l).2.1 == ([121, 101, 115] : List Int)
 ·simp only [cond_false]
  rw [Cq k [([110, 111] : List Int)] (by decide) (by omega) q]
  cases hw : An [([110, 111] : List Int)] l with
  | inr e => simp only [res, Option.bind_some, orP, Al]
  | inl a =>
   have r := (Dh q (m := a.2) (v := a.1) hw).1
   simp only [res, Option.bind_some, orP, Al]
   exact hF false _ r
 ·simp only [cond_true, Al]
  rw [Lc k q, Option.bind_some]
  exact hF true _ q.tk1
theorem A84 (q : Rdy l) (hl : l.length ≤ 100000) : Qa k l = some (res (Oi l) outP) := by
 rw [A39, Yw, A8h k _ (by decide) (by omega) q]
 unfold Oi
 refine Ax fun c l1 e1 => ?_
 obtain ⟨r1, h1, -⟩ := Bs q (Bx _ rfl q.e q.e q.g) e1
 rw [Cq k [([59] : List Int)] (by decide) (by omega) r1]
 refine Ax fun _ l2 e2 => ?_
 obtain ⟨r2, h2⟩ := Dh r1 e2
 rw [A9v k hk r2 (by omega)]
 refine Ax fun t l3 e3 => ?_
 obtain ⟨r3, h3, -⟩ := Bs r2 (Ic (w := ([110, 111, 100, 101] : List Int)) (by decide) (least := 0) (most := 12) Asn (l2.length + 1) l2 l2 [] rfl r2.e r2.e r2.g (Nat.lt_succ_self _) (fun x hx => by cases hx) (Nat.zero_le _)) e3
 rw [Awg k hk ([111, 117, 116] : List Int) r3]
 refine Ax fun o l4 e4 => ?_
 have r4 := (Bs r3 (Aso ([111, 117, 116] : List Int) rfl r3.e r3.e r3.g) e4).1
 rw [Awg k hk ([105, 110] : List Int) r4]
 refine Ax fun i l5 e5 => ?_
 have r5 := (Bs r4 (Aso ([105, 110] : List Int) rfl r4.e r4.e r4.g) e5).1
 rw [Cq k [([98, 101, 115, 116] : List Int)] (by decide) (by omega) r5]
 refine Ax fun _ l6 e6 => ?_
 exact Aw3 k hk (fun b m => (D9 k).J 11 [] (J7 (m, (0 : Int), (0 : Int), (0 : Int), (0 : Int), (0 : Int), false, (0 : Int), c, o.1, o.2, i.1, i.2, b, (0 : Int), t))) (fun b m => endP c t o i b m) outP (fun b m r => end_run k hk c t o i b false r) (Dh r5 e6).1
end
end Go.Proofs.YtcmmgllmncllfaaGreatDoorV
namespace Go.Proofs.YtcmmgllmncllfaaGreatDoorV
open Go Go.RowKit
end Go.Proofs.YtcmmgllmncllfaaGreatDoorV
namespace Go.Proofs.YtcmmgllmncllfaaGreatDoorV
open Go Go.RowKit
theorem Bbb {w : List Int} {c : Int} {r : List Int} (e : w = c :: r) (hc : A5 c = true) (hl : ¬ 24 < w.length) (hall : ∀ y ∈ w, Am y = true) : Dy 1 w 0 = true := by
 obtain ⟨t1, t2⟩ := Ow (s := []) hall (fun c r h => by cases h)
 rw [List.append_nil] at t1 t2
 subst e
 have e : c ≠ 35 ∧ Bc c = false := by
  unfold A5 at hc
  unfold Bc
  simp at hc ⊢
  omega
 unfold Dy
 rw [decide_eq_true_eq]
 refine ⟨by simp, ?_, ?_⟩
 ·rw [drp, if_neg e.1, e.2]; rfl
 ·rw [tok1, hc, t1, t2, if_pos rfl, if_neg hl]
theorem tok1_g (s : List Int) : TokG ((tok1 s).2.1, (tok1 s).2.2.1, (tok1 s).2.2.2.1, 0, ()) := by
 cases s with
 | nil => exact ⟨fun h => (by cases h), fun h => (by cases h), by intro h; first | rfl | cases h⟩
 | cons x r =>
  rw [tok1]
  split
  ·rename_i hs
   split
   ·exact ⟨fun h => (by cases h), fun h => (by cases h), by intro h; first | rfl | cases h⟩
   ·rename_i hl
    refine ⟨fun _ => ?_, fun h => (by cases h), by intro h; cases h⟩
    have hx : Am x = true := by unfold Am; rw [hs]; rfl
    have e : (x :: r).takeWhile Am = x :: r.takeWhile Am := by rw [List.takeWhile_cons, hx]; rfl
    exact Bbb e hs hl fun y hy => Od hy
  ·split
   ·split
    ·exact ⟨fun h => (by cases h), fun h => (by cases h), by intro h; first | rfl | cases h⟩
    ·rename_i hl
     refine ⟨fun h => (by cases h), fun _ => ?_, by intro h; cases h⟩
     have := Awd ((x :: r).takeWhile Ak) 0 0 (by decide) (by decide) fun c hc => Od hc
     have hp : (10 : Int) ^ (0 + ((x :: r).takeWhile Ak).length) ≤ 10 ^ 18 := by
      rw [Nat.zero_add]
      exact_mod_cast Nat.pow_le_pow_right (by decide) (by omega)
     show numB (valD ((x :: r).takeWhile Ak)) = true
     unfold numB valD
     simp only [Bool.and_eq_true, decide_eq_true_eq]
     have h18 : (10 : Int) ^ 18 = 1000000000000000000 := by decide
     omega
   ·split
    ·exact ⟨fun h => (by cases h), fun h => (by cases h), by intro h; first | rfl | cases h⟩
    ·exact ⟨fun h => (by cases h), fun h => (by cases h), by intro h; first | rfl | cases h⟩
theorem lx_g (n : Nat) : ∀ (f : Nat) (s : List Int), ∀ t ∈ (lx n f s).2.2, TokG t
 | 0, s, t, h => by cases h
 | f + 1, s, t, h => by
  rw [lx] at h
  cases hd : drp false s with
  | nil =>
   rw [hd] at h
   rcases List.mem_cons.1 h with rfl | h
   ·exact ⟨fun h => (by cases h), fun h => (by cases h), by intro h; first | rfl | cases h⟩
   ·cases h
  | cons x r =>
   rw [hd] at h
   simp only [] at h
   split at h
   ·split at h
    ·rcases List.mem_cons.1 h with rfl | h
     ·exact tok1_g (x :: r)
     ·exact lx_g n f _ t h
    ·cases h
   ·cases h
theorem toks_g (b : List Int) : Gd (toks b).2.2 := by
 intro t h
 unfold toks at h
 split at h
 ·cases h
 ·exact lx_g _ _ _ t h
theorem Aq8 (n : Nat) : ∀ (f : Nat) (s : List Int), s.length < f → (lx n f s).1 = 0 → EndT (lx n f s).2.2 ∧ (lx n f s).2.2.length ≤ s.length + 1
 | 0, s, hf, _ => by omega
 | f + 1, s, hf, h => by
  have hl := Jz false s
  rw [lx] at h ⊢
  cases hd : drp false s with
  | nil => exact ⟨⟨[], _, rfl, rfl⟩, by simp⟩
  | cons x r =>
   rw [hd, List.length_cons] at hl
   rw [hd] at h
   simp only [] at h ⊢
   split at h
   ·rename_i h0
    rw [if_pos h0]
    split at h
    ·rename_i h1
     rw [if_pos h1]
     have hr := Ld h0
     obtain ⟨⟨q, t, e, ht⟩, hlen⟩ := Aq8 n f _ (by omega) h1
     exact ⟨⟨_ :: q, t, by simp only; rw [e]; rfl, ht⟩, by simp only [List.length_cons]; omega⟩
    ·rename_i h1; exact absurd h h1
   ·rename_i h0; exact absurd h h0
theorem Av4 {b : List Int} (h : (toks b).1 = 0) : EndT (toks b).2.2 ∧ (toks b).2.2.length ≤ b.length + 1 := by
 unfold toks at h ⊢
 split at h
 ·simp at h
 ·rename_i hl
  rw [if_neg hl]
  exact Aq8 _ _ b (by omega) h
theorem Ba3 {b : List Int} (h : (toks b).1 = 0) : Rdy (toks b).2.2 ∧ (toks b).2.2.length ≤ b.length + 1 := ⟨⟨(Av4 h).1, toks_g b⟩, (Av4 h).2⟩
theorem Ba1 {b : List Int} (h : 65536 < b.length) : (toks b).1 = 4 := by
 unfold toks
 rw [if_pos h]
theorem A8w (k : Nat) (hk : 200000 ≤ k) (b : List Int) (hb : b.length < k) (hm : b.length < 1000000) :
  Hk k b = some ((Dg b).1.1, (Dg b).1.2.2.1, (Dg b).1.2.2.2.1, (Dg b).1.2.2.2.2.1, (Dg b).1.2.2.2.2.2.1, (Dg b).1.2.2.2.2.2.2.1, (Dg b).1.2.2.2.2.2.2.2, (Dg b).2.1, (Dg b).2.2, (Dg b).1.2.1) := by
 rw [A2r, Ai4, Av3 k b hb hm, Option.bind_some]
 unfold Dg
 by_cases h0 : (toks b).1 = 0
 ·have hb0 : ((toks b).1 != 0) = false := by simpa using h0
  obtain ⟨r, hl⟩ := Ba3 h0
  have hlen : b.length ≤ 65536 := by
   refine Classical.byContradiction fun h => ?_
   have := Ba1 (b := b) (by omega)
   omega
  rw [hb0, cond_false, cond_false, A84 k (by omega) r (by omega)]
  cases Oi (toks b).2.2 <;> rfl
 ·have hb0 : ((toks b).1 != 0) = true := by simpa using h0
  rw [hb0]
  rfl
def Lj (w : Cr) : Prop := w.1.length ≤ 100
def SlotS (s : Av) : Prop := s.1.length ≤ 100 ∧ s.2.2.2.2.1.length ≤ 12 ∧ ∀ w ∈ s.2.2.2.2.1, Lj w
def O4 (l : List Av) : Prop := l.length ≤ 8 ∧ ∀ s ∈ l, SlotS s
def SpanS (g : Cg) : Prop := g.1.length ≤ 6 ∧ ∀ l ∈ g.1, O4 l
def TimS (t : TimT) : Prop := t.1.length ≤ 100 ∧ t.2.2.1.length ≤ 6 ∧ ∀ g ∈ t.2.2.1, SpanS g
def Hb (p : A3) : Prop := p.2.1.length ≤ 15 ∧ ∀ t ∈ p.2.1, TimS t
theorem wlkS_of {w : Cr} (h : wlkB w = true) : Lj w := by
 unfold wlkB at h
 simp only [Bool.and_eq_true] at h
 exact Nat.le_trans (Gt h.1) (by decide)
theorem Bai {s : Av} (h : Cd s = true) : SlotS s := by
 have := La h
 exact ⟨Nat.le_trans (Gt this.1) (by decide), by omega, fun w hw => wlkS_of (this.2.2.2.2.2 w hw)⟩
theorem A9n {l : List Av} (h : Cb l = true) : O4 l := by
 have := Je h
 exact ⟨by omega, fun s hs => Bai (this.2 s hs)⟩
theorem Bam {g : Cg} (h : Cn g = true) : SpanS g := by
 have := Ji h
 exact ⟨by omega, fun s hs => A9n (this.2 s hs)⟩
theorem timS_of {t : TimT} (h : timB t = true) : TimS t := by
 have := Jj h
 exact ⟨Nat.le_trans (Gt this.1) (by decide), by omega, fun s hs => Bam (this.2.2.2.2.2 s hs)⟩
theorem A83 {p : A3} (h : Cl p = true) : Hb p := by
 have := K3 h
 exact ⟨by omega, fun s hs => timS_of (this.2.2.2.2.2.2.2 s hs)⟩
section
variable (k : Nat) (hk : 100000 < k)
include hk
theorem Ac4 (s : List Int) (hs : s.length ≤ 100) : cplannamed k s = some (Bf s) := by
 rw [A3q, Aku, A9m k 1 s 0 0 (by omega) (by omega), Option.bind_some, Ass, Option.bind_some]
 unfold Bf
 cases Dy 1 s 0 <;> cases resB s <;> rfl
omit hk in
theorem A8i (n : Int) : P7 k n = some (!numB n) := by
 rw [A3s, Akx]
 unfold numB
 by_cases h : n < 0
 ·have : ¬ 0 ≤ n := by omega
  simp [h, this]
 ·have : 0 ≤ n := by omega
  by_cases h2 : n ≤ 999999999999999999
  ·have : ¬ n > 999999999999999999 := by omega
   simp [h, *]
  ·have : n > 999999999999999999 := by omega
   simp [h, *]
theorem ctf_num (l : List Int) (hl : l.length < 1000) : L0 k l = some (!(l.all numB)) :=
 Jx l numB _ (fun j i => (Ez k).L 2 [] j (M1 (l, ((l.length : Nat) : Int), i))) k (by omega) (by omega) (fun j i => A1h k j (l, ((l.length : Nat) : Int), i)) (L0 k l) (by rw [A0x, Ag8, A1g, Wz]) (fun x _ => A8i k x)
theorem Tn (l : List Int) (hl : l.length < 1000) : cplannums k l = some (l.all numB) := by
 rw [A3t, Ak0, ctf_num k hk l hl]
 simp
theorem Az6 (l : List (Cr)) (p : Cr → Bool) (hl : l.length < 1000) (hg : ∀ x ∈ l, Mg k (x.1, x.2.1, x.2.2.1) = some (!p x)) : Lz k l = some (!(l.all p)) :=
 Jx l p _ (fun j i => (Ey k).L 2 [] j (M0 (l, ((l.length : Nat) : Int), i))) k (by omega) (by omega) (fun j i => A1e k j (l, ((l.length : Nat) : Int), i)) (Lz k l) (by rw [A0v, Ag4, A1d, Wv]) hg
theorem Az3 (l : List (Av)) (p : Av → Bool) (hl : l.length < 1000) (hg : ∀ x ∈ l, Md k (x.1, x.2.1, x.2.2.1, x.2.2.2.1, x.2.2.2.2.1) = some (!p x)) : Lw k l = some (!(l.all p)) :=
 Jx l p _ (fun j i => (Ev k).L 2 [] j (Mx (l, ((l.length : Nat) : Int), i))) k (by omega) (by omega) (fun j i => A05 k j (l, ((l.length : Nat) : Int), i)) (Lw k l) (by rw [A0p, Ags, A04, Wj]) hg
theorem Az2 (l : List (List Av)) (p : List Av → Bool) (hl : l.length < 1000) (hg : ∀ x ∈ l, Mc k x = some (!p x)) : Lv k l = some (!(l.all p)) :=
 Jx l p _ (fun j i => (Eu k).L 2 [] j (Mw (l, ((l.length : Nat) : Int), i))) k (by omega) (by omega) (fun j i => A02 k j (l, ((l.length : Nat) : Int), i)) (Lv k l) (by rw [A0n, Ago, A01, Wf]) hg
theorem Az4 (l : List (Cg)) (p : Cg → Bool) (hl : l.length < 1000) (hg : ∀ x ∈ l, Me k x.1 = some (!p x)) : Lx k l = some (!(l.all p)) :=
 Jx l p _ (fun j i => (Ew k).L 2 [] j (My (l, ((l.length : Nat) : Int), i))) k (by omega) (by omega) (fun j i => A08 k j (l, ((l.length : Nat) : Int), i)) (Lx k l) (by rw [A0r, Agw, A07, Wn]) hg
theorem Az5 (l : List (TimT)) (p : TimT → Bool) (hl : l.length < 1000) (hg : ∀ x ∈ l, Mf k (x.1, x.2.1, x.2.2.1, x.2.2.2.1.1, x.2.2.2.1.2.1) = some (!p x)) : Ly k l = some (!(l.all p)) :=
 Jx l p _ (fun j i => (Ex k).L 2 [] j (Mz (l, ((l.length : Nat) : Int), i))) k (by omega) (by omega) (fun j i => A1b k j (l, ((l.length : Nat) : Int), i)) (Ly k l) (by rw [A0t, Ag0, A1a, Wr]) hg
omit hk in
theorem Lm {α : Type} {l : List α} {a b : Nat} {p : α → Bool} {c : Option Bool} (hc : c = some (!(l.all p))) :
  (bif (decide (((List.length l : Nat) : Int) < (a : Int))) then (some true) else (bif (decide (((List.length l : Nat) : Int) > (b : Int))) then (some true) else (c.bind fun o1 => some o1))) = some (!(lenB l a b && l.all p)) := by
 rw [hc]
 unfold lenB
 by_cases h1 : l.length < a
 ·rw [show decide (((List.length l : Nat) : Int) < (a : Int)) = true by simp; omega, show decide (a ≤ l.length) = false by simp; omega]
  rfl
 ·rw [show decide (((List.length l : Nat) : Int) < (a : Int)) = false by simp; omega, show decide (a ≤ l.length) = true by simp; omega]
  by_cases h2 : b < l.length
  ·rw [show decide (((List.length l : Nat) : Int) > (b : Int)) = true by simp; omega, show decide (l.length ≤ b) = false by simp; omega]
   rfl
  ·rw [show decide (((List.length l : Nat) : Int) > (b : Int)) = false by simp; omega, show decide (l.length ≤ b) = true by simp; omega]
   rfl
theorem Aw0 (w : Cr) (hw : Lj w) : Mg k (w.1, w.2.1, w.2.2.1) = some (!wlkB w) := by
 unfold Lj at hw
 rw [A28, Aj0, Ac4 k hk _ hw, Option.bind_some, Tn k hk _ (by simp), Option.bind_some]
 unfold wlkB
 simp only [List.all_cons, List.all_nil, Bool.and_true]
 cases Bf w.1 <;> rfl
theorem Aw2 (l : List Cr) (hl : l.length < 1000) (h : ∀ w ∈ l, Lj w) : P3 k (l, 0, 8) = some (!(lenB l 0 8 && l.all wlkB)) := by
 rw [A3i, Akk]
 exact Lm (a := 0) (b := 8) (Az6 k hk l wlkB hl fun x hx => Aw0 k hk x (h x hx))
theorem Awx (s : Av) (hs : SlotS s) : Md k (s.1, s.2.1, s.2.2.1, s.2.2.2.1, s.2.2.2.2.1) = some (!Cd s) := by
 obtain ⟨h1, h2, h3⟩ := hs
 rw [A22, Ajo, Ac4 k hk _ h1, Option.bind_some, Tn k hk _ (by simp), Option.bind_some, Aw2 k hk _ (by omega) h3]
 unfold Cd
 simp only [List.all_cons, List.all_nil, Bool.and_true]
 cases Bf s.1 <;> cases numB s.2.1 <;> cases numB s.2.2.1 <;> cases numB s.2.2.2.1 <;> rfl
theorem Aww (l : List Av) (hl : O4 l) : Mc k l = some (!Cb l) := by
 rw [A20, Ajk, A3c, Aj8]
 have := Lm (a := 1) (b := 4) (Az3 k hk l Cd (by have := hl.1; omega) fun x hx => Awx k hk x (hl.2 x hx))
 rw [show ((1 : Nat) : Int) = 1 from rfl, show ((4 : Nat) : Int) = 4 from rfl] at this
 rw [this]
 rfl
theorem Awy (g : Cg) (hg : SpanS g) : Me k g.1 = some (!Cn g) := by
 rw [A24, Ajs, A3a, Aj4]
 have := Lm (a := 1) (b := 2) (Az2 k hk g.1 Cb (by have := hg.1; omega) fun x hx => Aww k hk x (hg.2 x hx))
 rw [show ((1 : Nat) : Int) = 1 from rfl, show ((2 : Nat) : Int) = 2 from rfl] at this
 rw [this]
 rfl
theorem Awz (t : TimT) (ht : TimS t) : Mf k (t.1, t.2.1, t.2.2.1, t.2.2.2.1.1, t.2.2.2.1.2.1) = some (!timB t) := by
 obtain ⟨h1, h2, h3⟩ := ht
 rw [A26, Ajw, Ac4 k hk _ h1, Option.bind_some, Tn k hk _ (by simp), Option.bind_some, A3e, Akc]
 have := Lm (a := 0) (b := 4) (Az4 k hk t.2.2.1 Cn (by omega) fun x hx => Awy k hk x (h3 x hx))
 rw [show ((0 : Nat) : Int) = 0 from rfl, show ((4 : Nat) : Int) = 4 from rfl] at this
 rw [this]
 unfold timB
 simp only [List.all_cons, List.all_nil, Bool.and_true]
 cases Bf t.1 <;> cases numB t.2.1 <;> cases numB t.2.2.2.1.1 <;> cases numB t.2.2.2.1.2.1 <;> rfl
theorem T9 (p : A3) (hp : Hb p) : Hm k p = some (Cl p) := by
 obtain ⟨a0, a1, a2, a3, a4, a5, a6, a7⟩ := p
 obtain ⟨h1, h2⟩ := hp
 rw [A2y, Ajg, Tn k hk _ (by simp), Option.bind_some, A3g, Akg]
 have := Lm (a := 0) (b := 12) (Az5 k hk a1 timB (by simp only at h1; omega) fun x hx => Awz k hk x (h2 x hx))
 rw [show ((0 : Nat) : Int) = 0 from rfl, show ((12 : Nat) : Int) = 12 from rfl] at this
 rw [this]
 unfold Cl
 simp only [List.all_cons, List.all_nil, Bool.and_true]
 cases numB a0 <;> cases numB a2 <;> cases numB a3 <;> cases numB a4 <;> cases numB a5 <;> cases numB a7 <;> simp
end
theorem gt_n {α : Type} (l : List α) (n : Nat) : decide (((l.length : Nat) : Int) > ((n : Nat) : Int)) = !(decide (l.length ≤ n)) := by
 by_cases h : l.length ≤ n
 ·rw [decide_eq_true h]; simp; omega
 ·rw [decide_eq_false h]; simp; omega
theorem Acp {α : Type} (l : List α) (n : Nat) : decide (((l.length : Nat) : Int) > ((n : Nat) : Int)) = !(lenB l 0 n) := by
 rw [gt_n]; unfold lenB; simp
theorem len2 {α β : Type} {l : List α} {a b : Nat} {e y : β} : (bif decide (((l.length : Nat) : Int) < ((a : Nat) : Int)) then e else (bif decide (((l.length : Nat) : Int) > ((b : Nat) : Int)) then e else y)) = if lenB l a b then y else e := by
 unfold lenB
 by_cases h1 : l.length < a
 ·rw [show decide (((List.length l : Nat) : Int) < (a : Int)) = true by simp; omega, show decide (a ≤ l.length) = false by simp; omega]
  rfl
 ·rw [show decide (((List.length l : Nat) : Int) < (a : Int)) = false by simp; omega, show decide (a ≤ l.length) = true by simp; omega]
  by_cases h2 : b < l.length
  ·rw [show decide (((List.length l : Nat) : Int) > (b : Int)) = true by simp; omega, show decide (l.length ≤ b) = false by simp; omega]
   rfl
  ·rw [show decide (((List.length l : Nat) : Int) > (b : Int)) = false by simp; omega, show decide (l.length ≤ b) = true by simp; omega]
   rfl
theorem Hr {β : Type} {a b : Bool} {y e : β} : (if a then (if b then y else e) else e) = if a && b then y else e := by cases a <;> cases b <;> rfl
theorem G5 (k : Nat) (n : Int) : Ct k n = some (numB n) := by
 rw [A6n, Aoe]
 unfold numB
 by_cases h : n ≥ 0
 ·simp [h]
 ·have : ¬ 0 ≤ n := by omega
  simp [h, this]
theorem A9l (k : Nat) (a b : Int) : Q0 k (a, b) = some (numB a && numB b) := by
 rw [A6m, Aoa, G5, Option.bind_some, G5, Option.bind_some]
 cases numB a <;> rfl
section
variable (k : Nat) (hk : 100000 < k)
include hk
theorem Ady (s : List Int) (hs : s.length ≤ 100) : Jv k s = some (Bf s) := by
 rw [A53, Ana, A90 k 1 s 0 0 (by omega) (by omega), Option.bind_some, A9z k s (by omega), Option.bind_some]
 unfold Bf
 cases Dy 1 s 0 <;> cases resB s <;> rfl
theorem A91 (l : List Av) (hl : O4 l) : Q1 k l = some (Cb l) := by
 have h8 := hl.1
 have L := Ft l Cd (fun j i => (C2 k).L 4 [] j (Kl (l, i))) (some false) (some true)
  (fun j i x hx => by
   obtain ⟨s1, s2, s3⟩ := hl.2 x (B3 hx)
   have LI := Ft x.2.2.2.2.1 wlkB (fun j' i' => (C2 k).L 10 [j] j' (Nz (l, (i : Int), i', x.1, x.2.1, x.2.2.1, x.2.2.2.1, x.2.2.2.2.1))) (some false) ((C2 k).L 4 [] j (Kl (l, ((i + 1 : Nat) : Int))))
    (fun j' i' w hw => by
     have hW : w.1.length ≤ 100 := s3 w (B3 hw)
     rw [Ao1, Sx, A9 hw, At hw, Ady k hk w.1 hW, Option.bind_some, G5, Option.bind_some, G5, Option.bind_some, Bi hw (by omega)]
     unfold wlkB
     cases Bf w.1 <;> cases numB w.2.1 <;> cases numB w.2.2.1 <;> rfl)
    (fun j' => by rw [Ao1, Sx, Be, Bi hx (by omega)]) k (by omega)
   rw [Ao2, Sy, A9 hx, At hx, Ady k hk x.1 s1, Option.bind_some, G5, Option.bind_some, G5, Option.bind_some, G5, Option.bind_some, LI]
   have e8 : decide (((x.2.2.2.2.1.length : Nat) : Int) > (8 : Int)) = !(lenB x.2.2.2.2.1 0 8) := Acp _ 8
   rw [e8]
   unfold Cd
   cases Bf x.1 <;> cases numB x.2.1 <;> cases numB x.2.2.1 <;> cases numB x.2.2.2.1 <;> cases lenB x.2.2.2.2.1 0 8 <;> cases x.2.2.2.2.1.all wlkB <;> rfl)
  (fun j => by rw [Ao2, Sy, Be]) k (by omega)
 rw [A6t, Aby, L]
 refine (len2 (a := 1) (b := 4)).trans ?_
 unfold Cb
 rw [Hr]
 cases lenB l 1 4 && l.all Cd <;> rfl
theorem Adz (p : A3) (hp : Hb p) : Mo k p = some (Cl p) := by
 obtain ⟨a0, a1, a2, a3, a4, a5, a6, a7⟩ := p
 obtain ⟨h1, h2⟩ := hp
 simp only at h1 h2
 have L := Ft a1 timB (fun j i => (Bp k).L 4 [] j (Kk (i, a0, a1, a2, a3, a4, a5, a6, a7))) (some false) (some true)
  (fun j i x hx => by
   obtain ⟨s1, s2, s3⟩ := h2 x (B3 hx)
   have LI := Ft x.2.2.1 Cn (fun j' i' => (Bp k).L 10 [j] j' (Kj ((i : Int), i', a0, a1, a2, a3, a4, a5, a6, a7, x.1, x.2.1, x.2.2.1, x.2.2.2.1.1, x.2.2.2.1.2.1))) (some false) ((Bp k).L 4 [] j (Kk (((i + 1 : Nat) : Int), a0, a1, a2, a3, a4, a5, a6, a7)))
    (fun j' i' g hg => by
     have hG := s3 g (B3 hg)
     have h6 := hG.1
     have LR := Ft g.1 Cb (fun j'' i'' => (Bp k).L 16 [j, j'] j'' (Ny ((i : Int), (i' : Int), g.1, i'', a0, a1, a2, a3, a4, a5, a6, a7, x.1, x.2.1, x.2.2.1, x.2.2.2.1.1, x.2.2.2.1.2.1))) (some false) ((Bp k).L 10 [j] j' (Kj ((i : Int), ((i' + 1 : Nat) : Int), a0, a1, a2, a3, a4, a5, a6, a7, x.1, x.2.1, x.2.2.1, x.2.2.2.1.1, x.2.2.2.1.2.1)))
      (fun j'' i'' r hr => by
       rw [Aos, Su, A9 hr, At hr, A91 k hk r (hG.2 r (B3 hr)), Option.bind_some, Bi hr (by omega)]
       cases Cb r <;> rfl)
      (fun j'' => by rw [Aos, Su, Be, Bi hg (by omega)]) k (by omega)
     rw [Aor, Ss, A9 hg, At hg, LR]
     refine (len2 (a := 1) (b := 2)).trans ?_
     unfold Cn
     rw [Hr])
    (fun j' => by rw [Aor, Ss, Be, Bi hx (by omega)]) k (by omega)
   rw [Aot, Sv, A9 hx, At hx, Ady k hk x.1 s1, Option.bind_some, G5, Option.bind_some, A9l, Option.bind_some, LI]
   have e8 : decide (((x.2.2.1.length : Nat) : Int) > (4 : Int)) = !(lenB x.2.2.1 0 4) := Acp _ 4
   rw [e8]
   unfold timB
   cases Bf x.1 <;> cases numB x.2.1 <;> cases numB x.2.2.2.1.1 <;> cases numB x.2.2.2.1.2.1 <;> cases lenB x.2.2.1 0 4 <;> cases x.2.2.1.all Cn <;> rfl)
  (fun j => by rw [Aot, Sv, Be]) k (by omega)
 rw [A6r, Abt, L]
 simp only [G5, Option.bind_some]
 have e8 : decide (((a1.length : Nat) : Int) > (12 : Int)) = !(lenB a1 0 12) := Acp _ 12
 rw [e8]
 unfold Cl
 simp only
 cases numB a0 <;> cases numB a2 <;> cases numB a3 <;> cases numB a4 <;> cases numB a5 <;> cases numB a7 <;> cases lenB a1 0 12 <;> cases a1.all timB <;> rfl
end
def wlkF (w : Cr) : Bool := decide (w.1.length ≤ 100)
def Oo (s : Av) : Bool := decide (s.1.length ≤ 100) && (decide (s.2.2.2.2.1.length ≤ 12) && s.2.2.2.2.1.all wlkF)
def Ua (l : List Av) : Bool := decide (l.length ≤ 8) && l.all Oo
def Uk (g : Cg) : Bool := decide (g.1.length ≤ 6) && g.1.all Ua
def timF (t : TimT) : Bool := decide (t.1.length ≤ 100) && (decide (t.2.2.1.length ≤ 6) && t.2.2.1.all Uk)
def Oh (p : A3) : Bool := decide (p.2.1.length ≤ 15) && p.2.1.all timF
theorem planF_S {p : A3} (h : Oh p = true) : Hb p := by
 unfold Oh at h
 simp only [Bool.and_eq_true, decide_eq_true_eq, List.all_eq_true] at h
 refine ⟨h.1, fun t ht => ?_⟩
 have h := h.2 t ht
 unfold timF at h
 simp only [Bool.and_eq_true, decide_eq_true_eq, List.all_eq_true] at h
 refine ⟨h.1, h.2.1, fun g hg => ?_⟩
 have h := h.2.2 g hg
 unfold Uk at h
 simp only [Bool.and_eq_true, decide_eq_true_eq, List.all_eq_true] at h
 refine ⟨h.1, fun l hl => ?_⟩
 have h := h.2 l hl
 unfold Ua at h
 simp only [Bool.and_eq_true, decide_eq_true_eq, List.all_eq_true] at h
 refine ⟨h.1, fun s hs => ?_⟩
 have h := h.2 s hs
 unfold Oo at h
 simp only [Bool.and_eq_true, decide_eq_true_eq, List.all_eq_true] at h
 refine ⟨h.1, h.2.1, fun w hw => ?_⟩
 have h := h.2.2 w hw
 unfold wlkF at h
 exact show w.1.length ≤ 100 from of_decide_eq_true h
theorem cif {β : Type} {b : Bool} {y e : β} : (bif !b then e else y) = if b then y else e := by cases b <;> rfl
theorem A0y (k : Nat) (hk : 100000 < k) (p : A3) : Q7 k p = some (Oh p) := by
 obtain ⟨a0, a1, a2, a3, a4, a5, a6, a7⟩ := p
 rw [A7c, Ach, show decide (((a1.length : Nat) : Int) > (15 : Int)) = !(decide (a1.length ≤ 15)) from gt_n _ 15]
 unfold Oh
 simp only
 by_cases h15 : a1.length ≤ 15
 rotate_left
 ·rw [decide_eq_false h15]; rfl
 rw [decide_eq_true h15, Bool.not_true, cond_false, Bool.true_and]
 have L := Ft a1 timF (fun j i => (Ay k).L 4 [] j (Kq (i, a0, a1, a2, a3, a4, a5, a6, a7))) (some false) (some true)
  (fun j i x hx => by
   rw [Apw, S8, A9 hx, At hx, show decide (((x.1.length : Nat) : Int) > (100 : Int)) = !(decide (x.1.length ≤ 100)) from gt_n _ 100, show decide (((x.2.2.1.length : Nat) : Int) > (6 : Int)) = !(decide (x.2.2.1.length ≤ 6)) from gt_n _ 6, cif, cif]
   by_cases h6 : x.2.2.1.length ≤ 6
   rotate_left
   ·unfold timF; rw [decide_eq_false h6]; simp
   have LI := Ft x.2.2.1 Uk (fun j' i' => (Ay k).L 10 [j] j' (Kn ((i : Int), i', a0, a1, a2, a3, a4, a5, a6, a7, x.1, x.2.1, x.2.2.1, x.2.2.2.1.1, x.2.2.2.1.2.1))) (some false) ((Ay k).L 4 [] j (Kq (((i + 1 : Nat) : Int), a0, a1, a2, a3, a4, a5, a6, a7)))
    (fun j' i' g hg => by
     rw [Aps, S4, A9 hg, At hg, show decide (((g.1.length : Nat) : Int) > (6 : Int)) = !(decide (g.1.length ≤ 6)) from gt_n _ 6, cif]
     by_cases hg6 : g.1.length ≤ 6
     rotate_left
     ·unfold Uk; rw [decide_eq_false hg6]; simp
     have LR := Ft g.1 Ua (fun j'' i'' => (Ay k).L 15 [j, j'] j'' (Ko ((i : Int), (i' : Int), i'', a0, a1, a2, a3, a4, a5, a6, a7, x.1, x.2.1, x.2.2.1, x.2.2.2.1.1, x.2.2.2.1.2.1))) (some false) ((Ay k).L 10 [j] j' (Kn ((i : Int), ((i' + 1 : Nat) : Int), a0, a1, a2, a3, a4, a5, a6, a7, x.1, x.2.1, x.2.2.1, x.2.2.2.1.1, x.2.2.2.1.2.1)))
      (fun j2 i2 l hl => by
       rw [Apt, S5, At hg, A9 hl, At hg, At hl, show decide (((l.length : Nat) : Int) > (8 : Int)) = !(decide (l.length ≤ 8)) from gt_n _ 8, cif]
       by_cases hl8 : l.length ≤ 8
       rotate_left
       ·unfold Ua; rw [decide_eq_false hl8]; simp
       have LS := Ft l Oo (fun j3 i3 => (Ay k).L 21 [j, j', j2] j3 (Kp ((i : Int), (i' : Int), (i2 : Int), l, i3, a0, a1, a2, a3, a4, a5, a6, a7, x.1, x.2.1, x.2.2.1, x.2.2.2.1.1, x.2.2.2.1.2.1))) (some false) ((Ay k).L 15 [j, j'] j2 (Ko ((i : Int), (i' : Int), ((i2 + 1 : Nat) : Int), a0, a1, a2, a3, a4, a5, a6, a7, x.1, x.2.1, x.2.2.1, x.2.2.2.1.1, x.2.2.2.1.2.1)))
        (fun j3 i3 s hs => by
         rw [Apu, S6, A9 hs, At hs, At hs, show decide (((s.1.length : Nat) : Int) > (100 : Int)) = !(decide (s.1.length ≤ 100)) from gt_n _ 100, show decide (((s.2.2.2.2.1.length : Nat) : Int) > (12 : Int)) = !(decide (s.2.2.2.2.1.length ≤ 12)) from gt_n _ 12, cif, cif]
         by_cases hs12 : s.2.2.2.2.1.length ≤ 12
         rotate_left
         ·unfold Oo; rw [decide_eq_false hs12]; simp
         have LW := Ft s.2.2.2.2.1 wlkF (fun j4 i4 => (Ay k).L 26 [j, j', j2, j3] j4 (N4 ((i : Int), (i' : Int), (i2 : Int), l, (i3 : Int), i4, a0, a1, a2, a3, a4, a5, a6, a7, x.1, x.2.1, x.2.2.1, x.2.2.2.1.1, x.2.2.2.1.2.1))) (some false) ((Ay k).L 21 [j, j', j2] j3 (Kp ((i : Int), (i' : Int), (i2 : Int), l, ((i3 + 1 : Nat) : Int), a0, a1, a2, a3, a4, a5, a6, a7, x.1, x.2.1, x.2.2.1, x.2.2.2.1.1, x.2.2.2.1.2.1)))
          (fun j4 i4 w hw => by
           rw [Apv, S7, At hs, A9 hw, At hs, At hw, show decide (((w.1.length : Nat) : Int) > (100 : Int)) = !(decide (w.1.length ≤ 100)) from gt_n _ 100, cif, Bi hw (by omega)]
           rfl)
          (fun j4 => by rw [Apv, S7, At hs, Be, Bi hs (by omega)]) k (by omega)
         rw [LW, Hr, Hr]
         unfold Oo
         rw [Bool.and_assoc])
        (fun j3 => by rw [Apu, S6, Be, Bi hl (by omega)]) k (by omega)
       rw [LS, Hr]
       rfl)
      (fun j2 => by rw [Apt, S5, At hg, Be, Bi hg (by omega)]) k (by omega)
     rw [LR, Hr]
     rfl)
    (fun j' => by rw [Aps, S4, Be, Bi hx (by omega)]) k (by omega)
   rw [LI, Hr, Hr]
   unfold timF
   rw [Bool.and_assoc])
  (fun j => by rw [Apw, S8, Be]) k (by omega)
 rw [L]
 cases a1.all timF <;> rfl
end Go.Proofs.YtcmmgllmncllfaaGreatDoorV
