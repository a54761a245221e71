import Derived.Test.YtipcabmhdokfjaaGreatDoorB8
import Derived.Test.YtipcabmhdokfjaaGreatDoorB3
/-! Joined, names shortened: LxP, LxR, LxQ, SR, SR2, NR, NS, QA, QB, QR. -/
set_option linter.unusedVariables false
set_option linter.unusedSimpArgs false
namespace Go.Proofs.YtipcabmhdokfjaaGreatDoorV
open Go Go.RowKit
def kdS (a : Int) : Int := if B7 a then 3 else if A0 a then 4 else if Ck a then 1 else if a = 35 then 2 else if a = 95 then 6 else if D7 a then 5 else 0
theorem Bfq (k : Nat) (a : Int) : clexkind k a = some (kdS a) := by
 skip
 rw [Bzm, Aem, Bzn, Aen, Bzo, Aeo]
 simp only [cd, cbeq]
 unfold kdS B7 A0 Ck D7
 simp only [Bool.and_eq_true, decide_eq_true_eq]
 repeat' (first | (exfalso; omega) | (refine iteS (fun _ => ?_) (fun _ => ?_)))
 all_goals (refine congrArg some ?_; repeat' (first | rfl | (exfalso; omega) | (refine iteR (fun _ => ?_) (fun _ => ?_))))
theorem kd1 (a : Int) : kdS a = 1 ↔ Ck a = true := by
 unfold kdS B7 A0 Ck D7
 simp only [Bool.and_eq_true, decide_eq_true_eq]
 repeat' split
 all_goals first | omega
theorem kd2 (a : Int) : kdS a = 2 ↔ a = 35 := by
 unfold kdS B7 A0 Ck D7
 simp only [Bool.and_eq_true, decide_eq_true_eq]
 repeat' split
 all_goals first | omega
theorem kd3 (a : Int) : kdS a = 3 ↔ B7 a = true := by
 unfold kdS B7 A0 Ck D7
 simp only [Bool.and_eq_true, decide_eq_true_eq]
 repeat' split
 all_goals first | omega
theorem kd4 (a : Int) : kdS a = 4 ↔ A0 a = true := by
 unfold kdS B7 A0 Ck D7
 simp only [Bool.and_eq_true, decide_eq_true_eq]
 repeat' split
 all_goals first | omega
theorem kd5 (a : Int) : kdS a = 5 ↔ D7 a = true := by
 unfold kdS B7 A0 Ck D7
 simp only [Bool.and_eq_true, decide_eq_true_eq]
 repeat' split
 all_goals first | omega
theorem kd6 (a : Int) : kdS a = 6 ↔ a = 95 := by
 unfold kdS B7 A0 Ck D7
 simp only [Bool.and_eq_true, decide_eq_true_eq]
 repeat' split
 all_goals first | omega
theorem Bfp (k : Nat) (b : List Int) (i : Nat) (h : i < b.length) : Pn k (b, (i : Int)) = some (kdS (b.getD i 0), b, (i : Int)) := by
 skip
 rw [Bzs, Atu, cinB, if_pos (by omega), Jo, Bfq]; rfl
theorem Cbr (k : Nat) (b : List Int) (i : Nat) (h : i < b.length) : Mq k (b, (i : Int)) = some (kdS (b.getD i 0)) := by
 skip
 rw [Bzq, Atq, cinB, if_pos (by omega), Jo, Bfq]; rfl
def fstI (v : Int) : List Int → Option Nat
 | [] => none
 | x :: r => if v = x then some 0 else (fstI v r).map (· + 1)
theorem Bfh (k : Nat) (l : List Int) (v : Int) (hl : l.length < 9223372036854775807) : ∀ (j i : Nat), i ≤ l.length → l.length - i < j →
  (G8 k).L 2 [] j (Q5 (l, v, (l.length : Int), (i : Int))) = some (match fstI v (l.drop i) with | some n => ((i + n : Nat) : Int) | none => -1)
 | 0, i, _, h => by omega
 | j + 1, i, hi, h => by
  rw [By5, Ad1, cd, cinB, Jo]
  by_cases hlt : i < l.length
  ·rw [if_pos (by omega), if_pos (by omega), El hlt, fstI, cbeq]
   split
   ·rfl
   ·rw [w64 (by omega), Ge, Bfh k l v hl j (i + 1) (by omega) (by omega)]
    cases fstI v (l.drop (i + 1)) with
    | none => rfl
    | some n => simp only [Option.map_some]; congr 2; omega
  ·have hi2 : i = l.length := by omega
   rw [if_neg (by omega)]
   subst hi2
   simp [fstI]
theorem Cbj (k : Nat) (l : List Int) (v : Int) (hk : l.length < k) (hl : l.length < 9223372036854775807) : To k (l, v) = some (match fstI v l with | some n => (n : Int) | none => -1) := by
 skip
 rw [By4, Ad0]
 have := Bfh k l v hl k 0 (by omega) (by omega)
 simpa using this
theorem Bd4 : ∀ (s : List Int), drp true s = match fstI 10 s with | some n => drp false (s.drop n) | none => []
 | [] => rfl
 | x :: r => by
  rw [drp, fstI]
  by_cases h : x = 10
  ·subst h; simp [drp, Ck]
  ·rw [if_neg h, if_neg (fun e => h e.symm), Bd4 r]
   cases fstI 10 r <;> rfl
theorem Bd3 {v : Int} : ∀ {l : List Int} {n : Nat}, fstI v l = some n → n < l.length ∧ l.getD n 0 = v
 | [], n, h => by cases h
 | x :: r, n, h => by
  simp only [fstI] at h
  split at h
  ·rename_i e; cases h; exact ⟨by simp, by simp [e]⟩
  ·obtain ⟨m, hm, rfl⟩ := Option.map_eq_some_iff.1 h
   have := Bd3 hm
   exact ⟨by simp; omega, by simpa using this.2⟩
theorem Y4 (k : Nat) (b : List Int) (hk : b.length < k) (hl : b.length < 1000000) : ∀ (j i : Nat), i ≤ b.length → b.length - i < j → (Hc k).L 0 [] j (Ln (b, (i : Int))) = some (b, ((b.length - (drp false (b.drop i)).length : Nat) : Int))
 | 0, i, _, h => by omega
 | j + 1, i, hi, h => by
  rw [Bz4, Aez, cd]
  by_cases hlt : i < b.length
  ·rw [if_pos (by omega), Bfp k b i hlt, Option.bind_some]
   dsimp only
   rw [cbeq, cbeq, Je, if_pos (by omega : (0 : Int) ≤ i ∧ (i : Int) ≤ ((b.length : Nat) : Int) ∧ ((b.length : Nat) : Int) ≤ ((b.length : Nat) : Int)), Kd, List.take_length, El hlt]
   simp only [kd1, kd2, drp]
   split
   ·rename_i h2
    rw [Bd4, ← El hlt, Cbj k _ _ (by rw [List.length_drop]; omega) (by rw [List.length_drop]; omega), Option.bind_some, El hlt, fstI, if_neg (by omega)]
    cases hf : fstI 10 (b.drop (i + 1)) with
    | none =>
     simp only [Option.map_none, cd]
     rw [if_neg (by omega), Y4 k b hk hl j b.length (Nat.le_refl _) (by omega)]
     simp [drp]
    | some n =>
     obtain ⟨n1, n2⟩ := Bd3 hf
     rw [List.length_drop] at n1
     simp only [Option.map_some, cd]
     have hpos : ((n + 1 : Nat) : Int) ≥ 0 := by omega
     have hw : -9223372036854775808 ≤ (i : Int) + ((n + 1 : Nat) : Int) ∧ (i : Int) + ((n + 1 : Nat) : Int) ≤ 9223372036854775807 := by omega
     rw [if_pos hpos, w64 hw, show ((i : Int) + ((n + 1 : Nat) : Int)) = ((i + (n + 1) : Nat) : Int) by simp, Y4 k b hk hl j (i + (n + 1)) (by omega) (by omega), List.drop_drop]
     rw [show i + 1 + n = i + (n + 1) by omega]
   ·split
    ·rw [w64 (by omega), Ge]
     exact Y4 k b hk hl j (i + 1) (by omega) (by omega)
    ·rw [← El hlt, List.length_drop]
     congr 3
     omega
  ·rw [if_neg (by omega), List.drop_eq_nil_of_le (by omega)]
   simp [drp]
   omega
theorem Cf9 (k : Nat) (b : List Int) (hk : b.length < k) (hl : b.length < 1000000) (i : Nat) (hi : i ≤ b.length) : Tu k (b, (i : Int)) = some (b, ((b.length - (drp false (b.drop i)).length : Nat) : Int)) := by
 skip
 rw [Bz3, Aey, Y4 k b hk hl k i hi (by omega)]
theorem Anr (k : Nat) (b : List Int) (g : Int → Option Bool) (p : Int → Bool) (hg : ∀ x, g (kdS x) = some (p x)) (L : Nat → Int → List Int → Int → Option (List Int × List Int × Int))
  (hL : ∀ j a0 a1 a2, L (j + 1) a0 a1 a2 = bif (decide (a2 < ((List.length a1 : Nat) : Int))) then ((Mq k (a1, a2)).bind fun o1 => (g o1).bind fun o2 => bif o2 then L j a0 a1 (IntKind.wrap .i64 (a2 + (1 : Int))) else (bif (cutB a0 a2 (List.length a1)) then some ((cutL a1 a0 a2), a1, a2) else none)) else (bif (cutB a0 a2 (List.length a1)) then some ((cutL a1 a0 a2), a1, a2) else none)) (hl : b.length < 1000000) (s : Nat) :
  ∀ (j i : Nat), s ≤ i → i ≤ b.length → b.length - i < j → L j (s : Int) b (i : Int) = some ((b.take (i + ((b.drop i).takeWhile p).length)).drop s, b, ((i + ((b.drop i).takeWhile p).length : Nat) : Int))
 | 0, i, _, _, h => by omega
 | j + 1, i, hs, hi, h => by
  rw [hL, cd]
  by_cases hlt : i < b.length
  ·rw [if_pos (by omega), Cbr k b i hlt, Option.bind_some, hg, Option.bind_some, El hlt, List.takeWhile_cons]
   cases hp : p (b.getD i 0) with
   | true =>
    rw [cond_true, w64 (by omega), Ge, Anr k b g p hg L hL hl s j (i + 1) (by omega) (by omega) (by omega)]
    simp only [if_true, List.length_cons]
    rw [show i + 1 + ((b.drop (i + 1)).takeWhile p).length = i + (((b.drop (i + 1)).takeWhile p).length + 1) by omega]
   | false =>
    rw [cond_false, Je, if_pos (by omega), Kd]
    simp
  ·rw [if_neg (by omega), Je, if_pos (by omega), Kd, @List.drop_eq_nil_of_le _ b i (by omega)]
   simp
theorem Y8 (p : Int → Bool) (b : List Int) (i : Nat) : (b.take (i + ((b.drop i).takeWhile p).length)).drop i = (b.drop i).takeWhile p := by
 rw [List.drop_take]
 simp only [Nat.add_sub_cancel_left]
 exact (List.prefix_iff_eq_take.1 (List.takeWhile_prefix p)).symm
theorem Cdf (k : Nat) (b : List Int) (hk : b.length < k) (hl : b.length < 1000000) (i : Nat) (hi : i ≤ b.length) :
  Ts k (b, (i : Int)) = some ((b.drop i).takeWhile Bh, b, ((i + ((b.drop i).takeWhile Bh).length : Nat) : Int)) := by
 have := Anr k b (Tw k) Bh (fun x => by
  skip
  rw [Bz8, Aud, cbeq, cbeq]
  unfold Bh
  have h6 : (kdS x == 6) = decide (x = 95) := by
   rw [Bool.eq_iff_iff]; simp [kd6]
  rw [h6]
  simp only [kd3, kd4]
  cases B7 x <;> cases A0 x <;> simp) (fun j a0 a1 a2 => (Ha k).L 2 [] j (Q9 (a0, a1, a2))) (fun j a0 a1 a2 => Bz1 k j (a0, a1, a2)) hl i k i (Nat.le_refl _) (by omega) (by omega)
 skip
 rw [Bz0, Aev]
 rw [Y8] at this
 exact this
theorem Cde (k : Nat) (b : List Int) (hk : b.length < k) (hl : b.length < 1000000) (i : Nat) (hi : i ≤ b.length) :
  Tt k (b, (i : Int)) = some ((b.drop i).takeWhile A0, b, ((i + ((b.drop i).takeWhile A0).length : Nat) : Int)) := by
 have := Anr k b (Tr k) A0 (fun x => by
  skip
  rw [Bzu, Aty]
  congr 1
  rw [Bool.eq_iff_iff]; simp [kd4]) (fun j a0 a1 a2 => (Hb k).L 2 [] j (Q8 (a0, a1, a2))) (fun j a0 a1 a2 => Bzy k j (a0, a1, a2)) hl i k i (Nat.le_refl _) (by omega) (by omega)
 skip
 rw [Bzx, Aes]
 rw [Y8] at this
 exact this
theorem Yf {p : Int → Bool} : ∀ {l : List Int} {x : Int}, x ∈ l.takeWhile p → p x = true
 | [], x, h => by simp at h
 | y :: l, x, h => by
  rw [List.takeWhile_cons] at h
  split at h
  ·rename_i hp
   rcases List.mem_cons.1 h with rfl | h
   ·exact hp
   ·exact Yf h
  ·cases h
theorem Bhb : ∀ (l : List Int) (acc m : Nat), acc < 10 ^ m → m + l.length ≤ 18 → (∀ c ∈ l, A0 c = true) →
  ∃ u : Nat, Lib.parseUintM (2 ^ 64 - 1) acc (u8s l) = .ok u ∧ u < 10 ^ 18 ∧ (u : Int) = l.foldl (fun v c => 10 * v + (c - 48)) (acc : Int)
 | [], acc, m, h1, h2, _ => ⟨acc, rfl, Nat.lt_of_lt_of_le h1 (Nat.pow_le_pow_right (by decide) (by simpa using h2)), rfl⟩
 | c :: r, acc, m, h1, h2, h3 => by
  have hc := h3 c (by simp)
  unfold A0 at hc
  simp only [Bool.and_eq_true, decide_eq_true_eq] at hc
  have hu : (UInt8.ofNat c.toNat).toNat = c.toNat := by rw [UInt8.toNat_ofNat']; omega
  have hm : m ≤ 17 := by simp at h2; omega
  have ha : acc < 10 ^ 17 := Nat.lt_of_lt_of_le h1 (Nat.pow_le_pow_right (by decide) hm)
  have hb : acc * 10 + (c.toNat - 48) < 10 ^ (m + 1) := by
   rw [Nat.pow_succ]
   omega
  have hb2 : acc * 10 + (c.toNat - 48) < 10 ^ 18 := Nat.lt_of_lt_of_le hb (Nat.pow_le_pow_right (by decide) (by omega))
  obtain ⟨u, e1, e2, e3⟩ := Bhb r (acc * 10 + (c.toNat - 48)) (m + 1) hb (by simp at h2; omega) fun x hx => h3 x (by simp [hx])
  refine ⟨u, ?_, e2, ?_⟩
  ·show Lib.parseUintM _ _ (UInt8.ofNat c.toNat :: u8s r) = _
   simp only [Lib.parseUintM]
   rw [hu, if_pos (by omega), if_neg (by omega), if_neg (by omega)]
   exact e1
  ·rw [e3, List.foldl_cons]
   congr 1
   omega
theorem Cc9 {l : List Int} (h0 : l ≠ []) (h1 : l.length ≤ 18) (h2 : ∀ x ∈ l, A0 x = true) : Oh (l, 10, 64) = some (valD l, true) := by
 unfold Oh
 rw [if_pos ⟨rfl, rfl, by simp only; omega⟩]
 obtain ⟨u, hu, hlt, hv⟩ := Bhb l 0 0 (by decide) (by simpa using h1) h2
 have : Lib.parseIntB 64 (u8s l) = .ok (u : Int) := by
  cases l with
  | nil => exact absurd rfl h0
  | cons x r =>
   have hc := h2 x (by simp)
   unfold A0 at hc
   simp only [Bool.and_eq_true, decide_eq_true_eq] at hc
   have hx : (UInt8.ofNat x.toNat).toNat = x.toNat := by rw [UInt8.toNat_ofNat']; omega
   have hl : u8s (x :: r) = UInt8.ofNat x.toNat :: u8s r := rfl
   rw [hl] at hu ⊢
   have e1 : ¬ ((UInt8.ofNat x.toNat).toNat = 43 ∨ (UInt8.ofNat x.toNat).toNat = 45) := by omega
   have e2 : ¬ ((UInt8.ofNat x.toNat).toNat = 45) := by omega
   simp only [Lib.parseIntB, Lib.parseUintB, if_neg e1]
   rw [if_neg (by simp), hu]
   simp only [e2]
   rw [if_neg (by simp; omega), if_neg (by simp)]
   simp
 rw [this]
 simp only []
 have hv2 : (u : Int) = valD l := hv
 rw [if_pos, hv2]
 ·have h1 : (u : Int) < 10 ^ 18 := by exact_mod_cast hlt
  simp only [Lit.wf, Bool.and_eq_true, decide_eq_true_eq]
  constructor
  ·exact Int.le_trans (by decide) (Int.natCast_nonneg u)
  ·exact Int.le_trans (Int.le_of_lt h1) (by decide)
theorem Cgs (k : Nat) (b : List Int) (hk : b.length < k) (hl : b.length < 1000000) (i : Nat) (hi : i < b.length) (hx : b.getD i 0 ≠ 35) (hb : Ck (b.getD i 0) = false) :
  ∃ q : Int, Tv k (b, (i : Int)) = some ((tok1 (b.drop i)).2.1, (tok1 (b.drop i)).2.2.1, (tok1 (b.drop i)).2.2.2.1, 0, (tok1 (b.drop i)).1, b, q) ∧ ((tok1 (b.drop i)).1 = 0 → q = ((b.length - (tok1 (b.drop i)).2.2.2.2.length : Nat) : Int)) := by
 have e0 := El hi
 have elen : (b.drop i).length = b.length - i := List.length_drop
 skip
 rw [Bz6, At9, Bfp k b i hi, Option.bind_some]
 dsimp only
 rw [cbeq, cbeq, cbeq]
 simp only [kd3, kd4, kd5]
 split
 ·rename_i h3
  have hw := List.takeWhile_append_dropWhile (p := Bh) (l := b.drop i)
  have hw2 := congrArg List.length hw
  rw [List.length_append, elen] at hw2
  skip
  rw [Bz9, Aug, Cdf k b hk hl i (by omega), Option.bind_some]
  simp only [cd]
  have et : tok1 (b.drop i) = if 24 < ((b.drop i).takeWhile Bh).length then (4, 0, [], 0, []) else (0, 1, (b.drop i).takeWhile Bh, 0, (b.drop i).dropWhile Bh) := by
   rw [e0, tok1, if_pos h3]
  rw [et]
  by_cases h24 : 24 < ((b.drop i).takeWhile Bh).length
  ·rw [if_pos (by omega), if_pos h24]
   exact ⟨_, rfl, fun h => by simp at h⟩
  ·rw [if_neg (by omega), if_neg h24]
   exact ⟨_, rfl, fun _ => by simp only []; omega⟩
 ·rename_i h3
  split
  ·rename_i h4
   have hw := List.takeWhile_append_dropWhile (p := A0) (l := b.drop i)
   have hw2 := congrArg List.length hw
   rw [List.length_append, elen] at hw2
   skip
   rw [Bzv, At1, Cde k b hk hl i (by omega), Option.bind_some]
   simp only [cd]
   have et : tok1 (b.drop i) = if 18 < ((b.drop i).takeWhile A0).length then (4, 0, [], 0, []) else (0, 2, (b.drop i).takeWhile A0, valD ((b.drop i).takeWhile A0), (b.drop i).dropWhile A0) := by
    rw [e0, tok1, if_neg h3, if_pos h4]
   rw [et]
   by_cases h18 : 18 < ((b.drop i).takeWhile A0).length
   ·rw [if_pos (by omega), if_pos h18]
    exact ⟨_, rfl, fun h => by simp at h⟩
   ·rw [if_neg (by omega), if_neg h18]
    rw [show Acb k ((b.drop i).takeWhile A0, 10, 64) = some (valD ((b.drop i).takeWhile A0), true) from Cc9 (by rw [e0, List.takeWhile_cons, if_pos h4]; simp) (by omega) (fun x hx => Yf hx), Option.bind_some]
    exact ⟨_, rfl, fun _ => by simp only []; omega⟩
  ·rename_i h4
   have et : tok1 (b.drop i) = if D7 (b.getD i 0) then (0, 3, [b.getD i 0], 0, b.drop (i + 1)) else (40, 0, [], 0, []) := by
    rw [e0, tok1, if_neg h3, if_neg h4]
   rw [et]
   split
   ·rename_i h5
    rw [w64 (n := (i : Int) + 1) (by omega), w64 (by omega), Je, if_pos (by omega), Ge]
    rw [show (((i + 1 : Nat) : Int) - 1) = (i : Int) by omega, Kd]
    refine ⟨_, ?_, fun _ => rfl⟩
    have e1 : (b.take (i + 1)).drop i = [b.getD i 0] := by
     rw [List.drop_take, e0, show i + 1 - i = 1 by omega]; rfl
    rw [e1]
    congr 7
    simp only [List.length_drop]
    omega
   ·exact ⟨_, rfl, fun h => by simp at h⟩
theorem Bog (k : Nat) (b : List Int) (hk : b.length < k) (hl : b.length < 1000000) : ∀ (j i : Nat) (out : List Tk), i ≤ b.length → b.length - i < j → out.length ≤ i →
  (G9 k).L 5 [] j (Q7 (b, b, (i : Int), out)) = some ((lx b.length j (b.drop i)).1, (lx b.length j (b.drop i)).2.1, if (lx b.length j (b.drop i)).1 = 0 then out ++ (lx b.length j (b.drop i)).2.2 else [])
 | 0, i, out, _, h, _ => by omega
 | j + 1, i, out, hi, h, ho => by
  have hd := M1 false (b.drop i)
  have hsuf := (Ke false (b.drop i)).trans (List.drop_suffix i b)
  rw [List.length_drop] at hd
  rw [Bzj, Aei, Cf9 k b hk hl i hi, Option.bind_some, lx]
  cases hs : drp false (b.drop i) with
  | nil =>
   dsimp only
   rw [List.length_nil, Nat.sub_zero, cbeq, if_pos rfl, Pa, if_pos (by simp only [List.length_cons, List.length_nil]; omega)]
   rfl
  | cons x r =>
   rw [hs] at hd hsuf
   obtain ⟨h35, hbl⟩ := M0 false _ hs
   have hsuf2 := List.suffix_iff_eq_drop.1 hsuf
   generalize hp : b.length - (x :: r).length = p at *
   have hlen2 : (x :: r).length ≤ b.length := by omega
   have hpl : p < b.length := by rw [List.length_cons] at hd hp; omega
   have hx : b.getD p 0 = x := by
    have := El hpl
    rw [← hsuf2] at this
    exact (List.cons.inj this).1.symm
   dsimp only
   rw [cbeq, if_neg (by omega)]
   obtain ⟨q, e, hq⟩ := Cgs k b hk hl p hpl (by rw [hx]; exact h35) (by rw [hx]; exact hbl)
   rw [← hsuf2] at e hq
   rw [e, Option.bind_some]
   dsimp only
   rw [cbne]
   by_cases h0 : (tok1 (x :: r)).1 = 0
   ·have hr := Ov h0
    obtain ⟨s1, s2, s3, s4⟩ := Mi h0
    simp only [if_pos h0]
    rw [Pa, if_pos (by simp only [List.length_cons, List.length_nil]; omega), hq h0]
    rw [List.length_cons] at hd hp
    have hsub : b.drop (b.length - (tok1 (x :: r)).2.2.2.2.length) = (tok1 (x :: r)).2.2.2.2 := by
     have hs3 : (tok1 (x :: r)).2.2.2.2 <:+ b := (List.suffix_append _ _).trans (s1 ▸ hsuf)
     exact (List.suffix_iff_eq_drop.1 hs3).symm
    have := Bog k b hk hl j (b.length - (tok1 (x :: r)).2.2.2.2.length) (out ++ [((tok1 (x :: r)).2.1, ((tok1 (x :: r)).2.2.1, ((tok1 (x :: r)).2.2.2.1, (((p : Nat) : Int), ()))))]) (by omega) (by omega) (by rw [List.length_append]; simp only [List.length_cons, List.length_nil]; omega)
    rw [hsub] at this
    rw [this]
    by_cases h1 : (lx b.length j (tok1 (x :: r)).2.2.2.2).1 = 0
    ·have hz := Bga _ _ _ h1
     simp only [if_pos h1, h1, hz]
     simp
     omega
    ·simp only [if_neg h1]
   ·simp only [if_neg h0, hp]
theorem Boh (k : Nat) (b : List Int) (hk : b.length < k) (hm : b.length < 1000000) : Pm k b = some (toks b) := by
 unfold toks
 rw [Bzi, Aeh, cd]
 by_cases hl : 65536 < b.length
 ·rw [if_pos (by omega), if_pos hl]
 ·rw [if_neg (by omega), if_neg hl, show (0 : Int) = ((0 : Nat) : Int) from rfl, Bog k b hk (by omega) k 0 [] (Nat.zero_le _) (by omega) (Nat.zero_le _)]
  rw [List.drop_zero, Anb _ k (b.length + 1) b (by omega) (by omega), List.nil_append]
  have : ∀ (f : Nat) (s : List Int), (if (lx b.length f s).1 = 0 then (lx b.length f s).2.2 else []) = (lx b.length f s).2.2 := by
   intro f s
   split
   ·rfl
   ·rename_i h
    cases f with
    | zero => exact absurd rfl h
    | succ f =>
     rw [lx] at h ⊢
     cases hd : drp false s with
     | nil => rw [hd] at h; exact absurd rfl h
     | cons x r =>
      rw [hd] at h
      simp only [] at h ⊢
      split
      ·rename_i h0
       rw [if_pos h0] at h
       split
       ·rename_i h1; rw [if_pos h1] at h; exact absurd rfl h
       ·rfl
      ·rfl
  rw [this]
theorem Bh0 (k : Nat) (b : List Int) (hl : b.length < 1000000) (j1 i0 : Nat) (H : ∀ i, i0 < i → i ≤ b.length → (D3 k).L 1 [] j1 (Hp (b, (i : Int))) = some ((b.length - (drp false (b.drop i)).length : Nat) : Int)) :
  ∀ (j i : Nat), i0 < i → i ≤ b.length → b.length - i < j → (D3 k).L 3 [j1] j (Rv (b, (i : Int))) = some ((b.length - (drp true (b.drop i)).length : Nat) : Int)
 | 0, i, _, _, h => by omega
 | j + 1, i, h0, hi, h => by
  rw [A7j, W2, cd, cinB, cbne, Jo]
  by_cases hlt : i < b.length
  ·rw [if_pos (by omega), if_pos (by omega), El hlt, drp]
   by_cases hn : b.getD i 0 = 10
   ·rw [if_pos hn, if_pos hn, H i h0 hi, El hlt, drp, hn]
    rfl
   ·rw [if_neg hn, if_neg hn, w64 (by omega), Ge]
    exact Bh0 k b hl j1 i0 H j (i + 1) (by omega) (by omega) (by omega)
  ·rw [if_neg (by omega), H i h0 hi, @List.drop_eq_nil_of_le _ b i (by omega)]
   simp [drp]
theorem An4 (k : Nat) (b : List Int) (hk : b.length < k) (hl : b.length < 1000000) : ∀ (j i : Nat), i ≤ b.length → b.length - i < j → (D3 k).L 1 [] j (Hp (b, (i : Int))) = some ((b.length - (drp false (b.drop i)).length : Nat) : Int)
 | 0, i, _, h => by omega
 | j + 1, i, hi, h => by
  rw [B6f, Ais]
  simp only [cd, cinB, cbeq, Jo]
  by_cases hlt : i < b.length
  ·rw [if_pos (by omega)]
   simp only [if_pos (show (0 : Int) ≤ (i : Int) ∧ (i : Int) < (b.length : Int) by omega)]
   have IH := An4 k b hk hl j (i + 1) (by omega) (by omega)
   rw [w64 (by omega), Ge, IH, El hlt, drp]
   by_cases h35 : b.getD i 0 = 35
   ·rw [if_pos h35, if_pos h35]
    obtain ⟨k', rfl⟩ : ∃ k', k = k' + 1 := ⟨k - 1, by omega⟩
    rw [A7j, W2, cd, cinB, cbne, Jo, if_pos (by omega), if_pos (by omega), if_neg (by omega), w64 (by omega), Ge]
    exact Bh0 _ b hl j i (fun i' h1 h2 => An4 _ b hk hl j i' h2 (by omega)) k' (i + 1) (by omega) (by omega) (by omega)
   ·rw [if_neg h35, if_neg h35]
    unfold Ck
    simp only [decide_eq_true_eq]
    have e : b.length - (b.getD i 0 :: b.drop (i + 1)).length = i := by rw [List.length_cons, List.length_drop]; omega
    by_cases h1 : b.getD i 0 = 32
    ·rw [if_pos h1, if_pos (by omega)]
    ·rw [if_neg h1]
     by_cases h2 : b.getD i 0 = 9
     ·rw [if_pos h2, if_pos (by omega)]
     ·rw [if_neg h2]
      by_cases h3 : b.getD i 0 = 10
      ·rw [if_pos h3, if_pos (by omega)]
      ·rw [if_neg h3]
       by_cases h4 : b.getD i 0 = 13
       ·rw [if_pos h4, if_pos (by omega)]
       ·rw [if_neg h4, if_neg (by omega), e]
  ·rw [if_neg (by omega), @List.drop_eq_nil_of_le _ b i (by omega)]
   simp [drp]
   omega
theorem Bh1 (k : Nat) (b : List Int) (hk : b.length < k) (hl : b.length < 1000000) (i : Nat) (hi : i ≤ b.length) : Pv k (b, (i : Int)) = some ((b.length - (drp false (b.drop i)).length : Nat) : Int) := by
 skip
 rw [B6e, Air, An4 k b hk hl k i hi (by omega)]
theorem Boa (k : Nat) (a : Int) : Pw k a = some (B7 a) := by
 unfold B7
 rw [B6g, A7n]
 by_cases h : a ≥ 97
 ·simp [h]
 ·have : ¬ 97 ≤ a := by omega
  simp [h]
theorem Acm (k : Nat) (a : Int) : Mw k a = some (A0 a) := by
 unfold A0
 rw [B58, A7a]
 by_cases h : a ≥ 48
 ·simp [h]
 ·simp [h]
theorem Cf7 (k : Nat) (a : Int) : Vp k a = some (D7 a) := by
 unfold D7
 rw [B6d, A7g]
 simp only [cbeq]
 repeat' (first | (refine iteS (fun _ => ?_) (fun _ => ?_)))
 all_goals (refine congrArg some ?_; rw [Bool.eq_iff_iff]; simp; try omega)
theorem rword (k : Nat) (b : List Int) (hl : b.length < 1000000) (s : Nat) (x3 : Int) (x4 : List Int) (x5 x6 : Int) :
  ∀ (j i : Nat), s ≤ i → i ≤ b.length → b.length - i < j → (Eb k).L 3 [] j (Lq (b, (s : Int), (i : Int), x3, x4, x5, x6)) =
   (if 24 < i + ((b.drop i).takeWhile Bh).length - s then some (0, [], 0, 0, 4) else some (1, (b.take (i + ((b.drop i).takeWhile Bh).length)).drop s, 0, (s : Int), 0))
 | 0, i, _, _, h => by omega
 | j + 1, i, hs, hi, h => by
  have fin : ∀ n : Nat, n = i → (if 24 < n - s then some ((0 : Int), ([] : List Int), (0 : Int), (0 : Int), (4 : Int)) else if (0 : Int) ≤ (s : Int) ∧ (s : Int) ≤ (i : Int) ∧ (i : Int) ≤ (b.length : Int) then some (1, cutL b (s : Int) (i : Int), 0, (s : Int), 0) else none) = (if 24 < n - s then some (0, [], 0, 0, 4) else some (1, (b.take n).drop s, 0, (s : Int), 0)) := by
   rintro n rfl
   rw [if_pos (by omega : (0 : Int) ≤ (s : Int) ∧ (s : Int) ≤ (n : Int) ∧ (n : Int) ≤ (b.length : Int)), Kd]
  rw [B6c, Aim]
  simp only [cd, cinB, cbeq, Jo, Je]
  rw [w64 (n := (i : Int) - (s : Int)) (by omega)]
  have e24 : ((i : Int) - (s : Int) > 24) = (24 < i - s) := by rw [eq_iff_iff]; omega
  simp only [e24]
  by_cases hlt : i < b.length
  ·rw [if_pos (by omega)]
   simp only [if_pos (show (0 : Int) ≤ (i : Int) ∧ (i : Int) < (b.length : Int) by omega)]
   rw [Boa, Option.bind_some, Acm, Option.bind_some, w64 (n := (i : Int) + 1) (by omega), Ge, El hlt, List.takeWhile_cons]
   have IH := rword k b hl s x3 x4 x5 x6 j (i + 1) (by omega) (by omega) (by omega)
   rw [show i + 1 + ((b.drop (i + 1)).takeWhile Bh).length = i + (((b.drop (i + 1)).takeWhile Bh).length + 1) by omega] at IH
   rw [IH]
   cases hw : Bh (b.getD i 0) with
   | true =>
    simp only [if_true, List.length_cons]
    unfold Bh at hw
    cases h1 : B7 (b.getD i 0) with
    | true => rw [cond_true]
    | false =>
     rw [cond_false]
     cases h2 : A0 (b.getD i 0) with
     | true => rw [cond_true]
     | false =>
      rw [cond_false]
      rw [h1, h2] at hw
      rw [if_pos (by simpa using hw)]
   | false =>
    unfold Bh at hw
    simp only [Bool.or_eq_false_iff, decide_eq_false_iff_not] at hw
    rw [hw.1, cond_false, hw.2.1, cond_false, if_neg hw.2.2]
    simp only [Bool.false_eq_true, if_false, List.length_nil]
    exact fin _ rfl
  ·rw [if_neg (by omega), @List.drop_eq_nil_of_le _ b i (by omega)]
   simp only [List.takeWhile_nil, List.length_nil]
   exact fin _ rfl
theorem rnum (k : Nat) (b : List Int) (hl : b.length < 1000000) (s : Nat) (x4 : Int) (x5 : List Int) (x6 x7 : Int) :
  ∀ (j i : Nat) (v : Int), s ≤ i → i ≤ b.length → b.length - i < j → (i - s ≤ 18 → 0 ≤ v ∧ v < 10 ^ (i - s)) → (Eb k).L 10 [] j (Nd (b, (s : Int), (i : Int), v, x4, x5, x6, x7)) =
   (if 18 < i + ((b.drop i).takeWhile A0).length - s then some (0, [], 0, 0, 4) else some (2, (b.take (i + ((b.drop i).takeWhile A0).length)).drop s, ((b.drop i).takeWhile A0).foldl (fun v c => 10 * v + (c - 48)) v, (s : Int), 0))
 | 0, i, v, _, _, h, _ => by omega
 | j + 1, i, v, hs, hi, h, hv => by
  have fin : ∀ n : Nat, n = i → (if 18 < n - s then some ((0 : Int), ([] : List Int), (0 : Int), (0 : Int), (4 : Int)) else if (0 : Int) ≤ (s : Int) ∧ (s : Int) ≤ (i : Int) ∧ (i : Int) ≤ (b.length : Int) then some (2, cutL b (s : Int) (i : Int), v, (s : Int), 0) else none) = (if 18 < n - s then some (0, [], 0, 0, 4) else some (2, (b.take n).drop s, v, (s : Int), 0)) := by
   rintro n rfl
   rw [if_pos (by omega : (0 : Int) ≤ (s : Int) ∧ (s : Int) ≤ (n : Int) ∧ (n : Int) ≤ (b.length : Int)), Kd]
  rw [B6b, Ail]
  simp only [cd, cinB, cbeq, Jo, Je]
  rw [w64 (n := (i : Int) - (s : Int)) (by omega)]
  have e24 : ((i : Int) - (s : Int) > 18) = (18 < i - s) := by rw [eq_iff_iff]; omega
  have e25 : ((i : Int) - (s : Int) < 18) = (i - s < 18) := by rw [eq_iff_iff]; omega
  simp only [e24, e25]
  by_cases hlt : i < b.length
  ·rw [if_pos (by omega)]
   simp only [if_pos (show (0 : Int) ≤ (i : Int) ∧ (i : Int) < (b.length : Int) by omega)]
   rw [Acm, Option.bind_some, w64 (n := (i : Int) + 1) (by omega), Ge, El hlt, List.takeWhile_cons]
   cases hw : A0 (b.getD i 0) with
   | true =>
    have hd := hw
    unfold A0 at hd
    simp only [Bool.and_eq_true, decide_eq_true_eq] at hd
    simp only [if_true, List.length_cons, cond_true, List.foldl_cons]
    by_cases h18 : i - s < 18
    ·obtain ⟨v1, v2⟩ := hv (by omega)
     have v3 : v < 10 ^ 17 := Int.lt_of_lt_of_le v2 (by exact_mod_cast Nat.pow_le_pow_right (by decide) (by omega : i - s ≤ 17))
     have v4 : 10 * v + (b.getD i 0 - 48) < 10 ^ (i + 1 - s) := by
      rw [show i + 1 - s = (i - s) + 1 by omega, Int.pow_succ]
      omega
     rw [if_pos h18, wu8 (by omega), w64 (n := 10 * v) (by omega), w64 (n := b.getD i 0 - 48) (by omega), w64 (n := 10 * v + (b.getD i 0 - 48)) (by omega)]
     have IH := rnum k b hl s x4 x5 x6 x7 j (i + 1) (10 * v + (b.getD i 0 - 48)) (by omega) (by omega) (by omega) (fun _ => ⟨by omega, v4⟩)
     rw [show i + 1 + ((b.drop (i + 1)).takeWhile A0).length = i + (((b.drop (i + 1)).takeWhile A0).length + 1) by omega] at IH
     exact IH
    ·rw [if_neg h18]
     have IH := rnum k b hl s x4 x5 x6 x7 j (i + 1) v (by omega) (by omega) (by omega) (fun h => by omega)
     rw [IH, if_pos (by omega), if_pos (by omega)]
   | false =>
    simp only [Bool.false_eq_true, if_false, List.length_nil, cond_false, List.foldl_nil]
    exact fin _ rfl
  ·rw [if_neg (by omega), @List.drop_eq_nil_of_le _ b i (by omega)]
   simp only [List.takeWhile_nil, List.length_nil, List.foldl_nil]
   exact fin _ rfl
theorem Cc0 (k : Nat) (b : List Int) (hk : b.length < k) (hl : b.length < 1000000) (i : Nat) (hi : i < b.length) :
  ∃ q : Int, Vo k (b, (i : Int)) = some ((tok1 (b.drop i)).2.1, (tok1 (b.drop i)).2.2.1, (tok1 (b.drop i)).2.2.2.1, q, (tok1 (b.drop i)).1) ∧ ((tok1 (b.drop i)).1 = 0 → q = (i : Int)) := by
 have e0 := El hi
 skip
 rw [B6a, Aik]
 simp only [cinB, Jo]
 simp only [if_pos (show (0 : Int) ≤ (i : Int) ∧ (i : Int) < (b.length : Int) by omega)]
 rw [Boa, Option.bind_some, Acm, Option.bind_some, Cf7, Option.bind_some]
 rw [rword k b hl i _ _ _ _ k i (Nat.le_refl _) (by omega) (by omega), rnum k b hl i _ _ _ _ k i 0 (Nat.le_refl _) (by omega) (by omega) (fun _ => by rw [Nat.sub_self]; decide)]
 rw [Y8, Y8, Nat.add_sub_cancel_left, Nat.add_sub_cancel_left]
 cases h1 : B7 (b.getD i 0) with
 | true =>
  have et : tok1 (b.drop i) = if 24 < ((b.drop i).takeWhile Bh).length then (4, 0, [], 0, []) else (0, 1, (b.drop i).takeWhile Bh, 0, (b.drop i).dropWhile Bh) := by
   rw [e0, tok1, if_pos h1]
  rw [et, cond_true]
  split
  ·exact ⟨_, rfl, fun h => by simp at h⟩
  ·exact ⟨_, rfl, fun _ => rfl⟩
 | false =>
  rw [cond_false]
  cases h2 : A0 (b.getD i 0) with
  | true =>
   have et : tok1 (b.drop i) = if 18 < ((b.drop i).takeWhile A0).length then (4, 0, [], 0, []) else (0, 2, (b.drop i).takeWhile A0, valD ((b.drop i).takeWhile A0), (b.drop i).dropWhile A0) := by
    rw [e0, tok1, if_neg (by rw [h1]; exact Bool.false_ne_true), if_pos h2]
   rw [et, cond_true]
   split
   ·exact ⟨_, rfl, fun h => by simp at h⟩
   ·exact ⟨_, rfl, fun _ => rfl⟩
  | false =>
   rw [cond_false]
   have et : tok1 (b.drop i) = if D7 (b.getD i 0) then (0, 3, [b.getD i 0], 0, b.drop (i + 1)) else (40, 0, [], 0, []) := by
    rw [e0, tok1, if_neg (by rw [h1]; exact Bool.false_ne_true), if_neg (by rw [h2]; exact Bool.false_ne_true)]
   rw [et]
   cases h3 : D7 (b.getD i 0) with
   | true =>
    rw [cond_true, w64 (by omega), Je, if_pos (by omega), Ge, Kd]
    have e1 : (b.take (i + 1)).drop i = [b.getD i 0] := by
     rw [List.drop_take, e0, show i + 1 - i = 1 by omega]; rfl
    rw [e1]
    exact ⟨_, rfl, fun _ => rfl⟩
   | false =>
    rw [cond_false]
    exact ⟨_, rfl, fun h => by simp at h⟩
theorem Bh2 (k : Nat) (b : List Int) (hk : b.length < k) (hl : b.length < 1000000) : ∀ (j i : Nat) (out : List Tk), i ≤ b.length → b.length - i < j → out.length ≤ i → drp false (b.drop i) = b.drop i →
  (Ho k).L 5 [] j (Ru (b, (i : Int), out)) = some ((lx b.length j (b.drop i)).1, (lx b.length j (b.drop i)).2.1, if (lx b.length j (b.drop i)).1 = 0 then out ++ (lx b.length j (b.drop i)).2.2 else [])
 | 0, i, out, _, h, _, _ => by omega
 | j + 1, i, out, hi, h, ho, hd => by
  rw [B56, Aif, cd, lx, hd]
  by_cases hlt : i < b.length
  ·rw [if_pos (by omega)]
   obtain ⟨q, e, hq⟩ := Cc0 k b hk hl i hlt
   rw [e, Option.bind_some]
   have el : b.length - (b.drop i).length = i := by rw [List.length_drop]; omega
   have e0 := El hlt
   generalize hx : b.getD i 0 = x at e0
   generalize hr : b.drop (i + 1) = r at e0
   have hlr : r.length = b.length - (i + 1) := by rw [← hr, List.length_drop]
   rw [e0] at el hq
   rw [e0]
   dsimp only
   rw [cbne]
   by_cases h0 : (tok1 (x :: r)).1 = 0
   ·have hr1 := Ov h0
    obtain ⟨s1, s2, s3, s4⟩ := Mi h0
    have s5 := congrArg List.length s1
    rw [List.length_append, List.length_cons] at s5
    simp only [if_pos h0]
    rw [Pa, if_pos (by simp only [List.length_cons, List.length_nil]; omega), hq h0, w64 (by omega)]
    generalize hp : i + (tok1 (x :: r)).2.2.1.length = p
    have hpq : b.drop p = (tok1 (x :: r)).2.2.2.2 := by
     rw [← hp, ← List.drop_drop, e0]
     have s6 := congrArg (List.drop (tok1 (x :: r)).2.2.1.length) s1
     rw [List.drop_left] at s6
     exact s6.symm
    have hpl : p ≤ b.length := by omega
    rw [show (i : Int) + (((tok1 (x :: r)).2.2.1.length : Nat) : Int) = (p : Int) by omega, Bh1 k b hk hl p hpl, Option.bind_some, hpq]
    have hdl := M1 false (tok1 (x :: r)).2.2.2.2
    have hdd := Aq8 (tok1 (x :: r)).2.2.2.2 false
    have hsuf : drp false (tok1 (x :: r)).2.2.2.2 <:+ b := (Ke false _).trans (hpq ▸ List.drop_suffix p b)
    have hdr : b.drop (b.length - (drp false (tok1 (x :: r)).2.2.2.2).length) = drp false (tok1 (x :: r)).2.2.2.2 := (List.suffix_iff_eq_drop.1 hsuf).symm
    have := Bh2 k b hk hl j (b.length - (drp false (tok1 (x :: r)).2.2.2.2).length) (out ++ [((tok1 (x :: r)).2.1, ((tok1 (x :: r)).2.2.1, ((tok1 (x :: r)).2.2.2.1, ((i : Int), ()))))]) (by omega) (by omega) (by rw [List.length_append]; simp only [List.length_cons, List.length_nil]; omega) (by rw [hdr, hdd])
    rw [hdr] at this
    rw [this]
    have hsame : lx b.length j (drp false (tok1 (x :: r)).2.2.2.2) = lx b.length j (tok1 (x :: r)).2.2.2.2 := by
     cases j with
     | zero => rfl
     | succ j => rw [lx, lx, hdd]
    rw [hsame]
    by_cases h1 : (lx b.length j (tok1 (x :: r)).2.2.2.2).1 = 0
    ·have hz := Bga _ _ _ h1
     simp only [if_pos h1, h1, hz, el]
     simp
    ·simp only [if_neg h1]
   ·simp only [if_neg h0, el]
  ·rw [if_neg (by omega), @List.drop_eq_nil_of_le _ b i (by omega), Pa, if_pos (by simp only [List.length_cons, List.length_nil]; omega)]
   have : i = b.length := by omega
   subst this
   rfl
theorem lx_nil (n : Nat) : ∀ (f : Nat) (s : List Int), (if (lx n f s).1 = 0 then (lx n f s).2.2 else []) = (lx n f s).2.2 := by
 intro f s
 split
 ·rfl
 ·rename_i h
  cases f with
  | zero => exact absurd rfl h
  | succ f =>
   rw [lx] at h ⊢
   cases hd : drp false s with
   | nil => rw [hd] at h; exact absurd rfl h
   | cons x r =>
    rw [hd] at h
    simp only [] at h ⊢
    split
    ·rename_i h0
     rw [if_pos h0] at h
     split
     ·rename_i h1; rw [if_pos h1] at h; exact absurd rfl h
     ·rfl
    ·rfl
theorem Cfu (k : Nat) (b : List Int) (hk : b.length < k) (hm : b.length < 1000000) : Vm k b = some (toks b) := by
 unfold toks
 rw [B55, Aie, cd]
 by_cases hl : 65536 < b.length
 ·rw [if_pos (by omega), if_pos hl]
 ·have hdd := Aq8 b false
  have hdl := M1 false b
  have hdr : b.drop (b.length - (drp false b).length) = drp false b := (List.suffix_iff_eq_drop.1 (Ke false b)).symm
  have h0 := Bh1 k b hk (by omega) 0 (Nat.zero_le _)
  rw [List.drop_zero] at h0
  rw [if_neg (by omega), if_neg hl, show (0 : Int) = ((0 : Nat) : Int) from rfl, h0, Option.bind_some, Bh2 k b hk (by omega) k _ [] (by omega) (by omega) (Nat.zero_le _) (by rw [hdr, hdd])]
  have hsame : lx b.length k (drp false b) = lx b.length (b.length + 1) b := by
   rw [Anb _ (b.length + 1) k b (by omega) (by omega)]
   cases k with
   | zero => rfl
   | succ j => rw [lx, lx, hdd]
  rw [hdr, hsame, List.nil_append, lx_nil]
def Kz (kd : Int) (tx : List Int) (v : Int) : Bool := decide (tx ≠ [] ∧ drp false tx = tx ∧ tok1 tx = (0, kd, tx, v, []))
abbrev tkD : Tk := ((0 : Int), ([], ((0 : Int), ((0 : Int), ()))))
theorem Cgv (kd : Int) (tx : List Int) (v : Int) :
  ((toks tx).1 = 0 ∧ (toks tx).2.2.length = 2 ∧ ((toks tx).2.2.getD 0 tkD).1 = kd ∧ ((toks tx).2.2.getD 0 tkD).2.1 = tx ∧ ((toks tx).2.2.getD 0 tkD).2.2.1 = v) ↔ Kz kd tx v = true := by
 unfold Kz
 rw [decide_eq_true_eq]
 unfold toks
 by_cases hl : 65536 < tx.length
 ·rw [if_pos hl]
  constructor
  ·intro h; simp at h
  ·rintro ⟨h1, h2, h3⟩
   cases tx with
   | nil => exact absurd rfl h1
   | cons x r =>
    have := Mi (x := x) (r := r) (by rw [h3])
    rw [h3] at this
    have := this.2.2.2
    simp only [] at this
    omega
 ·rw [if_neg hl, lx]
  cases hd : drp false tx with
  | nil =>
   simp only []
   constructor
   ·intro h; simp at h
   ·rintro ⟨h1, h2, h3⟩; exact absurd h2.symm h1
  | cons x r =>
   simp only []
   by_cases h0 : (tok1 (x :: r)).1 = 0
   ·obtain ⟨s1, s2, s3, s4⟩ := Mi h0
    have hlen := M1 false tx
    rw [hd] at hlen
    have s5 := congrArg List.length s1
    rw [List.length_append] at s5
    have s6 := Ov h0
    rw [if_pos h0]
    generalize hq : (tok1 (x :: r)).2.2.2.2 = q at *
    by_cases h1 : (lx tx.length tx.length q).1 = 0
    ·rw [if_pos h1]
     simp only [List.length_cons, List.getD_cons_zero]
     constructor
     ·rintro ⟨_, g1, g2, g3, g4⟩
      rw [g3] at s5
      have hq0 : q = [] := by
       apply List.length_eq_zero_iff.1
       omega
      have htx : tx = x :: r := by rw [← s1, g3, hq0, List.append_nil]
      refine ⟨by rw [htx]; simp, by rw [← htx], ?_⟩
      have : tok1 tx = tok1 (x :: r) := by rw [htx]
      rw [this]
      ext1; exact h0
      ext1; exact g2
      ext1; exact g3
      ext1; exact g4
      show (tok1 (x :: r)).2.2.2.2 = []
      rw [hq, hq0]
     ·rintro ⟨g1, g2, g3⟩
      rw [← g2] at g3
      have hq0 : q = [] := by rw [← hq, g3]
      rw [g3]
      refine ⟨trivial, ?_, rfl, g2.symm ▸ rfl, rfl⟩
      have hpos : ∃ m, tx.length = m + 1 := ⟨tx.length - 1, by rw [List.length_cons] at hlen; omega⟩
      obtain ⟨m, hm⟩ := hpos
      rw [hq0, hm, lx]
      rfl
    ·rw [if_neg h1]
     constructor
     ·rintro ⟨g, _⟩; exact absurd g h1
     ·rintro ⟨g1, g2, g3⟩
      rw [← g2] at g3
      have hq0 : q = [] := by rw [← hq, g3]
      have hpos : ∃ m, tx.length = m + 1 := ⟨tx.length - 1, by rw [List.length_cons] at hlen; omega⟩
      obtain ⟨m, hm⟩ := hpos
      rw [hq0, hm, lx] at h1
      exact absurd rfl h1
   ·rw [if_neg h0]
    constructor
    ·rintro ⟨g, _⟩; exact absurd g h0
    ·rintro ⟨g1, g2, g3⟩
     rw [← g2] at g3
     rw [g3] at h0
     exact absurd rfl h0
theorem Cgt {kd : Int} {tx : List Int} {v : Int} (h : Kz kd tx v = true) : ((toks tx).2.2.getD 0 tkD).2.2.2.1 = 0 := by
 unfold Kz at h
 rw [decide_eq_true_eq] at h
 obtain ⟨h1, h2, h3⟩ := h
 unfold toks
 cases tx with
 | nil => exact absurd rfl h1
 | cons x r =>
  have := Mi (x := x) (r := r) (by rw [h3])
  rw [h3] at this
  have h24 := this.2.2.2
  simp only [] at h24
  rw [if_neg (by omega), lx, h2]
  simp only [h3, if_true]
  have h0 : (lx (x :: r).length (x :: r).length []).1 = 0 := by
   rw [List.length_cons, lx]; rfl
  rw [if_pos h0]
  simp
theorem eqI_d (a b : Int) : eqI a b = decide (a = b) := by
 unfold eqI; rw [Bool.eq_iff_iff]; simp
theorem eqS_d (a b : List Int) : eqS a b = decide (a = b) := by
 unfold eqS; rw [Bool.eq_iff_iff]; simp
theorem Cfp (k : Nat) (kd : Int) (tx : List Int) (v p : Int) (hk : tx.length < k) (hm : tx.length < 1000000) : Tq k (kd, tx, v, p) = some (Kz kd tx v) := by
 skip
 rw [Bzg, Atj, Boh k tx hk hm, Option.bind_some, cbeq, cbeq, cinB]
 have T := Cgv kd tx v
 have Tp := @Cgt kd tx v
 have hz : (Int.toNat 0) = 0 := rfl
 unfold rdA at *
 rw [hz]
 generalize toks tx = tt at *
 by_cases h0 : tt.1 = 0
 ·rw [if_pos h0]
  by_cases h2 : tt.2.2.length = 2
  ·rw [if_pos (by omega), if_pos (by omega), eqI_d, eqI_d, eqS_d, eqI_d]
   refine congrArg some ?_
   rw [Bool.eq_iff_iff]
   simp only [Bool.and_eq_true, decide_eq_true_eq, and_true]
   constructor
   ·rintro ⟨a1, a2, a3, a4⟩
    exact T.1 ⟨h0, h2, a1, a2, a3⟩
   ·intro h
    have := T.2 h
    exact ⟨this.2.2.1, this.2.2.2.1, this.2.2.2.2, Tp h⟩
  ·rw [if_neg (by omega)]
   refine congrArg some ?_
   rw [eq_comm, Bool.eq_false_iff]
   exact fun h => h2 (T.2 h).2.1
 ·rw [if_neg h0]
  refine congrArg some ?_
  rw [eq_comm, Bool.eq_false_iff]
  exact fun h => h0 (T.2 h).1
def resW : List (List Int) := [[99, 121, 99, 108, 101],
 [116, 111],
 [98, 121],
 [112, 101, 97, 107],
 [110, 111, 100, 101],
 [104, 101, 97, 100],
 [118, 111, 108, 117, 109, 101],
 [102, 108, 111, 119],
 [117, 115, 101],
 [115, 112, 101, 101, 100],
 [103, 114, 97, 100, 101],
 [119, 105, 100, 116, 104],
 [108, 101, 110, 103, 116, 104],
 [103, 114, 101, 101, 110],
 [119, 97, 108, 107],
 [119, 105, 116, 104],
 [108, 111, 110, 103],
 [112, 97, 99, 101],
 [108, 101, 97, 115, 116],
 [112, 104, 97, 115, 101],
 [103, 114, 111, 117, 112],
 [114, 105, 110, 103],
 [102, 114, 101, 101],
 [102, 111, 101],
 [97, 114, 116, 101, 114, 121],
 [115, 116, 111, 112],
 [111, 117, 116],
 [105, 110],
 [97, 104, 101, 97, 100],
 [98, 97, 99, 107],
 [119, 101, 105, 103, 104, 116, 115],
 [112, 108, 97, 110],
 [111, 102, 102, 115, 101, 116],
 [115, 117, 109],
 [115, 112, 108, 105, 116],
 [121, 101, 108, 108, 111, 119],
 [114, 101, 100],
 [102, 108, 97, 115, 104],
 [98, 101, 115, 116],
 [121, 101, 115],
 [110, 111],
 [115, 112, 101, 110, 116]]
def resB (s : List Int) : Bool := resW.contains s
theorem Bfg (k : Nat) (s : List Int) (l : List (List Int)) (hl : l.length < 1000000) : ∀ (r pre : List (List Int)) (j : Nat), l = pre ++ r → r.length < j → (Hn k).L 2 [] j (Rt (s, l, (pre.length : Int))) = some (r.contains s)
 | _, _, 0, _, h => by omega
 | [], pre, j + 1, hp, h => by
  have : l.length = pre.length := by rw [hp]; simp
  rw [A6y, W1, cd, if_neg (by omega)]
  rfl
 | x :: r, pre, j + 1, hp, h => by
  have hlen : l.length = pre.length + (r.length + 1) := by rw [hp]; simp
  have IH := Bfg k s l hl r (pre ++ [x]) j (by rw [hp]; simp) (by simp at h; omega)
  rw [A6y, W1, cd, if_pos (by omega), cinB, if_pos (by omega), Bhr, cbeq, w64 (by omega), Ge]
  rw [List.length_append, List.length_singleton] at IH
  rw [IH, hp, Ca4]
  rw [List.contains_cons]
  by_cases hx : x = s
  ·rw [if_pos hx, hx]; simp
  ·rw [if_neg hx]
   have : (s == x) = false := by simpa using fun e : s = x => hx e.symm
   rw [this, Bool.false_or]
theorem Bhz (k : Nat) (s : List Int) (hk : 100 < k) : Pu k s = some (resB s) := by
 have hw : ∀ k, Vn k () = some resW := by
  intro k
  skip
  rw [B57, A66]
  rfl
 have hlen : resW.length = 42 := rfl
 skip
 rw [B53, A61, hw, Option.bind_some]
 skip
 rw [B51, Aia]
 have := Bfg k s resW (by omega) resW [] k rfl (by omega)
 rw [List.length_nil] at this
 rw [show (0 : Int) = ((0 : Nat) : Int) from rfl, this]
 rfl
set_option maxRecDepth 20000 in
theorem An3 (k : Nat) (s : List Int) : Mp k s = some (resB s) := by
 unfold resB resW
 skip
 rw [Bzb, Aea, Bzc, Aeb, Bzd, Aec, Bze, Aed]
 have step : ∀ (a : List Int) (x : Option Bool) (l : List (List Int)), x = some (l.contains s) → (bif s == a then some true else x) = some ((a :: l).contains s) := by
  intro a x l h
  rw [List.contains_cons]
  cases s == a with
  | true => simp
  | false => simp [h]
 repeat (refine step _ _ _ ?_)
 rfl
section
variable {α R : Type}
theorem Im {d : α} (l : List α) (p : α → Bool) (g : α → Option Bool) (F : Nat → Int → Option Int) (k : Nat) (hl : l.length < 1000000) (hk : l.length < k)
  (hF : ∀ j i, F (j + 1) i = bif decide (i < ((l.length : Nat) : Int)) then (idx d l i fun o => (g o).bind fun o2 => bif o2 then some i else F j (IntKind.wrap .i64 (i + 1))) else some (-1))
  (c : Option Bool) (hc : c = (F k 0).bind fun o1 => some (decide (o1 ≥ 0))) (hg : ∀ x ∈ l, g x = some (!p x)) : c = some (!(l.all p)) := by
 obtain ⟨r, h1, h2⟩ := Apy l (fun x => !p x) g F hl hF hg k 0 (by omega) (by omega)
 rw [hc, show (0 : Int) = ((0 : Nat) : Int) from rfl, h1, Option.bind_some, ← any_all]
 exact congrArg some h2
theorem chT {a b : Bool} {y : Option Bool} (h : y = some (!b)) : (bif !a then some true else y) = some (!(a && b)) := by
 rw [h]; cases a <;> cases b <;> rfl
theorem chN {p : Prop} [Decidable p] {b : Bool} {y : Option Bool} (h : y = some (!b)) : (bif decide p then some true else y) = some (!(!(decide p) && b)) := by
 rw [h]; by_cases hp : p <;> cases b <;> simp [hp]
end
def Bw (s : List Int) : Bool := Kz 1 s 0 && !resB s
def numB (n : Int) : Bool := decide (0 ≤ n) && decide (n ≤ 999999999999999999)
def sh (s : List Int) : Prop := s.length ≤ 100
theorem Ccc (k : Nat) (s : List Int) (hs : sh s) (hk : 1000 ≤ k) : Qg k s = some (!Bw s) := by
 unfold sh at hs
 rw [B9g, Bci, Cfp k 1 s 0 0 (by omega) (by omega), Option.bind_some, An3, Option.bind_some]
 unfold Bw
 cases Kz 1 s 0 <;> cases resB s <;> rfl
theorem Cct (k : Nat) (n : Int) : Qi k n = some (!numB n) := by
 rw [B9l, Bcq]
 unfold numB
 by_cases h : n < 0
 ·have : ¬ 0 ≤ n := by omega
  simp [h, this]
 ·have : 0 ≤ n := by omega
  by_cases h2 : n ≤ 999999999999999999
  ·have : ¬ n > 999999999999999999 := by omega
   simp [h, *]
  ·have : n > 999999999999999999 := by omega
   simp [h, *]
theorem Bwe (k : Nat) (l : List (Int)) (p : Int → Bool) (hl : l.length < 1000) (hk : 1000 ≤ k) (hg : ∀ x ∈ l, Qi k x = some (!p x)) : Pk k l = some (!(l.all p)) :=
 Im l p _ (fun j i => (G6 k).L 2 [] j (Q3 (l, ((l.length : Nat) : Int), i))) k (by omega) (by omega) (fun j i => By0 k j (l, ((l.length : Nat) : Int), i)) (Pk k l) (by rw [Bx2, Ash, Byz, Adr]) hg
theorem Bwf (k : Nat) (l : List (List Int)) (p : List Int → Bool) (hl : l.length < 1000) (hk : 1000 ≤ k) (hg : ∀ x ∈ l, Qg k x = some (!p x)) : Pl k l = some (!(l.all p)) :=
 Im l p _ (fun j i => (G7 k).L 2 [] j (Q4 (l, ((l.length : Nat) : Int), i))) k (by omega) (by omega) (fun j i => By3 k j (l, ((l.length : Nat) : Int), i)) (Pl k l) (by rw [Bx4, Asl, By2, Adw]) hg
theorem Bwa (k : Nat) (l : List (YT1)) (p : YT1 → Bool) (hl : l.length < 1000) (hk : 1000 ≤ k) (hg : ∀ x ∈ l, Qa k (x.1, x.2.1, x.2.2.1, x.2.2.2.1.1, x.2.2.2.1.2.1, x.2.2.2.2.1, x.2.2.2.2.2.1, x.2.2.2.2.2.2.1, x.2.2.2.2.2.2.2.1, x.2.2.2.2.2.2.2.2.1, x.2.2.2.2.2.2.2.2.2.1) = some (!p x)) : Pd k l = some (!(l.all p)) :=
 Im l p _ (fun j i => (Gw k).L 2 [] j (Qx (l, ((l.length : Nat) : Int), i))) k (by omega) (by omega) (fun j i => Byi k j (l, ((l.length : Nat) : Int), i)) (Pd k l) (by rw [Bxq, Art, Byh, Ac3]) hg
theorem ctf_Ped (k : Nat) (l : List (YT2)) (p : YT2 → Bool) (hl : l.length < 1000) (hk : 1000 ≤ k) (hg : ∀ x ∈ l, Qc k (x.1, x.2.1, x.2.2.1, x.2.2.2.1, x.2.2.2.2.1, x.2.2.2.2.2.1) = some (!p x)) : Pf k l = some (!(l.all p)) :=
 Im l p _ (fun j i => (Gy k).L 2 [] j (Qz (l, ((l.length : Nat) : Int), i))) k (by omega) (by omega) (fun j i => Byo k j (l, ((l.length : Nat) : Int), i)) (Pf k l) (by rw [Bxu, Ar1, Byn, Adb]) hg
theorem Bwc (k : Nat) (l : List (YT3)) (p : YT3 → Bool) (hl : l.length < 1000) (hk : 1000 ≤ k) (hg : ∀ x ∈ l, Qd k (x.1, x.2.1, x.2.2.1) = some (!p x)) : Pg k l = some (!(l.all p)) :=
 Im l p _ (fun j i => (Gz k).L 2 [] j (Q0 (l, ((l.length : Nat) : Int), i))) k (by omega) (by omega) (fun j i => Byr k j (l, ((l.length : Nat) : Int), i)) (Pg k l) (by rw [Bxw, Ar5, Byq, Adf]) hg
theorem ctf_Row (k : Nat) (l : List (YT4)) (p : YT4 → Bool) (hl : l.length < 1000) (hk : 1000 ≤ k) (hg : ∀ x ∈ l, Qe k (x.1, x.2.1) = some (!p x)) : Ph k l = some (!(l.all p)) :=
 Im l p _ (fun j i => (G4 k).L 2 [] j (Q1 (l, ((l.length : Nat) : Int), i))) k (by omega) (by omega) (fun j i => Byu k j (l, ((l.length : Nat) : Int), i)) (Ph k l) (by rw [Bxy, Ar9, Byt, Adj]) hg
theorem Bv9 (k : Nat) (l : List (List YT4 × Unit)) (p : List YT4 × Unit → Bool) (hl : l.length < 1000) (hk : 1000 ≤ k) (hg : ∀ x ∈ l, P9 k (x.1) = some (!p x)) : Pc k l = some (!(l.all p)) :=
 Im l p _ (fun j i => (Gv k).L 2 [] j (Qw (l, ((l.length : Nat) : Int), i))) k (by omega) (by omega) (fun j i => Byf k j (l, ((l.length : Nat) : Int), i)) (Pc k l) (by rw [Bxo, Arp, Bye, Acz]) hg
theorem ctf_Foe (k : Nat) (l : List (YT5)) (p : YT5 → Bool) (hl : l.length < 1000) (hk : 1000 ≤ k) (hg : ∀ x ∈ l, P8 k (x.1, x.2.1, x.2.2.1) = some (!p x)) : Pb k l = some (!(l.all p)) :=
 Im l p _ (fun j i => (Gu k).L 2 [] j (Qv (l, ((l.length : Nat) : Int), i))) k (by omega) (by omega) (fun j i => Byc k j (l, ((l.length : Nat) : Int), i)) (Pb k l) (by rw [Bxm, Arl, Byb, Acv]) hg
theorem Bwb (k : Nat) (l : List (YT6)) (p : YT6 → Bool) (hl : l.length < 1000) (hk : 1000 ≤ k) (hg : ∀ x ∈ l, Qb k (x.1, x.2.1, x.2.2.1, x.2.2.2.1, x.2.2.2.2.1, x.2.2.2.2.2.1, x.2.2.2.2.2.2.1) = some (!p x)) : Pe k l = some (!(l.all p)) :=
 Im l p _ (fun j i => (Gx k).L 2 [] j (Qy (l, ((l.length : Nat) : Int), i))) k (by omega) (by omega) (fun j i => Byl k j (l, ((l.length : Nat) : Int), i)) (Pe k l) (by rw [Bxs, Arx, Byk, Ac7]) hg
theorem Bwd (k : Nat) (l : List (YT7)) (p : YT7 → Bool) (hl : l.length < 1000) (hk : 1000 ≤ k) (hg : ∀ x ∈ l, Qf k (x.1, x.2.1, x.2.2.1, x.2.2.2.1, x.2.2.2.2.1, x.2.2.2.2.2.1) = some (!p x)) : Pj k l = some (!(l.all p)) :=
 Im l p _ (fun j i => (G5 k).L 2 [] j (Q2 (l, ((l.length : Nat) : Int), i))) k (by omega) (by omega) (fun j i => Byx k j (l, ((l.length : Nat) : Int), i)) (Pj k l) (by rw [Bx0, Asd, Byw, Adn]) hg
theorem Yj (k : Nat) (l : List Int) (hl : l.length < 1000) (hk : 1000 ≤ k) : cshownums k l = some (l.all numB) := by
 rw [B9m, Bct, Bwe k l numB hl hk fun x _ => Cct k x, Option.bind_some, Bool.not_not]
theorem L7 (k : Nat) (l : List (List Int)) (hl : l.length < 1000) (hk : 1000 ≤ k) (h : ∀ s ∈ l, sh s) : cshownames k l = some (l.all Bw) := by
 rw [B9h, Bcl, Bwf k l Bw hl hk fun x hx => Ccc k x (h x hx) hk, Option.bind_some, Bool.not_not]
def rowB (m : Nat) (l : List (List Int)) : Bool := decide (1 ≤ l.length) && (decide (l.length ≤ m) && l.all Bw)
theorem Bhy (k : Nat) (m : Nat) (l : List (List Int)) (hl : l.length < 1000) (hk : 1000 ≤ k) (h : ∀ s ∈ l, sh s) : cshowrow k (l, (m : Int)) = some (rowB m l) := by
 rw [B99, Bd2, L7 k l hl hk h, Option.bind_some]
 unfold rowB
 simp only [cd]
 by_cases h1 : 1 ≤ l.length
 ·rw [if_pos (by omega)]
  by_cases h2 : l.length ≤ m
  ·rw [if_pos (by omega)]; simp [h1, h2]
  ·rw [if_neg (by omega)]; simp [h2]
 ·rw [if_neg (by omega)]; simp [h1]
def Eo (h : YT1) : Bool :=
 Bw h.1 && (numB h.2.1 && (numB h.2.2.1 && ((numB h.2.2.2.1.1 && numB h.2.2.2.1.2.1) && (numB h.2.2.2.2.1 && (!(decide (h.2.2.2.2.2.1 < -999999999999999999)) && (!(decide (h.2.2.2.2.2.1 > 999999999999999999)) &&
  (numB h.2.2.2.2.2.2.1 && (numB h.2.2.2.2.2.2.2.1 && (numB h.2.2.2.2.2.2.2.2.1 && true)))))))))
def pedB (p : YT2) : Bool := Bw p.1 && (Bw p.2.1 && (numB p.2.2.1 && (numB p.2.2.2.1 && (numB p.2.2.2.2.1 && true))))
def Ey (x : YT3) : Bool := Bw x.1 && (rowB 16 x.2.1 && true)
def Jp (r : YT4) : Bool := rowB 4 r.2.1
def En (g : List YT4 × Unit) : Bool := !(decide (((g.1.length : Nat) : Int) < 1)) && (!(decide (((g.1.length : Nat) : Int) > 2)) && g.1.all Jp)
def foeB (f : YT5) : Bool := Bw f.1 && (Bw f.2.1 && true)
def E8 (s : YT7) : Bool := Bw s.1 && (Bw s.2.1 && (Bw s.2.2.1 && (numB s.2.2.2.1 && (numB s.2.2.2.2.1 && true))))
def leB {α : Type} (l : List α) (m : Int) : Bool := !(decide (((l.length : Nat) : Int) > m))
def Dn (n : YT6) : Bool :=
 Bw n.1 && (leB n.2.1 16 && (leB n.2.2.1 8 && (leB n.2.2.2.1 16 && (leB n.2.2.2.2.1 4 && (leB n.2.2.2.2.2.1 64 &&
  (n.2.1.all Eo && (n.2.2.1.all pedB && (n.2.2.2.1.all Ey && (n.2.2.2.2.1.all En && n.2.2.2.2.2.1.all foeB)))))))))
abbrev NetT := Int × Int × Int × Int × Int × List YT6 × List YT7 × Int × Int
def netB (n : NetT) : Bool :=
 numB n.1 && (numB n.2.1 && (numB n.2.2.1 && ((numB n.2.2.2.1 && numB n.2.2.2.2.1) && (numB n.2.2.2.2.2.2.2.1 && (numB n.2.2.2.2.2.2.2.2 && (leB n.2.2.2.2.2.1 12 && (leB n.2.2.2.2.2.2.1 12 &&
  (n.2.2.2.2.2.1.all Dn && n.2.2.2.2.2.2.1.all E8))))))))
structure NodeS (n : YT6) : Prop where
 nm : sh n.1
 hl : n.2.1.length ≤ 50
 hd : n.2.1.length ≤ 16 → ∀ h ∈ n.2.1, sh h.1
 pl : n.2.2.1.length ≤ 50
 pd : ∀ p ∈ n.2.2.1, sh p.1 ∧ sh p.2.1
 xl : n.2.2.2.1.length ≤ 50
 xd : ∀ x ∈ n.2.2.2.1, sh x.1 ∧ x.2.1.length ≤ 50 ∧ (x.2.1.length ≤ 50 → ∀ s ∈ x.2.1, sh s)
 gl : n.2.2.2.2.1.length ≤ 50
 gd : ∀ g ∈ n.2.2.2.2.1, g.1.length ≤ 5 ∧ ∀ r ∈ g.1, r.2.1.length ≤ 50 ∧ (r.2.1.length ≤ 50 → ∀ s ∈ r.2.1, sh s)
 fl : n.2.2.2.2.2.1.length ≤ 80
 fd : ∀ f ∈ n.2.2.2.2.2.1, sh f.1 ∧ sh f.2.1
structure NetS (n : NetT) : Prop where
 nl : n.2.2.2.2.2.1.length ≤ 15
 nd : ∀ x ∈ n.2.2.2.2.2.1, NodeS x
 sl : n.2.2.2.2.2.2.1.length ≤ 15
 sd : ∀ s ∈ n.2.2.2.2.2.2.1, sh s.1 ∧ sh s.2.1 ∧ sh s.2.2.1
theorem many {α : Type} (l : List α) (m : Int) (p : α → Bool) {c : Option Bool} (hc : ¬ ((l.length : Nat) : Int) > m → c = some (!(l.all p))) :
  (bif decide (((l.length : Nat) : Int) > m) then some true else c.bind fun o => some o) = some (!(leB l m && l.all p)) := by
 unfold leB
 by_cases h : ((l.length : Nat) : Int) > m
 ·simp [h]
 ·rw [hc h]; simp [h]
section
variable (k : Nat) (hk : 1000 ≤ k)
include hk
theorem Bpc (h : YT1) (hs : sh h.1) : Qa k (h.1, h.2.1, h.2.2.1, h.2.2.2.1.1, h.2.2.2.1.2.1, h.2.2.2.2.1, h.2.2.2.2.2.1, h.2.2.2.2.2.2.1, h.2.2.2.2.2.2.2.1, h.2.2.2.2.2.2.2.2.1, h.2.2.2.2.2.2.2.2.2.1) = some (!Eo h) := by
 rw [B8k, Bau, L7 k _ (by simp) hk (by simpa using hs), Option.bind_some, Yj k _ (by simp) hk, Option.bind_some]
 refine (chT (chT (chN (b := !(decide (h.2.2.2.2.2.1 > 999999999999999999))) (by simp)))).trans ?_
 refine congrArg (fun b => some (!b)) ?_
 unfold Eo
 simp only [List.all_cons, List.all_nil, Bool.and_true, Bool.and_assoc]
 generalize (!decide (h.2.2.2.2.2.1 < -999999999999999999)) = x
 generalize (!decide (h.2.2.2.2.2.1 > 999999999999999999)) = y
 ac_rfl
theorem Bpe (p : YT2) (hs : sh p.1 ∧ sh p.2.1) : Qc k (p.1, p.2.1, p.2.2.1, p.2.2.2.1, p.2.2.2.2.1, p.2.2.2.2.2.1) = some (!pedB p) := by
 rw [B8o, Ba2, L7 k _ (by simp) hk (by simpa using hs), Option.bind_some, Yj k _ (by simp) hk, Option.bind_some]
 refine (chT rfl).trans ?_
 unfold pedB
 simp only [List.all_cons, List.all_nil, Bool.and_true, Bool.and_assoc]
theorem Bpf (x : YT3) (hs : sh x.1 ∧ x.2.1.length ≤ 50 ∧ (x.2.1.length ≤ 50 → ∀ s ∈ x.2.1, sh s)) : Qd k (x.1, x.2.1, x.2.2.1) = some (!Ey x) := by
 rw [B8q, Ba6, L7 k _ (by simp) hk (by simpa using hs.1), Option.bind_some, show (16 : Int) = ((16 : Nat) : Int) from rfl, Bhy k 16 _ (by omega) hk (hs.2.2 hs.2.1), Option.bind_some]
 refine (chT rfl).trans ?_
 unfold Ey
 simp only [List.all_cons, List.all_nil, Bool.and_true, Bool.and_assoc]
theorem Bpg (r : YT4) (hs : r.2.1.length ≤ 50 ∧ (r.2.1.length ≤ 50 → ∀ s ∈ r.2.1, sh s)) : Qe k (r.1, r.2.1) = some (!Jp r) := by
 rw [B8s, Bba, show (4 : Int) = ((4 : Nat) : Int) from rfl, Bhy k 4 _ (by omega) hk (hs.2 hs.1), Option.bind_some]
 rfl
theorem Bpb (g : List YT4 × Unit) (hs : g.1.length ≤ 5 ∧ ∀ r ∈ g.1, r.2.1.length ≤ 50 ∧ (r.2.1.length ≤ 50 → ∀ s ∈ r.2.1, sh s)) : P9 k g.1 = some (!En g) := by
 rw [B8i, Baq, ctf_Row k g.1 Jp (by omega) hk fun r hr => Bpg k hk r (hs.2 r hr)]
 exact chN (chN rfl)
theorem Bpa (f : YT5) (hs : sh f.1 ∧ sh f.2.1) : P8 k (f.1, f.2.1, f.2.2.1) = some (!foeB f) := by
 rw [B8g, Bam, L7 k _ (by simp) hk (by simpa using hs), Option.bind_some]
 unfold foeB
 simp only [List.all_cons, List.all_nil]
theorem Bph (s : YT7) (hs : sh s.1 ∧ sh s.2.1 ∧ sh s.2.2.1) : Qf k (s.1, s.2.1, s.2.2.1, s.2.2.2.1, s.2.2.2.2.1, s.2.2.2.2.2.1) = some (!E8 s) := by
 rw [B8u, Bbe, L7 k _ (by simp) hk (by simpa using hs), Option.bind_some, Yj k _ (by simp) hk, Option.bind_some]
 refine (chT rfl).trans ?_
 unfold E8
 simp only [List.all_cons, List.all_nil, Bool.and_true, Bool.and_assoc]
theorem Bpd (n : YT6) (hs : NodeS n) : Qb k (n.1, n.2.1, n.2.2.1, n.2.2.2.1, n.2.2.2.2.1, n.2.2.2.2.2.1, n.2.2.2.2.2.2.1) = some (!Dn n) := by
 have e1 : V6 k (n.2.1, 16) = some (!(leB n.2.1 16 && n.2.1.all Eo)) := by
  rw [B80, Bbq]
  exact many n.2.1 16 Eo fun hc => Bwa k n.2.1 Eo (by have := hs.hl; omega) hk fun h hh => Bpc k hk h (hs.hd (by omega) h hh)
 have e2 : V8 k (n.2.2.1, 8) = some (!(leB n.2.2.1 8 && n.2.2.1.all pedB)) := by
  rw [B84, Bby]
  exact many _ 8 pedB fun hc => ctf_Ped k _ pedB (by have := hs.pl; omega) hk fun h hh => Bpe k hk h (hs.pd h hh)
 have e3 : V9 k (n.2.2.2.1, 16) = some (!(leB n.2.2.2.1 16 && n.2.2.2.1.all Ey)) := by
  rw [B86, Bb2]
  exact many _ 16 Ey fun hc => Bwc k _ Ey (by have := hs.xl; omega) hk fun h hh => Bpf k hk h (hs.xd h hh)
 have e4 : V5 k (n.2.2.2.2.1, 4) = some (!(leB n.2.2.2.2.1 4 && n.2.2.2.2.1.all En)) := by
  rw [B8y, Bbm]
  exact many _ 4 En fun hc => Bv9 k _ En (by have := hs.gl; omega) hk fun h hh => Bpb k hk h (hs.gd h hh)
 have e5 : V4 k (n.2.2.2.2.2.1, 64) = some (!(leB n.2.2.2.2.2.1 64 && n.2.2.2.2.2.1.all foeB)) := by
  rw [B8w, Bbi]
  exact many _ 64 foeB fun hc => ctf_Foe k _ foeB (by have := hs.fl; omega) hk fun h hh => Bpa k hk h (hs.fd h hh)
 rw [B8m, Bay, L7 k _ (by simp) hk (by simpa using hs.nm), Option.bind_some, e1, Option.bind_some, e2, Option.bind_some, e3, Option.bind_some, e4, Option.bind_some, e5, Option.bind_some]
 refine (chT (chT (chT (chT (chT rfl))))).trans ?_
 refine congrArg (fun b => some (!b)) ?_
 unfold Dn
 simp only [List.all_cons, List.all_nil, Bool.and_true, Bool.and_assoc]
 ac_rfl
theorem Sr (n : NetT) (hs : NetS n) : Lb k n = some (netB n) := by
 have e1 : V7 k (n.2.2.2.2.2.1, 12) = some (!(leB n.2.2.2.2.2.1 12 && n.2.2.2.2.2.1.all Dn)) := by
  rw [B82, Bbu]
  exact many _ 12 Dn fun hc => Bwb k _ Dn (by have := hs.nl; omega) hk fun h hh => Bpd k hk h (hs.nd h hh)
 have e2 : Wa k (n.2.2.2.2.2.2.1, 12) = some (!(leB n.2.2.2.2.2.2.1 12 && n.2.2.2.2.2.2.1.all E8)) := by
  rw [B88, Bb6]
  exact many _ 12 E8 fun hc => Bwd k _ E8 (by have := hs.sl; omega) hk fun h hh => Bph k hk h (hs.sd h hh)
 obtain ⟨a0, a1, a2, a3, a4, a5, a6, a7, a8⟩ := n
 rw [B78, A96, Yj k _ (by simp) hk, Option.bind_some]
 simp only at e1 e2
 rw [e1, Option.bind_some, e2, Option.bind_some]
 have : ∀ a b c : Bool, (bif a then (bif !!b then some !!c else some false) else some false) = some (a && (b && c)) := by decide
 rw [this]
 refine congrArg some ?_
 unfold netB
 simp only [List.all_cons, List.all_nil, Bool.and_true, Bool.and_assoc]
 ac_rfl
end
abbrev RS := List Tk × Int × Int
def hd (l : List Tk) : Tk := l.headD tkD
def Ay (s : List Int) (x : RS) : Bool := x.2.1 == 0 && ((hd x.1).1 != 2 && ((hd x.1).1 != 0 && (hd x.1).2.1 == s))
def A2 (c : Int) (x : RS) : RS := bif x.2.1 == 0 then (x.1, c, (hd x.1).2.2.2.1) else x
def A1 (x : RS) : RS := bif x.2.1 == 0 && (hd x.1).1 != 0 then (x.1.tail, x.2.1, x.2.2) else x
def Aj (s : List Int) (x : RS) : RS := A1 (bif Ay s x then x else A2 50 x)
def Ah (x : RS) : List Int × RS := bif (hd x.1).1 == 1 && !(resB (hd x.1).2.1) then ((hd x.1).2.1, A1 x) else ([], A2 50 x)
def numC (x : RS) : Int × RS := bif (hd x.1).1 == 2 then ((hd x.1).2.2.1, A1 x) else (0, A2 50 x)
def numR (w : List Int) (x : RS) : Int × RS := numC (bif w == [] then x else Aj w x)
def Dk (w : List Int) (x : RS) : (Int × Int) × RS := (((numR w x).1, (numR ([47] : List Int) (numR w x).2).1), (numR ([47] : List Int) (numR w x).2).2)
def A6 (w : List Int) (have' most : Int) (x : RS) : Bool × RS := bif Ay w x then (bif have' == most then (false, A2 4 x) else (true, A1 x)) else (false, x)
def Cb (most : Int) : Nat → RS → List (List Int) → List (List Int) × RS
  | 0, x, o => (o, x)
  | f + 1, x, o => bif Ay ([44] : List Int) x then
      (let y := A1 x
       let z := bif (((o.length : Nat) : Int) == most) && ((hd y.1).1 == 1 && !(resB (hd y.1).2.1)) then A2 4 y else y
       Cb most f (Ah z).2 (o ++ [(Ah z).1]))
    else (o, Aj ([59] : List Int) x)
def Cg (most : Int) (x : RS) : List (List Int) × RS := Cb most ((Ah x).2.1.length + 1) (Ah x).2 [(Ah x).1]
def Cs {α : Type} (w : List Int) (most : Int) (item : RS → α × RS) : Nat → RS → List α → List α × RS
  | 0, x, o => (o, x)
  | f + 1, x, o => bif (A6 w ((o.length : Nat) : Int) most x).1 then Cs w most item f (item (A6 w ((o.length : Nat) : Int) most x).2).2 (o ++ [(item (A6 w ((o.length : Nat) : Int) most x).2).1]) else (o, (A6 w ((o.length : Nat) : Int) most x).2)
def Aw {α : Type} (w : List Int) (most : Int) (item : RS → α × RS) (x : RS) : List α × RS := Cs w most item (x.1.length + 1) x []
def Bf (x : RS) : YT1 × RS :=
  let n := Ah x
  let v := numR ([118, 111, 108, 117, 109, 101] : List Int) n.2
  let s := numR ([102, 108, 111, 119] : List Int) v.2
  let u := Dk ([117, 115, 101] : List Int) s.2
  let p := numR ([115, 112, 101, 101, 100] : List Int) u.2
  let q := Aj ([103, 114, 97, 100, 101] : List Int) p.2
  let g := numR [] (bif Ay ([45] : List Int) q then A1 q else q)
  let a := numR ([119, 105, 100, 116, 104] : List Int) g.2
  let l := numR ([108, 101, 110, 103, 116, 104] : List Int) a.2
  let e := numR ([103, 114, 101, 101, 110] : List Int) l.2
  ((n.1, v.1, s.1, (u.1.1, u.1.2, ()), p.1, (bif Ay ([45] : List Int) q then negI .i64 g.1 else g.1), a.1, l.1, e.1, (hd x.1).2.2.2.1, ()), Aj ([59] : List Int) e.2)
def Bx (x : RS) : YT2 × RS :=
  let n := Ah x
  let p := Ah (Aj ([119, 105, 116, 104] : List Int) n.2)
  let a := numR ([108, 111, 110, 103] : List Int) p.2
  let b := numR ([112, 97, 99, 101] : List Int) a.2
  let c := numR ([108, 101, 97, 115, 116] : List Int) b.2
  ((n.1, p.1, a.1, b.1, c.1, (hd x.1).2.2.2.1, ()), Aj ([59] : List Int) c.2)
def Dq (x : RS) : YT3 × RS :=
  let n := Ah x
  let l := Cg 16 (Aj ([58] : List Int) n.2)
  ((n.1, l.1, (hd x.1).2.2.2.1, ()), l.2)
def Dz (x : RS) : YT4 × RS :=
  let l := Cg 4 (bif Ay ([102, 114, 101, 101] : List Int) x then A1 x else x)
  ((Ay ([102, 114, 101, 101] : List Int) x, l.1, ()), l.2)
def Cx (x : RS) : (List YT4 × Unit) × RS :=
  let a := Aj ([123] : List Int) x
  let b := bif Ay ([114, 105, 110, 103] : List Int) a then a else A2 50 a
  let r := Aw ([114, 105, 110, 103] : List Int) 2 Dz b
  ((r.1, ()), Aj ([125] : List Int) r.2)
def foeR (x : RS) : YT5 × RS :=
  let n := Ah x
  let m := Ah n.2
  ((n.1, m.1, (hd x.1).2.2.2.1, ()), Aj ([59] : List Int) m.2)
def Bv (x : RS) : YT6 × RS :=
  let n := Ah x
  let h := Aw ([104, 101, 97, 100] : List Int) 16 Bf (Aj ([123] : List Int) n.2)
  let w := Aw ([119, 97, 108, 107] : List Int) 8 Bx h.2
  let p := Aw ([112, 104, 97, 115, 101] : List Int) 16 Dq w.2
  let g := Aw ([103, 114, 111, 117, 112] : List Int) 4 Cx p.2
  let f := Aw ([102, 111, 101] : List Int) 64 foeR g.2
  ((n.1, h.1, w.1, p.1, g.1, f.1, (hd x.1).2.2.2.1, ()), Aj ([125] : List Int) f.2)
def Ef (x : RS) : YT7 × RS :=
  let n := Ah x
  let o := Ah (Aj ([111, 117, 116] : List Int) n.2)
  let i := Ah (Aj ([105, 110] : List Int) o.2)
  let a := numR ([97, 104, 101, 97, 100] : List Int) i.2
  let b := numR ([98, 97, 99, 107] : List Int) a.2
  ((n.1, o.1, i.1, a.1, b.1, (hd x.1).2.2.2.1, ()), Aj ([59] : List Int) b.2)
def B5 (x : RS) : (List YT7 × Int × Int) × RS :=
  let s := Aw ([115, 116, 111, 112] : List Int) 12 Ef (Aj ([123] : List Int) x)
  let a := numR ([119, 101, 105, 103, 104, 116, 115] : List Int) s.2
  let b := numR [] a.2
  ((s.1, a.1, b.1), Aj ([125] : List Int) (Aj ([59] : List Int) b.2))
def netR (x : RS) : NetT × RS :=
  let a := numR ([99, 121, 99, 108, 101] : List Int) x
  let b := numR ([116, 111] : List Int) a.2
  let c := numR ([98, 121] : List Int) b.2
  let p := Dk ([112, 101, 97, 107] : List Int) (Aj ([59] : List Int) c.2)
  let n := Aw ([110, 111, 100, 101] : List Int) 12 Bv (Aj ([59] : List Int) p.2)
  let t := bif Ay ([97, 114, 116, 101, 114, 121] : List Int) n.2 then B5 (A1 n.2) else (([], 0, 0), n.2)
  ((a.1, b.1, c.1, p.1.1, p.1.2, n.1, t.1.1, t.1.2.1, t.1.2.2), bif (hd t.2.1).1 != 0 then A2 50 t.2 else t.2)
def Bt (b : List Int) : NetT × Int × Int :=
  bif (toks b).1 != 0 then ((0, 0, 0, 0, 0, [], [], 0, 0), (toks b).1, (toks b).2.1)
  else bif (netR ((toks b).2.2, 0, 0)).2.2.1 != 0 then ((0, 0, 0, 0, 0, [], [], 0, 0), (netR ((toks b).2.2, 0, 0)).2.2.1, (netR ((toks b).2.2, 0, 0)).2.2.2)
  else ((netR ((toks b).2.2, 0, 0)).1, 0, 0)
def EndT (l : List Tk) : Prop := ∃ r t, l = r ++ [t] ∧ t.1 = 0
theorem EndT.ne {l : List Tk} (h : EndT l) : l ≠ [] := by
  obtain ⟨r, t, rfl, _⟩ := h
  simp
structure Adv (x y : RS) : Prop where
  g : EndT x.1 → EndT y.1
  l : y.1.length ≤ x.1.length
theorem Adv.refl (x : RS) : Adv x x := ⟨id, Nat.le_refl _⟩
theorem Adv.trans {x y z : RS} (h : Adv x y) (h2 : Adv y z) : Adv x z := ⟨fun g => h2.g (h.g g), Nat.le_trans h2.l h.l⟩
theorem Fs (c : Int) (x : RS) : Adv x (A2 c x) := by
  unfold A2
  cases x.2.1 == 0
  · exact .refl x
  · exact ⟨id, Nat.le_refl _⟩
theorem Eh (x : RS) : Adv x (A1 x) := by
  unfold A1
  cases h : x.2.1 == 0 && (hd x.1).1 != 0
  · exact .refl x
  · refine ⟨fun g => ?_, by simp⟩
    obtain ⟨r, t, e, ht⟩ := g
    simp only [Bool.and_eq_true] at h
    cases r with
    | nil =>
      have := h.2
      rw [e] at this
      simp [hd, ht] at this
    | cons y r => exact ⟨r, t, by rw [e]; rfl, ht⟩
theorem Ik {x y z : RS} {c : Bool} (h : Adv x y) (h2 : Adv x z) : Adv x (bif c then y else z) := by cases c <;> assumption
theorem Bo (s : List Int) (x : RS) : Adv x (Aj s x) := (Ik (.refl x) (Fs 50 x)).trans (Eh _)
theorem B1 (x : RS) : Adv x (Ah x).2 := by
  unfold Ah
  cases (hd x.1).1 == 1 && !(resB (hd x.1).2.1)
  · exact Fs 50 x
  · exact Eh x
theorem Bm (w : List Int) (x : RS) : Adv x (numR w x).2 := by
  unfold numR
  refine Adv.trans (Ik (c := w == []) (.refl x) (Bo w x)) ?_
  generalize (bif w == [] then x else Aj w x) = y
  unfold numC
  cases (hd y.1).1 == 2
  · exact Fs 50 y
  · exact Eh y
theorem S6 (w : List Int) (x : RS) : Adv x (Dk w x).2 := (Bm w x).trans (Bm _ _)
theorem Ij (w : List Int) (a b : Int) (x : RS) : Adv x (A6 w a b x).2 := by
  unfold A6
  cases Ay w x
  · exact .refl x
  · cases a == b
    · exact Eh x
    · exact Fs 4 x
theorem Bpi {w : List Int} {a b : Int} {x : RS} (h : (A6 w a b x).1 = true) (g : EndT x.1) : (A6 w a b x).2.1.length < x.1.length := by
  have := g.ne
  unfold A6 at h ⊢
  cases h1 : Ay w x
  · rw [h1] at h; cases h
  · cases h2 : a == b
    · have h3 : (x.2.1 == 0 && (hd x.1).1 != 0) = true := by
        unfold Ay at h1
        simp only [Bool.and_eq_true] at h1 ⊢
        exact ⟨h1.1, h1.2.2.1⟩
      show (A1 x).1.length < _
      unfold A1
      rw [h3, cond_true]
      cases hx : x.1 with
      | nil => exact absurd hx this
      | cons y r => simp
    · rw [h1, h2] at h; cases h
theorem Api {α : Type} (w : List Int) (most : Int) (item : RS → α × RS) (hi : ∀ x, Adv x (item x).2) : ∀ (f : Nat) (x : RS) (o : List α), Adv x (Cs w most item f x o).2
  | 0, x, o => .refl x
  | f + 1, x, o => by
    rw [Cs]
    have hb := Ij w ((o.length : Nat) : Int) most x
    cases (A6 w ((o.length : Nat) : Int) most x).1
    · exact hb
    · exact hb.trans ((hi _).trans (Api w most item hi f _ _))
theorem Fa {α : Type} {w : List Int} {most : Int} {item : RS → α × RS} (hi : ∀ x, Adv x (item x).2) (x : RS) : Adv x (Aw w most item x).2 := Api w most item hi _ x []
theorem Apj (most : Int) : ∀ (f : Nat) (x : RS) (o : List (List Int)), Adv x (Cb most f x o).2
  | 0, x, o => .refl x
  | f + 1, x, o => by
    rw [Cb]
    cases Ay ([44] : List Int) x
    · exact Bo _ _
    · exact (Eh x).trans ((Ik (Fs 4 _) (.refl _)).trans ((B1 _).trans (Apj most f _ _)))
theorem Zh (most : Int) (x : RS) : Adv x (Cg most x).2 := (B1 x).trans (Apj most _ _ _)
set_option maxRecDepth 100000 in
theorem O1 (x : RS) : Adv x (Bf x).2 :=
  (B1 x).trans ((Bm _ _).trans ((Bm _ _).trans ((S6 _ _).trans ((Bm _ _).trans ((Bo _ _).trans ((Ik (Eh _) (.refl _)).trans ((Bm _ _).trans ((Bm _ _).trans ((Bm _ _).trans ((Bm _ _).trans (Bo _ _)))))))))))
theorem O3 (x : RS) : Adv x (Bx x).2 := (B1 x).trans ((Bo _ _).trans ((B1 _).trans ((Bm _ _).trans ((Bm _ _).trans ((Bm _ _).trans (Bo _ _))))))
theorem O2 (x : RS) : Adv x (Dq x).2 := (B1 x).trans ((Bo _ _).trans (Zh _ _))
theorem S8 (x : RS) : Adv x (Dz x).2 := (Ik (Eh _) (.refl _)).trans (Zh _ _)
theorem O0 (x : RS) : Adv x (Cx x).2 := (Bo _ _).trans ((Ik (.refl _) (Fs _ _)).trans ((Fa S8 _).trans (Bo _ _)))
theorem S5 (x : RS) : Adv x (foeR x).2 := (B1 x).trans ((B1 _).trans (Bo _ _))
theorem S7 (x : RS) : Adv x (Bv x).2 := (B1 x).trans ((Bo _ _).trans ((Fa O1 _).trans ((Fa O3 _).trans ((Fa O2 _).trans ((Fa O0 _).trans ((Fa S5 _).trans (Bo _ _)))))))
theorem S9 (x : RS) : Adv x (Ef x).2 := (B1 x).trans ((Bo _ _).trans ((B1 _).trans ((Bo _ _).trans ((B1 _).trans ((Bm _ _).trans ((Bm _ _).trans (Bo _ _)))))))
theorem Aph (x : RS) : Adv x (B5 x).2 := (Bo _ _).trans ((Fa S9 _).trans ((Bm _ _).trans ((Bm _ _).trans ((Bo _ _).trans (Bo _ _)))))
theorem Bf9 (n : Nat) : ∀ (f : Nat) (s : List Int), s.length < f → (lx n f s).1 = 0 → EndT (lx n f s).2.2 ∧ (lx n f s).2.2.length ≤ s.length + 1
  | 0, s, hf, _ => by omega
  | f + 1, s, hf, h => by
    have hl := M1 false s
    rw [lx] at h ⊢
    cases hd : drp false s with
    | nil => exact ⟨⟨[], _, rfl, rfl⟩, by simp⟩
    | cons x r =>
      rw [hd, List.length_cons] at hl
      rw [hd] at h
      simp only [] at h ⊢
      split at h
      · rename_i h0
        rw [if_pos h0]
        split at h
        · rename_i h1
          rw [if_pos h1]
          have hr := Ov h0
          obtain ⟨⟨q, t, e, ht⟩, hlen⟩ := Bf9 n f _ (by omega) h1
          exact ⟨⟨_ :: q, t, by simp only; rw [e]; rfl, ht⟩, by simp only [List.length_cons]; omega⟩
        · rename_i h1; exact absurd h h1
      · rename_i h0; exact absurd h h0
theorem Boi {b : List Int} (h : (toks b).1 = 0) : EndT (toks b).2.2 ∧ (toks b).2.2.length ≤ b.length + 1 := by
  unfold toks at h ⊢
  split at h
  · simp at h
  · rename_i hl
    rw [if_neg hl]
    exact Bf9 _ _ b (by omega) h
theorem A3 {R : Type} {l : List Tk} {K : Tk → Option R} (h : l ≠ []) : idx tkD l 0 K = K (hd l) := by
 cases l with
 | nil => exact absurd rfl h
 | cons x r => exact A5 (i := 0) rfl
theorem Kj {R : Type} {l : List Tk} {a b : Option R} (h : l ≠ []) : (bif inB (0 : Int) l.length then a else b) = a := by
 cases l with
 | nil => exact absurd rfl h
 | cons x r => rw [cinB, if_pos (by simp)]
theorem Ol {l : List Tk} : rdA tkD l (Int.toNat 0) = hd l := by
 cases l <;> rfl
theorem Ace {R : Type} {l : List Tk} {a b : Option R} (h : l ≠ []) : (bif cutB (1 : Int) ((l.length : Nat) : Int) l.length then a else b) = a := by
 cases l with
 | nil => exact absurd rfl h
 | cons x r => rw [Je, if_pos (by simp; omega)]
theorem Acf {l : List Tk} : cutL l 1 ((l.length : Nat) : Int) = l.tail := by
 cases l <;> simp [cutL]
theorem Aqy {R : Type} {l : List Tk} {K : List Tk → Option R} (h : l ≠ []) : cut l 1 ((l.length : Nat) : Int) K = K l.tail := by
 unfold cut
 rw [Ace h, Acf]
section
variable (k : Nat) (hk : 1000 ≤ k)
section
variable (x : RS) (g : EndT x.1)
include g
theorem is_run0 (s : List Int) : Vy k (s, x.2.1, x.2.2, x.1) = some (Ay s x, x.2.1, x.2.2, x.1) := by
 rw [B7d, A8w, Kj g.ne, Kj g.ne, Kj g.ne, Ol]
 unfold Ay
 cases x.2.1 == 0 <;> cases (hd x.1).1 != 2 <;> cases (hd x.1).1 != 0 <;> rfl
theorem L0 (s : List Int) : Il k (s, x.1, x.2.1, x.2.2) = some (Ay s x, x.1, x.2.1, x.2.2) := by
 rw [B7c, A8t, A3 g.ne, A3 g.ne, A3 g.ne]
 unfold Ay
 cases x.2.1 == 0 <;> cases (hd x.1).1 != 2 <;> cases (hd x.1).1 != 0 <;> rfl
theorem Bxk (c : Int) : Vu k (c, x.2.1, x.2.2, x.1) = some ((A2 c x).2.1, (A2 c x).2.2, (A2 c x).1) := by
 rw [B61, A8i, Kj g.ne, Ol]
 unfold A2
 cases x.2.1 == 0 <;> rfl
theorem Kf (c : Int) : Fw k (c, x.1, x.2.1, x.2.2) = some ((A2 c x).1, (A2 c x).2.1, (A2 c x).2.2) := by
 rw [B60, A8f, A3 g.ne]
 unfold A2
 cases x.2.1 == 0 <;> rfl
theorem Bgq : P6 k (x.2.1, x.2.2, x.1) = some ((hd x.1).1, (hd x.1).2.1, (hd x.1).2.2.1, (hd x.1).2.2.2.1, (A1 x).1, (A1 x).2.1, (A1 x).2.2) := by
 rw [B7l, A87, Kj g.ne, Ace g.ne, Acf, Ol]
 unfold A1
 cases x.2.1 == 0 <;> cases (hd x.1).1 != 0 <;> rfl
theorem Iw : Fd k (x.1, x.2.1, x.2.2) = some ((hd x.1).1, (hd x.1).2.1, (hd x.1).2.2.1, (hd x.1).2.2.2.1, (A1 x).1, (A1 x).2.1, (A1 x).2.2) := by
 rw [B7k, A84, A3 g.ne, Aqy g.ne]
 unfold A1
 cases x.2.1 == 0 <;> cases (hd x.1).1 != 0 <;> rfl
theorem Cg3 (s : List Int) : V2 k (s, x.2.1, x.2.2, x.1) = some ((Aj s x).1, (Aj s x).2.1, (Aj s x).2.2) := by
 rw [B74, A9o, is_run0 k x g, Option.bind_some]
 unfold Aj
 cases Ay s x
 ·have e := Bgq k (A2 50 x) ((Fs 50 x).g g)
  simp only [Bool.not_false, cond_true, cond_false, Bxk k x g, Option.bind_some]
  rw [e, Option.bind_some]
 ·simp only [Bool.not_true, cond_true, cond_false]
  rw [Bgq k x g, Option.bind_some]
theorem Dg (s : List Int) : Cm k (s, x.1, x.2.1, x.2.2) = some ((Aj s x).1, (Aj s x).2.1, (Aj s x).2.2) := by
 rw [B72, A9l, L0 k x g, Option.bind_some]
 unfold Aj
 cases Ay s x
 ·have e := Iw k (A2 50 x) ((Fs 50 x).g g)
  simp only [Bool.not_false, cond_true, cond_false, Kf k x g, Option.bind_some]
  rw [e, Option.bind_some]
 ·simp only [Bool.not_true, cond_true, cond_false]
  rw [Iw k x g, Option.bind_some]
theorem Bgs : (Hv k).J 3 [] (R5 (x.1, x.2.1, x.2.2)) = some ((numC x).1, (numC x).2.1, (numC x).2.2.1, (numC x).2.2.2) := by
 rw [B7y, Ak7, A3 g.ne, Kf k x g, Iw k x g, cbne]
 unfold numC
 by_cases h : (hd x.1).1 = 2
 ·rw [if_pos h, h]; rfl
 ·rw [if_neg h, show ((hd x.1).1 == 2) = false by simpa using h]; rfl
theorem Bgr : (Hw k).J 3 [] (R4 (x.1, x.2.1, x.2.2)) = some ((numC x).1, (numC x).2.1, (numC x).2.2.1, (numC x).2.2.2) := by
 rw [B7v, Ak3, A3 g.ne, Kf k x g, Iw k x g, cbne]
 unfold numC
 by_cases h : (hd x.1).1 = 2
 ·rw [if_pos h, h]; rfl
 ·rw [if_neg h, show ((hd x.1).1 == 2) = false by simpa using h]; rfl
theorem Ccu (w : List Int) : V0 k (w, x.2.1, x.2.2, x.1) = some ((numR w x).1, (numR w x).2.1, (numR w x).2.2.1, (numR w x).2.2.2) := by
 rw [B7x, Ak6, Cg3 k x g, Option.bind_some]
 unfold numR
 cases w == []
 ·simp only [Bool.not_false, cond_true, cond_false]
  exact Bgs k (Aj w x) ((Bo w x).g g)
 ·simp only [Bool.not_true, cond_true, cond_false]
  exact Bgs k x g
theorem Dy (w : List Int) : C0 k (w, x.1, x.2.1, x.2.2) = some ((numR w x).1, (numR w x).2.1, (numR w x).2.2.1, (numR w x).2.2.2) := by
 rw [B7u, Ak2, Dg k x g, Option.bind_some]
 unfold numR
 cases w == []
 ·simp only [Bool.not_false, cond_true, cond_false]
  exact Bgr k (Aj w x) ((Bo w x).g g)
 ·simp only [Bool.not_true, cond_true, cond_false]
  exact Bgr k x g
theorem A9w (w : List Int) : P3 k (w, x.1, x.2.1, x.2.2) = some ((Dk w x).1.1, (Dk w x).1.2, (Dk w x).2.1, (Dk w x).2.2.1, (Dk w x).2.2.2) := by
 rw [B63, A8l, Dy k x g, Option.bind_some]
 have e := Dy k (numR w x).2 ((Bm w x).g g) ([47] : List Int)
 rw [e]
 rfl
theorem J7 (w : List Int) (a b : Int) : Gq k (w, a, b, x.1, x.2.1, x.2.2) = some ((A6 w a b x).1, (A6 w a b x).2.1, (A6 w a b x).2.2.1, (A6 w a b x).2.2.2) := by
 rw [B6z, A8c, L0 k x g, Option.bind_some]
 unfold A6
 cases Ay w x
 ·rfl
 ·simp only [Bool.not_true, cond_true, cond_false]
  rw [Kf k x g, Iw k x g]
  cases a == b <;> rfl
include hk
theorem Ga : Ek k (x.1, x.2.1, x.2.2) = some ((Ah x).1, (Ah x).2.1, (Ah x).2.2.1, (Ah x).2.2.2) := by
 rw [B7f, A8z, A3 g.ne, A3 g.ne, Bhz k _ (by omega), Kf k x g, Iw k x g, Option.bind_some, cbne]
 unfold Ah
 by_cases h : (hd x.1).1 = 1
 ·rw [if_pos h, show ((hd x.1).1 == 1) = true by simpa using h]
  cases resB (hd x.1).2.1 <;> rfl
 ·rw [if_neg h, show ((hd x.1).1 == 1) = false by simpa using h]; rfl
end
theorem Cf3 {x : RS} {s : List Int} (h : Ay s x = true) (g : EndT x.1) : (A1 x).1.length < x.1.length := by
 have := g.ne
 unfold Ay at h
 simp only [Bool.and_eq_true] at h
 unfold A1
 rw [h.1, h.2.2.1]
 cases hx : x.1 with
 | nil => exact absurd hx this
 | cons y r => simp
include hk
theorem Bgj (most : Int) : ∀ (f j : Nat) (x : RS) (o : List (List Int)), x.1.length < f → x.1.length < j → EndT x.1 → o.length + x.1.length ≤ 200000 →
  (Ec k).L 2 [] j (R2 (most, x.1, x.2.1, x.2.2, o)) = some ((Cb most f x o).2.1, (Cb most f x o).2.2.1, (Cb most f x o).2.2.2, (Cb most f x o).1)
 | 0, j, x, o, h, _, _, _ => by omega
 | f + 1, 0, x, o, _, h, _, _ => by omega
 | f + 1, j + 1, x, o, hf, hj, g, hm => by
  rw [B7j, Akm, L0 k x g, Option.bind_some, Cb]
  cases hs : Ay ([44] : List Int) x
  ·simp only [cond_false]
   rw [Dg k x g]
   rfl
  ·have hlt := Cf3 hs g
   have gy := (Eh x).g g
   simp only [cond_true]
   rw [Iw k x g, Option.bind_some]
   simp only
   rw [A3 gy.ne, A3 gy.ne, Bhz k _ (by omega), Option.bind_some, Kf k (A1 x) gy 4, Option.bind_some]
   generalize hz : (bif (((o.length : Nat) : Int) == most) && ((hd (A1 x).1).1 == 1 && !(resB (hd (A1 x).1).2.1)) then A2 4 (A1 x) else A1 x) = z
   have az : Adv (A1 x) z := by rw [← hz]; exact Ik (Fs 4 _) (.refl _)
   have gz := az.g gy
   have hzl := az.l
   have J6 : (Ec k).J 6 [j] (Lt (most, z.1, z.2.1, z.2.2, o)) = some ((Cb most f (Ah z).2 (o ++ [(Ah z).1])).2.1, (Cb most f (Ah z).2 (o ++ [(Ah z).1])).2.2.1, (Cb most f (Ah z).2 (o ++ [(Ah z).1])).2.2.2, (Cb most f (Ah z).2 (o ++ [(Ah z).1])).1) := by
    have hn := (B1 z).l
    rw [B7i, Akl, Ga k hk z gz, Option.bind_some, Ce (by simp; omega) (by simp; omega)]
    exact Bgj most f j (Ah z).2 _ (by omega) (by omega) ((B1 z).g gz) (by simp; omega)
   rw [← J6, ← hz]
   cases ((o.length : Nat) : Int) == most
   ·simp only [cond_false, Bool.false_and]
   ·cases (hd (A1 x).1).1 == 1
    ·rw [cond_true, cond_false, Bool.false_and, Bool.and_false, cond_false]
    ·cases resB (hd (A1 x).1).2.1 <;> simp only [cond_false, cond_true, Bool.not_true, Bool.not_false, Bool.and_false, Bool.and_true]
theorem Bgk (most : Int) (x : RS) (g : EndT x.1) (hl : x.1.length < k) (hm : x.1.length ≤ 100000) : P5 k (most, x.1, x.2.1, x.2.2) = some ((Cg most x).2.1, (Cg most x).2.2.1, (Cg most x).2.2.2, (Cg most x).1) := by
 have hn := (B1 x).l
 rw [B7h, Akk, Ga k hk x g, Option.bind_some]
 exact Bgj k hk most _ k (Ah x).2 _ (by omega) (by omega) ((B1 x).g g) (by simp; omega)
end
def TokW (t : Tk) : Prop := (t.1 = 0 → t.2.1 = []) ∧ (t.1 = 2 → ∀ c ∈ t.2.1, A0 c = true)
def WS (s : List Int) : Prop := ∃ c r, s = c :: r ∧ A0 c = false
structure Rdy (l : List Tk) : Prop where
 e : EndT l
 w : ∀ t ∈ l, TokW t
theorem Rdy.ne {l : List Tk} (r : Rdy l) : l ≠ [] := r.e.ne
theorem Rdy.hd {l : List Tk} (r : Rdy l) : TokW (hd l) := by
 have := r.ne
 cases l with
 | nil => exact absurd rfl this
 | cons t q => exact r.w t (by simp)
theorem Rdy.of {x y : RS} (r : Rdy x.1) (h : Adv x y) (hs : y.1 <:+ x.1) : Rdy y.1 := ⟨h.g r.e, fun t ht => r.w t (hs.subset ht)⟩
abbrev Suf (x y : RS) : Prop := y.1 <:+ x.1
theorem Suf.trans {x y z : RS} (h : Suf x y) (h2 : Suf y z) : Suf x z := List.IsSuffix.trans h2 h
theorem Gf (x : RS) : Suf x x := List.suffix_rfl
theorem Mh (c : Int) (x : RS) : Suf x (A2 c x) := by
 unfold A2
 cases x.2.1 == 0 <;> exact List.suffix_rfl
theorem I7 (x : RS) : Suf x (A1 x) := by
 unfold A1
 cases h : x.2.1 == 0 && (Go.Proofs.YtipcabmhdokfjaaGreatDoorV.hd x.1).1 != 0
 ·exact List.suffix_rfl
 ·exact List.tail_suffix _
theorem Jw {x y z : RS} {c : Bool} (h : Suf x y) (h2 : Suf x z) : Suf x (bif c then y else z) := by cases c <;> assumption
theorem Cy (s : List Int) (x : RS) : Suf x (Aj s x) := (Jw (Gf x) (Mh 50 x)).trans (I7 _)
theorem Fo (x : RS) : Suf x (Ah x).2 := by
 unfold Ah
 cases (Go.Proofs.YtipcabmhdokfjaaGreatDoorV.hd x.1).1 == 1 && !(resB (Go.Proofs.YtipcabmhdokfjaaGreatDoorV.hd x.1).2.1)
 ·exact Mh 50 x
 ·exact I7 x
theorem Y7 (x : RS) : Suf x (numC x).2 := by
 unfold numC
 cases (Go.Proofs.YtipcabmhdokfjaaGreatDoorV.hd x.1).1 == 2
 ·exact Mh 50 x
 ·exact I7 x
theorem Zi (x : RS) : Adv x (numC x).2 := by
 unfold numC
 cases (Go.Proofs.YtipcabmhdokfjaaGreatDoorV.hd x.1).1 == 2
 ·exact Fs 50 x
 ·exact Eh x
theorem Ds (w : List Int) (x : RS) : Suf x (numR w x).2 := (Jw (c := w == []) (Gf x) (Cy w x)).trans (Y7 _)
theorem Bod (w : List Int) (x : RS) : Suf x (Dk w x).2 := (Ds w x).trans (Ds _ _)
theorem Cgl (w : List Int) (a b : Int) (x : RS) : Suf x (A6 w a b x).2 := by
 unfold A6
 cases Ay w x
 ·exact Gf x
 ·cases a == b
  ·exact I7 x
  ·exact Mh 4 x
theorem Boe {α : Type} (w : List Int) (most : Int) (item : RS → α × RS) (hi : ∀ x, Suf x (item x).2) : ∀ (f : Nat) (x : RS) (o : List α), Suf x (Cs w most item f x o).2
 | 0, x, o => Gf x
 | f + 1, x, o => by
  rw [Cs]
  have hb := Cgl w ((o.length : Nat) : Int) most x
  cases (A6 w ((o.length : Nat) : Int) most x).1
  ·exact hb
  ·exact hb.trans ((hi _).trans (Boe w most item hi f _ _))
theorem Jx {α : Type} {w : List Int} {most : Int} {item : RS → α × RS} (hi : ∀ x, Suf x (item x).2) (x : RS) : Suf x (Aw w most item x).2 := Boe w most item hi _ x []
theorem Bof (most : Int) : ∀ (f : Nat) (x : RS) (o : List (List Int)), Suf x (Cb most f x o).2
 | 0, x, o => Gf x
 | f + 1, x, o => by
  rw [Cb]
  cases Ay ([44] : List Int) x
  ·exact Cy _ _
  ·exact (I7 x).trans ((Jw (Mh 4 _) (Gf _)).trans ((Fo _).trans (Bof most f _ _)))
theorem Aos (most : Int) (x : RS) : Suf x (Cg most x).2 := (Fo x).trans (Bof most _ _ _)
set_option maxRecDepth 100000 in
theorem Aor (x : RS) : Suf x (Bf x).2 :=
 (Fo x).trans ((Ds _ _).trans ((Ds _ _).trans ((Bod _ _).trans ((Ds _ _).trans ((Cy _ _).trans ((Jw (I7 _) (Gf _)).trans ((Ds _ _).trans ((Ds _ _).trans ((Ds _ _).trans ((Ds _ _).trans (Cy _ _)))))))))))
theorem Aox (x : RS) : Suf x (Bx x).2 := (Fo x).trans ((Cy _ _).trans ((Fo _).trans ((Ds _ _).trans ((Ds _ _).trans ((Ds _ _).trans (Cy _ _))))))
theorem Aou (x : RS) : Suf x (Dq x).2 := (Fo x).trans ((Cy _ _).trans (Aos _ _))
theorem Aov (x : RS) : Suf x (Dz x).2 := (Jw (I7 _) (Gf _)).trans (Aos _ _)
theorem Aoq (x : RS) : Suf x (Cx x).2 := (Cy _ _).trans ((Jw (Gf _) (Mh _ _)).trans ((Jx Aov _).trans (Cy _ _)))
theorem Aop (x : RS) : Suf x (foeR x).2 := (Fo x).trans ((Fo _).trans (Cy _ _))
theorem Aot (x : RS) : Suf x (Bv x).2 := (Fo x).trans ((Cy _ _).trans ((Jx Aor _).trans ((Jx Aox _).trans ((Jx Aou _).trans ((Jx Aoq _).trans ((Jx Aop _).trans (Cy _ _)))))))
theorem Aow (x : RS) : Suf x (Ef x).2 := (Fo x).trans ((Cy _ _).trans ((Fo _).trans ((Cy _ _).trans ((Fo _).trans ((Ds _ _).trans ((Ds _ _).trans (Cy _ _)))))))
section
variable {l : List Tk} {e p : Int} (h : e ≠ 0)
include h
theorem Ak (c : Int) : A2 c (l, e, p) = (l, e, p) := by
 have he : (e == 0) = false := by simpa using h
 unfold A2; simp only [he]; rfl
theorem An : A1 (l, e, p) = (l, e, p) := by
 have he : (e == 0) = false := by simpa using h
 unfold A1; simp only [he]; rfl
theorem Al (s : List Int) : Ay s (l, e, p) = false := by
 have he : (e == 0) = false := by simpa using h
 unfold Ay; simp only [he]; rfl
theorem Am (s : List Int) : Aj s (l, e, p) = (l, e, p) := by
 unfold Aj; rw [Al h, cond_false, Ak h, An h]
theorem Aq : (Ah (l, e, p)).2 = (l, e, p) := by
 unfold Ah
 cases (Go.Proofs.YtipcabmhdokfjaaGreatDoorV.hd (l, e, p).1).1 == 1 && !(resB (Go.Proofs.YtipcabmhdokfjaaGreatDoorV.hd (l, e, p).1).2.1)
 ·exact Ak h 50
 ·exact An h
theorem Ao : (numC (l, e, p)).2 = (l, e, p) := by
 unfold numC
 cases (Go.Proofs.YtipcabmhdokfjaaGreatDoorV.hd (l, e, p).1).1 == 2
 ·exact Ak h 50
 ·exact An h
theorem stk_num (w : List Int) : (numR w (l, e, p)).2 = (l, e, p) := by
 unfold numR
 cases w == []
 ·rw [cond_false, Am h, Ao h]
 ·exact Ao h
theorem Ar {α : Type} (w : List Int) (most : Int) (item : RS → α × RS) : (Aw w most item (l, e, p)).2 = (l, e, p) := by
 unfold Aw
 rw [Cs]
 unfold A6
 rw [Al h]
 rfl
theorem Av (most : Int) : (Cg most (l, e, p)).2 = (l, e, p) := by
 unfold Cg
 rw [Aq h, Cb, Al h, cond_false, Am h]
end
inductive OK {α : Type} (l0 : List Tk) : α × RS → Prop
 | fail (v : α) (l : List Tk) (e p : Int) (h : e ≠ 0) : OK l0 (v, l, e, p)
 | ok (v : α) (l : List Tk) (r : Rdy l) (hl : l.length ≤ l0.length) : OK l0 (v, l, 0, 0)
inductive OK1 (l0 : List Tk) : RS → Prop
 | fail (l : List Tk) (e p : Int) (h : e ≠ 0) : OK1 l0 (l, e, p)
 | ok (l : List Tk) (r : Rdy l) (hl : l.length ≤ l0.length) : OK1 l0 (l, 0, 0)
def Zr (x : RS) : Prop := (x.2.1 = 0 → x.2.2 = 0) ∧ (x.2.1 = 0 ∨ x.2.1 = 50 ∨ x.2.1 = 4)
theorem zr0 {l : List Tk} : Zr (l, 0, 0) := ⟨fun _ => rfl, .inl rfl⟩
theorem OK.of {α : Type} {l0 : List Tk} (r : Rdy l0) {o : α × RS} (ha : Adv (l0, 0, 0) o.2) (hs : Suf (l0, 0, 0) o.2) (hz : Zr o.2) : OK l0 o := by
 obtain ⟨v, l, e, p⟩ := o
 by_cases he : e = 0
 ·subst he
  obtain rfl : p = 0 := hz.1 rfl
  exact .ok v l (Rdy.of (x := (l0, 0, 0)) (y := (l, 0, 0)) r ha hs) ha.l
 ·exact .fail v l e p he
theorem OK1.of {l0 : List Tk} (r : Rdy l0) {y : RS} (ha : Adv (l0, 0, 0) y) (hs : Suf (l0, 0, 0) y) (hz : Zr y) : OK1 l0 y := by
 obtain ⟨l, e, p⟩ := y
 by_cases he : e = 0
 ·subst he
  obtain rfl : p = 0 := hz.1 rfl
  exact .ok l (Rdy.of (x := (l0, 0, 0)) (y := (l, 0, 0)) r ha hs) ha.l
 ·exact .fail l e p he
theorem K3 (c : Int) (hc : c = 50 ∨ c = 4) (x : RS) (h : Zr x) : Zr (A2 c x) := by
 unfold A2
 cases hx : x.2.1 == 0
 ·exact h
 ·exact ⟨fun (h2 : c = 0) => by omega, .inr hc⟩
theorem Ih (x : RS) (h : Zr x) : Zr (A1 x) := by
 unfold A1
 cases x.2.1 == 0 && (Go.Proofs.YtipcabmhdokfjaaGreatDoorV.hd x.1).1 != 0 <;> exact h
theorem I9 {y z : RS} {c : Bool} (h : Zr y) (h2 : Zr z) : Zr (bif c then y else z) := by cases c <;> assumption
theorem Cv (s : List Int) (x : RS) (h : Zr x) : Zr (Aj s x) := Ih _ (I9 h (K3 50 (by decide) x h))
theorem Fq (x : RS) (h : Zr x) : Zr (Ah x).2 := by
 unfold Ah
 cases (Go.Proofs.YtipcabmhdokfjaaGreatDoorV.hd x.1).1 == 1 && !(resB (Go.Proofs.YtipcabmhdokfjaaGreatDoorV.hd x.1).2.1)
 ·exact K3 50 (by decide) x h
 ·exact Ih x h
theorem Zd (x : RS) (h : Zr x) : Zr (numC x).2 := by
 unfold numC
 cases (Go.Proofs.YtipcabmhdokfjaaGreatDoorV.hd x.1).1 == 2
 ·exact K3 50 (by decide) x h
 ·exact Ih x h
theorem Dt (w : List Int) (x : RS) (h : Zr x) : Zr (numR w x).2 := Zd _ (I9 h (Cv w x h))
theorem Bov (w : List Int) (x : RS) (h : Zr x) : Zr (Dk w x).2 := Dt _ _ (Dt w x h)
theorem Cg5 (w : List Int) (a b : Int) (x : RS) (h : Zr x) : Zr (A6 w a b x).2 := by
 unfold A6
 cases Ay w x
 ·exact h
 ·cases a == b
  ·exact Ih x h
  ·exact K3 4 (by decide) x h
theorem Bow {α : Type} (w : List Int) (most : Int) (item : RS → α × RS) (hi : ∀ x, Zr x → Zr (item x).2) : ∀ (f : Nat) (x : RS) (o : List α), Zr x → Zr (Cs w most item f x o).2
 | 0, x, o, h => h
 | f + 1, x, o, h => by
  rw [Cs]
  have hb := Cg5 w ((o.length : Nat) : Int) most x h
  cases (A6 w ((o.length : Nat) : Int) most x).1
  ·exact hb
  ·exact Bow w most item hi f _ _ (hi _ hb)
theorem J1 {α : Type} (w : List Int) (most : Int) (item : RS → α × RS) (hi : ∀ x, Zr x → Zr (item x).2) (x : RS) (h : Zr x) : Zr (Aw w most item x).2 := Bow w most item hi _ x [] h
theorem Box (most : Int) : ∀ (f : Nat) (x : RS) (o : List (List Int)), Zr x → Zr (Cb most f x o).2
 | 0, x, o, h => h
 | f + 1, x, o, h => by
  rw [Cb]
  cases Ay ([44] : List Int) x
  ·exact Cv _ _ h
  ·exact Box most f _ _ (Fq _ (I9 (K3 4 (by decide) _ (Ih x h)) (Ih x h)))
theorem Ao4 (most : Int) (x : RS) (h : Zr x) : Zr (Cg most x).2 := Box most _ _ _ (Fq x h)
section
variable {l : List Tk} (r : Rdy l)
include r
theorem Bl (s : List Int) : OK1 l (Aj s (l, 0, 0)) := .of r (Bo s _) (Cy s _) (Cv s _ zr0)
theorem I1 : OK l (Ah (l, 0, 0)) := .of r (B1 _) (Fo _) (Fq _ zr0)
theorem C7 : OK l (numC (l, 0, 0)) := .of r (Zi _) (Y7 _) (Zd _ zr0)
theorem Bgw (most : Int) : OK l (Cg most (l, 0, 0)) := .of r (Zh most _) (Aos most _) (Ao4 most _ zr0)
theorem ok_next : OK1 l (A1 (l, 0, 0)) := .of r (Eh _) (I7 _) (Ih _ zr0)
theorem Ccz (s : List Int) : OK1 l (bif Ay s (l, 0, 0) then A1 (l, 0, 0) else (l, 0, 0)) := .of r (Ik (Eh _) (.refl _)) (Jw (I7 _) (Gf _)) (I9 (Ih _ zr0) zr0)
theorem ok_sees (s : List Int) : OK1 l (bif Ay s (l, 0, 0) then (l, 0, 0) else A2 50 (l, 0, 0)) := .of r (Ik (.refl _) (Fs _ _)) (Jw (Gf _) (Mh _ _)) (I9 zr0 (K3 50 (by decide) _ zr0))
theorem Oo {s : List Int} (hs : WS s) : Ay s (l, 0, 0) = ((Go.Proofs.YtipcabmhdokfjaaGreatDoorV.hd l).2.1 == s) := by
 have hw := r.hd
 unfold Ay
 simp only [beq_self_eq_true, Bool.true_and]
 cases h : (Go.Proofs.YtipcabmhdokfjaaGreatDoorV.hd l).2.1 == s
 ·simp
 ·have h2 : (Go.Proofs.YtipcabmhdokfjaaGreatDoorV.hd l).2.1 = s := by simpa using h
  obtain ⟨c, q, rfl, hc⟩ := hs
  have h3 : ¬ (Go.Proofs.YtipcabmhdokfjaaGreatDoorV.hd l).1 = 2 := fun e => by
   have := hw.2 e c (by rw [h2]; simp)
   rw [hc] at this
   cases this
  have h4 : ¬ (Go.Proofs.YtipcabmhdokfjaaGreatDoorV.hd l).1 = 0 := fun e => by
   have := hw.1 e
   rw [h2] at this
   cases this
  simp [h3, h4]
end
def D5 (x : RS) : (Int × Int) × RS := (((numC x).1, (numC (Aj ([47] : List Int) (numC x).2)).1), (numC (Aj ([47] : List Int) (numC x).2)).2)
theorem Iy (c : Int) (w : List Int) (x : RS) : numR (c :: w) x = numC (Aj (c :: w) x) := rfl
theorem Iz (x : RS) : numR [] x = numC x := rfl
theorem Iq (c : Int) (w : List Int) (x : RS) : Dk (c :: w) x = D5 (Aj (c :: w) x) := rfl
theorem Bo0 (x : RS) : Adv x (D5 x).2 := (Zi x).trans ((Bo _ _).trans (Zi _))
theorem Cgm (x : RS) : Suf x (D5 x).2 := (Y7 x).trans ((Cy _ _).trans (Y7 _))
theorem Cg6 (x : RS) (h : Zr x) : Zr (D5 x).2 := Zd _ (Cv _ _ (Zd x h))
theorem Bgv {l : List Tk} (r : Rdy l) : OK l (D5 (l, 0, 0)) := .of r (Bo0 _) (Cgm _) (Cg6 _ zr0)
theorem Au {l : List Tk} {e p : Int} (h : e ≠ 0) : (D5 (l, e, p)).2 = (l, e, p) := by
 unfold D5
 rw [Ao h, Am h, Ao h]
def Sim {ρ : Type} (c : Option ρ) (pr : ρ → Bool × Int × Int × List Tk) (y : RS) (post : ρ → Prop) : Prop :=
 ∃ r, c = some r ∧ pr r = (y.2.1 == 0, y.2.1, y.2.2, y.1) ∧ (y.2.1 = 0 → post r)
section
variable {ρ ρ' : Type} {pr : ρ → Bool × Int × Int × List Tk} {pr' : ρ' → Bool × Int × Int × List Tk} {y : RS} {post : ρ → Prop} {post' : ρ' → Prop}
theorem As {A : ρ} {B : Option ρ} {l : List Tk} {e p : Int} (h : e ≠ 0) (hp : pr A = (e == 0, e, p, l)) (hy : y = (l, e, p)) : Sim (bif !(e == 0) then some A else B) pr y post := by
 have h2 : (e == 0) = false := by simpa using h
 subst hy
 refine ⟨A, by rw [h2]; rfl, hp, fun h3 => absurd h3 h⟩
theorem Gc {A : ρ} (hp : pr A = (y.2.1 == 0, y.2.1, y.2.2, y.1)) (h : y.2.1 = 0 → post A) : Sim (some A) pr y post := ⟨A, rfl, hp, h⟩
theorem Jv {c : Option ρ} {F : ρ → ρ'} (hp : ∀ r, pr' (F r) = pr r) (h : Sim c pr y fun r => post' (F r)) : Sim (c.bind fun o => some (F o)) pr' y post' := by
 obtain ⟨r, rfl, h1, h2⟩ := h
 exact ⟨F r, rfl, (hp r).trans h1, h2⟩
end
section
variable {ρ ρ' : Type} {pr : ρ → Bool × Int × Int × List Tk} {pr' : ρ' → Bool × Int × Int × List Tk} {y : RS} {post : ρ → Prop} {post' : ρ' → Prop}
theorem E7 {c : Option ρ} (h1 : Sim c pr y post) {F : ρ → Option ρ'} {y2 : RS} (hK : ∀ q, pr q = (y.2.1 == 0, y.2.1, y.2.2, y.1) → (y.2.1 = 0 → post q) → Sim (F q) pr' y2 post') : Sim (c.bind F) pr' y2 post' := by
 obtain ⟨r, rfl, h2, h3⟩ := h1
 exact hK r h2 h3
theorem Cf8 {c : Option ρ} {b : ρ → Bool} {A B : ρ → ρ'} (hA : ∀ r, pr' (A r) = pr r) (hB : ∀ r, pr' (B r) = pr r) (h : Sim c pr y fun r => post' (bif b r then A r else B r)) : Sim (c.bind fun o => bif b o then some (A o) else some (B o)) pr' y post' := by
 obtain ⟨r, rfl, h1, h2⟩ := h
 refine ⟨bif b r then A r else B r, ?_, ?_, h2⟩
 ·show (bif b r then some (A r) else some (B r)) = _
  cases b r <;> rfl
 ·rw [← h1]
  cases b r
  ·exact hB r
  ·exact hA r
end
set_option maxRecDepth 100000 in
theorem Ao3 (x : RS) (h : Zr x) : Zr (Bf x).2 :=
 have q := Cv ([103, 114, 97, 100, 101] : List Int) _ (Dt ([115, 112, 101, 101, 100] : List Int) _ (Bov ([117, 115, 101] : List Int) _ (Dt ([102, 108, 111, 119] : List Int) _ (Dt ([118, 111, 108, 117, 109, 101] : List Int) _ (Fq x h)))))
 Cv _ _ (Dt _ _ (Dt _ _ (Dt _ _ (Dt _ _ (I9 (Ih _ q) q)))))
theorem Ao9 (x : RS) (h : Zr x) : Zr (Bx x).2 := Cv _ _ (Dt _ _ (Dt _ _ (Dt _ _ (Fq _ (Cv _ _ (Fq _ h))))))
theorem Ao6 (x : RS) (h : Zr x) : Zr (Dq x).2 := Ao4 _ _ (Cv _ _ (Fq _ h))
theorem Ao7 (x : RS) (h : Zr x) : Zr (Dz x).2 := Ao4 _ _ (I9 (Ih _ h) h)
theorem Ao2 (x : RS) (h : Zr x) : Zr (Cx x).2 := Cv _ _ (J1 _ _ _ (fun x h => Ao7 x h) _ (I9 (Cv _ _ h) (K3 50 (by decide) _ (Cv _ _ h))))
theorem Ao1 (x : RS) (h : Zr x) : Zr (foeR x).2 := Cv _ _ (Fq _ (Fq _ h))
theorem Ao5 (x : RS) (h : Zr x) : Zr (Bv x).2 :=
 Cv _ _ (J1 _ _ _ (fun x h => Ao1 x h) _ (J1 _ _ _ (fun x h => Ao2 x h) _ (J1 _ _ _ (fun x h => Ao6 x h) _ (J1 _ _ _ (fun x h => Ao9 x h) _ (J1 _ _ _ (fun x h => Ao3 x h) _ (Cv _ _ (Fq _ h)))))))
theorem Ao8 (x : RS) (h : Zr x) : Zr (Ef x).2 := Cv _ _ (Dt _ _ (Dt _ _ (Fq _ (Cv _ _ (Fq _ (Cv _ _ (Fq _ h)))))))
theorem Kr {α : Type} {l : List Tk} (r : Rdy l) (w : List Int) (most : Int) {item : RS → α × RS} (ha : ∀ x, Adv x (item x).2) (hs : ∀ x, Suf x (item x).2) (hz : ∀ x, Zr x → Zr (item x).2) : OK l (Aw w most item (l, 0, 0)) :=
 .of r (Fa ha _) (Jx hs _) (J1 w most item hz _ zr0)
theorem Cge {α : Type} (w : List Int) (most : Int) (item : RS → α × RS) {l : List Tk} {e p : Int} (h : e ≠ 0) : ∀ (f : Nat) (o : List α), (Cs w most item f (l, e, p) o).2 = (l, e, p)
 | 0, o => rfl
 | f + 1, o => by
  rw [Cs]
  unfold A6
  rw [Al h]
  rfl
theorem Bob (most : Int) {l : List Tk} {e p : Int} (h : e ≠ 0) : ∀ (f : Nat) (o : List (List Int)), (Cb most f (l, e, p) o).2 = (l, e, p)
 | 0, o => rfl
 | f + 1, o => by
  rw [Cb, Al h, cond_false]
  exact Am h _
set_option maxRecDepth 100000
def nx (l : List Tk) : List Tk := bif (hd l).1 != 0 then l.tail else l
theorem Jk (l : List Tk) : A1 (l, 0, 0) = (nx l, 0, 0) := by
 unfold A1 nx
 cases (hd l).1 != 0 <;> rfl
theorem C6 (l : List Tk) : numC (l, 0, 0) = bif (hd l).1 == 2 then ((hd l).2.2.1, nx l, 0, 0) else (0, l, 50, (hd l).2.2.2.1) := by
 unfold numC
 rw [Jk]
 rfl
theorem C5 (l : List Tk) : Ah (l, 0, 0) = bif (hd l).1 == 1 && !(resB (hd l).2.1) then ((hd l).2.1, nx l, 0, 0) else ([], l, 50, (hd l).2.2.2.1) := by
 unfold Ah
 rw [Jk]
 rfl
theorem Bor {l : List Tk} (r : Rdy l) {s : List Int} (hs : WS s) : Aj s (l, 0, 0) = bif (hd l).2.1 == s then (nx l, 0, 0) else (l, 50, (hd l).2.2.2.1) := by
 unfold Aj
 rw [Oo r hs]
 cases (hd l).2.1 == s
 ·exact An (by decide)
 ·exact Jk l
theorem Anc {l : List Tk} (r : Rdy l) (s : List Int) : ∃ l2, (bif Ay s (l, 0, 0) then A1 (l, 0, 0) else (l, 0, 0)) = (l2, 0, 0) ∧ Rdy l2 ∧ l2.length ≤ l.length := by
 have h := Ccz r s
 cases hs : Ay s (l, 0, 0)
 ·exact ⟨l, rfl, r, Nat.le_refl _⟩
 ·rw [hs, cond_true] at h
  rw [cond_true]
  rw [Jk] at h ⊢
  cases h with
  | fail _ _ _ h => exact absurd rfl h
  | ok _ r2 h2 => exact ⟨_, rfl, r2, h2⟩
theorem cut_nx {R : Type} {l : List Tk} (r : Rdy l) {K : List Tk → Option R} : (bif (hd l).1 != 0 then cut l 1 ((l.length : Nat) : Int) K else K l) = K (nx l) := by
 rw [Aqy r.ne]
 unfold nx
 cases (hd l).1 != 0 <;> rfl
theorem pis_run (k : Nat) {l : List Tk} (r : Rdy l) (s : List Int) : cpis k (s, l) = some ((hd l).2.1 == s, l) := by
 rw [fpis_e, Axz, Kj r.ne, Ol]
theorem By (k : Nat) {l : List Tk} (r : Rdy l) (s : List Int) : Dh k (s, l) = some ((hd l).2.1 == s, l) := by
 rw [B16, Axw, A3 r.ne]
theorem Cdm (k : Nat) {l : List Tk} (r : Rdy l) (c : Int) : cpfail k (c, l) = some (false, c, (hd l).2.2.2.1, l) := by
 rw [B1w, Axc, Kj r.ne, Ol]
theorem Bd (k : Nat) {l : List Tk} (r : Rdy l) (c : Int) : A7 k (c, l) = some (false, c, (hd l).2.2.2.1, l) := by
 rw [B1v, Aw9, A3 r.ne]
theorem Cfd (k : Nat) {l : List Tk} (r : Rdy l) : cptake k l = some ((hd l).1, (hd l).2.1, (hd l).2.2.1, (hd l).2.2.2.1, nx l) := by
 rw [B5u, A6j, Kj r.ne, Ol, Ace r.ne, Acf]
 unfold nx
 cases (hd l).1 != 0 <;> rfl
theorem A8 (k : Nat) {l : List Tk} (r : Rdy l) : A4 k l = some ((hd l).1, (hd l).2.1, (hd l).2.2.1, (hd l).2.2.2.1, nx l) := by
 rw [B5t, A6g, A3 r.ne]
 exact cut_nx r (K := fun o2 => some ((hd l).1, (hd l).2.1, (hd l).2.2.1, (hd l).2.2.2.1, o2))
theorem Ie (k : Nat) {l : List Tk} (r : Rdy l) : cpnamed k l = some ((hd l).1 == 1 && !(resB (hd l).2.1), l) := by
 rw [B3d, A0n, A3 r.ne, A3 r.ne, An3, Option.bind_some]
 cases (hd l).1 == 1 <;> rfl
theorem Yu (k : Nat) {l : List Tk} (r : Rdy l) : Pt k l = some ((hd l).1 == 1 && !(resB (hd l).2.1)) := by
 rw [B3b, A0j, A3 r.ne, A3 r.ne, An3, Option.bind_some]
 cases (hd l).1 == 1 <;> rfl
theorem Cfi (k : Nat) {a1 : List Tk} (r : Rdy a1) (a0 : _) (hs : WS a0) : Vl k (a0, a1) = some ((Aj a0 (a1, 0, 0)).2.1 == 0, (Aj a0 (a1, 0, 0)).2.1, (Aj a0 (a1, 0, 0)).2.2, a0, (Aj a0 (a1, 0, 0)).1) := by
 rw [B5z, A6t, pis_run k r, Option.bind_some, Bor r hs]
 simp only [Cdm k r, Cfd k r]
 cases h : (hd a1).2.1 == a0 <;> simp only [h, Bool.not_true, Bool.not_false, cond_true, cond_false, Option.bind_some] <;> rfl
theorem Ce2 (k : Nat) {a0 : List Tk} (r : Rdy a0) (a1 : _) (a2 : _) (a3 : _) (a4 : _) (a5 : _) (a6 : _) (a7 : _) : Us k (a0, a1, a2, a3, a4, a5, a6, a7) = some ((numC (a0, 0, 0)).2.2.1 == 0, (numC (a0, 0, 0)).2.2.1, (numC (a0, 0, 0)).2.2.2, (numC (a0, 0, 0)).2.1, (bif (numC (a0, 0, 0)).2.2.1 == 0 then (numC (a0, 0, 0)).1 else a1), a2, a3, a4, a5, a6, a7) := by
 rw [B49, A4w, A3 r.ne, Bd k r, A8 k r, C6]
 cases h : (hd a0).1 == 2 <;> simp only [bne, h, Bool.not_true, Bool.not_false, cond_true, cond_false, Option.bind_some] <;> rfl
theorem Bn (k : Nat) {a1 : List Tk} (r : Rdy a1) (a0 : _) (hs : WS a0) : Bj k (a0, a1) = some ((Aj a0 (a1, 0, 0)).2.1 == 0, (Aj a0 (a1, 0, 0)).2.1, (Aj a0 (a1, 0, 0)).2.2, a0, (Aj a0 (a1, 0, 0)).1) := by
 rw [B5x, A6q, By k r, Option.bind_some, Bor r hs]
 simp only [Bd k r, A8 k r]
 cases h : (hd a1).2.1 == a0 <;> simp only [h, Bool.not_true, Bool.not_false, cond_true, cond_false, Option.bind_some] <;> rfl
theorem Ces (k : Nat) {a0 : List Tk} (r : Rdy a0) (a1 : _) (a2 : _) (a3 : _) (a4 : _) (a5 : _) (a6 : _) (a7 : _) : Ut k (a0, a1, a2, a3, a4, a5, a6, a7) = some ((numC (a0, 0, 0)).2.2.1 == 0, (numC (a0, 0, 0)).2.2.1, (numC (a0, 0, 0)).2.2.2, (numC (a0, 0, 0)).2.1, a1, (bif (numC (a0, 0, 0)).2.2.1 == 0 then (numC (a0, 0, 0)).1 else a2), a3, a4, a5, a6, a7) := by
 rw [B4q, A32, A3 r.ne, Bd k r, A8 k r, C6]
 cases h : (hd a0).1 == 2 <;> simp only [bne, h, Bool.not_true, Bool.not_false, cond_true, cond_false, Option.bind_some] <;> rfl
theorem Ceu (k : Nat) {a0 : List Tk} (r : Rdy a0) (a1 : _) (a2 : _) (a3 : _) (a4 : _) (a5 : _) (a6 : _) (a7 : _) : U4 k (a0, a1, a2, a3, a4, a5, a6, a7) = some ((numC (a0, 0, 0)).2.2.1 == 0, (numC (a0, 0, 0)).2.2.1, (numC (a0, 0, 0)).2.2.2, (numC (a0, 0, 0)).2.1, a1, a2, (bif (numC (a0, 0, 0)).2.2.1 == 0 then (numC (a0, 0, 0)).1 else a3), a4, a5, a6, a7) := by
 rw [B4u, A38, A3 r.ne, Bd k r, A8 k r, C6]
 cases h : (hd a0).1 == 2 <;> simp only [bne, h, Bool.not_true, Bool.not_false, cond_true, cond_false, Option.bind_some] <;> rfl
theorem Cev (k : Nat) {a0 : List Tk} (r : Rdy a0) (a1 : _) (a2 : _) (a3 : _) (a4 : _) (a5 : _) (a6 : _) (a7 : _) : U6 k (a0, a1, a2, a3, a4, a5, a6, a7) = some ((numC (a0, 0, 0)).2.2.1 == 0, (numC (a0, 0, 0)).2.2.1, (numC (a0, 0, 0)).2.2.2, (numC (a0, 0, 0)).2.1, a1, a2, a3, (bif (numC (a0, 0, 0)).2.2.1 == 0 then (numC (a0, 0, 0)).1 else a4), a5, a6, a7) := by
 rw [B4w, A4b, A3 r.ne, Bd k r, A8 k r, C6]
 cases h : (hd a0).1 == 2 <;> simp only [bne, h, Bool.not_true, Bool.not_false, cond_true, cond_false, Option.bind_some] <;> rfl
theorem Cew (k : Nat) {a0 : List Tk} (r : Rdy a0) (a1 : _) (a2 : _) (a3 : _) (a4 : _) (a5 : _) (a6 : _) (a7 : _) : U7 k (a0, a1, a2, a3, a4, a5, a6, a7) = some ((numC (a0, 0, 0)).2.2.1 == 0, (numC (a0, 0, 0)).2.2.1, (numC (a0, 0, 0)).2.2.2, (numC (a0, 0, 0)).2.1, a1, a2, a3, a4, (bif (numC (a0, 0, 0)).2.2.1 == 0 then (numC (a0, 0, 0)).1 else a5), a6, a7) := by
 rw [B4y, A4e, A3 r.ne, Bd k r, A8 k r, C6]
 cases h : (hd a0).1 == 2 <;> simp only [bne, h, Bool.not_true, Bool.not_false, cond_true, cond_false, Option.bind_some] <;> rfl
theorem Ce9 (k : Nat) {a0 : List Tk} (r : Rdy a0) (a1 : _) (a2 : _) : Vd k (a0, a1, a2) = some (a0, a1, (hd a0).2.2.2.1) := by
 rw [B5m, A52, A3 r.ne]
theorem Cea (k : Nat) {a0 : List Tk} (r : Rdy a0) (a1 : _) (a2 : _) : Uf k (a0, a1, a2) = some ((Ah (a0, 0, 0)).2.2.1 == 0, (Ah (a0, 0, 0)).2.2.1, (Ah (a0, 0, 0)).2.2.2, (Ah (a0, 0, 0)).2.1, (bif (Ah (a0, 0, 0)).2.2.1 == 0 then (Ah (a0, 0, 0)).1 else a1), a2) := by
 rw [B28, A0e, Ie k r, Option.bind_some, C5]
 simp only [Bd k r, A8 k r]
 cases h : (hd a0).1 == 1 && !(resB (hd a0).2.1) <;> simp only [h, Bool.not_true, Bool.not_false, cond_true, cond_false, Option.bind_some] <;> rfl
theorem Ce4 (k : Nat) {a0 : List Tk} (r : Rdy a0) (a1 : _) (a2 : _) (a3 : _) (a4 : _) (a5 : _) (a6 : _) (a7 : _) (a8 : _) (a9 : _) (a10 : _) (a11 : _) : Ve k (a0, a1, a2, a3, a4, a5, a6, a7, a8, a9, a10, a11) = some (a0, a1, a2, a3, a4, a5, a6, a7, a8, a9, a10, (hd a0).2.2.2.1) := by
 rw [B5h, A5n, A3 r.ne]
theorem Cd2 (k : Nat) {a0 : List Tk} (r : Rdy a0) (a1 : _) (a2 : _) (a3 : _) (a4 : _) (a5 : _) (a6 : _) (a7 : _) (a8 : _) (a9 : _) (a10 : _) (a11 : _) : Ug k (a0, a1, a2, a3, a4, a5, a6, a7, a8, a9, a10, a11) = some ((Ah (a0, 0, 0)).2.2.1 == 0, (Ah (a0, 0, 0)).2.2.1, (Ah (a0, 0, 0)).2.2.2, (Ah (a0, 0, 0)).2.1, (bif (Ah (a0, 0, 0)).2.2.1 == 0 then (Ah (a0, 0, 0)).1 else a1), a2, a3, a4, a5, a6, a7, a8, a9, a10, a11) := by
 rw [B2q, Azn, Ie k r, Option.bind_some, C5]
 simp only [Bd k r, A8 k r]
 cases h : (hd a0).1 == 1 && !(resB (hd a0).2.1) <;> simp only [h, Bool.not_true, Bool.not_false, cond_true, cond_false, Option.bind_some] <;> rfl
theorem Cex (k : Nat) {a0 : List Tk} (r : Rdy a0) (a1 : _) (a2 : _) (a3 : _) (a4 : _) (a5 : _) (a6 : _) (a7 : _) (a8 : _) (a9 : _) (a10 : _) (a11 : _) : U8 k (a0, a1, a2, a3, a4, a5, a6, a7, a8, a9, a10, a11) = some ((numC (a0, 0, 0)).2.2.1 == 0, (numC (a0, 0, 0)).2.2.1, (numC (a0, 0, 0)).2.2.2, (numC (a0, 0, 0)).2.1, a1, (bif (numC (a0, 0, 0)).2.2.1 == 0 then (numC (a0, 0, 0)).1 else a2), a3, a4, a5, a6, a7, a8, a9, a10, a11) := by
 rw [B40, A4h, A3 r.ne, Bd k r, A8 k r, C6]
 cases h : (hd a0).1 == 2 <;> simp only [bne, h, Bool.not_true, Bool.not_false, cond_true, cond_false, Option.bind_some] <;> rfl
theorem Cey (k : Nat) {a0 : List Tk} (r : Rdy a0) (a1 : _) (a2 : _) (a3 : _) (a4 : _) (a5 : _) (a6 : _) (a7 : _) (a8 : _) (a9 : _) (a10 : _) (a11 : _) : U9 k (a0, a1, a2, a3, a4, a5, a6, a7, a8, a9, a10, a11) = some ((numC (a0, 0, 0)).2.2.1 == 0, (numC (a0, 0, 0)).2.2.1, (numC (a0, 0, 0)).2.2.2, (numC (a0, 0, 0)).2.1, a1, a2, (bif (numC (a0, 0, 0)).2.2.1 == 0 then (numC (a0, 0, 0)).1 else a3), a4, a5, a6, a7, a8, a9, a10, a11) := by
 rw [B42, A4k, A3 r.ne, Bd k r, A8 k r, C6]
 cases h : (hd a0).1 == 2 <;> simp only [bne, h, Bool.not_true, Bool.not_false, cond_true, cond_false, Option.bind_some] <;> rfl
theorem Cez (k : Nat) {a0 : List Tk} (r : Rdy a0) (a1 : _) (a2 : _) (a3 : _) (a4 : _) (a5 : _) (a6 : _) (a7 : _) (a8 : _) (a9 : _) (a10 : _) (a11 : _) : Va k (a0, a1, a2, a3, a4, a5, a6, a7, a8, a9, a10, a11) = some ((numC (a0, 0, 0)).2.2.1 == 0, (numC (a0, 0, 0)).2.2.1, (numC (a0, 0, 0)).2.2.2, (numC (a0, 0, 0)).2.1, a1, a2, a3, (bif (numC (a0, 0, 0)).2.2.1 == 0 then (numC (a0, 0, 0)).1 else a4), a5, a6, a7, a8, a9, a10, a11) := by
 rw [B44, A4n, A3 r.ne, Bd k r, A8 k r, C6]
 cases h : (hd a0).1 == 2 <;> simp only [bne, h, Bool.not_true, Bool.not_false, cond_true, cond_false, Option.bind_some] <;> rfl
theorem Ce0 (k : Nat) {a0 : List Tk} (r : Rdy a0) (a1 : _) (a2 : _) (a3 : _) (a4 : _) (a5 : _) (a6 : _) (a7 : _) (a8 : _) (a9 : _) (a10 : _) (a11 : _) : Vb k (a0, a1, a2, a3, a4, a5, a6, a7, a8, a9, a10, a11) = some ((numC (a0, 0, 0)).2.2.1 == 0, (numC (a0, 0, 0)).2.2.1, (numC (a0, 0, 0)).2.2.2, (numC (a0, 0, 0)).2.1, a1, a2, a3, a4, (bif (numC (a0, 0, 0)).2.2.1 == 0 then (numC (a0, 0, 0)).1 else a5), a6, a7, a8, a9, a10, a11) := by
 rw [B46, A4q, A3 r.ne, Bd k r, A8 k r, C6]
 cases h : (hd a0).1 == 2 <;> simp only [bne, h, Bool.not_true, Bool.not_false, cond_true, cond_false, Option.bind_some] <;> rfl
theorem Ce1 (k : Nat) {a0 : List Tk} (r : Rdy a0) (a1 : _) (a2 : _) (a3 : _) (a4 : _) (a5 : _) (a6 : _) (a7 : _) (a8 : _) (a9 : _) (a10 : _) (a11 : _) : Vc k (a0, a1, a2, a3, a4, a5, a6, a7, a8, a9, a10, a11) = some ((numC (a0, 0, 0)).2.2.1 == 0, (numC (a0, 0, 0)).2.2.1, (numC (a0, 0, 0)).2.2.2, (numC (a0, 0, 0)).2.1, a1, a2, a3, a4, a5, (bif (numC (a0, 0, 0)).2.2.1 == 0 then (numC (a0, 0, 0)).1 else a6), a7, a8, a9, a10, a11) := by
 rw [B48, A4t, A3 r.ne, Bd k r, A8 k r, C6]
 cases h : (hd a0).1 == 2 <;> simp only [bne, h, Bool.not_true, Bool.not_false, cond_true, cond_false, Option.bind_some] <;> rfl
theorem Bho (k : Nat) {a1 : List Tk} (r : Rdy a1) (a0 : List Int) (a2 : Bool) (hs : WS a0) : Ps k (a0, a1, a2) = some (a0, (bif Ay a0 (a1, 0, 0) then A1 (a1, 0, 0) else (a1, 0, 0)).1, (bif Ay a0 (a1, 0, 0) then true else a2)) := by
 rw [B2c, Ayc, By k r, Option.bind_some, Oo r hs, Jk]
 simp only [A8 k r]
 cases h : (hd a1).2.1 == a0 <;> simp only [h, cond_true, cond_false, Option.bind_some]
theorem Cei (k : Nat) {a0 : List Tk} (r : Rdy a0) (a1 : _) (a2 : _) (a3 : _) (a4 : _) (a5 : _) (a6 : _) (a7 : _) (a8 : _) (a9 : _) (a10 : _) (a11 : _) : Uu k (a0, a1, a2, a3, a4, a5, a6, a7, a8, a9, a10, a11) = some ((numC (a0, 0, 0)).2.2.1 == 0, (numC (a0, 0, 0)).2.2.1, (numC (a0, 0, 0)).2.2.2, (numC (a0, 0, 0)).2.1, a1, a2, a3, a4, a5, a6, (bif (numC (a0, 0, 0)).2.2.1 == 0 then (numC (a0, 0, 0)).1 else a7), a8, a9, a10, a11) := by
 rw [B36, A28, A3 r.ne, Bd k r, A8 k r, C6]
 cases h : (hd a0).1 == 2 <;> simp only [bne, h, Bool.not_true, Bool.not_false, cond_true, cond_false, Option.bind_some] <;> rfl
theorem Cej (k : Nat) {a0 : List Tk} (r : Rdy a0) (a1 : _) (a2 : _) (a3 : _) (a4 : _) (a5 : _) (a6 : _) (a7 : _) (a8 : _) (a9 : _) (a10 : _) (a11 : _) : Uv k (a0, a1, a2, a3, a4, a5, a6, a7, a8, a9, a10, a11) = some ((numC (a0, 0, 0)).2.2.1 == 0, (numC (a0, 0, 0)).2.2.1, (numC (a0, 0, 0)).2.2.2, (numC (a0, 0, 0)).2.1, a1, a2, a3, a4, a5, a6, a7, (bif (numC (a0, 0, 0)).2.2.1 == 0 then (numC (a0, 0, 0)).1 else a8), a9, a10, a11) := by
 rw [B38, A3b, A3 r.ne, Bd k r, A8 k r, C6]
 cases h : (hd a0).1 == 2 <;> simp only [bne, h, Bool.not_true, Bool.not_false, cond_true, cond_false, Option.bind_some] <;> rfl
theorem Cek (k : Nat) {a0 : List Tk} (r : Rdy a0) (a1 : _) (a2 : _) (a3 : _) (a4 : _) (a5 : _) (a6 : _) (a7 : _) (a8 : _) (a9 : _) (a10 : _) (a11 : _) : Uw k (a0, a1, a2, a3, a4, a5, a6, a7, a8, a9, a10, a11) = some ((numC (a0, 0, 0)).2.2.1 == 0, (numC (a0, 0, 0)).2.2.1, (numC (a0, 0, 0)).2.2.2, (numC (a0, 0, 0)).2.1, a1, a2, a3, a4, a5, a6, a7, a8, (bif (numC (a0, 0, 0)).2.2.1 == 0 then (numC (a0, 0, 0)).1 else a9), a10, a11) := by
 rw [B4a, A3e, A3 r.ne, Bd k r, A8 k r, C6]
 cases h : (hd a0).1 == 2 <;> simp only [bne, h, Bool.not_true, Bool.not_false, cond_true, cond_false, Option.bind_some] <;> rfl
theorem Cel (k : Nat) {a0 : List Tk} (r : Rdy a0) (a1 : _) (a2 : _) (a3 : _) (a4 : _) (a5 : _) (a6 : _) (a7 : _) (a8 : _) (a9 : _) (a10 : _) (a11 : _) : Ux k (a0, a1, a2, a3, a4, a5, a6, a7, a8, a9, a10, a11) = some ((numC (a0, 0, 0)).2.2.1 == 0, (numC (a0, 0, 0)).2.2.1, (numC (a0, 0, 0)).2.2.2, (numC (a0, 0, 0)).2.1, a1, a2, a3, a4, a5, a6, a7, a8, a9, (bif (numC (a0, 0, 0)).2.2.1 == 0 then (numC (a0, 0, 0)).1 else a10), a11) := by
 rw [B4c, A3h, A3 r.ne, Bd k r, A8 k r, C6]
 cases h : (hd a0).1 == 2 <;> simp only [bne, h, Bool.not_true, Bool.not_false, cond_true, cond_false, Option.bind_some] <;> rfl
theorem Ce5 (k : Nat) {a0 : List Tk} (r : Rdy a0) (a1 : _) (a2 : _) (a3 : _) (a4 : _) (a5 : _) (a6 : _) : Vf k (a0, a1, a2, a3, a4, a5, a6) = some (a0, a1, a2, a3, a4, a5, (hd a0).2.2.2.1) := by
 rw [B5i, A5q, A3 r.ne]
theorem Cd3 (k : Nat) {a0 : List Tk} (r : Rdy a0) (a1 : _) (a2 : _) (a3 : _) (a4 : _) (a5 : _) (a6 : _) : Ui k (a0, a1, a2, a3, a4, a5, a6) = some ((Ah (a0, 0, 0)).2.2.1 == 0, (Ah (a0, 0, 0)).2.2.1, (Ah (a0, 0, 0)).2.2.2, (Ah (a0, 0, 0)).2.1, (bif (Ah (a0, 0, 0)).2.2.1 == 0 then (Ah (a0, 0, 0)).1 else a1), a2, a3, a4, a5, a6) := by
 rw [B2s, Azq, Ie k r, Option.bind_some, C5]
 simp only [Bd k r, A8 k r]
 cases h : (hd a0).1 == 1 && !(resB (hd a0).2.1) <;> simp only [h, Bool.not_true, Bool.not_false, cond_true, cond_false, Option.bind_some] <;> rfl
theorem Cd4 (k : Nat) {a0 : List Tk} (r : Rdy a0) (a1 : _) (a2 : _) (a3 : _) (a4 : _) (a5 : _) (a6 : _) : Uj k (a0, a1, a2, a3, a4, a5, a6) = some ((Ah (a0, 0, 0)).2.2.1 == 0, (Ah (a0, 0, 0)).2.2.1, (Ah (a0, 0, 0)).2.2.2, (Ah (a0, 0, 0)).2.1, a1, (bif (Ah (a0, 0, 0)).2.2.1 == 0 then (Ah (a0, 0, 0)).1 else a2), a3, a4, a5, a6) := by
 rw [B2u, Azt, Ie k r, Option.bind_some, C5]
 simp only [Bd k r, A8 k r]
 cases h : (hd a0).1 == 1 && !(resB (hd a0).2.1) <;> simp only [h, Bool.not_true, Bool.not_false, cond_true, cond_false, Option.bind_some] <;> rfl
theorem Cem (k : Nat) {a0 : List Tk} (r : Rdy a0) (a1 : _) (a2 : _) (a3 : _) (a4 : _) (a5 : _) (a6 : _) : Uy k (a0, a1, a2, a3, a4, a5, a6) = some ((numC (a0, 0, 0)).2.2.1 == 0, (numC (a0, 0, 0)).2.2.1, (numC (a0, 0, 0)).2.2.2, (numC (a0, 0, 0)).2.1, a1, a2, (bif (numC (a0, 0, 0)).2.2.1 == 0 then (numC (a0, 0, 0)).1 else a3), a4, a5, a6) := by
 rw [B4e, A3k, A3 r.ne, Bd k r, A8 k r, C6]
 cases h : (hd a0).1 == 2 <;> simp only [bne, h, Bool.not_true, Bool.not_false, cond_true, cond_false, Option.bind_some] <;> rfl
theorem Cen (k : Nat) {a0 : List Tk} (r : Rdy a0) (a1 : _) (a2 : _) (a3 : _) (a4 : _) (a5 : _) (a6 : _) : Uz k (a0, a1, a2, a3, a4, a5, a6) = some ((numC (a0, 0, 0)).2.2.1 == 0, (numC (a0, 0, 0)).2.2.1, (numC (a0, 0, 0)).2.2.2, (numC (a0, 0, 0)).2.1, a1, a2, a3, (bif (numC (a0, 0, 0)).2.2.1 == 0 then (numC (a0, 0, 0)).1 else a4), a5, a6) := by
 rw [B4g, A3n, A3 r.ne, Bd k r, A8 k r, C6]
 cases h : (hd a0).1 == 2 <;> simp only [bne, h, Bool.not_true, Bool.not_false, cond_true, cond_false, Option.bind_some] <;> rfl
theorem Ceo (k : Nat) {a0 : List Tk} (r : Rdy a0) (a1 : _) (a2 : _) (a3 : _) (a4 : _) (a5 : _) (a6 : _) : U0 k (a0, a1, a2, a3, a4, a5, a6) = some ((numC (a0, 0, 0)).2.2.1 == 0, (numC (a0, 0, 0)).2.2.1, (numC (a0, 0, 0)).2.2.2, (numC (a0, 0, 0)).2.1, a1, a2, a3, a4, (bif (numC (a0, 0, 0)).2.2.1 == 0 then (numC (a0, 0, 0)).1 else a5), a6) := by
 rw [B4i, A3q, A3 r.ne, Bd k r, A8 k r, C6]
 cases h : (hd a0).1 == 2 <;> simp only [bne, h, Bool.not_true, Bool.not_false, cond_true, cond_false, Option.bind_some] <;> rfl
theorem Ce6 (k : Nat) {a0 : List Tk} (r : Rdy a0) (a1 : _) (a2 : _) : Vh k (a0, a1, a2) = some (a0, a1, (hd a0).2.2.2.1) := by
 rw [B5j, A5t, A3 r.ne]
theorem Cd5 (k : Nat) {a0 : List Tk} (r : Rdy a0) (a1 : _) (a2 : _) : Uk k (a0, a1, a2) = some ((Ah (a0, 0, 0)).2.2.1 == 0, (Ah (a0, 0, 0)).2.2.1, (Ah (a0, 0, 0)).2.2.2, (Ah (a0, 0, 0)).2.1, (bif (Ah (a0, 0, 0)).2.2.1 == 0 then (Ah (a0, 0, 0)).1 else a1), a2) := by
 rw [B2w, Azw, Ie k r, Option.bind_some, C5]
 simp only [Bd k r, A8 k r]
 cases h : (hd a0).1 == 1 && !(resB (hd a0).2.1) <;> simp only [h, Bool.not_true, Bool.not_false, cond_true, cond_false, Option.bind_some] <;> rfl
theorem Oj (k : Nat) {a0 : List Tk} (r : Rdy a0) (a1 : _) : Ul k (a0, a1) = some ((Ah (a0, 0, 0)).2.2.1 == 0, (Ah (a0, 0, 0)).2.2.1, (Ah (a0, 0, 0)).2.2.2, (Ah (a0, 0, 0)).2.1, (bif (Ah (a0, 0, 0)).2.2.1 == 0 then (Ah (a0, 0, 0)).1 else a1)) := by
 rw [B2y, Azz, Ie k r, Option.bind_some, C5]
 simp only [Bd k r, A8 k r]
 cases h : (hd a0).1 == 1 && !(resB (hd a0).2.1) <;> simp only [h, Bool.not_true, Bool.not_false, cond_true, cond_false, Option.bind_some] <;> rfl
theorem Cfb (k : Nat) {a1 : List Tk} (r : Rdy a1) (a0 : _) (hs : WS a0) : Vk k (a0, a1) = some ((bif Ay a0 (a1, 0, 0) then (a1, 0, 0) else A2 50 (a1, 0, 0)).2.1 == 0, (bif Ay a0 (a1, 0, 0) then (a1, 0, 0) else A2 50 (a1, 0, 0)).2.1, (bif Ay a0 (a1, 0, 0) then (a1, 0, 0) else A2 50 (a1, 0, 0)).2.2, a0, (bif Ay a0 (a1, 0, 0) then (a1, 0, 0) else A2 50 (a1, 0, 0)).1) := by
 rw [B5q, A59, By k r, Option.bind_some, Oo r hs]
 simp only [Bd k r, A8 k r]
 cases h : (hd a1).2.1 == a0 <;> simp only [h, Bool.not_true, Bool.not_false, cond_true, cond_false, Option.bind_some] <;> rfl
theorem Cd0 (k : Nat) {a1 : List Tk} (r : Rdy a1) (a0 : List Int) (a2 : Bool) (hs : WS a0) : Ue k (a0, a1, a2) = some (a0, (bif Ay a0 (a1, 0, 0) then A1 (a1, 0, 0) else (a1, 0, 0)).1, (bif Ay a0 (a1, 0, 0) then true else a2)) := by
 rw [B2a, Ax9, By k r, Option.bind_some, Oo r hs, Jk]
 simp only [A8 k r]
 cases h : (hd a1).2.1 == a0 <;> simp only [h, cond_true, cond_false, Option.bind_some]
theorem Ce7 (k : Nat) {a0 : List Tk} (r : Rdy a0) (a1 : _) (a2 : _) (a3 : _) : Vi k (a0, a1, a2, a3) = some (a0, a1, a2, (hd a0).2.2.2.1) := by
 rw [B5k, A5w, A3 r.ne]
theorem Cd6 (k : Nat) {a0 : List Tk} (r : Rdy a0) (a1 : _) (a2 : _) (a3 : _) : Um k (a0, a1, a2, a3) = some ((Ah (a0, 0, 0)).2.2.1 == 0, (Ah (a0, 0, 0)).2.2.1, (Ah (a0, 0, 0)).2.2.2, (Ah (a0, 0, 0)).2.1, (bif (Ah (a0, 0, 0)).2.2.1 == 0 then (Ah (a0, 0, 0)).1 else a1), a2, a3) := by
 rw [B20, Az2, Ie k r, Option.bind_some, C5]
 simp only [Bd k r, A8 k r]
 cases h : (hd a0).1 == 1 && !(resB (hd a0).2.1) <;> simp only [h, Bool.not_true, Bool.not_false, cond_true, cond_false, Option.bind_some] <;> rfl
theorem Cd7 (k : Nat) {a0 : List Tk} (r : Rdy a0) (a1 : _) (a2 : _) (a3 : _) : Un k (a0, a1, a2, a3) = some ((Ah (a0, 0, 0)).2.2.1 == 0, (Ah (a0, 0, 0)).2.2.1, (Ah (a0, 0, 0)).2.2.2, (Ah (a0, 0, 0)).2.1, a1, (bif (Ah (a0, 0, 0)).2.2.1 == 0 then (Ah (a0, 0, 0)).1 else a2), a3) := by
 rw [B22, Az5, Ie k r, Option.bind_some, C5]
 simp only [Bd k r, A8 k r]
 cases h : (hd a0).1 == 1 && !(resB (hd a0).2.1) <;> simp only [h, Bool.not_true, Bool.not_false, cond_true, cond_false, Option.bind_some] <;> rfl
theorem Ce8 (k : Nat) {a0 : List Tk} (r : Rdy a0) (a1 : _) (a2 : _) (a3 : _) (a4 : _) (a5 : _) (a6 : _) : Vj k (a0, a1, a2, a3, a4, a5, a6) = some (a0, a1, a2, a3, a4, a5, (hd a0).2.2.2.1) := by
 rw [B5l, A5z, A3 r.ne]
theorem Cd8 (k : Nat) {a0 : List Tk} (r : Rdy a0) (a1 : _) (a2 : _) (a3 : _) (a4 : _) (a5 : _) (a6 : _) : Uo k (a0, a1, a2, a3, a4, a5, a6) = some ((Ah (a0, 0, 0)).2.2.1 == 0, (Ah (a0, 0, 0)).2.2.1, (Ah (a0, 0, 0)).2.2.2, (Ah (a0, 0, 0)).2.1, (bif (Ah (a0, 0, 0)).2.2.1 == 0 then (Ah (a0, 0, 0)).1 else a1), a2, a3, a4, a5, a6) := by
 rw [B24, Az8, Ie k r, Option.bind_some, C5]
 simp only [Bd k r, A8 k r]
 cases h : (hd a0).1 == 1 && !(resB (hd a0).2.1) <;> simp only [h, Bool.not_true, Bool.not_false, cond_true, cond_false, Option.bind_some] <;> rfl
theorem Cd9 (k : Nat) {a0 : List Tk} (r : Rdy a0) (a1 : _) (a2 : _) (a3 : _) (a4 : _) (a5 : _) (a6 : _) : Up k (a0, a1, a2, a3, a4, a5, a6) = some ((Ah (a0, 0, 0)).2.2.1 == 0, (Ah (a0, 0, 0)).2.2.1, (Ah (a0, 0, 0)).2.2.2, (Ah (a0, 0, 0)).2.1, a1, (bif (Ah (a0, 0, 0)).2.2.1 == 0 then (Ah (a0, 0, 0)).1 else a2), a3, a4, a5, a6) := by
 rw [B26, A0b, Ie k r, Option.bind_some, C5]
 simp only [Bd k r, A8 k r]
 cases h : (hd a0).1 == 1 && !(resB (hd a0).2.1) <;> simp only [h, Bool.not_true, Bool.not_false, cond_true, cond_false, Option.bind_some] <;> rfl
theorem Cd1 (k : Nat) {a0 : List Tk} (r : Rdy a0) (a1 : _) (a2 : _) (a3 : _) (a4 : _) (a5 : _) (a6 : _) : Uh k (a0, a1, a2, a3, a4, a5, a6) = some ((Ah (a0, 0, 0)).2.2.1 == 0, (Ah (a0, 0, 0)).2.2.1, (Ah (a0, 0, 0)).2.2.2, (Ah (a0, 0, 0)).2.1, a1, a2, (bif (Ah (a0, 0, 0)).2.2.1 == 0 then (Ah (a0, 0, 0)).1 else a3), a4, a5, a6) := by
 rw [B2o, Azk, Ie k r, Option.bind_some, C5]
 simp only [Bd k r, A8 k r]
 cases h : (hd a0).1 == 1 && !(resB (hd a0).2.1) <;> simp only [h, Bool.not_true, Bool.not_false, cond_true, cond_false, Option.bind_some] <;> rfl
theorem Cep (k : Nat) {a0 : List Tk} (r : Rdy a0) (a1 : _) (a2 : _) (a3 : _) (a4 : _) (a5 : _) (a6 : _) : U1 k (a0, a1, a2, a3, a4, a5, a6) = some ((numC (a0, 0, 0)).2.2.1 == 0, (numC (a0, 0, 0)).2.2.1, (numC (a0, 0, 0)).2.2.2, (numC (a0, 0, 0)).2.1, a1, a2, a3, (bif (numC (a0, 0, 0)).2.2.1 == 0 then (numC (a0, 0, 0)).1 else a4), a5, a6) := by
 rw [B4k, A3t, A3 r.ne, Bd k r, A8 k r, C6]
 cases h : (hd a0).1 == 2 <;> simp only [bne, h, Bool.not_true, Bool.not_false, cond_true, cond_false, Option.bind_some] <;> rfl
theorem Ceq (k : Nat) {a0 : List Tk} (r : Rdy a0) (a1 : _) (a2 : _) (a3 : _) (a4 : _) (a5 : _) (a6 : _) : U2 k (a0, a1, a2, a3, a4, a5, a6) = some ((numC (a0, 0, 0)).2.2.1 == 0, (numC (a0, 0, 0)).2.2.1, (numC (a0, 0, 0)).2.2.2, (numC (a0, 0, 0)).2.1, a1, a2, a3, a4, (bif (numC (a0, 0, 0)).2.2.1 == 0 then (numC (a0, 0, 0)).1 else a5), a6) := by
 rw [B4m, A3w, A3 r.ne, Bd k r, A8 k r, C6]
 cases h : (hd a0).1 == 2 <;> simp only [bne, h, Bool.not_true, Bool.not_false, cond_true, cond_false, Option.bind_some] <;> rfl
theorem Cer (k : Nat) {a0 : List Tk} (r : Rdy a0) (a1 : _) (a2 : _) (a3 : _) (a4 : _) (a5 : _) (a6 : _) (a7 : _) (a8 : _) (a9 : _) : U3 k (a0, a1, a2, a3, a4, a5, a6, a7, a8, a9) = some ((numC (a0, 0, 0)).2.2.1 == 0, (numC (a0, 0, 0)).2.2.1, (numC (a0, 0, 0)).2.2.2, (numC (a0, 0, 0)).2.1, a1, a2, a3, a4, a5, (bif (numC (a0, 0, 0)).2.2.1 == 0 then (numC (a0, 0, 0)).1 else a6), a7, a8, a9) := by
 rw [B4o, A3z, A3 r.ne, Bd k r, A8 k r, C6]
 cases h : (hd a0).1 == 2 <;> simp only [bne, h, Bool.not_true, Bool.not_false, cond_true, cond_false, Option.bind_some] <;> rfl
theorem Cet (k : Nat) {a0 : List Tk} (r : Rdy a0) (a1 : _) (a2 : _) (a3 : _) (a4 : _) (a5 : _) (a6 : _) (a7 : _) (a8 : _) (a9 : _) : U5 k (a0, a1, a2, a3, a4, a5, a6, a7, a8, a9) = some ((numC (a0, 0, 0)).2.2.1 == 0, (numC (a0, 0, 0)).2.2.1, (numC (a0, 0, 0)).2.2.2, (numC (a0, 0, 0)).2.1, a1, a2, a3, a4, a5, a6, (bif (numC (a0, 0, 0)).2.2.1 == 0 then (numC (a0, 0, 0)).1 else a7), a8, a9) := by
 rw [B4s, A35, A3 r.ne, Bd k r, A8 k r, C6]
 cases h : (hd a0).1 == 2 <;> simp only [bne, h, Bool.not_true, Bool.not_false, cond_true, cond_false, Option.bind_some] <;> rfl
theorem Cdl (k : Nat) {l : List Tk} (r : Rdy l) : cpend k l = some ((bif (hd l).1 != 0 then A2 50 (l, 0, 0) else (l, 0, 0)).2.1 == 0, (bif (hd l).1 != 0 then A2 50 (l, 0, 0) else (l, 0, 0)).2.1, (bif (hd l).1 != 0 then A2 50 (l, 0, 0) else (l, 0, 0)).2.2, (bif (hd l).1 != 0 then A2 50 (l, 0, 0) else (l, 0, 0)).1) := by
 rw [fpend_e, Aw7, A3 r.ne, Bd k r]
 cases h : (hd l).1 != 0 <;> simp only [h, cond_true, cond_false, Option.bind_some] <;> rfl
theorem Yk {l : List Tk} (r : Rdy l) (h : (hd l).1 ≠ 0) : (nx l).length + 1 = l.length := by
 have hne := r.ne
 have h0 : ((hd l).1 != 0) = true := by simpa using h
 unfold nx
 rw [h0, cond_true]
 cases l with
 | nil => exact absurd rfl hne
 | cons t q => rfl
theorem Bgt {l : List Tk} (r : Rdy l) (h : (hd l).2.1 ≠ []) : (nx l).length + 1 = l.length := Yk r fun e => h (r.hd.1 e)
theorem Ano {l : List Tk} (r : Rdy l) : Rdy (nx l) := by
 have := ok_next r
 rw [Jk] at this
 cases this with
 | fail _ _ _ h => exact absurd rfl h
 | ok _ r2 _ => exact r2
section
variable {α ρ : Type} (w : List Int) (hw : WS w) (most : Int) (item : RS → α × RS) (ha : ∀ x, Adv x (item x).2) (hs : ∀ x, Suf x (item x).2) (hz : ∀ x, Zr x → Zr (item x).2)
 (F : Nat → List Tk → List α → Option ρ) (pr : ρ → Bool × Int × Int × List Tk) (post : ρ → List α → Prop)
 (h0 : ∀ j l o, Rdy l → (hd l).2.1 ≠ w → ∃ r, F (j + 1) l o = some r ∧ pr r = (true, 0, 0, l) ∧ post r o)
 (h1 : ∀ j l o, Rdy l → (hd l).2.1 = w → ((o.length : Nat) : Int) = most → ∃ r, F (j + 1) l o = some r ∧ pr r = (false, 4, (hd l).2.2.2.1, l))
 (h2 : ∀ j l o, Rdy l → Rdy (nx l) → l.length ≤ 100000 → (nx l).length ≤ 100000 → o.length ≤ 100000 → (hd l).2.1 = w → ((o.length : Nat) : Int) ≠ most →
  ((item (nx l, 0, 0)).2.2.1 ≠ 0 → ∃ r, F (j + 1) l o = some r ∧ pr r = (false, (item (nx l, 0, 0)).2.2.1, (item (nx l, 0, 0)).2.2.2, (item (nx l, 0, 0)).2.1)) ∧
  ((item (nx l, 0, 0)).2.2.1 = 0 → F (j + 1) l o = F j (item (nx l, 0, 0)).2.1 (o ++ [(item (nx l, 0, 0)).1])))
include hw ha hs hz h0 h1 h2
theorem Jq : ∀ (f j : Nat) (l : List Tk) (o : List α), Rdy l → l.length < f → l.length < j → o.length + l.length ≤ 100000 →
  Sim (F j l o) pr (Cs w most item f (l, 0, 0) o).2 fun r => post r (Cs w most item f (l, 0, 0) o).1
 | 0, j, l, o, r, hf, _, _ => by omega
 | f + 1, 0, l, o, r, _, hj, _ => by omega
 | f + 1, j + 1, l, o, r, hf, hj, hm => by
  rw [Cs]
  unfold A6
  rw [Oo r hw]
  by_cases hc : (hd l).2.1 = w
  ·rw [hc, beq_self_eq_true, cond_true]
   by_cases hmo : ((o.length : Nat) : Int) = most
   ·obtain ⟨q, e1, e2⟩ := h1 j l o r hc hmo
    rw [hmo, beq_self_eq_true, cond_true]
    exact ⟨q, e1, e2, fun h => absurd (show (4 : Int) = 0 from h) (by decide)⟩
   ·have hmo2 : (((o.length : Nat) : Int) == most) = false := by simpa using hmo
    rw [hmo2, cond_false, cond_true, Jk]
    have rn := Ano r
    have hln := Bgt r (by obtain ⟨c, q, rfl, _⟩ := hw; rw [hc]; exact List.cons_ne_nil _ _)
    have hok : OK (nx l) (item (nx l, 0, 0)) := .of rn (ha _) (hs _) (hz _ zr0)
    obtain ⟨g1, g2⟩ := h2 j l o r rn (by omega) (by omega) (by omega) hc hmo
    show Sim _ pr (Cs w most item f (item (nx l, 0, 0)).2 (o ++ [(item (nx l, 0, 0)).1])).2 fun r => post r (Cs w most item f (item (nx l, 0, 0)).2 (o ++ [(item (nx l, 0, 0)).1])).1
    generalize item (nx l, 0, 0) = oi at hok g1 g2 ⊢
    rcases hok with ⟨v, l2, e, p, he⟩ | ⟨v, l2, r2, n2⟩
    ·obtain ⟨q, e1, e2⟩ := g1 he
     rw [e1, Cge w most item he]
     have he2 : (e == 0) = false := by simpa using he
     exact ⟨q, rfl, by rw [e2, he2], fun h => absurd h he⟩
    ·rw [g2 rfl]
     exact Jq f j l2 _ r2 (by omega) (by omega) (by rw [List.length_append, List.length_singleton]; omega)
  ·have hc2 : ((hd l).2.1 == w) = false := by simpa using hc
   rw [hc2, cond_false]
   obtain ⟨q, e1, e2, e3⟩ := h0 j l o r hc
   exact ⟨q, e1, e2, fun _ => e3⟩
end
section
variable {ρ : Type} (most : Int) (F : Nat → List Tk → List (List Int) → Option ρ) (pr : ρ → Bool × Int × Int × List Tk) (post : ρ → List (List Int) → Prop)
 (h1 : ∀ j l o, Rdy l → o.length ≤ 100000 → ((o.length : Nat) : Int) = most → ((hd l).1 == 1 && !(resB (hd l).2.1)) = true → ∃ r, F (j + 1) l o = some r ∧ pr r = (false, 4, (hd l).2.2.2.1, l))
 (h2 : ∀ j l o, Rdy l → o.length ≤ 100000 → ((hd l).1 == 1 && !(resB (hd l).2.1)) = false → ∃ r, F (j + 1) l o = some r ∧ pr r = (false, 50, (hd l).2.2.2.1, l))
 (h3 : ∀ j l o, Rdy l → Rdy (nx l) → o.length ≤ 100000 → ((o.length : Nat) : Int) ≠ most → ((hd l).1 == 1 && !(resB (hd l).2.1)) = true → (hd (nx l)).2.1 ≠ ([44] : List Int) →
  ∃ r, F (j + 1) l o = some r ∧ pr r = ((Aj ([59] : List Int) (nx l, 0, 0)).2.1 == 0, (Aj ([59] : List Int) (nx l, 0, 0)).2.1, (Aj ([59] : List Int) (nx l, 0, 0)).2.2, (Aj ([59] : List Int) (nx l, 0, 0)).1) ∧ post r (o ++ [(hd l).2.1]))
 (h4 : ∀ j l o, Rdy l → Rdy (nx l) → o.length ≤ 100000 → ((o.length : Nat) : Int) ≠ most → ((hd l).1 == 1 && !(resB (hd l).2.1)) = true → (hd (nx l)).2.1 = ([44] : List Int) → F (j + 1) l o = F j (nx (nx l)) (o ++ [(hd l).2.1]))
include h1 h2 h3 h4
theorem Anh : ∀ (f j : Nat) (l : List Tk) (o : List (List Int)), Rdy l → l.length ≤ f → l.length < j → o.length + l.length ≤ 100000 →
  Sim (F j l o) pr (Cb most f (Ah (bif (((o.length : Nat) : Int) == most) && ((hd l).1 == 1 && !(resB (hd l).2.1)) then A2 4 (l, 0, 0) else (l, 0, 0))).2
   (o ++ [(Ah (bif (((o.length : Nat) : Int) == most) && ((hd l).1 == 1 && !(resB (hd l).2.1)) then A2 4 (l, 0, 0) else (l, 0, 0))).1])).2
   fun r => post r (Cb most f (Ah (bif (((o.length : Nat) : Int) == most) && ((hd l).1 == 1 && !(resB (hd l).2.1)) then A2 4 (l, 0, 0) else (l, 0, 0))).2
   (o ++ [(Ah (bif (((o.length : Nat) : Int) == most) && ((hd l).1 == 1 && !(resB (hd l).2.1)) then A2 4 (l, 0, 0) else (l, 0, 0))).1])).1
 | 0, j, l, o, r, hf, _, _ => by have := List.length_pos_iff.2 r.ne; omega
 | f + 1, 0, l, o, r, _, hj, _ => by omega
 | f + 1, j + 1, l, o, r, hf, hj, hm => by
  have ho : o.length ≤ 100000 := by omega
  cases hn : (hd l).1 == 1 && !(resB (hd l).2.1)
  ·obtain ⟨q, e1, e2⟩ := h2 j l o r ho hn
   rw [Bool.and_false, cond_false, C5, hn, cond_false, Bob most (by decide)]
   exact ⟨q, e1, e2, fun h => absurd (show (50 : Int) = 0 from h) (by decide)⟩
  ·by_cases hmo : ((o.length : Nat) : Int) = most
   ·obtain ⟨q, e1, e2⟩ := h1 j l o r ho hmo hn
    rw [hmo, beq_self_eq_true, Bool.true_and, cond_true]
    have e : (A2 4 (l, 0, 0)) = (l, 4, (hd l).2.2.2.1) := rfl
    rw [e, Aq (by decide), Bob most (by decide)]
    exact ⟨q, e1, e2, fun h => absurd (show (4 : Int) = 0 from h) (by decide)⟩
   ·have hmo2 : (((o.length : Nat) : Int) == most) = false := by simpa using hmo
    have rn := Ano r
    rw [hmo2, Bool.false_and, cond_false, C5, hn, cond_true, Cb]
    simp only []
    rw [Oo rn (s := ([44] : List Int)) ⟨_, _, rfl, rfl⟩]
    have hln := Yk r (by simp only [Bool.and_eq_true, beq_iff_eq] at hn; omega)
    by_cases hc : (hd (nx l)).2.1 = ([44] : List Int)
    ·rw [hc, beq_self_eq_true, cond_true, h4 j l o r rn ho hmo hn hc, Jk]
     have hln2 := Bgt rn (by rw [hc]; simp)
     exact Anh f j (nx (nx l)) _ (Ano rn) (by omega) (by omega) (by rw [List.length_append, List.length_singleton]; omega)
    ·have hc2 : ((hd (nx l)).2.1 == ([44] : List Int)) = false := by simpa using hc
     rw [hc2, cond_false]
     obtain ⟨q, e1, e2, e3⟩ := h3 j l o r rn ho hmo hn hc
     exact ⟨q, e1, e2, fun _ => e3⟩
end
end Go.Proofs.YtipcabmhdokfjaaGreatDoorV
