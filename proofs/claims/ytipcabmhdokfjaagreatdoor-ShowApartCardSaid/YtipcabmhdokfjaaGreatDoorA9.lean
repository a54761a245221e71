import Derived.Test.YtipcabmhdokfjaaGreatDoorA8
import Derived.Test.YtipcabmhdokfjaaGreatDoorA5
/-! Texts of the proof, joined: ST, SX, SY, SZ, SW, NR, NS, NT, NU, SA, PL, PM, PN, PQ. -/
/-! show: numbers and rows of names as texts, the printer's way and the reference's. -/
set_option linter.unusedVariables false
set_option linter.unusedSimpArgs false
namespace Go.Proofs.YtipcabmhdokfjaaGreatDoorV
open Go Go.RowKit

/-- The digits of a number below 10^f. -/
def digN : Nat → Nat → List Int
  | 0, _ => []
  | f + 1, n => if n < 10 then [((48 + n : Nat) : Int)] else digN f (n / 10) ++ [((48 + n % 10 : Nat) : Int)]
def numT (n : Int) : List Int := if n < 0 then 45 :: digN 18 n.natAbs else digN 18 n.natAbs
theorem dec_digN : ∀ (f n : Nat), n < 10 ^ f → 1 ≤ f → (Lib.decDigits n).map (fun b => (b.toNat : Int)) = digN f n
  | 0, n, _, h => by omega
  | f + 1, n, h, _ => by
    rw [Lib.decDigits, digN]
    by_cases h10 : n < 10
    · rw [dif_pos h10, if_pos h10]
      simp
      omega
    · have hf : n / 10 < 10 ^ f := by rw [Nat.pow_succ] at h; omega
      have h1 : 1 ≤ f := by
        rcases f with _ | f
        · simp at h; omega
        · omega
      rw [dif_neg h10, if_neg h10, List.map_append, dec_digN f (n / 10) hf h1]
      simp
      omega
theorem digN_len : ∀ (f n : Nat), (digN f n).length ≤ f
  | 0, _ => Nat.zero_le _
  | f + 1, n => by
    rw [digN]
    have := digN_len f (n / 10)
    split <;> simp <;> omega
theorem digN_dig : ∀ (f n : Nat), ∀ x ∈ digN f n, isDig x = true
  | 0, _, x, h => by cases h
  | f + 1, n, x, h => by
    rw [digN] at h
    unfold isDig
    split at h
    · simp at h; simp; omega
    · rcases List.mem_append.1 h with h | h
      · exact digN_dig f _ x h
      · simp at h; simp; omega
theorem digN_ne (f n : Nat) : digN (f + 1) n ≠ [] := by
  rw [digN]; split <;> simp
theorem numT_len (n : Int) : (numT n).length ≤ 19 := by
  unfold numT
  have := digN_len 18 n.natAbs
  split <;> simp <;> omega
theorem dig_by {x : Int} (h : isDig x = true) : 0 ≤ x ∧ x ≤ 255 := by
  unfold isDig at h; simp at h; omega
theorem numT_by (n : Int) : byB (numT n) := by
  intro x hx
  unfold numT at hx
  split at hx
  · rcases List.mem_cons.1 hx with rfl | hx
    · omega
    · exact dig_by (digN_dig _ _ x hx)
  · exact dig_by (digN_dig _ _ x hx)
def inM (n : Int) : Prop := -999999999999999999 ≤ n ∧ n ≤ 999999999999999999
theorem num_inM {n : Int} (h : numB n = true) : inM n := by
  unfold numB at h; unfold inM; simp at h; omega
theorem itoa_numT {n : Int} (h : inM n) : bs ⟨(Lib.itoa n).toArray⟩ = numT n := by
  unfold inM at h
  unfold bs Lib.itoa numT
  by_cases hn : n < 0
  · rw [if_pos hn, if_pos hn]
    show ((45 : UInt8) :: Lib.decDigits n.natAbs).map _ = _
    rw [List.map_cons, dec_digN 18 _ (by omega) (by omega)]
    rfl
  · rw [if_neg hn, if_neg hn]
    show (Lib.decDigits n.toNat).map _ = _
    rw [dec_digN 18 _ (by omega) (by omega), show n.toNat = n.natAbs by omega]
theorem num_some (k : Nat) {n : Int} (h : inM n) : cshownum k n = some (numT n) := by
  have hl : (Lib.itoa n).length = (numT n).length := by
    rw [← itoa_numT h]; unfold bs; exact (List.length_map _).symm
  have := numT_len n
  rw [fshownum_e, fshownum_t]
  unfold cstrconvFormatInt fmtI
  have hm : maxLen = 9223372036854775807 := rfl
  rw [if_pos ⟨rfl, by simp only; omega⟩, itoa_numT h]
  rfl
theorem tmodN (n : Nat) : Int.tmod (n : Int) 10 = ((n % 10 : Nat) : Int) := rfl
theorem tdivN (n : Nat) : Int.tdiv (n : Int) 10 = ((n / 10 : Nat) : Int) := rfl
theorem wu64 {n : Int} (h : 0 ≤ n ∧ n < 18446744073709551616) : IntKind.wrap .u64 n = n := by
  have : IntKind.wrap .u64 n = n % 18446744073709551616 := rfl
  rw [this]
  omega
theorem rd_digits (k : Nat) (a0 : Int) : ∀ (f n j : Nat) (acc : List Int), n < 10 ^ f → 1 ≤ f → f + 2 ≤ j → acc.length + f ≤ 100 → (1 ≤ n ∨ acc = []) → f ≤ 19 →
    (fr02Digits k).L 3 [] j (fr02Digits_s3 (a0, (n : Int), acc)) = some (if a0 < 0 then 45 :: (digN f n ++ acc) else digN f n ++ acc)
  | 0, n, j, acc, _, h, _, _, _, _ => by omega
  | f + 1, n, 0, acc, _, _, h, _, _, _ => by omega
  | f + 1, n, j + 1, acc, hn, h1, hj, ha, hs, hf => by
    have hp : 10 ^ (f + 1) ≤ 10 ^ 19 := Nat.pow_le_pow_right (by omega) hf
    have hd : IntKind.wrap .u8 (IntKind.wrap .u64 (48 + Int.tmod (n : Int) 10)) = ((48 + n % 10 : Nat) : Int) := by
      rw [tmodN, wu64 (by omega), wu8 (by omega)]; omega
    have hq : IntKind.wrap .u64 (Int.tdiv (n : Int) 10) = ((n / 10 : Nat) : Int) := by
      rw [tdivN, wu64 (by omega)]
    have body : (cat [((48 + n % 10 : Nat) : Int)] acc fun o1 => (fr02Digits k).L 3 [] j (fr02Digits_s3 (a0, ((n / 10 : Nat) : Int), o1))) = some (if a0 < 0 then 45 :: (digN (f + 1) n ++ acc) else digN (f + 1) n ++ acc) := by
      rw [cat_ok (by rw [List.length_singleton]; omega), digN, List.singleton_append]
      by_cases h10 : n < 10
      · obtain ⟨j', rfl⟩ : ∃ j', j = j' + 1 := ⟨j - 1, by omega⟩
        rw [if_pos h10, show n / 10 = 0 by omega, show n % 10 = n by omega, fr02Digits_el3, fr02Digits_tl3, cbeq, if_neg (by simp), cd, if_neg (by simp), cd, cat_ok (by simp; omega)]
        split <;> rfl
      · rw [if_neg h10, rd_digits k a0 f (n / 10) j _ (by rw [Nat.pow_succ] at hn; omega) (by
          rcases f with _ | f
          · simp at hn; omega
          · omega) (by omega) (by rw [List.length_cons]; omega) (.inl (by omega)) (by omega)]
        simp
    rw [fr02Digits_el3, fr02Digits_tl3, hd, hq, body, cbeq]
    by_cases he : acc = []
    · rw [if_pos he]
    · rw [if_neg he, cd, if_pos (by rcases hs with h | h; omega; exact absurd h he)]
theorem rd_some (k : Nat) (hk : 1000 ≤ k) {n : Int} (h : inM n) : cr06d k n = some (numT n) := by
  unfold inM at h
  have hs : cr01Size k n = some ((n.natAbs : Nat) : Int) := by
    rw [fr01Size_e, fr01Size_t, cd]
    have e1 : ∀ z, IntKind.wrap .u64 z = z % 18446744073709551616 := fun _ => rfl
    by_cases hn : n < 0
    · rw [if_pos hn]; unfold negI; rw [e1, e1]; refine congrArg some ?_; omega
    · rw [if_neg hn, e1]; refine congrArg some ?_; omega
  rw [fr06d_e, fr06d_t, fr02Digits_e, fr02Digits_t, hs, Option.bind_some, rd_digits k n 18 n.natAbs k [] (by omega) (by omega) (by omega) (by simp) (.inr rfl) (by omega), Option.bind_some]
  unfold numT
  rw [List.append_nil]
theorem frac_some (k : Nat) {a b : Int} (ha : inM a) (hb : inM b) : cshowfrac k (a, b) = some (numT a ++ ([47] : List Int) ++ numT b) := by
  have h1 := numT_len a
  have h2 := numT_len b
  rw [fshowfrac_e, fshowfrac_t, num_some k ha, Option.bind_some, cat_ok (by simp; omega), num_some k hb, Option.bind_some, cat_ok (by simp; omega)]
theorem rdf_some (k : Nat) (hk : 1000 ≤ k) {a b : Int} (ha : inM a) (hb : inM b) : cr06frac k (a, b) = some (numT a ++ ([47] : List Int) ++ numT b) := by
  have h1 := numT_len a
  have h2 := numT_len b
  rw [fr06frac_e, fr06frac_t, rd_some k hk ha, Option.bind_some, cat_ok (by simp; omega), rd_some k hk hb, Option.bind_some, cat_ok (by simp; omega)]
theorem joinI_cons (sep x : List Int) : ∀ r : List (List Int), joinI sep (x :: r) = x ++ r.flatMap (fun y => sep ++ y)
  | [] => by simp [joinI]
  | y :: r => by
    rw [joinI, joinI_cons sep y r, List.flatMap_cons, List.append_assoc]
theorem list_some (k : Nat) (l : List (List Int)) (hw : ∀ w ∈ l, byB w) (hl : (joinI ([44, 32] : List Int) l).length ≤ 1000000) (hn : l.length ≤ 1000) : cshowlist'1 k l = some (joinI ([44, 32] : List Int) l) := by
  rw [fshowlist'1_e, fshowlist'1_t]
  unfold cstringsJoin
  rw [joinS_eq _ _ (by intro x hx; simp at hx; omega) hw (by omega) (by omega)]
  rfl
theorem rlist_some (k : Nat) (hk : 1000 ≤ k) (l : List (List Int)) (hl : (joinI ([44, 32] : List Int) l).length ≤ 1000000) (hn : l.length < 900) : cr06list'1 k l = some (joinI ([44, 32] : List Int) l) := by
  rw [fr06list'1_e, fr06list'1_t]
  obtain ⟨k', rfl⟩ : ∃ k', k = k' + 1 := ⟨k - 1, by omega⟩
  rw [fr06list'1_el3, fr06list'1_tl3]
  cases l with
  | nil => rfl
  | cons x r =>
    rw [joinI_cons] at hl ⊢
    rw [List.length_append] at hl
    have L := app_loop0 1000000 r (fun y => ([44, 32] : List Int) ++ y) (fun j i b => (fr06list'1 (k' + 1)).L 3 [] j (fr06list'1_s3 (x :: r, b, i + 1))) (fun b => some b)
      (fun j i y b hy hb => by
        have := at_lt hy
        have hy2 : (x :: r)[i + 1]? = some y := hy
        rw [List.length_append] at hb
        have hb2 : List.length ([44, 32] : List Int) = 2 := rfl
        simp only [suc_nat]
        rw [fr06list'1_el3, fr06list'1_tl3, lt_at hy2, cd, if_pos (by omega), cat_ok (by omega), idx_at hy2, cat_ok (by rw [List.length_append]; omega), suc_at hy2 (by simp at hn ⊢; omega), List.append_assoc])
      (fun j b hb => by
        have e : ((r.length : Nat) : Int) + 1 = (((x :: r).length : Nat) : Int) := by simp
        simp only [e]
        rw [fr06list'1_el3, fr06list'1_tl3, lt_end])
      k' x (by simp at hn; omega) (by omega)
    rw [show (0 : Int) = ((0 : Nat) : Int) from rfl, lt_at (x := x) (by rfl), cd, if_neg (by omega), idx_at (x := x) (by rfl), cat_ok (by simp; omega), List.nil_append]
    exact L
end Go.Proofs.YtipcabmhdokfjaaGreatDoorV

/-! show: the text of a network; how long it is. -/
set_option linter.unusedVariables false
set_option linter.unusedSimpArgs false
namespace Go.Proofs.YtipcabmhdokfjaaGreatDoorV
open Go Go.RowKit

def fracT (a b : Int) : List Int := numT a ++ ([47] : List Int) ++ numT b
def headP (h : YT1) : List (List Int) :=
  [([32, 32, 104, 101, 97, 100, 32] : List Int), h.1, ([32, 118, 111, 108, 117, 109, 101, 32] : List Int), numT h.2.1, ([32, 102, 108, 111, 119, 32] : List Int), numT h.2.2.1, ([32, 117, 115, 101, 32] : List Int), fracT h.2.2.2.1.1 h.2.2.2.1.2.1, ([32, 115, 112, 101, 101, 100, 32] : List Int), numT h.2.2.2.2.1, ([32, 103, 114, 97, 100, 101, 32] : List Int), numT h.2.2.2.2.2.1,
    ([32, 119, 105, 100, 116, 104, 32] : List Int), numT h.2.2.2.2.2.2.1, ([32, 108, 101, 110, 103, 116, 104, 32] : List Int), numT h.2.2.2.2.2.2.2.1, ([32, 103, 114, 101, 101, 110, 32] : List Int), numT h.2.2.2.2.2.2.2.2.1, ([59, 10] : List Int)]
def pedP (p : YT2) : List (List Int) := [([32, 32, 119, 97, 108, 107, 32] : List Int), p.1, ([32, 119, 105, 116, 104, 32] : List Int), p.2.1, ([32, 108, 111, 110, 103, 32] : List Int), numT p.2.2.1, ([32, 112, 97, 99, 101, 32] : List Int), numT p.2.2.2.1, ([32, 108, 101, 97, 115, 116, 32] : List Int), numT p.2.2.2.2.1, ([59, 10] : List Int)]
def headT (h : YT1) : List Int := (headP h).flatten
def pedT (p : YT2) : List Int := (pedP p).flatten
def listT (l : List (List Int)) : List Int := joinI ([44, 32] : List Int) l
def phaseP (x : YT3) : List (List Int) := [([32, 32, 112, 104, 97, 115, 101, 32] : List Int), x.1, ([58, 32] : List Int), listT x.2.1, ([59, 10] : List Int)]
def phaseT (x : YT3) : List Int := (phaseP x).flatten
def ringT (r : YT4) : List Int := ([32, 32, 32, 32, 114, 105, 110, 103, 32] : List Int) ++ ((bif r.1 then ([102, 114, 101, 101, 32] : List Int) else []) ++ (listT r.2.1 ++ ([59, 10] : List Int)))
def groupT (g : List YT4 × Unit) : List Int := ([32, 32, 103, 114, 111, 117, 112, 32, 123, 10] : List Int) ++ (g.1.flatMap ringT ++ ([32, 32, 125, 10] : List Int))
def foeP (f : YT5) : List (List Int) := [([32, 32, 102, 111, 101, 32] : List Int), f.1, ([32] : List Int), f.2.1, ([59, 10] : List Int)]
def foeT (f : YT5) : List Int := (foeP f).flatten
def partsT (n : YT6) : List Int := n.2.1.flatMap headT ++ (n.2.2.1.flatMap pedT ++ (n.2.2.2.1.flatMap phaseT ++ (n.2.2.2.2.1.flatMap groupT ++ n.2.2.2.2.2.1.flatMap foeT)))
def nodeT (n : YT6) : List Int := ([110, 111, 100, 101, 32] : List Int) ++ (n.1 ++ (([32, 123, 10] : List Int) ++ (partsT n ++ ([125, 10] : List Int))))
def stopP (s : YT7) : List (List Int) := [([32, 32, 115, 116, 111, 112, 32] : List Int), s.1, ([32, 111, 117, 116, 32] : List Int), s.2.1, ([32, 105, 110, 32] : List Int), s.2.2.1, ([32, 97, 104, 101, 97, 100, 32] : List Int), numT s.2.2.2.1, ([32, 98, 97, 99, 107, 32] : List Int), numT s.2.2.2.2.1, ([59, 10] : List Int)]
def stopT (s : YT7) : List Int := (stopP s).flatten
def weightsT (a b : Int) : List Int := [([32, 32, 119, 101, 105, 103, 104, 116, 115, 32] : List Int), numT a, ([32] : List Int), numT b, ([59, 10] : List Int)].flatten
def artB (n : NetT) : Bool := (decide (((n.2.2.2.2.2.2.1.length : Nat) : Int) > 0) || n.2.2.2.2.2.2.2.1 != 0) || n.2.2.2.2.2.2.2.2 != 0
def artT (n : NetT) : List Int := bif artB n then ([97, 114, 116, 101, 114, 121, 32, 123, 10] : List Int) ++ (n.2.2.2.2.2.2.1.flatMap stopT ++ (weightsT n.2.2.2.2.2.2.2.1 n.2.2.2.2.2.2.2.2 ++ ([125, 10] : List Int))) else []
def cycleT (a b c d e : Int) : List Int := [([99, 121, 99, 108, 101, 32] : List Int), numT a, ([32, 116, 111, 32] : List Int), numT b, ([32, 98, 121, 32] : List Int), numT c, ([59, 10, 112, 101, 97, 107, 32] : List Int), fracT d e, ([59, 10] : List Int)].flatten
def netT (n : NetT) : List Int := cycleT n.1 n.2.1 n.2.2.1 n.2.2.2.1 n.2.2.2.2.1 ++ (n.2.2.2.2.2.1.flatMap nodeT ++ artT n)

theorem name_spec {s : List Int} (h : nameB s = true) : byB s ∧ s.length ≤ 24 ∧ s ≠ [] ∧ (∀ x ∈ s, isWord x = true) ∧ (∃ c r, s = c :: r ∧ isSmall c = true) := by
  unfold nameB rightB at h
  simp only [Bool.and_eq_true, decide_eq_true_eq] at h
  obtain ⟨⟨h0, h1, h2⟩, _⟩ := h
  cases s with
  | nil => exact absurd rfl h0
  | cons c r =>
    have hs := tok1_spec (x := c) (r := r) (by rw [h2])
    rw [h2] at hs
    have hw : ∀ x ∈ c :: r, isWord x = true := by
      intro x hx
      have h3 : (c :: r).takeWhile isWord = c :: r ∧ isSmall c = true := by
        simp only [tok1] at h2
        split at h2
        · rename_i hc
          split at h2
          · simp at h2
          · simp only [Prod.mk.injEq] at h2
            exact ⟨h2.2.2.1, hc⟩
        · split at h2
          · split at h2 <;> simp at h2
          · split at h2 <;> simp at h2
      rw [← h3.1] at hx
      exact mem_tw hx
    have hc : isSmall c = true := by
      simp only [tok1] at h2
      split at h2
      · rename_i hc; exact hc
      · split at h2
        · split at h2 <;> simp at h2
        · split at h2 <;> simp at h2
    refine ⟨fun x hx => ?_, hs.2.2.2, by simp, hw, c, r, rfl, hc⟩
    have := hw x hx
    unfold isWord isSmall isDig at this
    simp at this
    omega
theorem name_len {s : List Int} (h : nameB s = true) : s.length ≤ 24 := (name_spec h).2.1
theorem row_names {m : Nat} {l : List (List Int)} (h : rowB m l = true) : (1 ≤ l.length ∧ l.length ≤ m) ∧ ∀ s ∈ l, nameB s = true := by
  unfold rowB at h
  simp only [Bool.and_eq_true, decide_eq_true_eq, List.all_eq_true] at h
  exact ⟨⟨h.1, h.2.1⟩, h.2.2⟩
theorem listT_len {m : Nat} {l : List (List Int)} (h : rowB m l = true) : (listT l).length ≤ m * 26 := by
  have h1 := row_names h
  have h2 := joinI_len ([44, 32] : List Int) 24 l fun w hw => name_len (h1.2 w hw)
  have h3 : l.length * (24 + List.length ([44, 32] : List Int)) ≤ m * 26 := Nat.mul_le_mul h1.1.2 (by simp)
  exact Nat.le_trans h2 h3
theorem fracT_len (a b : Int) : (fracT a b).length ≤ 39 := by
  have h1 := numT_len a
  have h2 := numT_len b
  unfold fracT
  simp; omega
theorem headT_len {h : YT1} (hb : headB h = true) : (headT h).length ≤ 400 := by
  have h0 : h.1.length ≤ 24 := by
    unfold headB at hb
    simp only [Bool.and_eq_true] at hb
    exact name_len hb.1
  clear hb
  obtain ⟨a0, a1, a2, ⟨a3, a4, ⟨⟩⟩, a5, a6, a7, a8, a9, a10, ⟨⟩⟩ := h
  simp only at h0
  have h1 := numT_len a1
  have h2 := numT_len a2
  have h3 := fracT_len a3 a4
  have h4 := numT_len a5
  have h5 := numT_len a6
  have h6 := numT_len a7
  have h7 := numT_len a8
  have h8 := numT_len a9
  unfold headT headP
  (simp only [List.flatten_cons, List.flatten_nil, List.append_nil, List.length_append, List.length_cons, List.length_nil, Nat.reduceAdd, ← Nat.add_assoc]; omega)
theorem pedT_len {p : YT2} (hb : pedB p = true) : (pedT p).length ≤ 200 := by
  unfold pedB at hb
  simp only [Bool.and_eq_true] at hb
  have := name_len hb.1
  have := name_len hb.2.1
  have h1 := numT_len p.2.2.1
  have h2 := numT_len p.2.2.2.1
  have h4 := numT_len p.2.2.2.2.1
  unfold pedT pedP
  (simp only [List.flatten_cons, List.flatten_nil, List.append_nil, List.length_append, List.length_cons, List.length_nil, Nat.reduceAdd, ← Nat.add_assoc]; omega)
theorem phaseT_len {x : YT3} (hb : phaseB x = true) : (phaseT x).length ≤ 500 := by
  unfold phaseB at hb
  simp only [Bool.and_eq_true] at hb
  have := name_len hb.1
  have := listT_len hb.2.1
  unfold phaseT phaseP
  (simp only [List.flatten_cons, List.flatten_nil, List.append_nil, List.length_append, List.length_cons, List.length_nil, Nat.reduceAdd, ← Nat.add_assoc]; omega)
theorem ringT_len {r : YT4} (hb : ringB r = true) : (ringT r).length ≤ 200 := by
  unfold ringB at hb
  have := listT_len hb
  unfold ringT
  cases r.1 <;> simp only [cond_true, cond_false] <;> (simp only [List.flatten_cons, List.flatten_nil, List.append_nil, List.length_append, List.length_cons, List.length_nil, Nat.reduceAdd, ← Nat.add_assoc]; omega)
theorem groupT_len {g : List YT4 × Unit} (hb : groupB g = true) : (groupT g).length ≤ 500 := by
  unfold groupB at hb
  simp only [Bool.and_eq_true, Bool.not_eq_true', decide_eq_false_iff_not, List.all_eq_true] at hb
  have := flatMap_le ringT 200 g.1 fun r hr => ringT_len (hb.2.2 r hr)
  have h2 : g.1.length * 200 ≤ 2 * 200 := Nat.mul_le_mul_right _ (by omega)
  unfold groupT
  (simp only [List.flatten_cons, List.flatten_nil, List.append_nil, List.length_append, List.length_cons, List.length_nil, Nat.reduceAdd, ← Nat.add_assoc]; omega)
theorem foeT_len {f : YT5} (hb : foeB f = true) : (foeT f).length ≤ 80 := by
  unfold foeB at hb
  simp only [Bool.and_eq_true] at hb
  have := name_len hb.1
  have := name_len hb.2.1
  unfold foeT foeP
  (simp only [List.flatten_cons, List.flatten_nil, List.append_nil, List.length_append, List.length_cons, List.length_nil, Nat.reduceAdd, ← Nat.add_assoc]; omega)
theorem stopT_len {s : YT7} (hb : stopB s = true) : (stopT s).length ≤ 200 := by
  unfold stopB at hb
  simp only [Bool.and_eq_true] at hb
  have := name_len hb.1
  have := name_len hb.2.1
  have := name_len hb.2.2.1
  have h1 := numT_len s.2.2.2.1
  have h2 := numT_len s.2.2.2.2.1
  unfold stopT stopP
  (simp only [List.flatten_cons, List.flatten_nil, List.append_nil, List.length_append, List.length_cons, List.length_nil, Nat.reduceAdd, ← Nat.add_assoc]; omega)
theorem le_of {α : Type} {l : List α} {m : Int} (h : leB l m = true) : ((l.length : Nat) : Int) ≤ m := by
  unfold leB at h; simp at h; exact h
theorem flat_max {α : Type} (l : List α) (f : α → List Int) (p : α → Bool) (m n : Nat) (h : l.all p = true) (hf : ∀ x, p x = true → (f x).length ≤ m) (hl : l.length ≤ n) : (l.flatMap f).length ≤ n * m := by
  have := flatMap_le f m l fun x hx => hf x (List.all_eq_true.1 h x hx)
  exact Nat.le_trans this (Nat.mul_le_mul_right _ hl)
theorem partsT_len {n : YT6} (hb : nodeB n = true) : (partsT n).length ≤ 24000 := by
  unfold nodeB at hb
  simp only [Bool.and_eq_true] at hb
  obtain ⟨h0, h1, h2, h3, h4, h5, p1, p2, p3, p4, p5⟩ := hb
  have := flat_max _ headT headB 400 16 p1 (fun x => headT_len) (by have := le_of h1; omega)
  have := flat_max _ pedT pedB 200 8 p2 (fun x => pedT_len) (by have := le_of h2; omega)
  have := flat_max _ phaseT phaseB 500 16 p3 (fun x => phaseT_len) (by have := le_of h3; omega)
  have := flat_max _ groupT groupB 500 4 p4 (fun x => groupT_len) (by have := le_of h4; omega)
  have := flat_max _ foeT foeB 80 64 p5 (fun x => foeT_len) (by have := le_of h5; omega)
  unfold partsT
  (simp only [List.flatten_cons, List.flatten_nil, List.append_nil, List.length_append, List.length_cons, List.length_nil, Nat.reduceAdd, ← Nat.add_assoc]; omega)
theorem nodeT_len {n : YT6} (hb : nodeB n = true) : (nodeT n).length ≤ 24100 := by
  have := partsT_len hb
  unfold nodeB at hb
  simp only [Bool.and_eq_true] at hb
  have := name_len hb.1
  unfold nodeT
  (simp only [List.flatten_cons, List.flatten_nil, List.append_nil, List.length_append, List.length_cons, List.length_nil, Nat.reduceAdd, ← Nat.add_assoc]; omega)
theorem netT_len {n : NetT} (hb : netB n = true) : (netT n).length ≤ 400000 := by
  unfold netB at hb
  simp only [Bool.and_eq_true] at hb
  obtain ⟨-, -, -, -, -, -, h1, h2, p1, p2⟩ := hb
  have := flat_max _ nodeT nodeB 24100 12 p1 (fun x => nodeT_len) (by have := le_of h1; omega)
  have := flat_max _ stopT stopB 200 12 p2 (fun x => stopT_len) (by have := le_of h2; omega)
  have h1 := numT_len n.1
  have h2 := numT_len n.2.1
  have h3 := numT_len n.2.2.1
  have h4 := fracT_len n.2.2.2.1 n.2.2.2.2.1
  have h5 := numT_len n.2.2.2.2.2.2.2.1
  have h6 := numT_len n.2.2.2.2.2.2.2.2
  unfold netT artT cycleT weightsT
  cases artB n <;> simp only [cond_true, cond_false] <;> (simp only [List.flatten_cons, List.flatten_nil, List.append_nil, List.length_append, List.length_cons, List.length_nil, Nat.reduceAdd, ← Nat.add_assoc]; omega)
end Go.Proofs.YtipcabmhdokfjaaGreatDoorV

/-! show: the reference's text. -/
set_option linter.unusedVariables false
set_option linter.unusedSimpArgs false
namespace Go.Proofs.YtipcabmhdokfjaaGreatDoorV
open Go Go.RowKit

/-- Pieces put behind a text, one by one. -/
def catL {R : Type} (K : List Int → Option R) : List (List Int) → List Int → Option R
  | [], b => K b
  | p :: r, b => cat b p fun o => catL K r o
theorem catL_ok {R : Type} {K : List Int → Option R} : ∀ {ps : List (List Int)} {b : List Int}, b.length + ps.flatten.length ≤ 1000000 → catL K ps b = K (b ++ ps.flatten)
  | [], b, _ => by simp [catL]
  | p :: r, b, h => by
    rw [List.flatten_cons, List.length_append] at h
    rw [catL, cat_ok (by omega), catL_ok (by rw [List.length_append]; omega), List.flatten_cons, List.append_assoc]
theorem gr_inM {n : Int} (h1 : (!decide (n < -999999999999999999)) = true) (h2 : (!decide (n > 999999999999999999)) = true) : inM n := by
  unfold inM; simp at h1 h2; omega
/-- The numbers of a head that is right. -/
theorem head_spec {h : YT1} (hb : headB h = true) : nameB h.1 = true ∧ inM h.2.1 ∧ inM h.2.2.1 ∧ inM h.2.2.2.1.1 ∧ inM h.2.2.2.1.2.1 ∧ inM h.2.2.2.2.1 ∧ inM h.2.2.2.2.2.1 ∧ inM h.2.2.2.2.2.2.1 ∧ inM h.2.2.2.2.2.2.2.1 ∧ inM h.2.2.2.2.2.2.2.2.1 := by
  unfold headB at hb
  simp only [Bool.and_eq_true] at hb
  obtain ⟨h0, h1, h2, ⟨h3, h4⟩, h5, h6, h7, h8, h9, h10, -⟩ := hb
  exact ⟨h0, num_inM h1, num_inM h2, num_inM h3, num_inM h4, num_inM h5, gr_inM h6 h7, num_inM h8, num_inM h9, num_inM h10⟩
theorem ped_spec {p : YT2} (hb : pedB p = true) : nameB p.1 = true ∧ nameB p.2.1 = true ∧ inM p.2.2.1 ∧ inM p.2.2.2.1 ∧ inM p.2.2.2.2.1 := by
  unfold pedB at hb
  simp only [Bool.and_eq_true] at hb
  exact ⟨hb.1, hb.2.1, num_inM hb.2.2.1, num_inM hb.2.2.2.1, num_inM hb.2.2.2.2.1⟩
theorem stop_spec {s : YT7} (hb : stopB s = true) : nameB s.1 = true ∧ nameB s.2.1 = true ∧ nameB s.2.2.1 = true ∧ inM s.2.2.2.1 ∧ inM s.2.2.2.2.1 := by
  unfold stopB at hb
  simp only [Bool.and_eq_true] at hb
  exact ⟨hb.1, hb.2.1, hb.2.2.1, num_inM hb.2.2.2.1, num_inM hb.2.2.2.2.1⟩
section
variable (k : Nat) (hk : 1000 ≤ k)
include hk
theorem rtext_some (n : YT6) (hb : nodeB n = true) : cr06text k (n.1, n.2.1, n.2.2.1, n.2.2.2.1, n.2.2.2.2.1, n.2.2.2.2.2.1, n.2.2.2.2.2.2.1) = some (nodeT n) := by
  have hT := nodeT_len hb
  obtain ⟨a0, a1, a2, a3, a4, a5, a6, a7⟩ := n
  unfold nodeB at hb
  simp only [Bool.and_eq_true, List.all_eq_true] at hb
  obtain ⟨h0, h1, h2, h3, h4, h5, p1, p2, p3, p4, p5⟩ := hb
  have h1 : ((a1.length : Nat) : Int) ≤ 16 := le_of h1
  have h2 : ((a2.length : Nat) : Int) ≤ 8 := le_of h2
  have h3 : ((a3.length : Nat) : Int) ≤ 16 := le_of h3
  have h4 : ((a4.length : Nat) : Int) ≤ 4 := le_of h4
  have h5 : ((a5.length : Nat) : Int) ≤ 64 := le_of h5
  have L5 := app_loop0 1000000 a5 foeT (fun j i b => (fr06text k).L 30 [] j (fr06text_s30 (b, i, a0, a1, a2, a3, a4, a5, a6))) (fun b => some (b ++ ([125, 10] : List Int)))
    (fun j i x b hx hb => by
      simp only [fr06text_el30, fr06text_tl30, lt_at hx, idx_at hx, suc_at hx (show a5.length < 1000000 by omega)]
      exact catL_ok (K := fun o => (fr06text k).L 30 [] j (fr06text_s30 (o, ((i + 1 : Nat) : Int), a0, a1, a2, a3, a4, a5, a6))) (ps := foeP x) hb)
    (fun j b hb => by rw [fr06text_el30, fr06text_tl30, lt_end, cat_ok (by (simp only [List.flatten_cons, List.flatten_nil, List.append_nil, List.length_append, List.length_cons, List.length_nil, Nat.reduceAdd, ← Nat.add_assoc]; omega))]) k
  have L4 := app_loop0 900000 a4 groupT (fun j i b => (fr06text k).L 17 [] j (fr06text_s17 (b, i, a0, a1, a2, a3, a4, a5, a6))) (fun b => (fr06text k).L 30 [] k (fr06text_s30 (b, 0, a0, a1, a2, a3, a4, a5, a6)))
    (fun j i x b hx hb => by
      have hg := p4 x (at_mem hx)
      unfold groupB at hg
      simp only [Bool.and_eq_true, Bool.not_eq_true', decide_eq_false_iff_not, List.all_eq_true] at hg
      simp only [groupT, List.length_append, List.length_cons, List.length_nil, Nat.reduceAdd, ← Nat.add_assoc] at hb
      have LI := app_loop0 950000 x.1 ringT (fun j' i' b => (fr06text k).L 21 [j] j' (fr06text_s21 (b, (i : Int), i', a0, a1, a2, a3, a4, a5, a6))) (fun b => (fr06text k).L 17 [] j (fr06text_s17 (b ++ ([32, 32, 125, 10] : List Int), ((i + 1 : Nat) : Int), a0, a1, a2, a3, a4, a5, a6)))
        (fun j' i' r b hr hb => by
          have hn := (row_names (hg.2.2 r (at_mem hr))).1
          have hl := listT_len (hg.2.2 r (at_mem hr))
          have e4 : List.length ([32, 32, 32, 32, 114, 105, 110, 103, 32] : List Int) = 9 := rfl
          have e5 : List.length ([102, 114, 101, 101, 32] : List Int) = 5 := rfl
          have e6 : List.length ([59, 10] : List Int) = 2 := rfl
          have hj : (joinI ([44, 32] : List Int) r.2.1).length ≤ 4 * 26 := hl
          have hbb : b.length ≤ 950000 := by omega
          rw [fr06text_el21, fr06text_tl21, idx_at hx, lt_at hr, idx_at hx, idx_at hr, cat_ok (by omega)]
          cases hf : r.1
          · rw [cond_false, fr06text_ej27, fr06text_tj27, rlist_some k hk _ (by omega) (by omega), Option.bind_some, cat_ok (by rw [List.length_append]; omega), cat_ok (by rw [List.length_append, List.length_append]; omega), suc_at hr (by omega)]
            simp only [ringT, listT, hf, cond_false, List.append_assoc, List.nil_append]
          · rw [cond_true, cat_ok (by rw [List.length_append]; omega), fr06text_ej27, fr06text_tj27, rlist_some k hk _ (by omega) (by omega), Option.bind_some, cat_ok (by rw [List.length_append, List.length_append]; omega), cat_ok (by rw [List.length_append, List.length_append, List.length_append]; omega), suc_at hr (by omega)]
            simp only [ringT, listT, hf, cond_true, List.append_assoc])
        (fun j' b hb => by rw [fr06text_el21, fr06text_tl21, idx_at hx, lt_end, cat_ok (by (simp only [List.flatten_cons, List.flatten_nil, List.append_nil, List.length_append, List.length_cons, List.length_nil, Nat.reduceAdd, ← Nat.add_assoc]; omega)), suc_at hx (by omega)]) k (b ++ ([32, 32, 103, 114, 111, 117, 112, 32, 123, 10] : List Int)) (by omega) (by (simp only [List.flatten_cons, List.flatten_nil, List.append_nil, List.length_append, List.length_cons, List.length_nil, Nat.reduceAdd, ← Nat.add_assoc]; omega))
      rw [fr06text_el17, fr06text_tl17, lt_at hx, cat_ok (by (simp only [List.flatten_cons, List.flatten_nil, List.append_nil, List.length_append, List.length_cons, List.length_nil, Nat.reduceAdd, ← Nat.add_assoc]; omega)), LI]
      simp only [groupT, List.append_assoc])
    (fun j b hb => by rw [fr06text_el17, fr06text_tl17, lt_end]) k
  have L3 := app_loop0 1000000 a3 phaseT (fun j i b => (fr06text k).L 13 [] j (fr06text_s13 (b, i, a0, a1, a2, a3, a4, a5, a6))) (fun b => (fr06text k).L 17 [] k (fr06text_s17 (b, 0, a0, a1, a2, a3, a4, a5, a6)))
    (fun j i x b hx hb => by
      have hp := p3 x (at_mem hx)
      unfold phaseB at hp
      simp only [Bool.and_eq_true] at hp
      have hn := (row_names hp.2.1).1
      have hl := listT_len hp.2.1
      unfold listT at hl
      simp only [fr06text_el13, fr06text_tl13, lt_at hx, idx_at hx, suc_at hx (show a3.length < 1000000 by omega), rlist_some k hk x.2.1 (by omega) (by omega), Option.bind_some]
      exact catL_ok (K := fun o => (fr06text k).L 13 [] j (fr06text_s13 (o, ((i + 1 : Nat) : Int), a0, a1, a2, a3, a4, a5, a6))) (ps := phaseP x) hb)
    (fun j b hb => by rw [fr06text_el13, fr06text_tl13, lt_end]) k
  have L2 := app_loop0 1000000 a2 pedT (fun j i b => (fr06text k).L 8 [] j (fr06text_s8 (b, i, a0, a1, a2, a3, a4, a5, a6))) (fun b => (fr06text k).L 13 [] k (fr06text_s13 (b, 0, a0, a1, a2, a3, a4, a5, a6)))
    (fun j i x b hx hb => by
      obtain ⟨-, -, q1, q2, q3⟩ := ped_spec (p2 x (at_mem hx))
      simp only [fr06text_el8, fr06text_tl8, lt_at hx, idx_at hx, suc_at hx (show a2.length < 1000000 by omega), rd_some k hk q1, rd_some k hk q2, rd_some k hk q3, Option.bind_some]
      exact catL_ok (K := fun o => (fr06text k).L 8 [] j (fr06text_s8 (o, ((i + 1 : Nat) : Int), a0, a1, a2, a3, a4, a5, a6))) (ps := pedP x) hb)
    (fun j b hb => by rw [fr06text_el8, fr06text_tl8, lt_end]) k
  have L1 := app_loop0 1000000 a1 headT (fun j i b => (fr06text k).L 3 [] j (fr06text_s3 (b, i, a0, a1, a2, a3, a4, a5, a6))) (fun b => (fr06text k).L 8 [] k (fr06text_s8 (b, 0, a0, a1, a2, a3, a4, a5, a6)))
    (fun j i x b hx hb => by
      obtain ⟨-, q1, q2, q3, q4, q5, q6, q7, q8, q9⟩ := head_spec (p1 x (at_mem hx))
      simp only [fr06text_el3, fr06text_tl3, lt_at hx, idx_at hx, suc_at hx (show a1.length < 1000000 by omega), rd_some k hk q1, rd_some k hk q2, rdf_some k hk q3 q4, rd_some k hk q5, rd_some k hk q6, rd_some k hk q7, rd_some k hk q8, rd_some k hk q9, Option.bind_some]
      exact catL_ok (K := fun o => (fr06text k).L 3 [] j (fr06text_s3 (o, ((i + 1 : Nat) : Int), a0, a1, a2, a3, a4, a5, a6))) (ps := headP x) hb)
    (fun j b hb => by rw [fr06text_el3, fr06text_tl3, lt_end]) k
  simp only [nodeT, partsT, List.length_append, List.length_cons, List.length_nil, Nat.reduceAdd, ← Nat.add_assoc] at hT
  rw [fr06text_e, fr06text_t, cat_ok (by (simp only [List.flatten_cons, List.flatten_nil, List.append_nil, List.length_append, List.length_cons, List.length_nil, Nat.reduceAdd, ← Nat.add_assoc]; omega)), cat_ok (by (simp only [List.flatten_cons, List.flatten_nil, List.append_nil, List.length_append, List.length_cons, List.length_nil, Nat.reduceAdd, ← Nat.add_assoc]; omega)), L1 _ (by omega) (by (simp only [List.flatten_cons, List.flatten_nil, List.append_nil, List.length_append, List.length_cons, List.length_nil, Nat.reduceAdd, ← Nat.add_assoc]; omega)), L2 _ (by omega) (by (simp only [List.flatten_cons, List.flatten_nil, List.append_nil, List.length_append, List.length_cons, List.length_nil, Nat.reduceAdd, ← Nat.add_assoc]; omega)), L3 _ (by omega) (by (simp only [List.flatten_cons, List.flatten_nil, List.append_nil, List.length_append, List.length_cons, List.length_nil, Nat.reduceAdd, ← Nat.add_assoc]; omega)), L4 _ (by omega) (by (simp only [List.flatten_cons, List.flatten_nil, List.append_nil, List.length_append, List.length_cons, List.length_nil, Nat.reduceAdd, ← Nat.add_assoc]; omega)), L5 _ (by omega) (by (simp only [List.flatten_cons, List.flatten_nil, List.append_nil, List.length_append, List.length_cons, List.length_nil, Nat.reduceAdd, ← Nat.add_assoc]; omega))]
  simp only [nodeT, partsT, List.append_assoc]
theorem rshow_some (n : NetT) (hs : NetS n) (hb : netB n = true) : cr06Show k n = some (netT n, 0) := by
  have hT := netT_len hb
  have hr := rright_net k hk n hs
  rw [hb] at hr
  obtain ⟨a0, a1, a2, a3, a4, a5, a6, a7, a8⟩ := n
  unfold netB at hb
  simp only [Bool.and_eq_true, List.all_eq_true] at hb
  obtain ⟨q0, q1, q2, ⟨q3, q4⟩, q7, q8, h1, h2, p1, p2⟩ := hb
  have h1 : ((a5.length : Nat) : Int) ≤ 12 := le_of h1
  have h2 : ((a6.length : Nat) : Int) ≤ 12 := le_of h2
  have w1 := numT_len a7
  have w2 := numT_len a8
  have L2 := app_loop0 900000 a6 stopT (fun j i b => (fr06Show k).L 11 [] j (fr06Show_s11 (b, i, a0, a1, a2, a3, a4, a5, a6, a7, a8))) (fun b => some (b ++ (weightsT a7 a8 ++ ([125, 10] : List Int)), 0))
    (fun j i x b hx hb => by
      obtain ⟨-, -, -, q1, q2⟩ := stop_spec (p2 x (at_mem hx))
      simp only [fr06Show_el11, fr06Show_tl11, lt_at hx, idx_at hx, suc_at hx (show a6.length < 1000000 by omega), rd_some k hk q1, rd_some k hk q2, Option.bind_some]
      exact catL_ok (K := fun o => (fr06Show k).L 11 [] j (fr06Show_s11 (o, ((i + 1 : Nat) : Int), a0, a1, a2, a3, a4, a5, a6, a7, a8))) (ps := stopP x) (show b.length + (stopT x).length ≤ 1000000 by omega))
    (fun j b hb => by
      simp only [fr06Show_el11, fr06Show_tl11, lt_end, rd_some k hk (num_inM q7), rd_some k hk (num_inM q8), Option.bind_some]
      refine (catL_ok (K := fun o => some (o, (0 : Int))) (ps := [([32, 32, 119, 101, 105, 103, 104, 116, 115, 32] : List Int), numT a7, ([32] : List Int), numT a8, ([59, 10, 125, 10] : List Int)]) (by (simp only [List.flatten_cons, List.flatten_nil, List.append_nil, List.length_append, List.length_cons, List.length_nil, Nat.reduceAdd, ← Nat.add_assoc]; omega))).trans ?_
      simp only [weightsT, List.flatten_cons, List.flatten_nil, List.append_nil, List.append_assoc]
      rfl) k
  have L1 := app_loop0 800000 a5 nodeT (fun j i b => (fr06Show k).L 5 [] j (fr06Show_s5 (b, i, a0, a1, a2, a3, a4, a5, a6, a7, a8))) (fun b => bif artB (a0, a1, a2, a3, a4, a5, a6, a7, a8) then (fr06Show k).L 11 [] k (fr06Show_s11 (b ++ ([97, 114, 116, 101, 114, 121, 32, 123, 10] : List Int), 0, a0, a1, a2, a3, a4, a5, a6, a7, a8)) else some (b, 0))
    (fun j i x b hx hb => by
      have hp := p1 x (at_mem hx)
      have hl := nodeT_len hp
      rw [fr06Show_el5, fr06Show_tl5, lt_at hx, idx_at hx, rtext_some k hk x hp, Option.bind_some, cat_ok (by omega), suc_at hx (by omega)])
    (fun j b hb => by
      rw [fr06Show_el5, fr06Show_tl5, lt_end, cat_ok (by (simp only [List.flatten_cons, List.flatten_nil, List.append_nil, List.length_append, List.length_cons, List.length_nil, Nat.reduceAdd, ← Nat.add_assoc]; omega)), ← cor, ← cor]
      rfl) k
  unfold netT artT at hT ⊢
  simp only at hT ⊢
  rw [List.length_append] at hT
  simp only [fr06Show_e, fr06Show_t, hr, rd_some k hk (num_inM q0), rd_some k hk (num_inM q1), rd_some k hk (num_inM q2), rdf_some k hk (num_inM q3) (num_inM q4), Option.bind_some, Bool.not_true, cond_false]
  refine (catL_ok (K := fun o => (fr06Show k).L 5 [] k (fr06Show_s5 (o, 0, a0, a1, a2, a3, a4, a5, a6, a7, a8))) (b := ([99, 121, 99, 108, 101, 32] : List Int)) (ps := [numT a0, ([32, 116, 111, 32] : List Int), numT a1, ([32, 98, 121, 32] : List Int), numT a2, ([59, 10, 112, 101, 97, 107, 32] : List Int), fracT a3 a4, ([59, 10] : List Int)]) ?_).trans ?_
  · have : (cycleT a0 a1 a2 a3 a4).length = List.length ([99, 121, 99, 108, 101, 32] : List Int) + ([numT a0, ([32, 116, 111, 32] : List Int), numT a1, ([32, 98, 121, 32] : List Int), numT a2, ([59, 10, 112, 101, 97, 107, 32] : List Int), fracT a3 a4, ([59, 10] : List Int)].flatten).length := by
      unfold cycleT
      rw [List.flatten_cons, List.length_append]
    omega
  · have e : ([99, 121, 99, 108, 101, 32] : List Int) ++ [numT a0, ([32, 116, 111, 32] : List Int), numT a1, ([32, 98, 121, 32] : List Int), numT a2, ([59, 10, 112, 101, 97, 107, 32] : List Int), fracT a3 a4, ([59, 10] : List Int)].flatten = cycleT a0 a1 a2 a3 a4 := rfl
    rw [e]
    generalize cycleT a0 a1 a2 a3 a4 = cy at *
    rw [List.length_append] at hT
    rw [L1 _ (by omega) (by omega)]
    cases hA : artB (a0, a1, a2, a3, a4, a5, a6, a7, a8)
    · simp only [cond_false, List.append_nil]
    · rw [hA, cond_true, List.length_append] at hT
      rw [cond_true, cond_true, L2 _ (by omega) (by
        have : (List.flatMap stopT a6 ++ (weightsT a7 a8 ++ ([125, 10] : List Int))).length = (List.flatMap stopT a6).length + (weightsT a7 a8 ++ ([125, 10] : List Int)).length := List.length_append
        rw [List.length_append, List.length_append]
        omega)]
      simp only [List.append_assoc]
end
end Go.Proofs.YtipcabmhdokfjaaGreatDoorV

/-! show: the printer's text. -/
set_option linter.unusedVariables false
set_option linter.unusedSimpArgs false
namespace Go.Proofs.YtipcabmhdokfjaaGreatDoorV
open Go Go.RowKit

def ind : Nat → List Int
  | 0 => []
  | d + 1 => 32 :: 32 :: ind d
def lineT (d : Nat) (ws : List (List Int)) (e : List Int) : List Int := ind d ++ (joinI ([32] : List Int) ws ++ (e ++ ([10] : List Int)))
theorem by_lit {l : List Int} (h : l.all (fun x => decide (0 ≤ x) && decide (x ≤ 255)) = true) : byB l := by
  intro x hx
  have := List.all_eq_true.1 h x hx
  simp at this
  omega
theorem by_app {a b : List Int} (ha : byB a) (hb : byB b) : byB (a ++ b) := fun x hx => by
  rcases List.mem_append.1 hx with h | h
  · exact ha x h
  · exact hb x h
theorem fracT_by (a b : Int) : byB (fracT a b) := by_app (by_app (numT_by a) (by_lit (by decide))) (numT_by b)
theorem rep_some (k d : Nat) (hd : d ≤ 2) : cstringsRepeat k (([32, 32] : List Int), (d : Int)) = some (ind d) := by
  rcases d with _ | _ | _ | d
  · rfl
  · rfl
  · rfl
  · omega
theorem ws1_some (k : Nat) (a buf : List Int) (b : Bool) (d : Int) (h : buf.length + a.length ≤ 1000000) : cstringsB_WriteString'1 k (a, b, d, buf) = some ((a.length : Int), false, d, buf ++ a) := by
  rw [fstringsB_WriteString'1_e, fstringsB_WriteString'1_t]
  show (app 1 buf a fun o2 => some (((List.length a : Nat) : Int), false, d, o2)) = _
  rw [app_ok (by omega) (by omega)]
theorem line_core (k : Nat) (e : List Int) (ws : List (List Int)) (b : Bool) (d : Nat) (buf : List Int) (hd : d ≤ 2) (hw : ∀ w ∈ ws, byB w) (hn : ws.length ≤ 1000) (h : buf.length + (lineT d ws e).length ≤ 1000000) :
    (((cstringsB_WriteString'1 k) (ind d, b, (d : Int), buf)).bind fun o2 => ((cstringsJoin k) (ws, ([32] : List Int))).bind fun o3 => ((cstringsB_WriteString'1 k) (o3, o2.2.1, o2.2.2.1, o2.2.2.2)).bind fun o4 => ((cstringsB_WriteString'1 k) (e, o4.2.1, o4.2.2.1, o4.2.2.2)).bind fun o5 => ((cstringsB_WriteByte k) ((10 : Int), o5.2.1, o5.2.2.1, o5.2.2.2)).bind fun o6 => some (o6.1, o6.2.1, o6.2.2)) =
      some (false, (d : Int), buf ++ lineT d ws e) := by
  unfold lineT at h
  rw [List.length_append, List.length_append, List.length_append] at h
  have e1 : List.length ([10] : List Int) = 1 := rfl
  have hj : cstringsJoin k (ws, ([32] : List Int)) = some (joinI ([32] : List Int) ws) := joinS_eq _ _ (by_lit (by decide)) hw (by omega) (by omega)
  rw [ws1_some k _ _ _ _ (by omega), Option.bind_some, hj, Option.bind_some, ws1_some k _ _ _ _ (by simp only [List.length_append]; omega), Option.bind_some, ws1_some k _ _ _ _ (by simp only [List.length_append]; omega), Option.bind_some, fstringsB_WriteByte_e, fstringsB_WriteByte_t]
  show ((app 1 (((buf ++ ind d) ++ joinI ([32] : List Int) ws) ++ e) ([10] : List Int) fun o2 => some (false, (d : Int), o2)).bind fun o6 => some (o6.1, o6.2.1, o6.2.2)) = _
  rw [app_ok (by simp only [List.length_append]; omega) (by simp only [List.length_append]; omega), Option.bind_some]
  unfold lineT
  simp only [List.append_assoc]
theorem line1_some (k : Nat) (e : List Int) (ws : List (List Int)) (b : Bool) (d : Nat) (buf : List Int) (hd : d ≤ 2) (hw : ∀ w ∈ ws, byB w) (hn : ws.length ≤ 1000) (h : buf.length + (lineT d ws e).length ≤ 1000000) :
    cshowp_line'1 k (e, ws, b, (d : Int), buf) = some (false, (d : Int), buf ++ lineT d ws e) := by
  rw [fshowp_line'1_e, fshowp_line'1_t]
  simp only [rep_some k d hd, Option.bind_some]
  exact line_core k e ws b d buf hd hw hn h
theorem line_some (k : Nat) (e : List Int) (ws : List (List Int)) (d : Nat) (hd : d ≤ 2) (hw : ∀ w ∈ ws, byB w) (hn : ws.length ≤ 1000) (h : (lineT d ws e).length ≤ 1000000) :
    cshowp_line k (e, ws, true, (d : Int)) = some (false, (d : Int), lineT d ws e) := by
  rw [fshowp_line_e, fshowp_line_t]
  simp only [rep_some k d hd, Option.bind_some]
  have hw1 : cstringsB_WriteString k (ind d, true, (d : Int)) = cstringsB_WriteString'1 k (ind d, true, (d : Int), []) := by
    rw [fstringsB_WriteString_e, fstringsB_WriteString_t, fstringsB_WriteString'1_e, fstringsB_WriteString'1_t]
  rw [hw1]
  exact line_core k e ws true d [] hd hw hn (by simpa using h)
section
variable (k : Nat)
theorem phead_some (h : YT1) (buf : List Int) (b : Bool) (hb : headB h = true) (hl : buf.length + (headT h).length ≤ 1000000) :
    cshowp_head k (h.1, h.2.1, h.2.2.1, h.2.2.2.1.1, h.2.2.2.1.2.1, h.2.2.2.2.1, h.2.2.2.2.2.1, h.2.2.2.2.2.2.1, h.2.2.2.2.2.2.2.1, h.2.2.2.2.2.2.2.2.1, h.2.2.2.2.2.2.2.2.2.1, b, 1, buf) = some (false, 1, buf ++ headT h) := by
  obtain ⟨q0, q1, q2, q3, q4, q5, q6, q7, q8, q9⟩ := head_spec hb
  rw [fshowp_head_e, fshowp_head_t]
  simp only [num_some k q1, num_some k q2, frac_some k q3 q4, num_some k q5, num_some k q6, num_some k q7, num_some k q8, num_some k q9, Option.bind_some]
  have e : lineT 1 [([104, 101, 97, 100] : List Int), h.1, ([118, 111, 108, 117, 109, 101] : List Int), numT h.2.1, ([102, 108, 111, 119] : List Int), numT h.2.2.1, ([117, 115, 101] : List Int), fracT h.2.2.2.1.1 h.2.2.2.1.2.1, ([115, 112, 101, 101, 100] : List Int), numT h.2.2.2.2.1, ([103, 114, 97, 100, 101] : List Int), numT h.2.2.2.2.2.1, ([119, 105, 100, 116, 104] : List Int), numT h.2.2.2.2.2.2.1, ([108, 101, 110, 103, 116, 104] : List Int), numT h.2.2.2.2.2.2.2.1, ([103, 114, 101, 101, 110] : List Int), numT h.2.2.2.2.2.2.2.2.1] ([59] : List Int) = headT h := by (simp only [lineT, ind, joinI, headT, headP, pedT, pedP, phaseT, phaseP, foeT, foeP, stopT, stopP, weightsT, cycleT, listT, List.flatten_cons, List.flatten_nil, List.append_nil, List.append_assoc, List.cons_append, List.nil_append])
  have L := line1_some k ([59] : List Int) [([104, 101, 97, 100] : List Int), h.1, ([118, 111, 108, 117, 109, 101] : List Int), numT h.2.1, ([102, 108, 111, 119] : List Int), numT h.2.2.1, ([117, 115, 101] : List Int), fracT h.2.2.2.1.1 h.2.2.2.1.2.1, ([115, 112, 101, 101, 100] : List Int), numT h.2.2.2.2.1, ([103, 114, 97, 100, 101] : List Int), numT h.2.2.2.2.2.1, ([119, 105, 100, 116, 104] : List Int), numT h.2.2.2.2.2.2.1, ([108, 101, 110, 103, 116, 104] : List Int), numT h.2.2.2.2.2.2.2.1, ([103, 114, 101, 101, 110] : List Int), numT h.2.2.2.2.2.2.2.2.1] b 1 buf (by omega)
    (by
      have hn := (name_spec q0).1
      intro w hw
      simp only [List.mem_cons, List.not_mem_nil, or_false] at hw
      rcases hw with rfl | rfl | rfl | rfl | rfl | rfl | rfl | rfl | rfl | rfl | rfl | rfl | rfl | rfl | rfl | rfl | rfl | rfl
      all_goals first | exact hn | exact numT_by _ | exact fracT_by _ _ | exact by_lit (by decide))
    (by simp) (by rw [e]; exact hl)
  rw [e] at L
  show ((cshowp_line'1 k) (_, _, b, ((1 : Nat) : Int), buf)).bind _ = _
  unfold fracT at L
  rw [L]
  rfl
theorem pgroup_some (hk : 1000 ≤ k) (g : List YT4 × Unit) (buf : List Int) (hb : groupB g = true) (hl : buf.length + (g.1.flatMap ringT).length ≤ 1000000) :
    cshowp_group k (g.1, false, 2, buf) = some (false, 2, buf ++ g.1.flatMap ringT) := by
  unfold groupB at hb
  simp only [Bool.and_eq_true, Bool.not_eq_true', decide_eq_false_iff_not, List.all_eq_true] at hb
  rw [fshowp_group_e, fshowp_group_t]
  refine app_loop0 1000000 g.1 ringT (fun j i b => (fshowp_group k).L 2 [] j (fshowp_group_s2 (g.1, ((g.1.length : Nat) : Int), i, false, 2, b))) (fun b => some (false, 2, b))
    (fun j i r b hr hh => ?_) (fun j b hh => by rw [fshowp_group_el2, fshowp_group_tl2, lt_end]) k buf (by omega) hl
  have hrow := row_names (hb.2.2 r (at_mem hr))
  have hlst := listT_len (hb.2.2 r (at_mem hr))
  have hby : ∀ w ∈ r.2.1, byB w := fun w hw => (name_spec (hrow.2 w hw)).1
  have hlb : byB (listT r.2.1) := joinI_by _ (by_lit (by decide)) _ hby
  have hls : cshowlist'1 k r.2.1 = some (listT r.2.1) := list_some k r.2.1 hby (by unfold listT at hlst; omega) (by omega)
  rw [fshowp_group_el2, fshowp_group_tl2, lt_at hr, idx_at hr]
  have fin : ∀ ws : List (List Int), ws.length ≤ 10 → (∀ w ∈ ws, byB w) → lineT 2 (ws ++ [listT r.2.1]) ([59] : List Int) = ringT r →
      (fshowp_group k).J 7 [j] (fshowp_group_s7 (g.1, ((g.1.length : Nat) : Int), (i : Int), false, 2, r.1, r.2.1, ws, b)) = (fshowp_group k).L 2 [] j (fshowp_group_s2 (g.1, ((g.1.length : Nat) : Int), ((i + 1 : Nat) : Int), false, 2, b ++ ringT r)) := by
    intro ws hw1 hw2 he
    rw [fshowp_group_ej7, fshowp_group_tj7, hls, Option.bind_some, app_ok (by simp; omega) (by simp; omega)]
    have L := line1_some k ([59] : List Int) (ws ++ [listT r.2.1]) false 2 b (by omega) (by
        intro w hw
        rcases List.mem_append.1 hw with h | h
        · exact hw2 w h
        · rw [List.mem_singleton.1 h]; exact hlb) (by simp; omega) (by rw [he]; omega)
    rw [he] at L
    rw [show (2 : Int) = ((2 : Nat) : Int) from rfl, L, Option.bind_some, suc_at hr (by omega)]
  cases hf : r.1
  · rw [hf] at fin
    rw [cond_false]
    refine fin [([114, 105, 110, 103] : List Int)] (by simp) (by intro w hw; rw [List.mem_singleton.1 hw]; exact by_lit (by decide)) ?_
    unfold ringT
    rw [hf]
    simp only [cond_false]
    (simp only [lineT, ind, joinI, headT, headP, pedT, pedP, phaseT, phaseP, foeT, foeP, stopT, stopP, weightsT, cycleT, listT, List.flatten_cons, List.flatten_nil, List.append_nil, List.append_assoc, List.cons_append, List.nil_append])
  · rw [hf] at fin
    rw [cond_true, app_ok (by simp) (by simp)]
    refine fin [([114, 105, 110, 103] : List Int), ([102, 114, 101, 101] : List Int)] (by simp) (by
      intro w hw
      simp only [List.mem_cons, List.not_mem_nil, or_false] at hw
      rcases hw with rfl | rfl <;> exact by_lit (by decide)) ?_
    unfold ringT
    rw [hf]
    simp only [cond_true]
    (simp only [lineT, ind, joinI, headT, headP, pedT, pedP, phaseT, phaseP, foeT, foeP, stopT, stopP, weightsT, cycleT, listT, List.flatten_cons, List.flatten_nil, List.append_nil, List.append_assoc, List.cons_append, List.nil_append])
theorem pblock1_some (hk : 1000 ≤ k) (g : List YT4 × Unit) (buf : List Int) (hb : groupB g = true) (hl : buf.length + (groupT g).length ≤ 1000000) :
    cshowp_block'1 k ([([103, 114, 111, 117, 112] : List Int)], false, 1, g.1, buf) = some (false, 1, g.1, buf ++ groupT g) := by
  have e1 : lineT 1 [([103, 114, 111, 117, 112] : List Int)] ([32, 123] : List Int) = ([32, 32, 103, 114, 111, 117, 112, 32, 123, 10] : List Int) := rfl
  have e2 : lineT 1 [] ([125] : List Int) = ([32, 32, 125, 10] : List Int) := rfl
  unfold groupT at hl ⊢
  rw [List.length_append, List.length_append] at hl
  have L1 := line1_some k ([32, 123] : List Int) [([103, 114, 111, 117, 112] : List Int)] false 1 buf (by omega) (by intro w hw; rw [List.mem_singleton.1 hw]; exact by_lit (by decide)) (by simp) (by rw [e1]; omega)
  rw [e1] at L1
  have LG := pgroup_some k hk g (buf ++ ([32, 32, 103, 114, 111, 117, 112, 32, 123, 10] : List Int)) hb (by rw [List.length_append]; omega)
  have L2 := line1_some k ([125] : List Int) [] false 1 (buf ++ ([32, 32, 103, 114, 111, 117, 112, 32, 123, 10] : List Int) ++ g.1.flatMap ringT) (by omega) (by simp) (by simp) (by rw [e2, List.length_append, List.length_append]; omega)
  rw [e2] at L2
  rw [fshowp_block'1_e, fshowp_block'1_t]
  show (cshowp_line'1 k (_, _, _, ((1 : Nat) : Int), _)).bind _ = _
  rw [L1, Option.bind_some, fshowp_node_1_e, fshowp_node_1_t]
  show ((cshowp_group k (g.1, false, 2, buf ++ ([32, 32, 103, 114, 111, 117, 112, 32, 123, 10] : List Int))).bind _).bind _ = _
  rw [LG, Option.bind_some, Option.bind_some]
  show (cshowp_line'1 k (_, _, _, ((1 : Nat) : Int), _)).bind _ = _
  rw [L2, Option.bind_some]
  simp only [List.append_assoc]
  rfl
end
end Go.Proofs.YtipcabmhdokfjaaGreatDoorV

/-! show: the printer's text of a node, of a network. -/
set_option linter.unusedVariables false
set_option linter.unusedSimpArgs false
namespace Go.Proofs.YtipcabmhdokfjaaGreatDoorV
open Go Go.RowKit

theorem cycle_ne (a b c d e : Int) (r : List Int) : cycleT a b c d e ++ r ≠ [] := by
  unfold cycleT
  rw [List.flatten_cons]
  simp
section
variable (k : Nat) (hk : 1000 ≤ k)
include hk
theorem pnode_some (n : YT6) (buf : List Int) (hb : nodeB n = true) (hl : buf.length + (partsT n).length ≤ 1000000) :
    cshowp_node k (n.1, n.2.1, n.2.2.1, n.2.2.2.1, n.2.2.2.2.1, n.2.2.2.2.2.1, n.2.2.2.2.2.2.1, false, 1, buf) = some (false, 1, buf ++ partsT n) := by
  obtain ⟨a0, a1, a2, a3, a4, a5, a6, a7⟩ := n
  unfold nodeB at hb
  simp only [Bool.and_eq_true, List.all_eq_true] at hb
  obtain ⟨h0, h1, h2, h3, h4, h5, p1, p2, p3, p4, p5⟩ := hb
  have h1 : ((a1.length : Nat) : Int) ≤ 16 := le_of h1
  have h2 : ((a2.length : Nat) : Int) ≤ 8 := le_of h2
  have h3 : ((a3.length : Nat) : Int) ≤ 16 := le_of h3
  have h4 : ((a4.length : Nat) : Int) ≤ 4 := le_of h4
  have h5 : ((a5.length : Nat) : Int) ≤ 64 := le_of h5
  have L5 := app_loop0 1000000 a5 foeT (fun j i b => (fshowp_node k).L 22 [] j (fshowp_node_s22 (a5, ((a5.length : Nat) : Int), i, false, 1, b))) (fun b => some (false, 1, b))
    (fun j i x b hx hb => by
      have hp := p5 x (at_mem hx)
      unfold foeB at hp
      simp only [Bool.and_eq_true] at hp
      have e : lineT 1 [([102, 111, 101] : List Int), x.1, x.2.1] ([59] : List Int) = foeT x := by (simp only [lineT, ind, joinI, headT, headP, pedT, pedP, phaseT, phaseP, foeT, foeP, stopT, stopP, weightsT, cycleT, listT, List.flatten_cons, List.flatten_nil, List.append_nil, List.append_assoc, List.cons_append, List.nil_append])
      have L := line1_some k ([59] : List Int) [([102, 111, 101] : List Int), x.1, x.2.1] false 1 b (by omega) (by
        intro w hw
        simp only [List.mem_cons, List.not_mem_nil, or_false] at hw
        rcases hw with rfl | rfl | rfl
        · exact by_lit (by decide)
        · exact (name_spec hp.1).1
        · exact (name_spec hp.2.1).1) (by simp) (by rw [e]; exact hb)
      rw [e] at L
      rw [fshowp_node_el22, fshowp_node_tl22, lt_at hx, idx_at hx]
      show (cshowp_line'1 k (_, _, _, ((1 : Nat) : Int), _)).bind _ = _
      rw [L, Option.bind_some, suc_at hx (by omega)]
      rfl)
    (fun j b hb => by rw [fshowp_node_el22, fshowp_node_tl22, lt_end]) k
  have L4 := app_loop0 1000000 a4 groupT (fun j i b => (fshowp_node k).L 17 [] j (fshowp_node_s17 (a4, ((a4.length : Nat) : Int), i, false, 1, a0, a1, a2, a3, a4, a5, a6, b))) (fun b => (fshowp_node k).L 22 [] k (fshowp_node_s22 (a5, ((a5.length : Nat) : Int), 0, false, 1, b)))
    (fun j i x b hx hb => by
      rw [fshowp_node_el17, fshowp_node_tl17, lt_at hx, idx_at hx, pblock1_some k hk x b (p4 x (at_mem hx)) hb, Option.bind_some, suc_at hx (by omega)])
    (fun j b hb => by rw [fshowp_node_el17, fshowp_node_tl17, lt_end]) k
  have L3 := app_loop0 1000000 a3 phaseT (fun j i b => (fshowp_node k).L 12 [] j (fshowp_node_s12 (a3, ((a3.length : Nat) : Int), i, false, 1, a0, a1, a2, a3, a4, a5, a6, b))) (fun b => (fshowp_node k).L 17 [] k (fshowp_node_s17 (a4, ((a4.length : Nat) : Int), 0, false, 1, a0, a1, a2, a3, a4, a5, a6, b)))
    (fun j i x b hx hb => by
      have hp := p3 x (at_mem hx)
      unfold phaseB at hp
      simp only [Bool.and_eq_true] at hp
      have hrow := row_names hp.2.1
      have hlst := listT_len hp.2.1
      have hby : ∀ w ∈ x.2.1, byB w := fun w hw => (name_spec (hrow.2 w hw)).1
      have hlb : byB (listT x.2.1) := joinI_by _ (by_lit (by decide)) _ hby
      have hls : cshowlist'1 k x.2.1 = some (listT x.2.1) := list_some k x.2.1 hby (by unfold listT at hlst; omega) (by omega)
      have hnm := name_spec hp.1
      have e : lineT 1 [([112, 104, 97, 115, 101] : List Int), x.1 ++ ([58] : List Int), listT x.2.1] ([59] : List Int) = phaseT x := by
        generalize hg : listT x.2.1 = g
        simp only [phaseT, phaseP, hg]
        (simp only [lineT, ind, joinI, headT, headP, pedT, pedP, phaseT, phaseP, foeT, foeP, stopT, stopP, weightsT, cycleT, listT, List.flatten_cons, List.flatten_nil, List.append_nil, List.append_assoc, List.cons_append, List.nil_append])
      have L := line1_some k ([59] : List Int) [([112, 104, 97, 115, 101] : List Int), x.1 ++ ([58] : List Int), listT x.2.1] false 1 b (by omega) (by
        intro w hw
        simp only [List.mem_cons, List.not_mem_nil, or_false] at hw
        rcases hw with rfl | rfl | rfl
        · exact by_lit (by decide)
        · exact by_app hnm.1 (by_lit (by decide))
        · exact hlb) (by simp) (by rw [e]; exact hb)
      rw [e] at L
      rw [fshowp_node_el12, fshowp_node_tl12, lt_at hx, idx_at hx, cat_ok (by have := hnm.2.1; simp; omega), hls, Option.bind_some]
      show (cshowp_line'1 k (_, _, _, ((1 : Nat) : Int), _)).bind _ = _
      rw [L, Option.bind_some, suc_at hx (by omega)]
      rfl)
    (fun j b hb => by rw [fshowp_node_el12, fshowp_node_tl12, lt_end]) k
  have L2 := app_loop0 1000000 a2 pedT (fun j i b => (fshowp_node k).L 7 [] j (fshowp_node_s7 (a2, ((a2.length : Nat) : Int), i, false, 1, a0, a1, a2, a3, a4, a5, a6, b))) (fun b => (fshowp_node k).L 12 [] k (fshowp_node_s12 (a3, ((a3.length : Nat) : Int), 0, false, 1, a0, a1, a2, a3, a4, a5, a6, b)))
    (fun j i x b hx hb => by
      obtain ⟨n1, n2, q1, q2, q3⟩ := ped_spec (p2 x (at_mem hx))
      have e : lineT 1 [([119, 97, 108, 107] : List Int), x.1, ([119, 105, 116, 104] : List Int), x.2.1, ([108, 111, 110, 103] : List Int), numT x.2.2.1, ([112, 97, 99, 101] : List Int), numT x.2.2.2.1, ([108, 101, 97, 115, 116] : List Int), numT x.2.2.2.2.1] ([59] : List Int) = pedT x := by (simp only [lineT, ind, joinI, headT, headP, pedT, pedP, phaseT, phaseP, foeT, foeP, stopT, stopP, weightsT, cycleT, listT, List.flatten_cons, List.flatten_nil, List.append_nil, List.append_assoc, List.cons_append, List.nil_append])
      have L := line1_some k ([59] : List Int) [([119, 97, 108, 107] : List Int), x.1, ([119, 105, 116, 104] : List Int), x.2.1, ([108, 111, 110, 103] : List Int), numT x.2.2.1, ([112, 97, 99, 101] : List Int), numT x.2.2.2.1, ([108, 101, 97, 115, 116] : List Int), numT x.2.2.2.2.1] false 1 b (by omega) (by
        intro w hw
        simp only [List.mem_cons, List.not_mem_nil, or_false] at hw
        rcases hw with rfl | rfl | rfl | rfl | rfl | rfl | rfl | rfl | rfl | rfl
        all_goals first | exact (name_spec n1).1 | exact (name_spec n2).1 | exact numT_by _ | exact by_lit (by decide)) (by simp) (by rw [e]; exact hb)
      rw [e] at L
      rw [fshowp_node_el7, fshowp_node_tl7, lt_at hx, idx_at hx, num_some k q1, Option.bind_some, num_some k q2, Option.bind_some, num_some k q3, Option.bind_some]
      show (cshowp_line'1 k (_, _, _, ((1 : Nat) : Int), _)).bind _ = _
      rw [L, Option.bind_some, suc_at hx (by omega)]
      rfl)
    (fun j b hb => by rw [fshowp_node_el7, fshowp_node_tl7, lt_end]) k
  have L1 := app_loop0 1000000 a1 headT (fun j i b => (fshowp_node k).L 2 [] j (fshowp_node_s2 (a1, ((a1.length : Nat) : Int), i, false, 1, a0, a1, a2, a3, a4, a5, a6, b))) (fun b => (fshowp_node k).L 7 [] k (fshowp_node_s7 (a2, ((a2.length : Nat) : Int), 0, false, 1, a0, a1, a2, a3, a4, a5, a6, b)))
    (fun j i x b hx hb => by
      rw [fshowp_node_el2, fshowp_node_tl2, lt_at hx, idx_at hx, phead_some k x b false (p1 x (at_mem hx)) hb, Option.bind_some, suc_at hx (by omega)])
    (fun j b hb => by rw [fshowp_node_el2, fshowp_node_tl2, lt_end]) k
  simp only [partsT, List.length_append, ← Nat.add_assoc] at hl
  rw [fshowp_node_e, fshowp_node_t, L1 _ (by omega) (by omega), L2 _ (by omega) (by (simp only [List.flatten_cons, List.flatten_nil, List.append_nil, List.length_append, List.length_cons, List.length_nil, Nat.reduceAdd, ← Nat.add_assoc]; omega)), L3 _ (by omega) (by (simp only [List.flatten_cons, List.flatten_nil, List.append_nil, List.length_append, List.length_cons, List.length_nil, Nat.reduceAdd, ← Nat.add_assoc]; omega)), L4 _ (by omega) (by (simp only [List.flatten_cons, List.flatten_nil, List.append_nil, List.length_append, List.length_cons, List.length_nil, Nat.reduceAdd, ← Nat.add_assoc]; omega)), L5 _ (by omega) (by (simp only [List.flatten_cons, List.flatten_nil, List.append_nil, List.length_append, List.length_cons, List.length_nil, Nat.reduceAdd, ← Nat.add_assoc]; omega))]
  simp only [partsT, List.append_assoc]
theorem pblock_some (n : YT6) (buf : List Int) (hb : nodeB n = true) (hl : buf.length + (nodeT n).length ≤ 1000000) :
    cshowp_block k ([([110, 111, 100, 101] : List Int), n.1], false, 0, n.1, n.2.1, n.2.2.1, n.2.2.2.1, n.2.2.2.2.1, n.2.2.2.2.2.1, n.2.2.2.2.2.2.1, buf) =
      some (false, 0, n.1, n.2.1, n.2.2.1, n.2.2.2.1, n.2.2.2.2.1, n.2.2.2.2.2.1, n.2.2.2.2.2.2.1, buf ++ nodeT n) := by
  have hnm : nameB n.1 = true := by
    unfold nodeB at hb
    simp only [Bool.and_eq_true] at hb
    exact hb.1
  have e1 : lineT 0 [([110, 111, 100, 101] : List Int), n.1] ([32, 123] : List Int) = ([110, 111, 100, 101, 32] : List Int) ++ (n.1 ++ ([32, 123, 10] : List Int)) := by (simp only [lineT, ind, joinI, headT, headP, pedT, pedP, phaseT, phaseP, foeT, foeP, stopT, stopP, weightsT, cycleT, listT, List.flatten_cons, List.flatten_nil, List.append_nil, List.append_assoc, List.cons_append, List.nil_append])
  have e2 : lineT 0 [] ([125] : List Int) = ([125, 10] : List Int) := rfl
  unfold nodeT at hl ⊢
  simp only [List.length_append, ← Nat.add_assoc] at hl
  have L1 := line1_some k ([32, 123] : List Int) [([110, 111, 100, 101] : List Int), n.1] false 0 buf (by omega) (by
    intro w hw
    simp only [List.mem_cons, List.not_mem_nil, or_false] at hw
    rcases hw with rfl | rfl
    · exact by_lit (by decide)
    · exact (name_spec hnm).1) (by simp) (by rw [e1]; simp only [List.length_append, ← Nat.add_assoc]; omega)
  rw [e1] at L1
  have LG := pnode_some k hk n (buf ++ (([110, 111, 100, 101, 32] : List Int) ++ (n.1 ++ ([32, 123, 10] : List Int)))) hb (by simp only [List.length_append, ← Nat.add_assoc]; omega)
  have L2 := line1_some k ([125] : List Int) [] false 0 (buf ++ (([110, 111, 100, 101, 32] : List Int) ++ (n.1 ++ ([32, 123, 10] : List Int))) ++ partsT n) (by omega) (by simp) (by simp) (by rw [e2]; simp only [List.length_append, ← Nat.add_assoc]; omega)
  rw [e2] at L2
  rw [fshowp_block_e, fshowp_block_t]
  show (cshowp_line'1 k (_, _, _, ((0 : Nat) : Int), _)).bind _ = _
  rw [L1, Option.bind_some, fshowShow_1_e, fshowShow_1_t]
  show ((cshowp_node k (n.1, n.2.1, n.2.2.1, n.2.2.2.1, n.2.2.2.2.1, n.2.2.2.2.2.1, n.2.2.2.2.2.2.1, false, 1, buf ++ (([110, 111, 100, 101, 32] : List Int) ++ (n.1 ++ ([32, 123, 10] : List Int))))).bind _).bind _ = _
  rw [LG, Option.bind_some, Option.bind_some]
  show (cshowp_line'1 k (_, _, _, ((0 : Nat) : Int), _)).bind _ = _
  rw [L2, Option.bind_some]
  simp only [List.append_assoc]
  rfl
theorem partery_some (n : NetT) (buf : List Int) (hb : netB n = true) (hl : buf.length + (n.2.2.2.2.2.2.1.flatMap stopT).length + (weightsT n.2.2.2.2.2.2.2.1 n.2.2.2.2.2.2.2.2).length ≤ 900000) :
    cshowp_artery k (n.1, n.2.1, n.2.2.1, n.2.2.2.1, n.2.2.2.2.1, n.2.2.2.2.2.1, n.2.2.2.2.2.2.1, n.2.2.2.2.2.2.2.1, n.2.2.2.2.2.2.2.2, false, 1, buf) =
      some (false, 1, buf ++ (n.2.2.2.2.2.2.1.flatMap stopT ++ weightsT n.2.2.2.2.2.2.2.1 n.2.2.2.2.2.2.2.2)) := by
  obtain ⟨a0, a1, a2, a3, a4, a5, a6, a7, a8⟩ := n
  unfold netB at hb
  simp only [Bool.and_eq_true, List.all_eq_true] at hb
  obtain ⟨q0, q1, q2, ⟨q3, q4⟩, q7, q8, h1, h2, p1, p2⟩ := hb
  have h2 : ((a6.length : Nat) : Int) ≤ 12 := le_of h2
  simp only at hl ⊢
  have w1 := numT_len a7
  have w2 := numT_len a8
  have e2 : lineT 1 [([119, 101, 105, 103, 104, 116, 115] : List Int), numT a7, numT a8] ([59] : List Int) = weightsT a7 a8 := by (simp only [lineT, ind, joinI, headT, headP, pedT, pedP, phaseT, phaseP, foeT, foeP, stopT, stopP, weightsT, cycleT, listT, List.flatten_cons, List.flatten_nil, List.append_nil, List.append_assoc, List.cons_append, List.nil_append])
  have hw : (weightsT a7 a8).length ≤ 100 := by unfold weightsT; (simp only [List.flatten_cons, List.flatten_nil, List.append_nil, List.length_append, List.length_cons, List.length_nil, Nat.reduceAdd, ← Nat.add_assoc]; omega)
  rw [fshowp_artery_e, fshowp_artery_t]
  refine (app_loop0 900000 a6 stopT (fun j i b => (fshowp_artery k).L 2 [] j (fshowp_artery_s2 (a6, ((a6.length : Nat) : Int), i, false, 1, a0, a1, a2, a3, a4, a5, a6, a7, a8, b))) (fun b => some (false, 1, b ++ weightsT a7 a8))
    (fun j i x b hx hb => ?_) (fun j b hb => ?_) k buf (by omega) ?_).trans (by rw [List.append_assoc])
  · obtain ⟨n1, n2, n3, q1, q2⟩ := stop_spec (p2 x (at_mem hx))
    have e : lineT 1 [([115, 116, 111, 112] : List Int), x.1, ([111, 117, 116] : List Int), x.2.1, ([105, 110] : List Int), x.2.2.1, ([97, 104, 101, 97, 100] : List Int), numT x.2.2.2.1, ([98, 97, 99, 107] : List Int), numT x.2.2.2.2.1] ([59] : List Int) = stopT x := by (simp only [lineT, ind, joinI, headT, headP, pedT, pedP, phaseT, phaseP, foeT, foeP, stopT, stopP, weightsT, cycleT, listT, List.flatten_cons, List.flatten_nil, List.append_nil, List.append_assoc, List.cons_append, List.nil_append])
    have L := line1_some k ([59] : List Int) [([115, 116, 111, 112] : List Int), x.1, ([111, 117, 116] : List Int), x.2.1, ([105, 110] : List Int), x.2.2.1, ([97, 104, 101, 97, 100] : List Int), numT x.2.2.2.1, ([98, 97, 99, 107] : List Int), numT x.2.2.2.2.1] false 1 b (by omega) (by
      intro w hw
      simp only [List.mem_cons, List.not_mem_nil, or_false] at hw
      rcases hw with rfl | rfl | rfl | rfl | rfl | rfl | rfl | rfl | rfl | rfl
      all_goals first | exact (name_spec n1).1 | exact (name_spec n2).1 | exact (name_spec n3).1 | exact numT_by _ | exact by_lit (by decide)) (by simp) (by rw [e]; omega)
    rw [e] at L
    rw [fshowp_artery_el2, fshowp_artery_tl2, lt_at hx, idx_at hx, num_some k q1, Option.bind_some, num_some k q2, Option.bind_some]
    show (cshowp_line'1 k (_, _, _, ((1 : Nat) : Int), _)).bind _ = _
    rw [L, Option.bind_some, suc_at hx (by omega)]
    rfl
  · have L := line1_some k ([59] : List Int) [([119, 101, 105, 103, 104, 116, 115] : List Int), numT a7, numT a8] false 1 b (by omega) (by
      intro w hw
      simp only [List.mem_cons, List.not_mem_nil, or_false] at hw
      rcases hw with rfl | rfl | rfl
      all_goals first | exact numT_by _ | exact by_lit (by decide)) (by simp) (by rw [e2]; omega)
    rw [e2] at L
    rw [fshowp_artery_el2, fshowp_artery_tl2, lt_end, num_some k (num_inM q7), Option.bind_some, num_some k (num_inM q8), Option.bind_some]
    show (cshowp_line'1 k (_, _, _, ((1 : Nat) : Int), _)).bind _ = _
    rw [L, Option.bind_some]
    rfl
  · omega
theorem pblock2_some (n : NetT) (buf : List Int) (hb : netB n = true) (hl : buf.length + (([97, 114, 116, 101, 114, 121, 32, 123, 10] : List Int) ++ (n.2.2.2.2.2.2.1.flatMap stopT ++ (weightsT n.2.2.2.2.2.2.2.1 n.2.2.2.2.2.2.2.2 ++ ([125, 10] : List Int)))).length ≤ 900000) :
    cshowp_block'2 k ([([97, 114, 116, 101, 114, 121] : List Int)], false, 0, n.1, n.2.1, n.2.2.1, n.2.2.2.1, n.2.2.2.2.1, n.2.2.2.2.2.1, n.2.2.2.2.2.2.1, n.2.2.2.2.2.2.2.1, n.2.2.2.2.2.2.2.2, buf) =
      some (false, 0, n.1, n.2.1, n.2.2.1, n.2.2.2.1, n.2.2.2.2.1, n.2.2.2.2.2.1, n.2.2.2.2.2.2.1, n.2.2.2.2.2.2.2.1, n.2.2.2.2.2.2.2.2, buf ++ (([97, 114, 116, 101, 114, 121, 32, 123, 10] : List Int) ++ (n.2.2.2.2.2.2.1.flatMap stopT ++ (weightsT n.2.2.2.2.2.2.2.1 n.2.2.2.2.2.2.2.2 ++ ([125, 10] : List Int))))) := by
  have e1 : lineT 0 [([97, 114, 116, 101, 114, 121] : List Int)] ([32, 123] : List Int) = ([97, 114, 116, 101, 114, 121, 32, 123, 10] : List Int) := rfl
  have e2 : lineT 0 [] ([125] : List Int) = ([125, 10] : List Int) := rfl
  simp only [List.length_append, ← Nat.add_assoc] at hl
  have L1 := line1_some k ([32, 123] : List Int) [([97, 114, 116, 101, 114, 121] : List Int)] false 0 buf (by omega) (by intro w hw; rw [List.mem_singleton.1 hw]; exact by_lit (by decide)) (by simp) (by rw [e1]; omega)
  rw [e1] at L1
  have LG := partery_some k hk n (buf ++ ([97, 114, 116, 101, 114, 121, 32, 123, 10] : List Int)) hb (by simp only [List.length_append, ← Nat.add_assoc]; omega)
  have L2 := line1_some k ([125] : List Int) [] false 0 (buf ++ ([97, 114, 116, 101, 114, 121, 32, 123, 10] : List Int) ++ (n.2.2.2.2.2.2.1.flatMap stopT ++ weightsT n.2.2.2.2.2.2.2.1 n.2.2.2.2.2.2.2.2)) (by omega) (by simp) (by simp) (by rw [e2]; simp only [List.length_append, ← Nat.add_assoc]; omega)
  rw [e2] at L2
  rw [fshowp_block'2_e, fshowp_block'2_t]
  show (cshowp_line'1 k (_, _, _, ((0 : Nat) : Int), _)).bind _ = _
  rw [L1, Option.bind_some, fshowShow_2_e, fshowShow_2_t]
  show ((cshowp_artery k (n.1, n.2.1, n.2.2.1, n.2.2.2.1, n.2.2.2.2.1, n.2.2.2.2.2.1, n.2.2.2.2.2.2.1, n.2.2.2.2.2.2.2.1, n.2.2.2.2.2.2.2.2, false, 1, buf ++ ([97, 114, 116, 101, 114, 121, 32, 123, 10] : List Int))).bind _).bind _ = _
  rw [LG, Option.bind_some, Option.bind_some]
  show (cshowp_line'1 k (_, _, _, ((0 : Nat) : Int), _)).bind _ = _
  rw [L2, Option.bind_some]
  simp only [List.append_assoc]
  rfl
theorem show_some (n : NetT) (hs : NetS n) (hb : netB n = true) : cshowShow k n = some (netT n, 0) := by
  have hT := netT_len hb
  have hr := right_net k hk n hs
  rw [hb] at hr
  have hb0 := hb
  have B2 := fun buf => pblock2_some k hk n buf hb
  obtain ⟨a0, a1, a2, a3, a4, a5, a6, a7, a8⟩ := n
  unfold netB at hb
  simp only [Bool.and_eq_true, List.all_eq_true] at hb
  obtain ⟨q0, q1, q2, ⟨q3, q4⟩, q7, q8, h1, h2, p1, p2⟩ := hb
  have h1 : ((a5.length : Nat) : Int) ≤ 12 := le_of h1
  simp only at B2
  have J13 : ∀ buf : List Int, buf ≠ [] → (fshowShow k).J 13 [] (fshowShow_s13 (false, 0, buf)) = some (buf, 0) := by
    intro buf hne
    rw [fshowShow_ej13, fshowShow_tj13]
    unfold cstringsB_String strC
    simp only
    rw [if_neg hne]
    rfl
  have L1 := app_loop0 800000 a5 nodeT (fun j i b => (fshowShow k).L 7 [] j (fshowShow_s7 (a5, ((a5.length : Nat) : Int), i, a0, a1, a2, a3, a4, a5, a6, a7, a8, false, 0, b)))
    (fun b => bif artB (a0, a1, a2, a3, a4, a5, a6, a7, a8) then ((cshowp_block'2 k) ([([97, 114, 116, 101, 114, 121] : List Int)], false, 0, a0, a1, a2, a3, a4, a5, a6, a7, a8, b)).bind fun o3 => (fshowShow k).J 13 [] (fshowShow_s13 (o3.1, o3.2.1, o3.2.2.2.2.2.2.2.2.2.2.2)) else (fshowShow k).J 13 [] (fshowShow_s13 (false, 0, b)))
    (fun j i x b hx hb => by
      rw [fshowShow_el7, fshowShow_tl7, lt_at hx, idx_at hx, pblock_some k hk x b (p1 x (at_mem hx)) (by omega), Option.bind_some, suc_at hx (by omega)])
    (fun j b hb => by
      rw [fshowShow_el7, fshowShow_tl7, lt_end, ← cor, ← cor]
      rfl) k
  have e1 : lineT 0 [([99, 121, 99, 108, 101] : List Int), numT a0, ([116, 111] : List Int), numT a1, ([98, 121] : List Int), numT a2] ([59] : List Int) ++ lineT 0 [([112, 101, 97, 107] : List Int), fracT a3 a4] ([59] : List Int) = cycleT a0 a1 a2 a3 a4 := by
    generalize hg : fracT a3 a4 = g
    simp only [cycleT, hg]
    (simp only [lineT, ind, joinI, headT, headP, pedT, pedP, phaseT, phaseP, foeT, foeP, stopT, stopP, weightsT, cycleT, listT, List.flatten_cons, List.flatten_nil, List.append_nil, List.append_assoc, List.cons_append, List.nil_append])
  unfold netT artT at hT ⊢
  simp only at hT ⊢
  rw [List.length_append, ← e1, List.length_append] at hT
  have F1 := line_some k ([59] : List Int) [([99, 121, 99, 108, 101] : List Int), numT a0, ([116, 111] : List Int), numT a1, ([98, 121] : List Int), numT a2] 0 (by omega) (by
    intro w hw
    simp only [List.mem_cons, List.not_mem_nil, or_false] at hw
    rcases hw with rfl | rfl | rfl | rfl | rfl | rfl
    all_goals first | exact numT_by _ | exact by_lit (by decide)) (by simp) (by omega)
  have F2 := line1_some k ([59] : List Int) [([112, 101, 97, 107] : List Int), fracT a3 a4] false 0 (lineT 0 [([99, 121, 99, 108, 101] : List Int), numT a0, ([116, 111] : List Int), numT a1, ([98, 121] : List Int), numT a2] ([59] : List Int)) (by omega) (by
    intro w hw
    simp only [List.mem_cons, List.not_mem_nil, or_false] at hw
    rcases hw with rfl | rfl
    · exact by_lit (by decide)
    · exact fracT_by _ _) (by simp) (by omega)
  rw [e1] at F2
  have hcy : (cycleT a0 a1 a2 a3 a4).length = (lineT 0 [([99, 121, 99, 108, 101] : List Int), numT a0, ([116, 111] : List Int), numT a1, ([98, 121] : List Int), numT a2] ([59] : List Int)).length + (lineT 0 [([112, 101, 97, 107] : List Int), fracT a3 a4] ([59] : List Int)).length := by rw [← e1, List.length_append]
  rw [← hcy] at hT
  simp only [fshowShow_e, fshowShow_t, hr, num_some k (num_inM q0), num_some k (num_inM q1), num_some k (num_inM q2), Option.bind_some, Bool.not_true, cond_false]
  have fr := frac_some k (num_inM q3) (num_inM q4)
  show ((cshowp_line k) (_, _, _, ((0 : Nat) : Int))).bind _ = _
  rw [F1, Option.bind_some, fr, Option.bind_some]
  show ((cshowp_line'1 k) (_, [_, fracT a3 a4], _, ((0 : Nat) : Int), _)).bind _ = _
  rw [F2, Option.bind_some]
  rw [List.length_append] at hT
  show (fshowShow k).L 7 [] k (fshowShow_s7 (a5, ((a5.length : Nat) : Int), 0, a0, a1, a2, a3, a4, a5, a6, a7, a8, false, 0, cycleT a0 a1 a2 a3 a4)) = _
  rw [L1 _ (by omega) (by omega)]
  cases hA : artB (a0, a1, a2, a3, a4, a5, a6, a7, a8)
  · rw [cond_false, cond_false, J13 _ (cycle_ne _ _ _ _ _ _), List.append_nil]
  · rw [hA, cond_true] at hT
    rw [cond_true, cond_true, B2 _ (by rw [List.length_append]; omega), Option.bind_some]
    show (fshowShow k).J 13 [] (fshowShow_s13 (false, 0, _)) = _
    rw [List.append_assoc, J13 _ (cycle_ne _ _ _ _ _ _)]
end
end Go.Proofs.YtipcabmhdokfjaaGreatDoorV

/-! net: the plain reader of a network. -/
set_option linter.unusedVariables false
set_option linter.unusedSimpArgs false
namespace Go.Proofs.YtipcabmhdokfjaaGreatDoorV
open Go Go.RowKit

/-- A reader: tokens left, error, place. -/
abbrev RS := List Tk × Int × Int
def hd (l : List Tk) : Tk := l.headD tkD
def seesR (s : List Int) (x : RS) : Bool := x.2.1 == 0 && ((hd x.1).1 != 2 && ((hd x.1).1 != 0 && (hd x.1).2.1 == s))
def failR (c : Int) (x : RS) : RS := bif x.2.1 == 0 then (x.1, c, (hd x.1).2.2.2.1) else x
def nextR (x : RS) : RS := bif x.2.1 == 0 && (hd x.1).1 != 0 then (x.1.tail, x.2.1, x.2.2) else x
def wantR (s : List Int) (x : RS) : RS := nextR (bif seesR s x then x else failR 50 x)
def nameR (x : RS) : List Int × RS := bif (hd x.1).1 == 1 && !(resB (hd x.1).2.1) then ((hd x.1).2.1, nextR x) else ([], failR 50 x)
def numC (x : RS) : Int × RS := bif (hd x.1).1 == 2 then ((hd x.1).2.2.1, nextR x) else (0, failR 50 x)
def numR (w : List Int) (x : RS) : Int × RS := numC (bif w == [] then x else wantR w x)
def fracR (w : List Int) (x : RS) : (Int × Int) × RS := (((numR w x).1, (numR ([47] : List Int) (numR w x).2).1), (numR ([47] : List Int) (numR w x).2).2)
def beginsR (w : List Int) (have' most : Int) (x : RS) : Bool × RS := bif seesR w x then (bif have' == most then (false, failR 4 x) else (true, nextR x)) else (false, x)
def namesL (most : Int) : Nat → RS → List (List Int) → List (List Int) × RS
  | 0, x, o => (o, x)
  | f + 1, x, o => bif seesR ([44] : List Int) x then
      (let y := nextR x
       let z := bif (((o.length : Nat) : Int) == most) && ((hd y.1).1 == 1 && !(resB (hd y.1).2.1)) then failR 4 y else y
       namesL most f (nameR z).2 (o ++ [(nameR z).1]))
    else (o, wantR ([59] : List Int) x)
def namesR (most : Int) (x : RS) : List (List Int) × RS := namesL most ((nameR x).2.1.length + 1) (nameR x).2 [(nameR x).1]
/-- Items behind a word, up to so many. -/
def loopR {α : Type} (w : List Int) (most : Int) (item : RS → α × RS) : Nat → RS → List α → List α × RS
  | 0, x, o => (o, x)
  | f + 1, x, o => bif (beginsR w ((o.length : Nat) : Int) most x).1 then loopR w most item f (item (beginsR w ((o.length : Nat) : Int) most x).2).2 (o ++ [(item (beginsR w ((o.length : Nat) : Int) most x).2).1]) else (o, (beginsR w ((o.length : Nat) : Int) most x).2)
def manyR {α : Type} (w : List Int) (most : Int) (item : RS → α × RS) (x : RS) : List α × RS := loopR w most item (x.1.length + 1) x []
def headR (x : RS) : YT1 × RS :=
  let n := nameR x
  let v := numR ([118, 111, 108, 117, 109, 101] : List Int) n.2
  let s := numR ([102, 108, 111, 119] : List Int) v.2
  let u := fracR ([117, 115, 101] : List Int) s.2
  let p := numR ([115, 112, 101, 101, 100] : List Int) u.2
  let q := wantR ([103, 114, 97, 100, 101] : List Int) p.2
  let g := numR [] (bif seesR ([45] : List Int) q then nextR q else q)
  let a := numR ([119, 105, 100, 116, 104] : List Int) g.2
  let l := numR ([108, 101, 110, 103, 116, 104] : List Int) a.2
  let e := numR ([103, 114, 101, 101, 110] : List Int) l.2
  ((n.1, v.1, s.1, (u.1.1, u.1.2, ()), p.1, (bif seesR ([45] : List Int) q then negI .i64 g.1 else g.1), a.1, l.1, e.1, (hd x.1).2.2.2.1, ()), wantR ([59] : List Int) e.2)
def walkR (x : RS) : YT2 × RS :=
  let n := nameR x
  let p := nameR (wantR ([119, 105, 116, 104] : List Int) n.2)
  let a := numR ([108, 111, 110, 103] : List Int) p.2
  let b := numR ([112, 97, 99, 101] : List Int) a.2
  let c := numR ([108, 101, 97, 115, 116] : List Int) b.2
  ((n.1, p.1, a.1, b.1, c.1, (hd x.1).2.2.2.1, ()), wantR ([59] : List Int) c.2)
def phaseR (x : RS) : YT3 × RS :=
  let n := nameR x
  let l := namesR 16 (wantR ([58] : List Int) n.2)
  ((n.1, l.1, (hd x.1).2.2.2.1, ()), l.2)
def ringR (x : RS) : YT4 × RS :=
  let l := namesR 4 (bif seesR ([102, 114, 101, 101] : List Int) x then nextR x else x)
  ((seesR ([102, 114, 101, 101] : List Int) x, l.1, ()), l.2)
def groupR (x : RS) : (List YT4 × Unit) × RS :=
  let a := wantR ([123] : List Int) x
  let b := bif seesR ([114, 105, 110, 103] : List Int) a then a else failR 50 a
  let r := manyR ([114, 105, 110, 103] : List Int) 2 ringR b
  ((r.1, ()), wantR ([125] : List Int) r.2)
def foeR (x : RS) : YT5 × RS :=
  let n := nameR x
  let m := nameR n.2
  ((n.1, m.1, (hd x.1).2.2.2.1, ()), wantR ([59] : List Int) m.2)
def nodeR (x : RS) : YT6 × RS :=
  let n := nameR x
  let h := manyR ([104, 101, 97, 100] : List Int) 16 headR (wantR ([123] : List Int) n.2)
  let w := manyR ([119, 97, 108, 107] : List Int) 8 walkR h.2
  let p := manyR ([112, 104, 97, 115, 101] : List Int) 16 phaseR w.2
  let g := manyR ([103, 114, 111, 117, 112] : List Int) 4 groupR p.2
  let f := manyR ([102, 111, 101] : List Int) 64 foeR g.2
  ((n.1, h.1, w.1, p.1, g.1, f.1, (hd x.1).2.2.2.1, ()), wantR ([125] : List Int) f.2)
def stopR (x : RS) : YT7 × RS :=
  let n := nameR x
  let o := nameR (wantR ([111, 117, 116] : List Int) n.2)
  let i := nameR (wantR ([105, 110] : List Int) o.2)
  let a := numR ([97, 104, 101, 97, 100] : List Int) i.2
  let b := numR ([98, 97, 99, 107] : List Int) a.2
  ((n.1, o.1, i.1, a.1, b.1, (hd x.1).2.2.2.1, ()), wantR ([59] : List Int) b.2)
def arteryR (x : RS) : (List YT7 × Int × Int) × RS :=
  let s := manyR ([115, 116, 111, 112] : List Int) 12 stopR (wantR ([123] : List Int) x)
  let a := numR ([119, 101, 105, 103, 104, 116, 115] : List Int) s.2
  let b := numR [] a.2
  ((s.1, a.1, b.1), wantR ([125] : List Int) (wantR ([59] : List Int) b.2))
def netR (x : RS) : NetT × RS :=
  let a := numR ([99, 121, 99, 108, 101] : List Int) x
  let b := numR ([116, 111] : List Int) a.2
  let c := numR ([98, 121] : List Int) b.2
  let p := fracR ([112, 101, 97, 107] : List Int) (wantR ([59] : List Int) c.2)
  let n := manyR ([110, 111, 100, 101] : List Int) 12 nodeR (wantR ([59] : List Int) p.2)
  let t := bif seesR ([97, 114, 116, 101, 114, 121] : List Int) n.2 then arteryR (nextR n.2) else (([], 0, 0), n.2)
  ((a.1, b.1, c.1, p.1.1, p.1.2, n.1, t.1.1, t.1.2.1, t.1.2.2), bif (hd t.2.1).1 != 0 then failR 50 t.2 else t.2)
/-- What the text of a network is read as: the network, the error, the place. -/
def parseR (b : List Int) : NetT × Int × Int :=
  bif (toks b).1 != 0 then ((0, 0, 0, 0, 0, [], [], 0, 0), (toks b).1, (toks b).2.1)
  else bif (netR ((toks b).2.2, 0, 0)).2.2.1 != 0 then ((0, 0, 0, 0, 0, [], [], 0, 0), (netR ((toks b).2.2, 0, 0)).2.2.1, (netR ((toks b).2.2, 0, 0)).2.2.2)
  else ((netR ((toks b).2.2, 0, 0)).1, 0, 0)

/-! never without a last token, never longer -/
def EndT (l : List Tk) : Prop := ∃ r t, l = r ++ [t] ∧ t.1 = 0
theorem EndT.ne {l : List Tk} (h : EndT l) : l ≠ [] := by
  obtain ⟨r, t, rfl, _⟩ := h
  simp
/-- From a reader to a later one. -/
structure Adv (x y : RS) : Prop where
  g : EndT x.1 → EndT y.1
  l : y.1.length ≤ x.1.length
theorem Adv.refl (x : RS) : Adv x x := ⟨id, Nat.le_refl _⟩
theorem Adv.trans {x y z : RS} (h : Adv x y) (h2 : Adv y z) : Adv x z := ⟨fun g => h2.g (h.g g), Nat.le_trans h2.l h.l⟩
theorem adv_fail (c : Int) (x : RS) : Adv x (failR c x) := by
  unfold failR
  cases x.2.1 == 0
  · exact .refl x
  · exact ⟨id, Nat.le_refl _⟩
theorem adv_next (x : RS) : Adv x (nextR x) := by
  unfold nextR
  cases h : x.2.1 == 0 && (hd x.1).1 != 0
  · exact .refl x
  · refine ⟨fun g => ?_, by simp⟩
    obtain ⟨r, t, e, ht⟩ := g
    simp only [Bool.and_eq_true] at h
    cases r with
    | nil =>
      have := h.2
      rw [e] at this
      simp [hd, ht] at this
    | cons y r => exact ⟨r, t, by rw [e]; rfl, ht⟩
theorem adv_bif {x y z : RS} {c : Bool} (h : Adv x y) (h2 : Adv x z) : Adv x (bif c then y else z) := by cases c <;> assumption
theorem adv_want (s : List Int) (x : RS) : Adv x (wantR s x) := (adv_bif (.refl x) (adv_fail 50 x)).trans (adv_next _)
theorem adv_name (x : RS) : Adv x (nameR x).2 := by
  unfold nameR
  cases (hd x.1).1 == 1 && !(resB (hd x.1).2.1)
  · exact adv_fail 50 x
  · exact adv_next x
theorem adv_num (w : List Int) (x : RS) : Adv x (numR w x).2 := by
  unfold numR
  refine Adv.trans (adv_bif (c := w == []) (.refl x) (adv_want w x)) ?_
  generalize (bif w == [] then x else wantR w x) = y
  unfold numC
  cases (hd y.1).1 == 2
  · exact adv_fail 50 y
  · exact adv_next y
theorem adv_frac (w : List Int) (x : RS) : Adv x (fracR w x).2 := (adv_num w x).trans (adv_num _ _)
theorem adv_begins (w : List Int) (a b : Int) (x : RS) : Adv x (beginsR w a b x).2 := by
  unfold beginsR
  cases seesR w x
  · exact .refl x
  · cases a == b
    · exact adv_next x
    · exact adv_fail 4 x
theorem begins_lt {w : List Int} {a b : Int} {x : RS} (h : (beginsR w a b x).1 = true) (g : EndT x.1) : (beginsR w a b x).2.1.length < x.1.length := by
  have := g.ne
  unfold beginsR at h ⊢
  cases h1 : seesR w x
  · rw [h1] at h; cases h
  · cases h2 : a == b
    · have h3 : (x.2.1 == 0 && (hd x.1).1 != 0) = true := by
        unfold seesR at h1
        simp only [Bool.and_eq_true] at h1 ⊢
        exact ⟨h1.1, h1.2.2.1⟩
      show (nextR x).1.length < _
      unfold nextR
      rw [h3, cond_true]
      cases hx : x.1 with
      | nil => exact absurd hx this
      | cons y r => simp
    · rw [h1, h2] at h; cases h
theorem adv_loop {α : Type} (w : List Int) (most : Int) (item : RS → α × RS) (hi : ∀ x, Adv x (item x).2) : ∀ (f : Nat) (x : RS) (o : List α), Adv x (loopR w most item f x o).2
  | 0, x, o => .refl x
  | f + 1, x, o => by
    rw [loopR]
    have hb := adv_begins w ((o.length : Nat) : Int) most x
    cases (beginsR w ((o.length : Nat) : Int) most x).1
    · exact hb
    · exact hb.trans ((hi _).trans (adv_loop w most item hi f _ _))
theorem adv_many {α : Type} {w : List Int} {most : Int} {item : RS → α × RS} (hi : ∀ x, Adv x (item x).2) (x : RS) : Adv x (manyR w most item x).2 := adv_loop w most item hi _ x []
theorem adv_namesL (most : Int) : ∀ (f : Nat) (x : RS) (o : List (List Int)), Adv x (namesL most f x o).2
  | 0, x, o => .refl x
  | f + 1, x, o => by
    rw [namesL]
    cases seesR ([44] : List Int) x
    · exact adv_want _ _
    · exact (adv_next x).trans ((adv_bif (adv_fail 4 _) (.refl _)).trans ((adv_name _).trans (adv_namesL most f _ _)))
theorem adv_names (most : Int) (x : RS) : Adv x (namesR most x).2 := (adv_name x).trans (adv_namesL most _ _ _)
set_option maxRecDepth 100000 in
theorem adv_head (x : RS) : Adv x (headR x).2 :=
  (adv_name x).trans ((adv_num _ _).trans ((adv_num _ _).trans ((adv_frac _ _).trans ((adv_num _ _).trans ((adv_want _ _).trans ((adv_bif (adv_next _) (.refl _)).trans ((adv_num _ _).trans ((adv_num _ _).trans ((adv_num _ _).trans ((adv_num _ _).trans (adv_want _ _)))))))))))
theorem adv_walk (x : RS) : Adv x (walkR x).2 := (adv_name x).trans ((adv_want _ _).trans ((adv_name _).trans ((adv_num _ _).trans ((adv_num _ _).trans ((adv_num _ _).trans (adv_want _ _))))))
theorem adv_phase (x : RS) : Adv x (phaseR x).2 := (adv_name x).trans ((adv_want _ _).trans (adv_names _ _))
theorem adv_ring (x : RS) : Adv x (ringR x).2 := (adv_bif (adv_next _) (.refl _)).trans (adv_names _ _)
theorem adv_group (x : RS) : Adv x (groupR x).2 := (adv_want _ _).trans ((adv_bif (.refl _) (adv_fail _ _)).trans ((adv_many adv_ring _).trans (adv_want _ _)))
theorem adv_foe (x : RS) : Adv x (foeR x).2 := (adv_name x).trans ((adv_name _).trans (adv_want _ _))
theorem adv_node (x : RS) : Adv x (nodeR x).2 := (adv_name x).trans ((adv_want _ _).trans ((adv_many adv_head _).trans ((adv_many adv_walk _).trans ((adv_many adv_phase _).trans ((adv_many adv_group _).trans ((adv_many adv_foe _).trans (adv_want _ _)))))))
theorem adv_stop (x : RS) : Adv x (stopR x).2 := (adv_name x).trans ((adv_want _ _).trans ((adv_name _).trans ((adv_want _ _).trans ((adv_name _).trans ((adv_num _ _).trans ((adv_num _ _).trans (adv_want _ _)))))))
theorem adv_artery (x : RS) : Adv x (arteryR x).2 := (adv_want _ _).trans ((adv_many adv_stop _).trans ((adv_num _ _).trans ((adv_num _ _).trans ((adv_want _ _).trans (adv_want _ _)))))
theorem lx_end (n : Nat) : ∀ (f : Nat) (s : List Int), s.length < f → (lx n f s).1 = 0 → EndT (lx n f s).2.2 ∧ (lx n f s).2.2.length ≤ s.length + 1
  | 0, s, hf, _ => by omega
  | f + 1, s, hf, h => by
    have hl := drp_len false s
    rw [lx] at h ⊢
    cases hd : drp false s with
    | nil => exact ⟨⟨[], _, rfl, rfl⟩, by simp⟩
    | cons x r =>
      rw [hd, List.length_cons] at hl
      rw [hd] at h
      simp only [] at h ⊢
      split at h
      · rename_i h0
        rw [if_pos h0]
        split at h
        · rename_i h1
          rw [if_pos h1]
          have hr := tok1_rest h0
          obtain ⟨⟨q, t, e, ht⟩, hlen⟩ := lx_end n f _ (by omega) h1
          exact ⟨⟨_ :: q, t, by simp only; rw [e]; rfl, ht⟩, by simp only [List.length_cons]; omega⟩
        · rename_i h1; exact absurd h h1
      · rename_i h0; exact absurd h h0
theorem toks_end {b : List Int} (h : (toks b).1 = 0) : EndT (toks b).2.2 ∧ (toks b).2.2.length ≤ b.length + 1 := by
  unfold toks at h ⊢
  split at h
  · simp at h
  · rename_i hl
    rw [if_neg hl]
    exact lx_end _ _ b (by omega) h
end Go.Proofs.YtipcabmhdokfjaaGreatDoorV

/-! net: the reference's reader is the plain one. -/
set_option linter.unusedVariables false
set_option linter.unusedSimpArgs false
namespace Go.Proofs.YtipcabmhdokfjaaGreatDoorV
open Go Go.RowKit

theorem idx_hd {R : Type} {l : List Tk} {K : Tk → Option R} (h : l ≠ []) : idx tkD l 0 K = K (hd l) := by
  cases l with
  | nil => exact absurd rfl h
  | cons x r => exact idx_at (i := 0) rfl
theorem inB_hd {R : Type} {l : List Tk} {a b : Option R} (h : l ≠ []) : (bif inB (0 : Int) l.length then a else b) = a := by
  cases l with
  | nil => exact absurd rfl h
  | cons x r => rw [cinB, if_pos (by simp)]
theorem rdA_hd {l : List Tk} : rdA tkD l (Int.toNat 0) = hd l := by
  cases l <;> rfl
theorem cutB_hd {R : Type} {l : List Tk} {a b : Option R} (h : l ≠ []) : (bif cutB (1 : Int) ((l.length : Nat) : Int) l.length then a else b) = a := by
  cases l with
  | nil => exact absurd rfl h
  | cons x r => rw [ccutB, if_pos (by simp; omega)]
theorem cutL_hd {l : List Tk} : cutL l 1 ((l.length : Nat) : Int) = l.tail := by
  cases l <;> simp [cutL]
theorem cut_hd {R : Type} {l : List Tk} {K : List Tk → Option R} (h : l ≠ []) : cut l 1 ((l.length : Nat) : Int) K = K l.tail := by
  unfold cut
  rw [cutB_hd h, cutL_hd]
section
variable (k : Nat) (hk : 1000 ≤ k)
section
variable (x : RS) (g : EndT x.1)
include g
theorem is_run0 (s : List Int) : cr05r_is k (s, x.2.1, x.2.2, x.1) = some (seesR s x, x.2.1, x.2.2, x.1) := by
  rw [fr05r_is_e, fr05r_is_t, inB_hd g.ne, inB_hd g.ne, inB_hd g.ne, rdA_hd]
  unfold seesR
  cases x.2.1 == 0 <;> cases (hd x.1).1 != 2 <;> cases (hd x.1).1 != 0 <;> rfl
theorem is_run (s : List Int) : cr05r_is'1 k (s, x.1, x.2.1, x.2.2) = some (seesR s x, x.1, x.2.1, x.2.2) := by
  rw [fr05r_is'1_e, fr05r_is'1_t, idx_hd g.ne, idx_hd g.ne, idx_hd g.ne]
  unfold seesR
  cases x.2.1 == 0 <;> cases (hd x.1).1 != 2 <;> cases (hd x.1).1 != 0 <;> rfl
theorem fail_run0 (c : Int) : cr05r_fail k (c, x.2.1, x.2.2, x.1) = some ((failR c x).2.1, (failR c x).2.2, (failR c x).1) := by
  rw [fr05r_fail_e, fr05r_fail_t, inB_hd g.ne, rdA_hd]
  unfold failR
  cases x.2.1 == 0 <;> rfl
theorem fail_run (c : Int) : cr05r_fail'1 k (c, x.1, x.2.1, x.2.2) = some ((failR c x).1, (failR c x).2.1, (failR c x).2.2) := by
  rw [fr05r_fail'1_e, fr05r_fail'1_t, idx_hd g.ne]
  unfold failR
  cases x.2.1 == 0 <;> rfl
theorem next_run0 : cr05r_next k (x.2.1, x.2.2, x.1) = some ((hd x.1).1, (hd x.1).2.1, (hd x.1).2.2.1, (hd x.1).2.2.2.1, (nextR x).1, (nextR x).2.1, (nextR x).2.2) := by
  rw [fr05r_next_e, fr05r_next_t, inB_hd g.ne, cutB_hd g.ne, cutL_hd, rdA_hd]
  unfold nextR
  cases x.2.1 == 0 <;> cases (hd x.1).1 != 0 <;> rfl
theorem next_run : cr05r_next'1 k (x.1, x.2.1, x.2.2) = some ((hd x.1).1, (hd x.1).2.1, (hd x.1).2.2.1, (hd x.1).2.2.2.1, (nextR x).1, (nextR x).2.1, (nextR x).2.2) := by
  rw [fr05r_next'1_e, fr05r_next'1_t, idx_hd g.ne, cut_hd g.ne]
  unfold nextR
  cases x.2.1 == 0 <;> cases (hd x.1).1 != 0 <;> rfl
theorem want_run0 (s : List Int) : cr05r_want k (s, x.2.1, x.2.2, x.1) = some ((wantR s x).1, (wantR s x).2.1, (wantR s x).2.2) := by
  rw [fr05r_want_e, fr05r_want_t, is_run0 k x g, Option.bind_some]
  unfold wantR
  cases seesR s x
  · have e := next_run0 k (failR 50 x) ((adv_fail 50 x).g g)
    simp only [Bool.not_false, cond_true, cond_false, fail_run0 k x g, Option.bind_some]
    rw [e, Option.bind_some]
  · simp only [Bool.not_true, cond_true, cond_false]
    rw [next_run0 k x g, Option.bind_some]
theorem want_run (s : List Int) : cr05r_want'1 k (s, x.1, x.2.1, x.2.2) = some ((wantR s x).1, (wantR s x).2.1, (wantR s x).2.2) := by
  rw [fr05r_want'1_e, fr05r_want'1_t, is_run k x g, Option.bind_some]
  unfold wantR
  cases seesR s x
  · have e := next_run k (failR 50 x) ((adv_fail 50 x).g g)
    simp only [Bool.not_false, cond_true, cond_false, fail_run k x g, Option.bind_some]
    rw [e, Option.bind_some]
  · simp only [Bool.not_true, cond_true, cond_false]
    rw [next_run k x g, Option.bind_some]
theorem numC_run0 : (fr05r_num k).J 3 [] (fr05r_num_s3 (x.1, x.2.1, x.2.2)) = some ((numC x).1, (numC x).2.1, (numC x).2.2.1, (numC x).2.2.2) := by
  rw [fr05r_num_ej3, fr05r_num_tj3, idx_hd g.ne, fail_run k x g, next_run k x g, cbne]
  unfold numC
  by_cases h : (hd x.1).1 = 2
  · rw [if_pos h, h]; rfl
  · rw [if_neg h, show ((hd x.1).1 == 2) = false by simpa using h]; rfl
theorem numC_run : (fr05r_num'1 k).J 3 [] (fr05r_num'1_s3 (x.1, x.2.1, x.2.2)) = some ((numC x).1, (numC x).2.1, (numC x).2.2.1, (numC x).2.2.2) := by
  rw [fr05r_num'1_ej3, fr05r_num'1_tj3, idx_hd g.ne, fail_run k x g, next_run k x g, cbne]
  unfold numC
  by_cases h : (hd x.1).1 = 2
  · rw [if_pos h, h]; rfl
  · rw [if_neg h, show ((hd x.1).1 == 2) = false by simpa using h]; rfl
theorem num_run0 (w : List Int) : cr05r_num k (w, x.2.1, x.2.2, x.1) = some ((numR w x).1, (numR w x).2.1, (numR w x).2.2.1, (numR w x).2.2.2) := by
  rw [fr05r_num_e, fr05r_num_t, want_run0 k x g, Option.bind_some]
  unfold numR
  cases w == []
  · simp only [Bool.not_false, cond_true, cond_false]
    exact numC_run0 k (wantR w x) ((adv_want w x).g g)
  · simp only [Bool.not_true, cond_true, cond_false]
    exact numC_run0 k x g
theorem num_run (w : List Int) : cr05r_num'1 k (w, x.1, x.2.1, x.2.2) = some ((numR w x).1, (numR w x).2.1, (numR w x).2.2.1, (numR w x).2.2.2) := by
  rw [fr05r_num'1_e, fr05r_num'1_t, want_run k x g, Option.bind_some]
  unfold numR
  cases w == []
  · simp only [Bool.not_false, cond_true, cond_false]
    exact numC_run k (wantR w x) ((adv_want w x).g g)
  · simp only [Bool.not_true, cond_true, cond_false]
    exact numC_run k x g
theorem frac_run (w : List Int) : cr05r_frac k (w, x.1, x.2.1, x.2.2) = some ((fracR w x).1.1, (fracR w x).1.2, (fracR w x).2.1, (fracR w x).2.2.1, (fracR w x).2.2.2) := by
  rw [fr05r_frac_e, fr05r_frac_t, num_run k x g, Option.bind_some]
  have e := num_run k (numR w x).2 ((adv_num w x).g g) ([47] : List Int)
  rw [e]
  rfl
theorem begins_run (w : List Int) (a b : Int) : cr05r_begins k (w, a, b, x.1, x.2.1, x.2.2) = some ((beginsR w a b x).1, (beginsR w a b x).2.1, (beginsR w a b x).2.2.1, (beginsR w a b x).2.2.2) := by
  rw [fr05r_begins_e, fr05r_begins_t, is_run k x g, Option.bind_some]
  unfold beginsR
  cases seesR w x
  · rfl
  · simp only [Bool.not_true, cond_true, cond_false]
    rw [fail_run k x g, next_run k x g]
    cases a == b <;> rfl
include hk
theorem name_run : cr05r_name k (x.1, x.2.1, x.2.2) = some ((nameR x).1, (nameR x).2.1, (nameR x).2.2.1, (nameR x).2.2.2) := by
  rw [fr05r_name_e, fr05r_name_t, idx_hd g.ne, idx_hd g.ne, rreserved_some k _ (by omega), fail_run k x g, next_run k x g, Option.bind_some, cbne]
  unfold nameR
  by_cases h : (hd x.1).1 = 1
  · rw [if_pos h, show ((hd x.1).1 == 1) = true by simpa using h]
    cases resB (hd x.1).2.1 <;> rfl
  · rw [if_neg h, show ((hd x.1).1 == 1) = false by simpa using h]; rfl
end
theorem sees_next {x : RS} {s : List Int} (h : seesR s x = true) (g : EndT x.1) : (nextR x).1.length < x.1.length := by
  have := g.ne
  unfold seesR at h
  simp only [Bool.and_eq_true] at h
  unfold nextR
  rw [h.1, h.2.2.1]
  cases hx : x.1 with
  | nil => exact absurd hx this
  | cons y r => simp
include hk
theorem namesL_run (most : Int) : ∀ (f j : Nat) (x : RS) (o : List (List Int)), x.1.length < f → x.1.length < j → EndT x.1 → o.length + x.1.length ≤ 200000 →
    (fr05r_names k).L 2 [] j (fr05r_names_s2 (most, x.1, x.2.1, x.2.2, o)) = some ((namesL most f x o).2.1, (namesL most f x o).2.2.1, (namesL most f x o).2.2.2, (namesL most f x o).1)
  | 0, j, x, o, h, _, _, _ => by omega
  | f + 1, 0, x, o, _, h, _, _ => by omega
  | f + 1, j + 1, x, o, hf, hj, g, hm => by
    rw [fr05r_names_el2, fr05r_names_tl2, is_run k x g, Option.bind_some, namesL]
    cases hs : seesR ([44] : List Int) x
    · simp only [cond_false]
      rw [want_run k x g]
      rfl
    · have hlt := sees_next hs g
      have gy := (adv_next x).g g
      simp only [cond_true]
      rw [next_run k x g, Option.bind_some]
      simp only
      rw [idx_hd gy.ne, idx_hd gy.ne, rreserved_some k _ (by omega), Option.bind_some, fail_run k (nextR x) gy 4, Option.bind_some]
      generalize hz : (bif (((o.length : Nat) : Int) == most) && ((hd (nextR x).1).1 == 1 && !(resB (hd (nextR x).1).2.1)) then failR 4 (nextR x) else nextR x) = z
      have az : Adv (nextR x) z := by rw [← hz]; exact adv_bif (adv_fail 4 _) (.refl _)
      have gz := az.g gy
      have hzl := az.l
      have J6 : (fr05r_names k).J 6 [j] (fr05r_names_s6 (most, z.1, z.2.1, z.2.2, o)) = some ((namesL most f (nameR z).2 (o ++ [(nameR z).1])).2.1, (namesL most f (nameR z).2 (o ++ [(nameR z).1])).2.2.1, (namesL most f (nameR z).2 (o ++ [(nameR z).1])).2.2.2, (namesL most f (nameR z).2 (o ++ [(nameR z).1])).1) := by
        have hn := (adv_name z).l
        rw [fr05r_names_ej6, fr05r_names_tj6, name_run k hk z gz, Option.bind_some, app_ok (by simp; omega) (by simp; omega)]
        exact namesL_run most f j (nameR z).2 _ (by omega) (by omega) ((adv_name z).g gz) (by simp; omega)
      rw [← J6, ← hz]
      cases ((o.length : Nat) : Int) == most
      · simp only [cond_false, Bool.false_and]
      · cases (hd (nextR x).1).1 == 1
        · simp only [cond_false, cond_true, Bool.false_and, Bool.and_false]
        · cases resB (hd (nextR x).1).2.1 <;> simp only [cond_false, cond_true, Bool.not_true, Bool.not_false, Bool.and_false, Bool.and_true]
theorem names_run (most : Int) (x : RS) (g : EndT x.1) (hl : x.1.length < k) (hm : x.1.length ≤ 100000) : cr05r_names k (most, x.1, x.2.1, x.2.2) = some ((namesR most x).2.1, (namesR most x).2.2.1, (namesR most x).2.2.2, (namesR most x).1) := by
  have hn := (adv_name x).l
  rw [fr05r_names_e, fr05r_names_t, name_run k hk x g, Option.bind_some]
  exact namesL_run k hk most _ k (nameR x).2 _ (by omega) (by omega) ((adv_name x).g g) (by simp; omega)
end
end Go.Proofs.YtipcabmhdokfjaaGreatDoorV

/-! net: the reference's reader is the plain one, 2: the parts of the grammar. -/
set_option linter.unusedVariables false
set_option linter.unusedSimpArgs false
namespace Go.Proofs.YtipcabmhdokfjaaGreatDoorV
open Go Go.RowKit

theorem loop_run {α R : Type} (w : List Int) (most : Int) (item : RS → α × RS) (hi : ∀ x, Adv x (item x).2) (F : Nat → RS → List α → Option R) (cont : RS → List α → Option R)
    (hF : ∀ j x o, EndT x.1 → o.length + x.1.length ≤ 100000 → F (j + 1) x o = bif (beginsR w ((o.length : Nat) : Int) most x).1 then F j (item (beginsR w ((o.length : Nat) : Int) most x).2).2 (o ++ [(item (beginsR w ((o.length : Nat) : Int) most x).2).1]) else cont (beginsR w ((o.length : Nat) : Int) most x).2 o) :
    ∀ (f j : Nat) (x : RS) (o : List α), x.1.length < f → x.1.length < j → EndT x.1 → o.length + x.1.length ≤ 100000 → F j x o = cont (loopR w most item f x o).2 (loopR w most item f x o).1
  | 0, j, x, o, h, _, _, _ => by omega
  | f + 1, 0, x, o, _, h, _, _ => by omega
  | f + 1, j + 1, x, o, hf, hj, g, hm => by
    rw [hF j x o g hm, loopR]
    have hb := adv_begins w ((o.length : Nat) : Int) most x
    cases hc : (beginsR w ((o.length : Nat) : Int) most x).1
    · rfl
    · have hlt := begins_lt hc g
      have ha := hi (beginsR w ((o.length : Nat) : Int) most x).2
      have hl := ha.l
      simp only [cond_true]
      exact loop_run w most item hi F cont hF f j _ _ (by omega) (by omega) (ha.g (hb.g g)) (by simp; omega)
theorem many_run {α R : Type} {w : List Int} {most : Int} {item : RS → α × RS} (hi : ∀ x, Adv x (item x).2) (F : Nat → RS → List α → Option R) (cont : RS → List α → Option R)
    (hF : ∀ j x o, EndT x.1 → o.length + x.1.length ≤ 100000 → F (j + 1) x o = bif (beginsR w ((o.length : Nat) : Int) most x).1 then F j (item (beginsR w ((o.length : Nat) : Int) most x).2).2 (o ++ [(item (beginsR w ((o.length : Nat) : Int) most x).2).1]) else cont (beginsR w ((o.length : Nat) : Int) most x).2 o)
    (k : Nat) (hk : 200000 ≤ k) (x : RS) (g : EndT x.1) (hm : x.1.length ≤ 100000) : F k x [] = cont (manyR w most item x).2 (manyR w most item x).1 :=
  loop_run w most item hi F cont hF _ k x [] (by omega) (by omega) g (by simpa using hm)
section
variable (k : Nat) (hk : 200000 ≤ k)
include hk
theorem head_run (x : RS) (g : EndT x.1) : cr05r_head k (x.1, x.2.1, x.2.2) = some ((headR x).1.1, (headR x).1.2.1, (headR x).1.2.2.1, (headR x).1.2.2.2.1.1, (headR x).1.2.2.2.1.2.1, (headR x).1.2.2.2.2.1, (headR x).1.2.2.2.2.2.1, (headR x).1.2.2.2.2.2.2.1, (headR x).1.2.2.2.2.2.2.2.1, (headR x).1.2.2.2.2.2.2.2.2.1, (headR x).1.2.2.2.2.2.2.2.2.2.1, (headR x).2.1, (headR x).2.2.1, (headR x).2.2.2) := by
  have g1 := (adv_name x).g g
  have g2 := (adv_num ([118, 111, 108, 117, 109, 101] : List Int) _).g g1
  have g3 := (adv_num ([102, 108, 111, 119] : List Int) _).g g2
  have g4 := (adv_frac ([117, 115, 101] : List Int) _).g g3
  have g5 := (adv_num ([115, 112, 101, 101, 100] : List Int) _).g g4
  have g6 := (adv_want ([103, 114, 97, 100, 101] : List Int) _).g g5
  rw [fr05r_head_e, fr05r_head_t, idx_hd g.ne, name_run k (by omega) x g, Option.bind_some, num_run k _ g1, Option.bind_some, num_run k _ g2, Option.bind_some, frac_run k _ g3, Option.bind_some, num_run k _ g4, Option.bind_some, want_run k _ g5, Option.bind_some, is_run k _ g6, Option.bind_some, next_run k _ g6, Option.bind_some]
  unfold headR
  simp only
  generalize nameR x = n at *
  generalize numR ([118, 111, 108, 117, 109, 101] : List Int) n.2 = v at *
  generalize numR ([102, 108, 111, 119] : List Int) v.2 = s at *
  generalize fracR ([117, 115, 101] : List Int) s.2 = u at *
  generalize numR ([115, 112, 101, 101, 100] : List Int) u.2 = p at *
  generalize wantR ([103, 114, 97, 100, 101] : List Int) p.2 = q at *
  have J14 : ∀ (y : RS) (z : Int), EndT y.1 → (fr05r_head k).J 14 [] (fr05r_head_s14 (y.1, y.2.1, y.2.2, ([] : List Int), (0 : Int), (0 : Int), (0 : Int), (0 : Int), (0 : Int), (0 : Int), (0 : Int), (0 : Int), (0 : Int), (0 : Int), n.1, v.1, s.1, u.1.1, u.1.2, p.1, z, (0 : Int), (0 : Int), (0 : Int), (hd x.1).2.2.2.1)) =
      some (n.1, v.1, s.1, u.1.1, u.1.2, p.1, z, (numR ([119, 105, 100, 116, 104] : List Int) y).1, (numR ([108, 101, 110, 103, 116, 104] : List Int) (numR ([119, 105, 100, 116, 104] : List Int) y).2).1, (numR ([103, 114, 101, 101, 110] : List Int) (numR ([108, 101, 110, 103, 116, 104] : List Int) (numR ([119, 105, 100, 116, 104] : List Int) y).2).2).1, (hd x.1).2.2.2.1,
        (wantR ([59] : List Int) (numR ([103, 114, 101, 101, 110] : List Int) (numR ([108, 101, 110, 103, 116, 104] : List Int) (numR ([119, 105, 100, 116, 104] : List Int) y).2).2).2).1, (wantR ([59] : List Int) (numR ([103, 114, 101, 101, 110] : List Int) (numR ([108, 101, 110, 103, 116, 104] : List Int) (numR ([119, 105, 100, 116, 104] : List Int) y).2).2).2).2.1, (wantR ([59] : List Int) (numR ([103, 114, 101, 101, 110] : List Int) (numR ([108, 101, 110, 103, 116, 104] : List Int) (numR ([119, 105, 100, 116, 104] : List Int) y).2).2).2).2.2) := by
    intro y z gy
    have h1 := (adv_num ([119, 105, 100, 116, 104] : List Int) _).g gy
    have h2 := (adv_num ([108, 101, 110, 103, 116, 104] : List Int) _).g h1
    have h3 := (adv_num ([103, 114, 101, 101, 110] : List Int) _).g h2
    rw [fr05r_head_ej14, fr05r_head_tj14, num_run k _ gy, Option.bind_some, num_run k _ h1, Option.bind_some, num_run k _ h2, Option.bind_some, want_run k _ h3, Option.bind_some]
  have J11 : ∀ (c : Bool) (y : RS), EndT y.1 → (fr05r_head k).J 11 [] (fr05r_head_s11 (c, y.1, y.2.1, y.2.2, ([] : List Int), (0 : Int), (0 : Int), (0 : Int), (0 : Int), (0 : Int), (0 : Int), (0 : Int), (0 : Int), (0 : Int), (0 : Int), n.1, v.1, s.1, u.1.1, u.1.2, p.1, (0 : Int), (0 : Int), (0 : Int), (0 : Int), (hd x.1).2.2.2.1)) =
      (fr05r_head k).J 14 [] (fr05r_head_s14 ((numR [] y).2.1, (numR [] y).2.2.1, (numR [] y).2.2.2, ([] : List Int), (0 : Int), (0 : Int), (0 : Int), (0 : Int), (0 : Int), (0 : Int), (0 : Int), (0 : Int), (0 : Int), (0 : Int), n.1, v.1, s.1, u.1.1, u.1.2, p.1, (bif c then negI .i64 (numR [] y).1 else (numR [] y).1), (0 : Int), (0 : Int), (0 : Int), (hd x.1).2.2.2.1)) := by
    intro c y gy
    rw [fr05r_head_ej11, fr05r_head_tj11, num_run k _ gy, Option.bind_some]
    cases c <;> simp only [cond_true, cond_false]
  cases hq : seesR ([45] : List Int) q
  · simp only [cond_false]
    rw [J11 false q g6, J14 (numR [] q).2 _ ((adv_num [] q).g g6)]
    rfl
  · simp only [cond_true]
    have g7 := (adv_next q).g g6
    rw [J11 true (nextR q) g7, J14 (numR [] (nextR q)).2 _ ((adv_num [] _).g g7)]
    rfl
theorem walk_run (x : RS) (g : EndT x.1) : cr05r_walk k (x.1, x.2.1, x.2.2) = some ((walkR x).1.1, (walkR x).1.2.1, (walkR x).1.2.2.1, (walkR x).1.2.2.2.1, (walkR x).1.2.2.2.2.1, (walkR x).1.2.2.2.2.2.1, (walkR x).2.1, (walkR x).2.2.1, (walkR x).2.2.2) := by
  have g1 := (adv_name x).g g
  have g2 := (adv_want ([119, 105, 116, 104] : List Int) _).g g1
  have g3 := (adv_name _).g g2
  have g4 := (adv_num ([108, 111, 110, 103] : List Int) _).g g3
  have g5 := (adv_num ([112, 97, 99, 101] : List Int) _).g g4
  have g6 := (adv_num ([108, 101, 97, 115, 116] : List Int) _).g g5
  rw [fr05r_walk_e, fr05r_walk_t, idx_hd g.ne, name_run k (by omega) x g, Option.bind_some, want_run k _ g1, Option.bind_some, name_run k (by omega) _ g2, Option.bind_some, num_run k _ g3, Option.bind_some, num_run k _ g4, Option.bind_some, num_run k _ g5, Option.bind_some, want_run k _ g6, Option.bind_some]
  rfl
theorem group_run (x : RS) (g : EndT x.1) (hl : x.1.length ≤ 100000) : cr05r_group k (x.1, x.2.1, x.2.2) = some ((groupR x).2.1, (groupR x).2.2.1, (groupR x).2.2.2, (groupR x).1.1) := by
  have g1 := (adv_want ([123] : List Int) x).g g
  have l1 := (adv_want ([123] : List Int) x).l
  have L := many_run (w := ([114, 105, 110, 103] : List Int)) (most := 2) adv_ring (fun j x o => (fr05r_group k).L 5 [] j (fr05r_group_s5 (x.1, x.2.1, x.2.2, o))) (fun y o => some ((wantR ([125] : List Int) y).1, (wantR ([125] : List Int) y).2.1, (wantR ([125] : List Int) y).2.2, o))
    (fun j x o g hm => by
      have hb := adv_begins ([114, 105, 110, 103] : List Int) ((o.length : Nat) : Int) 2 x
      have gb := hb.g g
      have lb := hb.l
      rw [fr05r_group_el5, fr05r_group_tl5, begins_run k x g, Option.bind_some]
      generalize beginsR ([114, 105, 110, 103] : List Int) ((o.length : Nat) : Int) 2 x = y at *
      simp only
      rw [is_run k y.2 gb, Option.bind_some, next_run k y.2 gb, Option.bind_some, want_run k y.2 gb, Option.bind_some]
      have J10 : ∀ (c : Bool) (z : RS), EndT z.1 → z.1.length ≤ 100000 → (fr05r_group k).J 10 [j] (fr05r_group_s10 (z.1, z.2.1, z.2.2, c, o)) = (fr05r_group k).L 5 [] j (fr05r_group_s5 ((namesR 4 z).2.1, (namesR 4 z).2.2.1, (namesR 4 z).2.2.2, o ++ [(c, (namesR 4 z).1, ())])) := by
        intro c z gz lz
        rw [fr05r_group_ej10, fr05r_group_tj10, names_run k (by omega) 4 z gz (by omega) (by omega), Option.bind_some, app_ok (by simp; omega) (by simp; omega)]
      cases y.1
      · rfl
      · simp only [cond_true]
        unfold ringR
        cases hs : seesR ([102, 114, 101, 101] : List Int) y.2
        · simp only [cond_false]
          rw [J10 false y.2 gb (by omega)]
        · have hn := adv_next y.2
          have ln := hn.l
          simp only [cond_true]
          rw [J10 true (nextR y.2) (hn.g gb) (by omega)]) k hk
  rw [fr05r_group_e, fr05r_group_t, want_run k x g, Option.bind_some, is_run k _ g1, Option.bind_some, fail_run k _ g1, Option.bind_some]
  unfold groupR
  simp only
  generalize wantR ([123] : List Int) x = a at *
  cases seesR ([114, 105, 110, 103] : List Int) a
  · have hf := adv_fail 50 a
    have lf := hf.l
    simp only [Bool.not_false, cond_true, cond_false]
    rw [fr05r_group_ej5, fr05r_group_tj5]
    exact L (failR 50 a) (hf.g g1) (by omega)
  · simp only [Bool.not_true, cond_true, cond_false]
    rw [fr05r_group_ej5, fr05r_group_tj5]
    exact L a g1 (by omega)
end
end Go.Proofs.YtipcabmhdokfjaaGreatDoorV

/-! net: the reference's reader is the plain one, 3: nodes, the artery, the whole. -/
set_option linter.unusedVariables false
set_option linter.unusedSimpArgs false
namespace Go.Proofs.YtipcabmhdokfjaaGreatDoorV
open Go Go.RowKit

section
variable (k : Nat) (hk : 200000 ≤ k)
include hk
theorem node_run (x : RS) (g : EndT x.1) (hl : x.1.length ≤ 100000) : cr05r_node k (x.1, x.2.1, x.2.2) =
    some ((nodeR x).1.1, (nodeR x).1.2.2.2.2.2.2.1, (nodeR x).2.1, (nodeR x).2.2.1, (nodeR x).2.2.2, (nodeR x).1.2.1, (nodeR x).1.2.2.1, (nodeR x).1.2.2.2.1, (nodeR x).1.2.2.2.2.1, (nodeR x).1.2.2.2.2.2.1) := by
  have g1 := (adv_name x).g g
  have l1 := (adv_name x).l
  have a2 := adv_want ([123] : List Int) (nameR x).2
  have g2 := a2.g g1
  have l2 := a2.l
  rw [fr05r_node_e, fr05r_node_t, idx_hd g.ne, name_run k (by omega) x g, Option.bind_some, want_run k _ g1, Option.bind_some]
  unfold nodeR
  simp only
  generalize nameR x = n at *
  generalize wantR ([123] : List Int) n.2 = q at *
  generalize (hd x.1).2.2.2.1 = ps
  have L5 := fun (hs : List YT1) (ws : List YT2) (xs : List YT3) (gs : List (List YT4 × Unit)) => many_run (w := ([102, 111, 101] : List Int)) (most := 64) adv_foe (fun j x o => (fr05r_node k).L 16 [] j (fr05r_node_s16 (x.1, x.2.1, x.2.2, [], 0, n.1, ps, hs, ws, xs, gs, o)))
    (fun y o => some (n.1, ps, (wantR ([125] : List Int) y).1, (wantR ([125] : List Int) y).2.1, (wantR ([125] : List Int) y).2.2, hs, ws, xs, gs, o))
    (fun j x o g hm => by
      have hb := adv_begins ([102, 111, 101] : List Int) ((o.length : Nat) : Int) 64 x
      have gb := hb.g g
      rw [fr05r_node_el16, fr05r_node_tl16, begins_run k x g, Option.bind_some]
      generalize beginsR ([102, 111, 101] : List Int) ((o.length : Nat) : Int) 64 x = y at *
      simp only
      cases y.1
      · simp only [cond_false]
        rw [want_run k y.2 gb, Option.bind_some]
      · have h1 := (adv_name y.2).g gb
        have h2 := (adv_name _).g h1
        simp only [cond_true]
        rw [idx_hd gb.ne, name_run k (by omega) _ gb, Option.bind_some, name_run k (by omega) _ h1, Option.bind_some, want_run k _ h2, Option.bind_some, app_ok (by simp; omega) (by simp; omega)]
        rfl) k hk
  have L4 := fun (hs : List YT1) (ws : List YT2) (xs : List YT3) => many_run (w := ([103, 114, 111, 117, 112] : List Int)) (most := 4) adv_group (fun j x o => (fr05r_node k).L 14 [] j (fr05r_node_s14 (x.1, x.2.1, x.2.2, [], 0, n.1, ps, hs, ws, xs, o)))
    (fun y o => (fr05r_node k).L 16 [] k (fr05r_node_s16 (y.1, y.2.1, y.2.2, [], 0, n.1, ps, hs, ws, xs, o, [])))
    (fun j x o g hm => by
      have hb := adv_begins ([103, 114, 111, 117, 112] : List Int) ((o.length : Nat) : Int) 4 x
      have gb := hb.g g
      have lb := hb.l
      rw [fr05r_node_el14, fr05r_node_tl14, begins_run k x g, Option.bind_some]
      generalize beginsR ([103, 114, 111, 117, 112] : List Int) ((o.length : Nat) : Int) 4 x = y at *
      simp only
      cases y.1
      · simp only [cond_false]
      · simp only [cond_true]
        rw [group_run k hk _ gb (by omega), Option.bind_some, app_ok (by simp; omega) (by simp; omega)]) k hk
  have L3 := fun (hs : List YT1) (ws : List YT2) => many_run (w := ([112, 104, 97, 115, 101] : List Int)) (most := 16) adv_phase (fun j x o => (fr05r_node k).L 8 [] j (fr05r_node_s8 (x.1, x.2.1, x.2.2, [], 0, n.1, ps, hs, ws, o)))
    (fun y o => (fr05r_node k).L 14 [] k (fr05r_node_s14 (y.1, y.2.1, y.2.2, [], 0, n.1, ps, hs, ws, o, [])))
    (fun j x o g hm => by
      have hb := adv_begins ([112, 104, 97, 115, 101] : List Int) ((o.length : Nat) : Int) 16 x
      have gb := hb.g g
      have lb := hb.l
      rw [fr05r_node_el8, fr05r_node_tl8, begins_run k x g, Option.bind_some]
      generalize beginsR ([112, 104, 97, 115, 101] : List Int) ((o.length : Nat) : Int) 16 x = y at *
      simp only
      cases y.1
      · simp only [cond_false]
      · have a1 := (adv_name y.2)
        have a2 := (adv_want ([58] : List Int) (nameR y.2).2)
        have la := a1.l
        have lw := a2.l
        simp only [cond_true]
        rw [idx_hd gb.ne, name_run k (by omega) _ gb, Option.bind_some, want_run k _ (a1.g gb), Option.bind_some, names_run k (by omega) 16 _ (a2.g (a1.g gb)) (by omega) (by omega), Option.bind_some, app_ok (by simp; omega) (by simp; omega)]
        rfl) k hk
  have L2 := fun (hs : List YT1) => many_run (w := ([119, 97, 108, 107] : List Int)) (most := 8) adv_walk (fun j x o => (fr05r_node k).L 6 [] j (fr05r_node_s6 (x.1, x.2.1, x.2.2, [], 0, n.1, ps, hs, o)))
    (fun y o => (fr05r_node k).L 8 [] k (fr05r_node_s8 (y.1, y.2.1, y.2.2, [], 0, n.1, ps, hs, o, [])))
    (fun j x o g hm => by
      have hb := adv_begins ([119, 97, 108, 107] : List Int) ((o.length : Nat) : Int) 8 x
      have gb := hb.g g
      rw [fr05r_node_el6, fr05r_node_tl6, begins_run k x g, Option.bind_some]
      generalize beginsR ([119, 97, 108, 107] : List Int) ((o.length : Nat) : Int) 8 x = y at *
      simp only
      cases y.1
      · simp only [cond_false]
      · simp only [cond_true]
        rw [walk_run k hk _ gb, Option.bind_some, app_ok (by simp; omega) (by simp; omega)]) k hk
  have L1 := many_run (w := ([104, 101, 97, 100] : List Int)) (most := 16) adv_head (fun j x o => (fr05r_node k).L 4 [] j (fr05r_node_s4 (x.1, x.2.1, x.2.2, [], 0, n.1, ps, o)))
    (fun y o => (fr05r_node k).L 6 [] k (fr05r_node_s6 (y.1, y.2.1, y.2.2, [], 0, n.1, ps, o, [])))
    (fun j x o g hm => by
      have hb := adv_begins ([104, 101, 97, 100] : List Int) ((o.length : Nat) : Int) 16 x
      have gb := hb.g g
      rw [fr05r_node_el4, fr05r_node_tl4, begins_run k x g, Option.bind_some]
      generalize beginsR ([104, 101, 97, 100] : List Int) ((o.length : Nat) : Int) 16 x = y at *
      simp only
      cases y.1
      · simp only [cond_false]
      · simp only [cond_true]
        rw [head_run k hk _ gb, Option.bind_some, app_ok (by simp; omega) (by simp; omega)]) k hk
  have b1 := adv_many (w := ([104, 101, 97, 100] : List Int)) (most := 16) adv_head q
  have b2 := adv_many (w := ([119, 97, 108, 107] : List Int)) (most := 8) adv_walk (manyR ([104, 101, 97, 100] : List Int) 16 headR q).2
  have b3 := adv_many (w := ([112, 104, 97, 115, 101] : List Int)) (most := 16) adv_phase (manyR ([119, 97, 108, 107] : List Int) 8 walkR (manyR ([104, 101, 97, 100] : List Int) 16 headR q).2).2
  have b4 := adv_many (w := ([103, 114, 111, 117, 112] : List Int)) (most := 4) adv_group (manyR ([112, 104, 97, 115, 101] : List Int) 16 phaseR (manyR ([119, 97, 108, 107] : List Int) 8 walkR (manyR ([104, 101, 97, 100] : List Int) 16 headR q).2).2).2
  have c1 := b1.l
  have c2 := b2.l
  have c3 := b3.l
  have c4 := b4.l
  have d1 := b1.g g2
  have d2 := b2.g d1
  have d3 := b3.g d2
  have d4 := b4.g d3
  have E1 := L1 q g2 (by omega)
  have E2 := L2 (manyR ([104, 101, 97, 100] : List Int) 16 headR q).1 _ d1 (by omega)
  have E3 := L3 (manyR ([104, 101, 97, 100] : List Int) 16 headR q).1 (manyR ([119, 97, 108, 107] : List Int) 8 walkR (manyR ([104, 101, 97, 100] : List Int) 16 headR q).2).1 _ d2 (by omega)
  have E4 := L4 (manyR ([104, 101, 97, 100] : List Int) 16 headR q).1 (manyR ([119, 97, 108, 107] : List Int) 8 walkR (manyR ([104, 101, 97, 100] : List Int) 16 headR q).2).1 (manyR ([112, 104, 97, 115, 101] : List Int) 16 phaseR (manyR ([119, 97, 108, 107] : List Int) 8 walkR (manyR ([104, 101, 97, 100] : List Int) 16 headR q).2).2).1 _ d3 (by omega)
  have E5 := L5 (manyR ([104, 101, 97, 100] : List Int) 16 headR q).1 (manyR ([119, 97, 108, 107] : List Int) 8 walkR (manyR ([104, 101, 97, 100] : List Int) 16 headR q).2).1 (manyR ([112, 104, 97, 115, 101] : List Int) 16 phaseR (manyR ([119, 97, 108, 107] : List Int) 8 walkR (manyR ([104, 101, 97, 100] : List Int) 16 headR q).2).2).1 (manyR ([103, 114, 111, 117, 112] : List Int) 4 groupR (manyR ([112, 104, 97, 115, 101] : List Int) 16 phaseR (manyR ([119, 97, 108, 107] : List Int) 8 walkR (manyR ([104, 101, 97, 100] : List Int) 16 headR q).2).2).2).1 _ d4 (by omega)
  exact E1.trans (E2.trans (E3.trans (E4.trans E5)))
theorem artery_run (x : RS) (g : EndT x.1) (hl : x.1.length ≤ 100000) : cr05r_artery k (x.1, x.2.1, x.2.2) =
    some ((arteryR x).1.2.1, (arteryR x).1.2.2, (arteryR x).2.1, (arteryR x).2.2.1, (arteryR x).2.2.2, (arteryR x).1.1) := by
  have g1 := (adv_want ([123] : List Int) x).g g
  have l1 := (adv_want ([123] : List Int) x).l
  have L := many_run (w := ([115, 116, 111, 112] : List Int)) (most := 12) adv_stop (fun j x o => (fr05r_artery k).L 3 [] j (fr05r_artery_s3 (x.1, x.2.1, x.2.2, o)))
    (fun y o => some ((numR ([119, 101, 105, 103, 104, 116, 115] : List Int) y).1, (numR [] (numR ([119, 101, 105, 103, 104, 116, 115] : List Int) y).2).1, (wantR ([125] : List Int) (wantR ([59] : List Int) (numR [] (numR ([119, 101, 105, 103, 104, 116, 115] : List Int) y).2).2)).1, (wantR ([125] : List Int) (wantR ([59] : List Int) (numR [] (numR ([119, 101, 105, 103, 104, 116, 115] : List Int) y).2).2)).2.1, (wantR ([125] : List Int) (wantR ([59] : List Int) (numR [] (numR ([119, 101, 105, 103, 104, 116, 115] : List Int) y).2).2)).2.2, o))
    (fun j x o g hm => by
      have hb := adv_begins ([115, 116, 111, 112] : List Int) ((o.length : Nat) : Int) 12 x
      have gb := hb.g g
      rw [fr05r_artery_el3, fr05r_artery_tl3, begins_run k x g, Option.bind_some]
      generalize beginsR ([115, 116, 111, 112] : List Int) ((o.length : Nat) : Int) 12 x = y at *
      simp only
      cases y.1
      · have h1 := (adv_num ([119, 101, 105, 103, 104, 116, 115] : List Int) y.2).g gb
        have h2 := (adv_num [] _).g h1
        have h3 := (adv_want ([59] : List Int) _).g h2
        simp only [cond_false]
        rw [num_run k y.2 gb, Option.bind_some, num_run k _ h1, Option.bind_some, want_run k _ h2, Option.bind_some, want_run k _ h3, Option.bind_some]
      · have h1 := (adv_name y.2).g gb
        have h2 := (adv_want ([111, 117, 116] : List Int) _).g h1
        have h3 := (adv_name _).g h2
        have h4 := (adv_want ([105, 110] : List Int) _).g h3
        have h5 := (adv_name _).g h4
        have h6 := (adv_num ([97, 104, 101, 97, 100] : List Int) _).g h5
        have h7 := (adv_num ([98, 97, 99, 107] : List Int) _).g h6
        simp only [cond_true]
        rw [idx_hd gb.ne, name_run k (by omega) _ gb, Option.bind_some, want_run k _ h1, Option.bind_some, name_run k (by omega) _ h2, Option.bind_some, want_run k _ h3, Option.bind_some, name_run k (by omega) _ h4, Option.bind_some, num_run k _ h5, Option.bind_some, num_run k _ h6, Option.bind_some, want_run k _ h7, Option.bind_some, app_ok (by simp; omega) (by simp; omega)]
        rfl) k hk
  rw [fr05r_artery_e, fr05r_artery_t, want_run k x g, Option.bind_some]
  exact L (wantR ([123] : List Int) x) g1 (by omega)
theorem parse_some (b : List Int) (hb : b.length < 100000) : cr05Parse k b =
    some ((parseR b).1.1, (parseR b).1.2.1, (parseR b).1.2.2.1, (parseR b).1.2.2.2.1, (parseR b).1.2.2.2.2.1, (parseR b).1.2.2.2.2.2.2.2.1, (parseR b).1.2.2.2.2.2.2.2.2, (parseR b).2.1, (parseR b).2.2, (parseR b).1.2.2.2.2.2.1, (parseR b).1.2.2.2.2.2.2.1) := by
  rw [fr05Parse_e, fr05Parse_t, rtokens_some k b (by omega) (by omega), Option.bind_some]
  unfold parseR
  by_cases h0 : (toks b).1 = 0
  · obtain ⟨g, hl⟩ := toks_end h0
    rw [show ((toks b).1 != 0) = false by simpa using h0]
    simp only [cond_false]
    generalize (toks b).2.2 = l at *
    have g : EndT (l, (0 : Int), (0 : Int)).1 := g
    have hl : (l, (0 : Int), (0 : Int)).1.length ≤ b.length + 1 := hl
    have N0 := num_run0 k (l, (0 : Int), (0 : Int)) g ([99, 121, 99, 108, 101] : List Int)
    simp only at N0
    rw [N0, Option.bind_some]
    clear N0
    generalize (l, (0 : Int), (0 : Int)) = x at *
    have b1 := adv_num ([99, 121, 99, 108, 101] : List Int) x
    have b2 := b1.trans (adv_num ([116, 111] : List Int) _)
    have b3 := b2.trans (adv_num ([98, 121] : List Int) _)
    have b4 := b3.trans (adv_want ([59] : List Int) _)
    have b5 := b4.trans (adv_frac ([112, 101, 97, 107] : List Int) _)
    have b6 := b5.trans (adv_want ([59] : List Int) _)
    rw [num_run k _ (b1.g g), Option.bind_some, num_run k _ (b2.g g), Option.bind_some, want_run k _ (b3.g g), Option.bind_some, frac_run k _ (b4.g g), Option.bind_some, want_run k _ (b5.g g), Option.bind_some]
    have g6 := b6.g g
    have l6 := b6.l
    unfold netR
    simp only
    clear b1 b2 b3 b4 b5 b6
    generalize numR ([99, 121, 99, 108, 101] : List Int) x = r1 at *
    generalize numR ([116, 111] : List Int) r1.2 = r2 at *
    generalize numR ([98, 121] : List Int) r2.2 = r3 at *
    generalize fracR ([112, 101, 97, 107] : List Int) (wantR ([59] : List Int) r3.2) = r4 at *
    generalize wantR ([59] : List Int) r4.2 = q at *
    have L := many_run (w := ([110, 111, 100, 101] : List Int)) (most := 12) adv_node (fun j x o => (fr05Parse k).L 12 [] j (fr05Parse_s12 (0, 0, 0, 0, 0, 0, 0, x.1, x.2.1, x.2.2, r1.1, r2.1, r3.1, r4.1.1, r4.1.2, 0, 0, o)))
      (fun y o =>
        let t := bif seesR ([97, 114, 116, 101, 114, 121] : List Int) y then arteryR (nextR y) else (([], 0, 0), y)
        let z := bif (hd t.2.1).1 != 0 then failR 50 t.2 else t.2
        bif z.2.1 != 0 then some (0, 0, 0, 0, 0, 0, 0, z.2.1, z.2.2, [], []) else some (r1.1, r2.1, r3.1, r4.1.1, r4.1.2, t.1.2.1, t.1.2.2, 0, 0, o, t.1.1))
      (fun j x o g hm => by
        have hb := adv_begins ([110, 111, 100, 101] : List Int) ((o.length : Nat) : Int) 12 x
        have gb := hb.g g
        have lb := hb.l
        rw [fr05Parse_el12, fr05Parse_tl12, begins_run k x g, Option.bind_some]
        generalize beginsR ([110, 111, 100, 101] : List Int) ((o.length : Nat) : Int) 12 x = y at *
        simp only
        cases y.1
        · simp only [cond_false]
          rw [is_run k y.2 gb, Option.bind_some, next_run k y.2 gb, Option.bind_some]
          have J20 : ∀ (w : RS) (a b : Int) (st : List YT7), EndT w.1 → (fr05Parse k).J 20 [] (fr05Parse_s20 (0, 0, 0, 0, 0, 0, 0, w.1, w.2.1, w.2.2, r1.1, r2.1, r3.1, r4.1.1, r4.1.2, a, b, o, st)) =
              bif (bif (hd w.1).1 != 0 then failR 50 w else w).2.1 != 0 then some (0, 0, 0, 0, 0, 0, 0, (bif (hd w.1).1 != 0 then failR 50 w else w).2.1, (bif (hd w.1).1 != 0 then failR 50 w else w).2.2, [], []) else some (r1.1, r2.1, r3.1, r4.1.1, r4.1.2, a, b, 0, 0, o, st) := by
            intro w a b st gw
            rw [fr05Parse_ej20, fr05Parse_tj20, idx_hd gw.ne, fail_run k w gw, Option.bind_some]
            cases (hd w.1).1 != 0
            · simp only [cond_false]
              rw [fr05Parse_ej22, fr05Parse_tj22]
            · simp only [cond_true]
              rw [fr05Parse_ej22, fr05Parse_tj22]
          cases seesR ([97, 114, 116, 101, 114, 121] : List Int) y.2
          · simp only [cond_false]
            exact J20 y.2 0 0 [] gb
          · have hn := adv_next y.2
            have ln := hn.l
            simp only [cond_true]
            rw [artery_run k hk _ (hn.g gb) (by omega), Option.bind_some]
            exact J20 (arteryR (nextR y.2)).2 _ _ _ ((adv_artery _).g (hn.g gb))
        · simp only [cond_true]
          rw [node_run k hk _ gb (by omega), Option.bind_some, app_ok (by simp; omega) (by simp; omega)]) k hk
    have E := L q g6 (by omega)
    simp only at E
    refine E.trans ?_
    generalize manyR ([110, 111, 100, 101] : List Int) 12 nodeR q = m
    generalize (bif seesR ([97, 114, 116, 101, 114, 121] : List Int) m.2 then arteryR (nextR m.2) else (([], 0, 0), m.2)) = t
    generalize (bif (hd t.2.1).1 != 0 then failR 50 t.2 else t.2) = z
    cases z.2.1 != 0 <;> rfl
  · rw [show ((toks b).1 != 0) = true by simpa using h0]
    rfl
end
end Go.Proofs.YtipcabmhdokfjaaGreatDoorV

/-! show: the example of the chapter; ShowNets, the plain law. -/
set_option linter.unusedVariables false
set_option linter.unusedSimpArgs false
namespace Go.Proofs.YtipcabmhdokfjaaGreatDoorV
open Go Go.RowKit

def sampleT : List Int := ([99, 121, 99, 108, 101, 32, 54, 48, 48, 32, 116, 111, 32, 57, 48, 48, 32, 98, 121, 32, 49, 48, 59, 10, 112, 101, 97, 107, 32, 49, 47, 49, 59, 10, 110, 111, 100, 101, 32, 97, 32, 123, 10, 32, 32, 104, 101, 97, 100, 32, 110, 32, 118, 111, 108, 117, 109, 101, 32, 52, 48, 48, 32, 102, 108, 111, 119, 32, 49, 56, 48, 48, 32, 117, 115, 101, 32, 49, 47, 49, 32, 115, 112, 101, 101, 100, 32, 49, 53, 48, 48, 32, 103, 114, 97, 100, 101, 32, 45, 50, 48, 32, 119, 105, 100, 116, 104, 32, 49, 56, 48, 48, 32, 108, 101, 110, 103, 116, 104, 32, 54, 48, 48, 32, 103, 114, 101, 101, 110, 32, 55, 48, 59, 10, 32, 32, 119, 97, 108, 107, 32, 119, 32, 119, 105, 116, 104, 32, 112, 32, 108, 111, 110, 103, 32, 49, 53, 48, 48, 32, 112, 97, 99, 101, 32, 49, 50, 48, 32, 108, 101, 97, 115, 116, 32, 55, 48, 59, 10, 32, 32, 112, 104, 97, 115, 101, 32, 112, 58, 32, 110, 44, 32, 101, 59, 10, 32, 32, 103, 114, 111, 117, 112, 32, 123, 10, 32, 32, 32, 32, 114, 105, 110, 103, 32, 102, 114, 101, 101, 32, 112, 44, 32, 113, 59, 10, 32, 32, 125, 10, 32, 32, 102, 111, 101, 32, 110, 32, 101, 59, 10, 125, 10, 97, 114, 116, 101, 114, 121, 32, 123, 10, 32, 32, 115, 116, 111, 112, 32, 97, 32, 111, 117, 116, 32, 110, 32, 105, 110, 32, 101, 32, 97, 104, 101, 97, 100, 32, 48, 32, 98, 97, 99, 107, 32, 48, 59, 10, 32, 32, 119, 101, 105, 103, 104, 116, 115, 32, 50, 32, 49, 59, 10, 125, 10] : List Int)
theorem sample_some (k : Nat) (u : Unit) : cw06sample k u = some sampleT := by
  rw [fw06sample_e]
  rfl
def shB (s : List Int) : Bool := decide (s.length ≤ 100)
def nodeSB (n : YT6) : Bool := shB n.1 && (decide (n.2.1.length ≤ 50) && (n.2.1.all (fun h => shB h.1) && (decide (n.2.2.1.length ≤ 50) && (n.2.2.1.all (fun p => shB p.1 && shB p.2.1) && (decide (n.2.2.2.1.length ≤ 50) &&
  (n.2.2.2.1.all (fun x => shB x.1 && (decide (x.2.1.length ≤ 50) && x.2.1.all shB)) && (decide (n.2.2.2.2.1.length ≤ 50) && (n.2.2.2.2.1.all (fun g => decide (g.1.length ≤ 5) && g.1.all (fun r => decide (r.2.1.length ≤ 50) && r.2.1.all shB)) &&
    (decide (n.2.2.2.2.2.1.length ≤ 80) && n.2.2.2.2.2.1.all (fun f => shB f.1 && shB f.2.1))))))))))
theorem nodeS_of {n : YT6} (h : nodeSB n = true) : NodeS n := by
  unfold nodeSB shB at h
  simp only [Bool.and_eq_true, List.all_eq_true, decide_eq_true_eq] at h
  obtain ⟨h0, h1, h2, h3, h4, h5, h6, h7, h8, h9, h10⟩ := h
  exact ⟨h0, h1, fun _ => h2, h3, h4, h5, fun x hx => ⟨(h6 x hx).1, (h6 x hx).2.1, fun _ => (h6 x hx).2.2⟩, h7, fun g hg => ⟨(h8 g hg).1, fun r hr => ⟨((h8 g hg).2 r hr).1, fun _ => ((h8 g hg).2 r hr).2⟩⟩, h9, h10⟩
def netSB (n : NetT) : Bool := decide (n.2.2.2.2.2.1.length ≤ 15) && (n.2.2.2.2.2.1.all nodeSB && (decide (n.2.2.2.2.2.2.1.length ≤ 15) && n.2.2.2.2.2.2.1.all (fun s => shB s.1 && (shB s.2.1 && shB s.2.2.1))))
theorem netS_of {n : NetT} (h : netSB n = true) : NetS n := by
  unfold netSB shB at h
  simp only [Bool.and_eq_true, List.all_eq_true, decide_eq_true_eq] at h
  exact ⟨h.1, fun x hx => nodeS_of (h.2.1 x hx), h.2.2.1, h.2.2.2⟩
def awChk : Bool := (parseR sampleT).2.1 == 0 && (netSB (parseR sampleT).1 && (netB (parseR sampleT).1 && netT (parseR sampleT).1 == sampleT))
set_option maxRecDepth 100000 in
theorem awChk_true : awChk = true := by kernel_rfl
theorem noNet_S (a : Int) : NetS (a, 0, 0, 0, 0, [], [], 0, 0) := ⟨by simp, by simp, by simp, by simp⟩
theorem awake_some (k : Nat) (hk : 200000 ≤ k) : cw06awake k () = some true := by
  have h := awChk_true
  unfold awChk at h
  simp only [Bool.and_eq_true, beq_iff_eq] at h
  obtain ⟨h1, h2, h3, h4⟩ := h
  have hS := netS_of h2
  have s1 := show_some k (by omega) _ hS h3
  have s2 := right_net k (by omega) _ hS
  rw [h4] at s1
  rw [h3] at s2
  have s3 := right_net k (by omega) _ (noNet_S (-1))
  have e3 : netB (-1, 0, 0, 0, 0, [], [], 0, 0) = false := rfl
  rw [e3] at s3
  rw [fw06awake_e, fw06awake_t, sample_some, Option.bind_some, parse_some k hk sampleT (of_decide_eq_true (by kernel_rfl)), Option.bind_some]
  simp only
  generalize parseR sampleT = o at *
  rw [s1, s2, s3, h1]
  simp only [Option.bind_some, beq_self_eq_true, cond_true, Bool.not_false]
theorem showNets_pure (n : NetT) : ∃ k, cw06ShowNets k n = some true := by
  obtain ⟨k, hk⟩ : ∃ k : Nat, k = 200000 := ⟨_, rfl⟩
  refine ⟨k, ?_⟩
  have hk : 200000 ≤ k := by omega
  obtain ⟨b, e, hb⟩ := few_gives k (by omega) n
  have r1 := fun h => right_net k (by omega) n (hb h)
  have r2 := fun h => rright_net k (by omega) n (hb h)
  have s1 := fun h => show_some k (by omega) n (hb h)
  have s2 := fun h => rshow_some k (by omega) n (hb h)
  have n1 : b = true → netB n = false → cshowShow k n = some ([], 1) := by
    intro h h2
    rw [fshowShow_e]
    have := r1 h
    obtain ⟨a0, a1, a2, a3, a4, a5, a6, a7, a8⟩ := n
    rw [fshowShow_t, this, h2]
    rfl
  have n2 : b = true → netB n = false → cr06Show k n = some ([], 1) := by
    intro h h2
    rw [fr06Show_e]
    have := r2 h
    obtain ⟨a0, a1, a2, a3, a4, a5, a6, a7, a8⟩ := n
    rw [fr06Show_t, this, h2]
    rfl
  rw [fw06ShowNets_e]
  obtain ⟨a0, a1, a2, a3, a4, a5, a6, a7, a8⟩ := n
  rw [fw06ShowNets_t, e, Option.bind_some]
  cases b with
  | false => rfl
  | true =>
    simp only [Bool.not_true, cond_false]
    rw [r1 rfl, r2 rfl, awake_some k hk]
    cases hB : netB (a0, a1, a2, a3, a4, a5, a6, a7, a8)
    · rw [n1 rfl hB, n2 rfl hB]
      rfl
    · rw [s1 rfl hB, s2 rfl hB]
      simp only [Option.bind_some, beq_self_eq_true, cond_true]
end Go.Proofs.YtipcabmhdokfjaaGreatDoorV

/-! show: the text's tokens. -/
set_option linter.unusedVariables false
set_option linter.unusedSimpArgs false
namespace Go.Proofs.YtipcabmhdokfjaaGreatDoorV
open Go Go.RowKit

/-- A token without its place. -/
abbrev T3 := Int × List Int × Int
def strip (t : Tk) : T3 := (t.1, t.2.1, t.2.2.1)
/-- Bytes that are read as these tokens. -/
def Lexes (s : List Int) (A : List T3) : Prop := ∀ n f, s.length < f → (lx n f s).1 = 0 ∧ (lx n f s).2.2.map strip = A
theorem lexes_nil : Lexes [] [(0, [], 0)] := by
  intro n f hf
  obtain ⟨f, rfl⟩ : ∃ g, f = g + 1 := ⟨f - 1, by simp at hf; omega⟩
  rw [lx]
  exact ⟨rfl, rfl⟩
theorem lexes_blank {c : Int} {s : List Int} {A : List T3} (hc : isBlank c = true) (h : Lexes s A) : Lexes (c :: s) A := by
  intro n f hf
  obtain ⟨g, rfl⟩ : ∃ g, f = g + 1 := ⟨f - 1, by simp at hf; omega⟩
  rw [List.length_cons] at hf
  have hd : drp false (c :: s) = drp false s := by
    rw [drp]
    have h35 : c ≠ 35 := by
      intro e
      rw [e] at hc
      simp [isBlank] at hc
    rw [if_neg h35, if_pos hc]
  have := h n (g + 1) (by omega)
  rw [lx] at this ⊢
  rw [hd]
  exact this
/-- A token ahead. -/
theorem lexes_tok {x : Int} {r s : List Int} {kd v : Int} {tx : List Int} {A : List T3} (h1 : drp false (x :: r) = x :: r) (h2 : tok1 (x :: r) = (0, kd, tx, v, s)) (h : Lexes s A) : Lexes (x :: r) ((kd, tx, v) :: A) := by
  intro n f hf
  obtain ⟨g, rfl⟩ : ∃ g, f = g + 1 := ⟨f - 1, by simp at hf; omega⟩
  have hr := tok1_rest (x := x) (r := r) (by rw [h2])
  rw [h2] at hr
  simp only [] at hr
  rw [List.length_cons] at hf
  have hs := h n g (by omega)
  rw [lx, h1]
  simp only []
  rw [h2]
  simp only [if_true]
  rw [if_pos hs.1]
  refine ⟨rfl, ?_⟩
  rw [List.map_cons, hs.2]
  rfl
theorem lexes_sign {c : Int} {s : List Int} {A : List T3} (hc : isSign c = true) (h : Lexes s A) : Lexes (c :: s) ((3, [c], 0) :: A) := by
  have e1 : isSmall c = false ∧ isDig c = false ∧ isBlank c = false ∧ c ≠ 35 := by
    unfold isSign at hc
    simp only [decide_eq_true_eq] at hc
    unfold isSmall isDig isBlank
    simp
    omega
  refine lexes_tok ?_ ?_ h
  · rw [drp, if_neg e1.2.2.2, e1.2.2.1]; rfl
  · rw [tok1, e1.1, e1.2.1, hc]; rfl
/-- The next byte is no part of a word. -/
def Cuts : List Int → Prop
  | [] => True
  | c :: _ => isWord c = false
theorem tw_all {p : Int → Bool} : ∀ {l : List Int}, (∀ x ∈ l, p x = true) → ∀ {s : List Int}, (∀ c r, s = c :: r → p c = false) → (l ++ s).takeWhile p = l ∧ (l ++ s).dropWhile p = s
  | [], _, [], _ => ⟨rfl, rfl⟩
  | [], _, c :: s, hs => by
    have := hs c s rfl
    simp [List.takeWhile_cons, List.dropWhile_cons, this]
  | x :: l, hl, s, hs => by
    have IH := tw_all (fun y hy => hl y (List.mem_cons_of_mem _ hy)) hs
    have := hl x (by simp)
    simp [List.takeWhile_cons, List.dropWhile_cons, this, IH.1, IH.2]
theorem lexes_name {w s : List Int} {A : List T3} (hw : nameB w = true) (hs : Cuts s) (h : Lexes s A) : Lexes (w ++ s) ((1, w, 0) :: A) := by
  obtain ⟨-, hl, hne, hall, c, r, rfl, hc⟩ := name_spec hw
  have hcut : ∀ d q, s = d :: q → isWord d = false := by rintro d q rfl; exact hs
  obtain ⟨t1, t2⟩ := tw_all hall hcut
  have e : c ≠ 35 ∧ isBlank c = false := by
    unfold isSmall at hc
    unfold isBlank
    simp at hc ⊢
    omega
  refine lexes_tok (x := c) (r := r ++ s) ?_ ?_ h
  · rw [drp, if_neg e.1, e.2]; rfl
  · rw [List.cons_append] at t1 t2
    rw [tok1, hc, if_pos rfl, t1, t2, if_neg (by omega)]
theorem lexes_num {d s : List Int} {A : List T3} (hd : ∀ x ∈ d, isDig x = true) (hne : d ≠ []) (hl : d.length ≤ 18) (hs : Cuts s) (h : Lexes s A) : Lexes (d ++ s) ((2, d, valD d) :: A) := by
  cases d with
  | nil => exact absurd rfl hne
  | cons c r =>
    have hcut : ∀ e q, s = e :: q → isDig e = false := by rintro e q rfl; exact word_dig hs
    obtain ⟨t1, t2⟩ := tw_all hd hcut
    have hc := hd c (by simp)
    have e : c ≠ 35 ∧ isBlank c = false ∧ isSmall c = false := by
      unfold isDig at hc
      unfold isBlank isSmall
      simp at hc ⊢
      omega
    refine lexes_tok (x := c) (r := r ++ s) ?_ ?_ h
    · rw [drp, if_neg e.1, e.2.1]; rfl
    · rw [List.cons_append] at t1 t2
      rw [tok1, e.2.2, hc]
      simp only [Bool.false_eq_true, if_false, if_true]
      rw [t1, t2, if_neg (by omega)]
theorem valD_app (l : List Int) (c : Int) : valD (l ++ [c]) = 10 * valD l + (c - 48) := by
  unfold valD
  rw [List.foldl_append]
  rfl
theorem valD_digN : ∀ (f n : Nat), n < 10 ^ f → 1 ≤ f → valD (digN f n) = n
  | 0, n, _, h => by omega
  | f + 1, n, h, _ => by
    rw [digN]
    by_cases h10 : n < 10
    · rw [if_pos h10]
      simp [valD]
      omega
    · rw [if_neg h10, valD_app, valD_digN f (n / 10) (by rw [Nat.pow_succ] at h; omega) (by
        rcases f with _ | f
        · simp at h; omega
        · omega)]
      omega
/-- The tokens of a number. -/
def numK (n : Int) : List T3 := bif decide (n < 0) then [(3, ([45] : List Int), 0), (2, digN 18 n.natAbs, -n)] else [(2, digN 18 n.natAbs, n)]
theorem lexes_numT {n : Int} (hn : inM n) {s : List Int} {A : List T3} (hs : Cuts s) (h : Lexes s A) : Lexes (numT n ++ s) (numK n ++ A) := by
  unfold inM at hn
  have L := lexes_num (d := digN 18 n.natAbs) (digN_dig _ _) (digN_ne 17 _) (digN_len _ _) hs h
  rw [valD_digN 18 _ (by omega) (by omega)] at L
  unfold numT numK
  by_cases h0 : n < 0
  · rw [if_pos h0, show decide (n < 0) = true by simpa using h0]
    have e : ((n.natAbs : Nat) : Int) = -n := by omega
    rw [e] at L
    exact lexes_sign (by decide) L
  · rw [if_neg h0, show decide (n < 0) = false by simpa using h0]
    have e : ((n.natAbs : Nat) : Int) = n := by omega
    rw [e] at L
    exact L
end Go.Proofs.YtipcabmhdokfjaaGreatDoorV

/-! show: the tokens of a network's text. -/
set_option linter.unusedVariables false
set_option linter.unusedSimpArgs false
namespace Go.Proofs.YtipcabmhdokfjaaGreatDoorV
open Go Go.RowKit

def wd (s : List Int) : T3 := (1, s, 0)
def sg (s : List Int) : T3 := (3, s, 0)
def fracK (a b : Int) : List T3 := numK a ++ (sg ([47] : List Int) :: numK b)
def listK : List (List Int) → List T3
  | [] => []
  | [x] => [wd x]
  | x :: y :: r => wd x :: sg ([44] : List Int) :: listK (y :: r)
def headK (h : YT1) : List T3 :=
  wd ([104, 101, 97, 100] : List Int) :: wd h.1 :: wd ([118, 111, 108, 117, 109, 101] : List Int) :: (numK h.2.1 ++ (wd ([102, 108, 111, 119] : List Int) :: (numK h.2.2.1 ++ (wd ([117, 115, 101] : List Int) :: (fracK h.2.2.2.1.1 h.2.2.2.1.2.1 ++ (wd ([115, 112, 101, 101, 100] : List Int) :: (numK h.2.2.2.2.1 ++ (wd ([103, 114, 97, 100, 101] : List Int) :: (numK h.2.2.2.2.2.1 ++
    (wd ([119, 105, 100, 116, 104] : List Int) :: (numK h.2.2.2.2.2.2.1 ++ (wd ([108, 101, 110, 103, 116, 104] : List Int) :: (numK h.2.2.2.2.2.2.2.1 ++ (wd ([103, 114, 101, 101, 110] : List Int) :: (numK h.2.2.2.2.2.2.2.2.1 ++ [sg ([59] : List Int)])))))))))))))))
def pedK (p : YT2) : List T3 := wd ([119, 97, 108, 107] : List Int) :: wd p.1 :: wd ([119, 105, 116, 104] : List Int) :: wd p.2.1 :: wd ([108, 111, 110, 103] : List Int) :: (numK p.2.2.1 ++ (wd ([112, 97, 99, 101] : List Int) :: (numK p.2.2.2.1 ++ (wd ([108, 101, 97, 115, 116] : List Int) :: (numK p.2.2.2.2.1 ++ [sg ([59] : List Int)])))))
def phaseK (x : YT3) : List T3 := wd ([112, 104, 97, 115, 101] : List Int) :: wd x.1 :: sg ([58] : List Int) :: (listK x.2.1 ++ [sg ([59] : List Int)])
def ringK (r : YT4) : List T3 := wd ([114, 105, 110, 103] : List Int) :: ((bif r.1 then [wd ([102, 114, 101, 101] : List Int)] else []) ++ (listK r.2.1 ++ [sg ([59] : List Int)]))
def groupK (g : List YT4 × Unit) : List T3 := wd ([103, 114, 111, 117, 112] : List Int) :: sg ([123] : List Int) :: (g.1.flatMap ringK ++ [sg ([125] : List Int)])
def foeK (f : YT5) : List T3 := [wd ([102, 111, 101] : List Int), wd f.1, wd f.2.1, sg ([59] : List Int)]
def nodeK (n : YT6) : List T3 := wd ([110, 111, 100, 101] : List Int) :: wd n.1 :: sg ([123] : List Int) :: (n.2.1.flatMap headK ++ (n.2.2.1.flatMap pedK ++ (n.2.2.2.1.flatMap phaseK ++ (n.2.2.2.2.1.flatMap groupK ++ (n.2.2.2.2.2.1.flatMap foeK ++ [sg ([125] : List Int)])))))
def stopK (s : YT7) : List T3 := wd ([115, 116, 111, 112] : List Int) :: wd s.1 :: wd ([111, 117, 116] : List Int) :: wd s.2.1 :: wd ([105, 110] : List Int) :: wd s.2.2.1 :: wd ([97, 104, 101, 97, 100] : List Int) :: (numK s.2.2.2.1 ++ (wd ([98, 97, 99, 107] : List Int) :: (numK s.2.2.2.2.1 ++ [sg ([59] : List Int)])))
def artK (n : NetT) : List T3 := bif artB n then wd ([97, 114, 116, 101, 114, 121] : List Int) :: sg ([123] : List Int) :: (n.2.2.2.2.2.2.1.flatMap stopK ++ (wd ([119, 101, 105, 103, 104, 116, 115] : List Int) :: (numK n.2.2.2.2.2.2.2.1 ++ (numK n.2.2.2.2.2.2.2.2 ++ [sg ([59] : List Int), sg ([125] : List Int)])))) else []
def netK (n : NetT) : List T3 :=
  wd ([99, 121, 99, 108, 101] : List Int) :: (numK n.1 ++ (wd ([116, 111] : List Int) :: (numK n.2.1 ++ (wd ([98, 121] : List Int) :: (numK n.2.2.1 ++ (sg ([59] : List Int) :: wd ([112, 101, 97, 107] : List Int) :: (fracK n.2.2.2.1 n.2.2.2.2.1 ++ (sg ([59] : List Int) :: (n.2.2.2.2.2.1.flatMap nodeK ++ (artK n ++ [(0, [], 0)]))))))))))

/-- A word. -/
def wordB : List Int → Bool
  | [] => false
  | c :: r => isSmall c && (r.all isWord && decide (r.length < 24))
theorem lexes_word {w s : List Int} {A : List T3} (hw : wordB w = true) (hs : Cuts s) (h : Lexes s A) : Lexes (w ++ s) (wd w :: A) := by
  cases w with
  | nil => cases hw
  | cons c r =>
    unfold wordB at hw
    simp only [Bool.and_eq_true, List.all_eq_true, decide_eq_true_eq] at hw
    obtain ⟨hc, hr, hl⟩ := hw
    have hall : ∀ x ∈ c :: r, isWord x = true := by
      intro x hx
      rcases List.mem_cons.1 hx with rfl | hx
      · simp [isWord, hc]
      · exact hr x hx
    have hcut : ∀ d q, s = d :: q → isWord d = false := by rintro d q rfl; exact hs
    obtain ⟨t1, t2⟩ := tw_all hall hcut
    have e : c ≠ 35 ∧ isBlank c = false := by
      unfold isSmall at hc
      unfold isBlank
      simp at hc ⊢
      omega
    refine lexes_tok (x := c) (r := r ++ s) ?_ ?_ h
    · rw [drp, if_neg e.1, e.2]; rfl
    · rw [List.cons_append] at t1 t2
      rw [tok1, hc, if_pos rfl, t1, t2, if_neg (by rw [List.length_cons]; omega)]
/-- A word of the grammar between blanks. -/
theorem kw (w : List Int) (hw : wordB w = true) {s : List Int} {A : List T3} (h : Lexes s A) : Lexes (32 :: (w ++ 32 :: s)) (wd w :: A) :=
  lexes_blank (by decide) (lexes_word hw (show isWord 32 = false by decide) (lexes_blank (by decide) h))
theorem kw2 (w : List Int) (hw : wordB w = true) {s : List Int} {A : List T3} (h : Lexes s A) : Lexes (32 :: 32 :: (w ++ 32 :: s)) (wd w :: A) := lexes_blank (by decide) (kw w hw h)
theorem kw0 (w : List Int) (hw : wordB w = true) {s : List Int} {A : List T3} (h : Lexes s A) : Lexes (w ++ 32 :: s) (wd w :: A) := lexes_word hw (show isWord 32 = false by decide) (lexes_blank (by decide) h)
theorem semi {s : List Int} {A : List T3} (h : Lexes s A) : Lexes (59 :: 10 :: s) (sg ([59] : List Int) :: A) := lexes_sign (by decide) (lexes_blank (by decide) h)
theorem nm {w s : List Int} {A : List T3} (hw : nameB w = true) {c : Int} (hc : isWord c = false) (h : Lexes (c :: s) A) : Lexes (w ++ c :: s) (wd w :: A) := lexes_name hw hc h
theorem nu {n : Int} (hn : inM n) {c : Int} {s : List Int} {A : List T3} (hc : isWord c = false) (h : Lexes (c :: s) A) : Lexes (numT n ++ c :: s) (numK n ++ A) := lexes_numT hn hc h
theorem lexes_frac {a b : Int} (ha : inM a) (hb : inM b) {c : Int} {s : List Int} {A : List T3} (hc : isWord c = false) (h : Lexes (c :: s) A) : Lexes (fracT a b ++ c :: s) (fracK a b ++ A) := by
  unfold fracT fracK
  simp only [List.append_assoc, List.cons_append, List.nil_append]
  exact nu ha (by decide) (lexes_sign (by decide) (nu hb hc h))
theorem lexes_head {h : YT1} (hb : headB h = true) {s : List Int} {A : List T3} (hs : Lexes s A) : Lexes (headT h ++ s) (headK h ++ A) := by
  obtain ⟨q0, q1, q2, q3, q4, q5, q6, q7, q8, q9⟩ := head_spec hb
  unfold headT headP headK
  simp only [List.flatten_cons, List.flatten_nil, List.append_nil, List.append_assoc, List.cons_append, List.nil_append]
  exact kw2 ([104, 101, 97, 100] : List Int) (by decide) (nm q0 (by decide) (kw ([118, 111, 108, 117, 109, 101] : List Int) (by decide) (nu q1 (by decide) (kw ([102, 108, 111, 119] : List Int) (by decide) (nu q2 (by decide) (kw ([117, 115, 101] : List Int) (by decide) (lexes_frac q3 q4 (by decide) (kw ([115, 112, 101, 101, 100] : List Int) (by decide) (nu q5 (by decide) (kw ([103, 114, 97, 100, 101] : List Int) (by decide) (nu q6 (by decide)
    (kw ([119, 105, 100, 116, 104] : List Int) (by decide) (nu q7 (by decide) (kw ([108, 101, 110, 103, 116, 104] : List Int) (by decide) (nu q8 (by decide) (kw ([103, 114, 101, 101, 110] : List Int) (by decide) (nu q9 (by decide) (semi hs))))))))))))))))))
theorem lexes_ped {p : YT2} (hb : pedB p = true) {s : List Int} {A : List T3} (hs : Lexes s A) : Lexes (pedT p ++ s) (pedK p ++ A) := by
  obtain ⟨q0, q1, q2, q3, q4⟩ := ped_spec hb
  unfold pedT pedP pedK
  simp only [List.flatten_cons, List.flatten_nil, List.append_nil, List.append_assoc, List.cons_append, List.nil_append]
  exact kw2 ([119, 97, 108, 107] : List Int) (by decide) (nm q0 (by decide) (kw ([119, 105, 116, 104] : List Int) (by decide) (nm q1 (by decide) (kw ([108, 111, 110, 103] : List Int) (by decide) (nu q2 (by decide) (kw ([112, 97, 99, 101] : List Int) (by decide) (nu q3 (by decide) (kw ([108, 101, 97, 115, 116] : List Int) (by decide) (nu q4 (by decide) (semi hs))))))))))
end Go.Proofs.YtipcabmhdokfjaaGreatDoorV

/-! show: the tokens of a network's text, 2. -/
set_option linter.unusedVariables false
set_option linter.unusedSimpArgs false
namespace Go.Proofs.YtipcabmhdokfjaaGreatDoorV
open Go Go.RowKit

theorem lexes_list : ∀ (l : List (List Int)), l ≠ [] → (∀ w ∈ l, nameB w = true) → ∀ {c : Int} {s : List Int} {A : List T3}, isWord c = false → Lexes (c :: s) A → Lexes (listT l ++ c :: s) (listK l ++ A)
  | [], h, _, _, _, _, _, _ => absurd rfl h
  | [x], _, hw, c, s, A, hc, h => nm (hw x (by simp)) hc h
  | x :: y :: r, _, hw, c, s, A, hc, h => by
    have IH := lexes_list (y :: r) (by simp) (fun w hw2 => hw w (List.mem_cons_of_mem _ hw2)) hc h
    unfold listT at IH ⊢
    rw [joinI]
    simp only [List.append_assoc, List.cons_append, List.nil_append, listK]
    exact nm (hw x (by simp)) (by decide) (lexes_sign (by decide) (lexes_blank (by decide) IH))
theorem lexes_row {m : Nat} {l : List (List Int)} (hb : rowB m l = true) {s : List Int} {A : List T3} (hs : Lexes s A) : Lexes (listT l ++ 59 :: 10 :: s) (listK l ++ sg ([59] : List Int) :: A) := by
  obtain ⟨⟨h1, _⟩, h2⟩ := row_names hb
  exact lexes_list l (by rintro rfl; simp at h1) h2 (by decide) (semi hs)
theorem lexes_phase {x : YT3} (hb : phaseB x = true) {s : List Int} {A : List T3} (hs : Lexes s A) : Lexes (phaseT x ++ s) (phaseK x ++ A) := by
  unfold phaseB at hb
  simp only [Bool.and_eq_true] at hb
  unfold phaseT phaseP phaseK
  simp only [List.flatten_cons, List.flatten_nil, List.append_nil, List.append_assoc, List.cons_append, List.nil_append]
  exact kw2 ([112, 104, 97, 115, 101] : List Int) (by decide) (nm hb.1 (by decide) (lexes_sign (by decide) (lexes_blank (by decide) (lexes_row hb.2.1 hs))))
theorem lexes_ring {r : YT4} (hb : ringB r = true) {s : List Int} {A : List T3} (hs : Lexes s A) : Lexes (ringT r ++ s) (ringK r ++ A) := by
  unfold ringB at hb
  unfold ringT ringK
  cases r.1
  · simp only [cond_false, List.append_assoc, List.cons_append, List.nil_append]
    exact lexes_blank (by decide) (lexes_blank (by decide) (kw2 ([114, 105, 110, 103] : List Int) (by decide) (lexes_row hb hs)))
  · simp only [cond_true, List.append_assoc, List.cons_append, List.nil_append]
    exact lexes_blank (by decide) (lexes_blank (by decide) (kw2 ([114, 105, 110, 103] : List Int) (by decide) (kw0 ([102, 114, 101, 101] : List Int) (by decide) (lexes_row hb hs))))
theorem lexes_flat {α : Type} {f : α → List Int} {g : α → List T3} : ∀ {l : List α}, (∀ x ∈ l, ∀ {s A}, Lexes s A → Lexes (f x ++ s) (g x ++ A)) → ∀ {s A}, Lexes s A → Lexes (l.flatMap f ++ s) (l.flatMap g ++ A)
  | [], _, _, _, h => h
  | x :: r, hx, s, A, h => by
    rw [List.flatMap_cons, List.flatMap_cons, List.append_assoc, List.append_assoc]
    exact hx x (by simp) (lexes_flat (fun y hy => hx y (List.mem_cons_of_mem _ hy)) h)
theorem lexes_group {g : List YT4 × Unit} (hb : groupB g = true) {s : List Int} {A : List T3} (hs : Lexes s A) : Lexes (groupT g ++ s) (groupK g ++ A) := by
  unfold groupB at hb
  simp only [Bool.and_eq_true, Bool.not_eq_true', decide_eq_false_iff_not, List.all_eq_true] at hb
  unfold groupT groupK
  simp only [List.append_assoc, List.cons_append, List.nil_append]
  refine kw2 ([103, 114, 111, 117, 112] : List Int) (by decide) (lexes_sign (by decide) (lexes_blank (by decide) (lexes_flat (fun r hr => lexes_ring (hb.2.2 r hr)) ?_)))
  exact lexes_blank (by decide) (lexes_blank (by decide) (lexes_sign (by decide) (lexes_blank (by decide) hs)))
theorem lexes_foe {f : YT5} (hb : foeB f = true) {s : List Int} {A : List T3} (hs : Lexes s A) : Lexes (foeT f ++ s) (foeK f ++ A) := by
  unfold foeB at hb
  simp only [Bool.and_eq_true] at hb
  unfold foeT foeP foeK
  simp only [List.flatten_cons, List.flatten_nil, List.append_nil, List.append_assoc, List.cons_append, List.nil_append]
  exact kw2 ([102, 111, 101] : List Int) (by decide) (nm hb.1 (by decide) (lexes_blank (by decide) (nm hb.2.1 (by decide) (semi hs))))
theorem lexes_node {n : YT6} (hb : nodeB n = true) {s : List Int} {A : List T3} (hs : Lexes s A) : Lexes (nodeT n ++ s) (nodeK n ++ A) := by
  unfold nodeB at hb
  simp only [Bool.and_eq_true, List.all_eq_true] at hb
  obtain ⟨h0, h1, h2, h3, h4, h5, p1, p2, p3, p4, p5⟩ := hb
  unfold nodeT partsT nodeK
  simp only [List.append_assoc, List.cons_append, List.nil_append]
  refine kw0 ([110, 111, 100, 101] : List Int) (by decide) (nm h0 (by decide) (lexes_blank (by decide) (lexes_sign (by decide) (lexes_blank (by decide) ?_))))
  exact lexes_flat (fun x hx => lexes_head (p1 x hx)) (lexes_flat (fun x hx => lexes_ped (p2 x hx)) (lexes_flat (fun x hx => lexes_phase (p3 x hx)) (lexes_flat (fun x hx => lexes_group (p4 x hx)) (lexes_flat (fun x hx => lexes_foe (p5 x hx))
    (lexes_sign (by decide) (lexes_blank (by decide) hs))))))
theorem lexes_stop {p : YT7} (hb : stopB p = true) {s : List Int} {A : List T3} (hs : Lexes s A) : Lexes (stopT p ++ s) (stopK p ++ A) := by
  obtain ⟨q0, q1, q2, q3, q4⟩ := stop_spec hb
  unfold stopT stopP stopK
  simp only [List.flatten_cons, List.flatten_nil, List.append_nil, List.append_assoc, List.cons_append, List.nil_append]
  exact kw2 ([115, 116, 111, 112] : List Int) (by decide) (nm q0 (by decide) (kw ([111, 117, 116] : List Int) (by decide) (nm q1 (by decide) (kw ([105, 110] : List Int) (by decide) (nm q2 (by decide) (kw ([97, 104, 101, 97, 100] : List Int) (by decide) (nu q3 (by decide) (kw ([98, 97, 99, 107] : List Int) (by decide) (nu q4 (by decide) (semi hs))))))))))
theorem lexes_art {n : NetT} (hb : netB n = true) {s : List Int} {A : List T3} (hs : Lexes s A) : Lexes (artT n ++ s) (artK n ++ A) := by
  unfold netB at hb
  simp only [Bool.and_eq_true, List.all_eq_true] at hb
  obtain ⟨q0, q1, q2, ⟨q3, q4⟩, q7, q8, h1, h2, p1, p2⟩ := hb
  unfold artT artK
  cases artB n
  · exact hs
  · unfold weightsT
    simp only [cond_true, List.flatten_cons, List.flatten_nil, List.append_nil, List.append_assoc, List.cons_append, List.nil_append]
    refine kw0 ([97, 114, 116, 101, 114, 121] : List Int) (by decide) (lexes_sign (by decide) (lexes_blank (by decide) (lexes_flat (fun x hx => lexes_stop (p2 x hx)) ?_)))
    exact kw2 ([119, 101, 105, 103, 104, 116, 115] : List Int) (by decide) (nu (num_inM q7) (by decide) (lexes_blank (by decide) (nu (num_inM q8) (by decide) (semi (lexes_sign (by decide) (lexes_blank (by decide) hs))))))
theorem lexes_net {n : NetT} (hb : netB n = true) : Lexes (netT n) (netK n) := by
  have ha := lexes_art hb lexes_nil
  have hb0 := hb
  unfold netB at hb
  simp only [Bool.and_eq_true, List.all_eq_true] at hb
  obtain ⟨q0, q1, q2, ⟨q3, q4⟩, q7, q8, h1, h2, p1, p2⟩ := hb
  have hn := lexes_flat (l := n.2.2.2.2.2.1) (fun x hx => lexes_node (p1 x hx)) ha
  rw [List.append_nil] at hn
  unfold netT cycleT netK
  simp only [List.flatten_cons, List.flatten_nil, List.append_nil, List.append_assoc, List.cons_append, List.nil_append]
  exact kw0 ([99, 121, 99, 108, 101] : List Int) (by decide) (nu (num_inM q0) (by decide) (kw ([116, 111] : List Int) (by decide) (nu (num_inM q1) (by decide) (kw ([98, 121] : List Int) (by decide) (nu (num_inM q2) (by decide) (lexes_sign (by decide) (lexes_blank (by decide) (kw0 ([112, 101, 97, 107] : List Int) (by decide) (lexes_frac (num_inM q3) (num_inM q4) (by decide) (semi hn)))))))))) 
end Go.Proofs.YtipcabmhdokfjaaGreatDoorV

/-! net: reading the tokens of a text. -/
set_option linter.unusedVariables false
set_option linter.unusedSimpArgs false
namespace Go.Proofs.YtipcabmhdokfjaaGreatDoorV
open Go Go.RowKit

/-- A reader without an error, whose tokens, places aside, are these. -/
structure At (x : RS) (A : List T3) : Prop where
  e : x.2.1 = 0
  t : x.1.map strip = A
theorem at_hd {x : RS} {t : T3} {A : List T3} (h : At x (t :: A)) : (hd x.1).1 = t.1 ∧ (hd x.1).2.1 = t.2.1 ∧ (hd x.1).2.2.1 = t.2.2 ∧ x.1.tail.map strip = A := by
  have := h.t
  cases hx : x.1 with
  | nil => rw [hx] at this; cases this
  | cons y r =>
    rw [hx, List.map_cons] at this
    injection this with h1 h2
    subst h1
    exact ⟨rfl, rfl, rfl, h2⟩
theorem sees_at {x : RS} {t : T3} {A : List T3} (h : At x (t :: A)) (s : List Int) : seesR s x = (t.1 != 2 && (t.1 != 0 && t.2.1 == s)) := by
  obtain ⟨h1, h2, _, _⟩ := at_hd h
  unfold seesR
  rw [h.e, h1, h2]
  rfl
theorem next_at {x : RS} {t : T3} {A : List T3} (h : At x (t :: A)) (h0 : (t.1 != 0) = true) : At (nextR x) A := by
  obtain ⟨h1, _, _, h4⟩ := at_hd h
  unfold nextR
  rw [h.e, h1, h0]
  exact ⟨rfl, h4⟩
theorem want_at {x : RS} {t : T3} {A : List T3} (s : List Int) (h : At x (t :: A)) (hs : (t.1 != 2 && (t.1 != 0 && t.2.1 == s)) = true) : At (wantR s x) A := by
  unfold wantR
  rw [sees_at h, hs]
  simp only [Bool.and_eq_true] at hs
  exact next_at h hs.2.1
theorem name_at {x : RS} {s : List Int} {A : List T3} (hs : nameB s = true) (h : At x (wd s :: A)) : (nameR x).1 = s ∧ At (nameR x).2 A := by
  obtain ⟨h1, h2, _, _⟩ := at_hd h
  have h1 : (hd x.1).1 = 1 := h1
  have h2 : (hd x.1).2.1 = s := h2
  have hr : resB s = false := by
    unfold nameB at hs
    simp only [Bool.and_eq_true, Bool.not_eq_true'] at hs
    exact hs.2
  unfold nameR
  rw [h1, h2, hr]
  exact ⟨rfl, next_at h rfl⟩
theorem numC_at {x : RS} {d : List Int} {v : Int} {A : List T3} (h : At x ((2, d, v) :: A)) : (numC x).1 = v ∧ At (numC x).2 A := by
  obtain ⟨h1, _, h3, _⟩ := at_hd h
  have h1 : (hd x.1).1 = 2 := h1
  have h3 : (hd x.1).2.2.1 = v := h3
  unfold numC
  rw [h1, h3]
  exact ⟨rfl, next_at h rfl⟩
theorem numK_pos {n : Int} (h : 0 ≤ n) : numK n = [(2, digN 18 n.natAbs, n)] := by
  unfold numK
  rw [show decide (n < 0) = false by simpa using h]
  rfl
theorem num_at {w : List Int} {x : RS} {n : Int} {A : List T3} (hw : (w == []) = false) (hn : 0 ≤ n) (h : At x (wd w :: (numK n ++ A))) : (numR w x).1 = n ∧ At (numR w x).2 A := by
  unfold numR
  rw [hw, cond_false]
  rw [numK_pos hn] at h
  exact numC_at (want_at w h (by simp [wd]))
theorem num_at0 {x : RS} {n : Int} {A : List T3} (hn : 0 ≤ n) (h : At x (numK n ++ A)) : (numR [] x).1 = n ∧ At (numR [] x).2 A := by
  unfold numR
  rw [numK_pos hn] at h
  exact numC_at h
theorem frac_at {w : List Int} {x : RS} {a b : Int} {A : List T3} (hw : (w == []) = false) (ha : 0 ≤ a) (hb : 0 ≤ b) (h : At x (wd w :: (fracK a b ++ A))) : (fracR w x).1 = (a, b) ∧ At (fracR w x).2 A := by
  unfold fracK at h
  rw [List.append_assoc] at h
  obtain ⟨e1, h1⟩ := num_at hw ha h
  have h2 : At (wantR ([47] : List Int) (numR w x).2) (numK b ++ A) := want_at ([47] : List Int) h1 (by decide)
  rw [numK_pos hb] at h2
  obtain ⟨e2, h3⟩ := numC_at h2
  unfold fracR
  refine ⟨?_, h3⟩
  rw [e1]
  exact congrArg (fun z => (a, z)) e2
theorem begins_yes {w : List Int} {a b : Int} {x : RS} {A : List T3} (hab : (a == b) = false) (h : At x (wd w :: A)) : (beginsR w a b x).1 = true ∧ At (beginsR w a b x).2 A := by
  unfold beginsR
  rw [sees_at h, hab, show ((wd w).1 != 2 && ((wd w).1 != 0 && (wd w).2.1 == w)) = true by simp [wd]]
  exact ⟨rfl, next_at h (by simp [wd])⟩
theorem begins_no {w : List Int} {a b : Int} {x : RS} {t : T3} {A : List T3} (h : At x (t :: A)) (ht : (t.1 != 2 && (t.1 != 0 && t.2.1 == w)) = false) : beginsR w a b x = (false, x) := by
  unfold beginsR
  rw [sees_at h, ht]
  rfl
theorem loop_at {α β : Type} (er : α → β) (w : List Int) (most : Nat) (item : RS → α × RS) (g : α → List T3) {t : T3} {A : List T3} (ht : (t.1 != 2 && (t.1 != 0 && t.2.1 == w)) = false) :
    ∀ (l : List α) (f : Nat) (x : RS) (o : List α), (∀ a ∈ l, ∀ {x A}, At x (g a ++ A) → er (item x).1 = er a ∧ At (item x).2 A) → l.length < f → o.length + l.length ≤ most → At x (l.flatMap (fun a => wd w :: g a) ++ t :: A) →
      (loopR w (most : Int) item f x o).1.map er = o.map er ++ l.map er ∧ At (loopR w (most : Int) item f x o).2 (t :: A)
  | _, 0, _, _, _, h, _, _ => by omega
  | [], f + 1, x, o, hi, hf, hm, h => by
    rw [loopR, begins_no (w := w) (a := ((o.length : Nat) : Int)) (b := (most : Int)) h ht]
    exact ⟨by simp, h⟩
  | a :: l, f + 1, x, o, hi, hf, hm, h => by
    rw [List.length_cons] at hf hm
    rw [List.flatMap_cons, List.append_assoc, List.cons_append] at h
    obtain ⟨e1, h1⟩ := begins_yes (w := w) (a := ((o.length : Nat) : Int)) (b := (most : Int)) (by simp; omega) h
    obtain ⟨e2, h2⟩ := hi a (by simp) h1
    rw [loopR, e1, cond_true]
    obtain ⟨e3, h3⟩ := loop_at er w most item g ht l f _ (o ++ [(item (beginsR w ((o.length : Nat) : Int) (most : Int) x).2).1]) (fun b hb => hi b (List.mem_cons_of_mem _ hb)) (by omega) (by rw [List.length_append, List.length_singleton]; omega) h2
    refine ⟨?_, h3⟩
    rw [e3, List.map_append, List.map_cons, List.map_nil, e2, List.append_assoc]
    rfl
theorem many_at {α β : Type} (er : α → β) {w : List Int} {most : Nat} {item : RS → α × RS} {g : α → List T3} {t : T3} {A : List T3} {l : List α} {x : RS} (ht : (t.1 != 2 && (t.1 != 0 && t.2.1 == w)) = false)
    (hi : ∀ a ∈ l, ∀ {x A}, At x (g a ++ A) → er (item x).1 = er a ∧ At (item x).2 A) (hm : l.length ≤ most) (h : At x (l.flatMap (fun a => wd w :: g a) ++ t :: A)) :
    (manyR w (most : Int) item x).1.map er = l.map er ∧ At (manyR w (most : Int) item x).2 (t :: A) := by
  have hlen : l.length < x.1.length + 1 := by
    have e := congrArg List.length h.t
    rw [List.length_map, List.length_append] at e
    have : ∀ m : List α, m.length ≤ (m.flatMap (fun a => wd w :: g a)).length := by
      intro m
      induction m with
      | nil => simp
      | cons y r ih => rw [List.flatMap_cons, List.length_append, List.length_cons, List.length_cons]; omega
    have := this l
    omega
  exact loop_at er w most item g ht l _ x [] hi hlen (by simpa using hm) h
end Go.Proofs.YtipcabmhdokfjaaGreatDoorV
