import Derived.Test.YtghmhkpgdmgepaaGreatDoorB8
/-! Joined, names shortened: DX, DY, DZ, DT. -/
set_option linter.unusedSectionVars false
set_option linter.unusedVariables false
set_option linter.unusedSimpArgs false
set_option maxRecDepth 20000
namespace Go.Proofs.YtghmhkpgdmgepaaGreatDoorV
open Go Go.RowKit
def valN : List Int → Nat
 | [] => 0
 | y :: r => (y - 128).toNat + 128 * valN r
theorem Ags : ∀ {l : List Int}, (∀ y ∈ l, 128 ≤ y ∧ y ≤ 255) → valN l < 128 ^ l.length
 | [], _ => by simp [valN]
 | y :: r, h => by
  have h1 := h y (by simp)
  have h2 := Ags (l := r) fun z hz => h z (by simp [hz])
  simp only [valN, List.length_cons, Nat.pow_succ]
  omega
theorem Agt : ∀ (l : List Int) (y : Int), valN (l ++ [y]) = valN l + (y - 128).toNat * 128 ^ l.length
 | [], y => by simp [valN]
 | z :: r, y => by
  simp only [List.cons_append, valN, Agt r y, List.length_cons, Nat.pow_succ]
  rw [Nat.mul_add]
  have : 128 * ((y - 128).toNat * 128 ^ r.length) = (y - 128).toNat * (128 ^ r.length * 128) := by
   rw [Nat.mul_comm 128, Nat.mul_assoc]
  omega
theorem and127 (y : Int) (h : 0 ≤ y ∧ y ≤ 255) : (BitVec.ofInt (IntKind.bits .u8) y &&& BitVec.ofInt (IntKind.bits .u8) (127 : Int)).toNat = y.toNat % 128 := by
 have h2 : ∀ z : Fin 256, (BitVec.ofInt 8 ((z.val : Nat) : Int) &&& BitVec.ofInt 8 (127 : Int)).toNat = z.val % 128 := by decide
 have h3 := h2 ⟨y.toNat, by omega⟩
 have e : ((y.toNat : Nat) : Int) = y := by omega
 simp only [e] at h3
 exact h3
theorem p2_7 (k : Nat) : 2 ^ (7 * k) = 128 ^ k := by rw [Nat.pow_mul]
theorem pow_le8 {k : Nat} (h : k ≤ 8) : 128 ^ k ≤ 72057594037927936 := by
 have : 128 ^ k ≤ 128 ^ 8 := Nat.pow_le_pow_right (by decide) h
 have e : (128 : Nat) ^ 8 = 72057594037927936 := by decide
 omega
theorem As3 {n : Nat} (h : n < 18446744073709551616) : (BitVec.ofInt (IntKind.bits .u64) (n : Int)).toNat = n := by
 show (BitVec.ofInt 64 (n : Int)).toNat = n
 rw [BitVec.toNat_ofInt]
 omega
theorem Axc (v k : Nat) (y : Int) (hk : k ≤ 8) (hv : v < 128 ^ k) (hy : 0 ≤ y ∧ y ≤ 255) :
  IntKind.wrap .u64 ((BitVec.ofInt (IntKind.bits .u64) (v : Int) ||| BitVec.ofInt (IntKind.bits .u64) (IntKind.wrap .u64 ((IntKind.wrap .u64 (IntKind.wrap .u8 ((BitVec.ofInt (IntKind.bits .u8) y &&& BitVec.ofInt (IntKind.bits .u8) (127 : Int)).toNat : Int))) * 2 ^ (min (Int.toNat (IntKind.wrap .i64 ((7 : Int) * (k : Int)))) (IntKind.bits .u64))))).toNat : Int) = ((v + (y.toNat % 128) * 128 ^ k : Nat) : Int) := by
 have hp := pow_le8 hk
 have hx : y.toNat % 128 ≤ 127 := by omega
 have hm : (y.toNat % 128) * 128 ^ k ≤ 127 * 72057594037927936 := Nat.mul_le_mul hx hp
 rw [and127 y hy, wu8 (n := ((y.toNat % 128 : Nat) : Int)) (by omega), wu64 (n := ((y.toNat % 128 : Nat) : Int)) (by omega), w64 (n := (7 : Int) * (k : Int)) (by omega)]
 have e1 : Int.toNat ((7 : Int) * (k : Int)) = 7 * k := by omega
 rw [e1, Nat.min_eq_left (show 7 * k ≤ IntKind.bits .u64 by show 7 * k ≤ 64; omega)]
 have e2 : (((y.toNat % 128 : Nat) : Int) * 2 ^ (7 * k)) = (((y.toNat % 128) * 128 ^ k : Nat) : Int) := by
  rw [← p2_7]; simp
 rw [e2, wu64 (n := (((y.toNat % 128) * 128 ^ k : Nat) : Int)) (by omega), BitVec.toNat_or, As3 (by omega), As3 (by omega)]
 have e3 : v ||| (y.toNat % 128) * 128 ^ k = v + (y.toNat % 128) * 128 ^ k := by
  rw [← p2_7] at hv ⊢
  have := Nat.two_pow_add_eq_or_of_lt hv (y.toNat % 128)
  rw [Nat.or_comm, Nat.mul_comm (y.toNat % 128), ← this, Nat.add_comm]
 rw [e3, wu64 (by omega)]
theorem Aif {α R : Type} {l : List α} {i j : Nat} {K : List α → Option R} (h1 : i ≤ j) (h2 : j ≤ l.length) : cut l (i : Int) (j : Int) K = K ((l.take j).drop i) := by
 unfold cut
 rw [Kc, if_pos (by omega), Nk]
def R {α : Type} (r : Option (α ⊕ (Int × Int))) (n j : Nat) (o : α) : Prop := r = if j ≤ n then some (.inl o) else some (.inr (50, (n : Int)))
theorem R.bind {α β : Type} {r : Option (α ⊕ (Int × Int))} {n j j' : Nat} {o : α} {o' : β} {f : α → Option (β ⊕ (Int × Int))} (h : R r n j o) (hf : j ≤ n → R (f o) n j' o') (hj : j ≤ j') : R (r.bind (orP f fun e => some (.inr (e.1, e.2)))) n j' o' := by
 unfold R at *
 rw [h]
 by_cases hn : j ≤ n
 ·rw [if_pos hn]; exact hf hn
 ·rw [if_neg hn, if_neg (by omega)]; rfl
theorem R.fin {α : Type} {n j : Nat} {o o' : α} (h : j ≤ n) (e : o = o') : R (some (.inl o)) n j o' := by
 unfold R
 rw [if_pos h, e]
theorem Bu {T A B : List Int} {i : Nat} (h : T.drop i = A ++ B) : T.drop (i + A.length) = B := by
 rw [← List.drop_drop, h, List.drop_left]
theorem Km {T B : List Int} {i : Nat} {y : Int} (h : T.drop i = y :: B) : T[i]? = some y ∧ T.drop (i + 1) = B := by
 refine ⟨?_, ?_⟩
 ·have := congrArg List.head? h
  rw [List.head?_drop] at this
  exact this
 ·rw [← List.drop_drop, h]; rfl
section
variable (K : Nat) (hK : 100 ≤ K) (T : List Int) (n : Nat) (hn : n ≤ T.length) (hT : T.length ≤ 900000)
include hK hn hT
theorem Hf (i : Nat) (hi : i ≤ n) (y : Int) (hy : T[i]? = some y) : R (I4 K (T.take n, (i : Int))) n (i + 1) (y, T.take n, ((i + 1 : Nat) : Int)) := by
 have hl : (T.take n).length = n := by rw [List.length_take]; omega
 rw [A3j, Yq, cbeq, hl]
 unfold R
 by_cases h : i = n
 ·rw [if_pos (by omega), if_neg (by omega)]
  subst h
  rfl
 ·have hy2 : (T.take n)[i]? = some y := by rw [List.getElem?_take]; rw [if_pos (by omega)]; exact hy
  rw [if_neg (by omega), if_pos (by omega), A3k, Yr, Ar8 hy2, Gv, w64 (by omega)]
theorem Ba4 (i0 : Int) : ∀ (m : Nat) (l : List Int) (x i j : Nat) (rest : List Int), x < 128 ^ (m + 1) → l.length + m ≤ 8 → (∀ y ∈ l, 128 ≤ y ∧ y ≤ 255) → (x ≠ 0 ∨ l = []) → T.drop i = vi x ++ rest → i ≤ n → m + 2 ≤ j → valN l + x * 128 ^ l.length < 9223372036854775808 →
  R ((D7 K).L 4 [] j (Kt (0, i0, (valN l : Int), (l.length : Int), T.take n, (i : Int)))) n (i + (vi x).length) (((valN l + x * 128 ^ l.length : Nat) : Int), T.take n, ((i + (vi x).length : Nat) : Int)) := by
 have last : ∀ (l : List Int) (x i j : Nat) (rest : List Int), x < 128 → l.length ≤ 8 → (∀ y ∈ l, 128 ≤ y ∧ y ≤ 255) → (x ≠ 0 ∨ l = []) → T.drop i = vi x ++ rest → i ≤ n → valN l + x * 128 ^ l.length < 9223372036854775808 →
   R ((D7 K).L 4 [] (j + 1) (Kt (0, i0, (valN l : Int), (l.length : Int), T.take n, (i : Int)))) n (i + (vi x).length) (((valN l + x * 128 ^ l.length : Nat) : Int), T.take n, ((i + (vi x).length : Nat) : Int)) := by
  intro l x i j rest hx h8 hl h0 hd hi hval
  rw [Dz hx] at hd ⊢
  obtain ⟨d1, d2⟩ := Km hd
  have hv := Ags hl
  rw [Akc, Sv, cd, if_pos (by omega)]
  refine R.bind (Hf K hK T n hn hT i hi x d1) (fun g => ?_) (by simp)
  simp only []
  rw [cd, if_pos (by rw [w64 (by omega)]; omega), cd, Axc (valN l) l.length (x : Int) (by omega) hv (by omega), if_neg (by omega)]
  have hxx : (x : Int).toNat % 128 = x := by omega
  have hres : R (some (.inl (IntKind.wrap .i64 ((valN l + (x : Int).toNat % 128 * 128 ^ l.length : Nat) : Int), T.take n, ((i + 1 : Nat) : Int)))) n (i + [(x : Int)].length) (((valN l + x * 128 ^ l.length : Nat) : Int), T.take n, ((i + [(x : Int)].length : Nat) : Int)) := by
   rw [hxx, w64 (by omega)]
   exact R.fin (by simpa using g) rfl
  rw [cbeq]
  by_cases hy0 : (x : Int) = 0
  ·rw [if_pos hy0, cd, if_neg (by rcases h0 with h | h; omega; rw [h]; simp)]
   exact hres
  ·rw [if_neg hy0]
   exact hres
 intro m
 induction m with
 | zero =>
  intro l x i j rest hx h8 hl h0 hd hi hj hval
  obtain ⟨j, rfl⟩ : ∃ t, j = t + 1 := ⟨j - 1, by omega⟩
  exact last l x i j rest (by simpa using hx) (by omega) hl h0 hd hi hval
 | succ m ih =>
  intro l x i j rest hx h8 hl h0 hd hi hj hval
  obtain ⟨j, rfl⟩ : ∃ t, j = t + 1 := ⟨j - 1, by omega⟩
  by_cases hx1 : x < 128
  ·exact last l x i j rest hx1 (by omega) hl h0 hd hi hval
  rw [J5 hx1] at hd ⊢
  obtain ⟨d1, d2⟩ := Km hd
  have hv := Ags hl
  generalize hyy : ((128 + x % 128 : Nat) : Int) = y at d1 d2
  have hy : 128 ≤ y ∧ y ≤ 255 := by omega
  rw [Akc, Sv, cd, if_pos (by omega)]
  refine R.bind (Hf K hK T n hn hT i hi y d1) (fun g => ?_) (by simp)
  simp only []
  rw [cd, if_pos (by rw [w64 (by omega)]; omega), cd, Axc (valN l) l.length y (by omega) hv (by omega), if_pos (by omega), Gv, w64 (by omega)]
  have e : ((valN l + y.toNat % 128 * 128 ^ l.length : Nat) : Int) = ((valN (l ++ [y]) : Nat) : Int) := by
   rw [Agt, show y.toNat % 128 = (y - 128).toNat by omega]
  have e2 : valN (l ++ [y]) + x / 128 * 128 ^ (l ++ [y]).length = valN l + x * 128 ^ l.length := by
   rw [Agt, List.length_append, List.length_singleton, Nat.pow_succ, show (y - 128).toNat = x % 128 by omega, Nat.add_assoc, Nat.mul_comm (128 ^ l.length) 128, ← Nat.mul_assoc, ← Nat.add_mul]
   congr 2
   omega
  rw [e]
  have := ih (l ++ [y]) (x / 128) (i + 1) j rest (by rw [Nat.pow_succ] at hx; exact Nat.div_lt_of_lt_mul (by rw [Nat.mul_comm]; exact hx)) (by simp; omega) (fun z hz => by
   rcases List.mem_append.1 hz with hz | hz
   ·exact hl z hz
   ·simp at hz; subst hz; omega) (.inl (by omega)) d2 g (by omega) (by rw [e2]; exact hval)
  rw [e2, List.length_append, List.length_singleton] at this
  rw [List.length_cons, Nat.add_comm (vi (x / 128)).length 1, ← Nat.add_assoc]
  exact this
theorem Du (i : Nat) (hi : i ≤ n) (x : Int) (h0 : 0 ≤ x) (hx : x < 9223372036854775808) (rest : List Int) (hd : T.drop i = vi x.toNat ++ rest) : R (Cn K (T.take n, (i : Int))) n (i + (vi x.toNat).length) (x, T.take n, ((i + (vi x.toNat).length : Nat) : Int)) := by
 rw [A3m, Yt]
 have := Ba4 K hK T n hn hT (i : Int) 8 [] x.toNat i K rest (by rw [p128]; omega) (by simp) (by simp) (.inr rfl) hd hi (by omega) (by simp [valN]; omega)
 have e : ((valN [] + x.toNat * 128 ^ ([] : List Int).length : Nat) : Int) = x := by simp [valN]; omega
 rw [e] at this
 exact this
theorem Aia (lim : Int) (i : Nat) (hi : i ≤ n) (c : Nat) (hc : (c : Int) ≤ lim) (h100 : c ≤ 100) (rest : List Int) (hd : T.drop i = vi c ++ rest) : R (F3 K (lim, T.take n, (i : Int))) n (i + (vi c).length) ((c : Int), T.take n, ((i + (vi c).length : Nat) : Int)) := by
 rw [A3g, Aj8]
 refine R.bind (Du K hK T n hn hT i hi (c : Int) (by omega) (by omega) rest (by rw [Int.toNat_natCast]; exact hd)) (fun g => ?_) (Nat.le_refl _)
 rw [cd, if_neg (by simp only []; omega)]
 rw [Int.toNat_natCast] at g ⊢
 exact R.fin g (by simp only [])
def Dh (s : List Int) : List Int := vi s.length ++ s
theorem seg_s {i : Nat} {s rest : List Int} (hd : T.drop i = s ++ rest) (hm : i + s.length ≤ n) : ((T.take n).take (i + s.length)).drop i = s := by
 rw [List.take_take, Nat.min_eq_left hm, List.drop_take, hd, show i + s.length - i = s.length by omega, List.take_left]
theorem Ae6 (i : Nat) (hi : i ≤ n) (s : List Int) (hs : s.length ≤ 24) (rest : List Int) (hd : T.drop i = Dh s ++ rest) : R (Ke K (T.take n, (i : Int))) n (i + (Dh s).length) (s, T.take n, ((i + (Dh s).length : Nat) : Int)) := by
 have hl : (T.take n).length = n := by rw [List.length_take]; omega
 unfold Dh at hd
 rw [List.append_assoc] at hd
 have hd2 := Bu hd
 have hlen : (Dh s).length = (vi s.length).length + s.length := by unfold Dh; rw [List.length_append]
 rw [hlen, ← Nat.add_assoc]
 have loop : ∀ (m p t j : Nat) , T.drop p = s ++ rest → t ≤ s.length → s.length - t = m → m < j → p + t ≤ n → R ((Ep K).L 4 [] j (Ny ((p : Int), ((s.length : Nat) : Int), (t : Int), T.take n, ((p + t : Nat) : Int)))) n (p + s.length) (s, T.take n, ((p + s.length : Nat) : Int)) := by
  intro m
  induction m with
  | zero =>
   intro p t j hd ht hm hj hp
   obtain ⟨j, rfl⟩ : ∃ t, j = t + 1 := ⟨j - 1, by omega⟩
   obtain rfl : t = s.length := by omega
   rw [Aj9, Sr, cd, if_neg (by omega), Aif (by omega) (by omega), seg_s K hK T n hn hT hd hp]
   exact R.fin hp rfl
  | succ m ih =>
   intro p t j hd ht hm hj hp
   obtain ⟨j, rfl⟩ : ∃ t, j = t + 1 := ⟨j - 1, by omega⟩
   rw [Aj9, Sr, cd, if_pos (by omega)]
   obtain ⟨y, hy⟩ : ∃ y, T[p + t]? = some y := by
    have h1 : (T.drop p).length = s.length + rest.length := by rw [hd, List.length_append]
    rw [List.length_drop] at h1
    exact ⟨T[p + t]'(by omega), List.getElem?_eq_getElem _⟩
   refine R.bind (Hf K hK T n hn hT (p + t) hp y hy) (fun g => ?_) (by omega)
   simp only []
   rw [Gv, w64 (by omega)]
   exact ih p (t + 1) j hd (by omega) (by omega) (by omega) g
 rw [A3i, Yn]
 refine R.bind (Aia K hK T n hn hT 24 i hi s.length (by omega) (by omega) _ hd) (fun g => ?_) (by omega)
 exact loop s.length (i + (vi s.length).length) 0 K hd2 (by omega) (by omega) (by omega) g
def A2 {X : Type} (enc : X → List Int) (l : List X) : List Int := vi l.length ++ l.flatMap enc
theorem Pz {X O : Type} (lim : Nat) (hlim : lim ≤ 12) (sz : Nat) (hsz : sz ≤ 100) (enc : X → List Int)
  (L : Nat → Int → Int → List Int → Int → List X → Option ((List Int × Int × List X) ⊕ (Int × Int))) (f : List Int → Int → Option (O ⊕ (Int × Int))) (mk : O → X) (nd : O → List Int) (nx : O → Int)
  (hL : ∀ j c t d p acc, L (j + 1) c t d p acc = bif decide (t < c) then ((f d p).bind (orP (fun o => app sz acc [mk o] fun a => L j c (IntKind.wrap .i64 (t + 1)) (nd o) (nx o) a) (fun e => some (.inr (e.1, e.2))))) else some (.inl (d, p, acc)))
  (vs : List X) (hvs : vs.length ≤ lim)
  (hf : ∀ v ∈ vs, ∀ (i : Nat) (rest : List Int), i ≤ n → T.drop i = enc v ++ rest → ∃ o, mk o = v ∧ nd o = T.take n ∧ nx o = ((i + (enc v).length : Nat) : Int) ∧ R (f (T.take n) (i : Int)) n (i + (enc v).length) o)
  (i : Nat) (hi : i ≤ n) (rest : List Int) (hd : T.drop i = A2 enc vs ++ rest) :
  R ((F3 K ((lim : Int), T.take n, (i : Int))).bind (orP (fun o1 => L K o1.1 0 o1.2.1 o1.2.2 []) (fun o2 => some (.inr (o2.1, o2.2))))) n (i + (A2 enc vs).length) (T.take n, ((i + (A2 enc vs).length : Nat) : Int), vs) := by
 have loop : ∀ (ws acc : List X) (i j : Nat), vs = acc ++ ws → ws.length < j → i ≤ n → T.drop i = ws.flatMap enc ++ rest → R (L j ((vs.length : Nat) : Int) ((acc.length : Nat) : Int) (T.take n) (i : Int) acc) n (i + (ws.flatMap enc).length) (T.take n, ((i + (ws.flatMap enc).length : Nat) : Int), vs) := by
  intro ws
  induction ws with
  | nil =>
   intro acc i j e hj hi hd
   obtain ⟨j, rfl⟩ : ∃ t, j = t + 1 := ⟨j - 1, by simp at hj; omega⟩
   have e1 : acc = vs := by rw [e]; simp
   rw [hL, e1, cd, if_neg (by omega)]
   exact R.fin (by simpa using hi) (by simp)
  | cons v ws ih =>
   intro acc i j e hj hi hd
   obtain ⟨j, rfl⟩ : ∃ t, j = t + 1 := ⟨j - 1, by simp at hj; omega⟩
   have hlen : vs.length = acc.length + ws.length + 1 := by rw [e]; simp; omega
   rw [List.flatMap_cons, List.append_assoc] at hd
   obtain ⟨o, o1, o2, o3, hR⟩ := hf v (by rw [e]; simp) i _ hi hd
   rw [hL, cd, if_pos (by omega), List.flatMap_cons, List.length_append, ← Nat.add_assoc]
   refine R.bind hR (fun g => ?_) (by omega)
   have hb2 : (acc.length + 1) * sz ≤ 13 * 100 := Nat.mul_le_mul (by omega) hsz
   rw [Cw (by simp only [List.length_singleton]; omega) (by simp only [List.length_singleton]; omega), Gv, w64 (by omega), o1, o2, o3]
   have := ih (acc ++ [v]) (i + (enc v).length) j (by rw [e]; simp) (by simp only [List.length_cons] at hj; omega) g (Bu hd)
   rw [List.length_append, List.length_singleton] at this
   exact this
 unfold A2 at hd ⊢
 rw [List.append_assoc] at hd
 rw [List.length_append, ← Nat.add_assoc]
 refine R.bind (Aia K hK T n hn hT (lim : Int) i hi vs.length (by omega) (by omega) _ hd) (fun g => ?_) (by omega)
 exact loop vs [] (i + (vi vs.length).length) K rfl (by omega) g (Bu hd)
end
def Da (w : Bb) : List Int := Dh w.1 ++ (vi w.2.1.toNat ++ vi w.2.2.1.toNat)
def Dx (s : Ar) : List Int := Dh s.1 ++ (vi s.2.1.toNat ++ (vi s.2.2.1.toNat ++ (vi s.2.2.2.1.toNat ++ A2 Da s.2.2.2.2.1)))
def Fs (l : List Ar) : List Int := A2 Dx l
def Dy (g : Bd) : List Int := A2 Fs g.1
def timV (t : TimT) : List Int := Dh t.1 ++ (vi t.2.1.toNat ++ (vi t.2.2.2.1.1.toNat ++ (vi t.2.2.2.1.2.1.toNat ++ A2 Dy t.2.2.1)))
def bitV (b : Bool) : Int := if b then 1 else 0
def Fz (p : A4) : List Int := vi p.1.toNat ++ (A2 timV p.2.1 ++ (vi p.2.2.1.toNat ++ (vi p.2.2.2.1.toNat ++ (vi p.2.2.2.2.1.toNat ++ (vi p.2.2.2.2.2.1.toNat ++ (bitV p.2.2.2.2.2.2.1 :: vi p.2.2.2.2.2.2.2.toNat))))))
def A7 (p : A4) : List Int := 67 :: 70 :: 1 :: Fz p
theorem Av {x : Int} (h : numB x = true) : 0 ≤ x ∧ x < 9223372036854775808 := by
 unfold numB at h; simp at h; omega
theorem P7 {w : Bb} (h : wlkB w = true) : w.1.length ≤ 24 ∧ numB w.2.1 = true ∧ numB w.2.2.1 = true := by
 unfold wlkB at h
 simp only [Bool.and_eq_true] at h
 exact ⟨He h.1, h.2.1, h.2.2⟩
theorem Agg {s : Ar} (h : Ck s = true) : s.1.length ≤ 24 ∧ numB s.2.1 = true ∧ numB s.2.2.1 = true ∧ numB s.2.2.2.1 = true ∧ s.2.2.2.2.1.length ≤ 8 ∧ ∀ w ∈ s.2.2.2.2.1, wlkB w = true := by
 unfold Ck lenB at h
 simp only [Bool.and_eq_true, decide_eq_true_eq, List.all_eq_true] at h
 exact ⟨He h.1, h.2.1, h.2.2.1, h.2.2.2.1, h.2.2.2.2.1.2, h.2.2.2.2.2⟩
theorem Agp {t : TimT} (h : timB t = true) : t.1.length ≤ 24 ∧ numB t.2.1 = true ∧ numB t.2.2.2.1.1 = true ∧ numB t.2.2.2.1.2.1 = true ∧ t.2.2.1.length ≤ 4 ∧ ∀ w ∈ t.2.2.1, Cl w = true := by
 unfold timB lenB at h
 simp only [Bool.and_eq_true, decide_eq_true_eq, List.all_eq_true] at h
 exact ⟨He h.1, h.2.1, h.2.2.1, h.2.2.2.1, h.2.2.2.2.1.2, h.2.2.2.2.2⟩
theorem Vj {p : A4} (h : B8 p = true) : numB p.1 = true ∧ numB p.2.2.1 = true ∧ numB p.2.2.2.1 = true ∧ numB p.2.2.2.2.1 = true ∧ numB p.2.2.2.2.2.1 = true ∧ numB p.2.2.2.2.2.2.2 = true ∧ p.2.1.length ≤ 12 ∧ ∀ w ∈ p.2.1, timB w = true := by
 unfold B8 lenB at h
 simp only [Bool.and_eq_true, decide_eq_true_eq, List.all_eq_true] at h
 exact ⟨h.1, h.2.1, h.2.2.1, h.2.2.2.1, h.2.2.2.2.1, h.2.2.2.2.2.1, h.2.2.2.2.2.2.1.2, h.2.2.2.2.2.2.2⟩
section
variable (K : Nat) (hK : 100 ≤ K) (T : List Int) (n : Nat) (hn : n ≤ T.length) (hT : T.length ≤ 900000)
include hK hn hT
theorem walk_R (w : Bb) (hb : wlkB w = true) (i : Nat) (hi : i ≤ n) (rest : List Int) (hd : T.drop i = Da w ++ rest) : R (Ms K (T.take n, (i : Int))) n (i + (Da w).length) (w.1, w.2.1, w.2.2.1, T.take n, ((i + (Da w).length : Nat) : Int)) := by
 obtain ⟨q0, q1, q2⟩ := P7 hb
 have e : (Da w).length = (Dh w.1).length + ((vi w.2.1.toNat).length + (vi w.2.2.1.toNat).length) := by unfold Da; rw [List.length_append, List.length_append]
 unfold Da at hd
 simp only [List.append_assoc] at hd
 have d1 := Bu hd
 have d2 := Bu d1
 rw [e, A3y, Akq]
 refine R.bind (Ae6 K hK T n hn hT i hi w.1 q0 _ hd) (fun g1 => ?_) (by omega)
 refine R.bind (Du K hK T n hn hT _ g1 w.2.1 (Av q1).1 (Av q1).2 _ d1) (fun g2 => ?_) (by omega)
 refine R.bind (Du K hK T n hn hT _ g2 w.2.2.1 (Av q2).1 (Av q2).2 _ d2) (fun g3 => ?_) (by omega)
 rw [← Nat.add_assoc, ← Nat.add_assoc]
 exact R.fin g3 rfl
theorem walks_R (vs : List Bb) (hvs : vs.length ≤ 8) (hb : ∀ w ∈ vs, wlkB w = true) (i : Nat) (hi : i ≤ n) (rest : List Int) (hd : T.drop i = A2 Da vs ++ rest) : R (Q1 K (8, T.take n, (i : Int))) n (i + (A2 Da vs).length) (T.take n, ((i + (A2 Da vs).length : Nat) : Int), vs) := by
 rw [A4e, Zh]
 exact Pz K hK T n hn hT 8 (by omega) 32 (by omega) Da (fun j c t d p acc => (Ev K).L 3 [] j (Od (c, t, d, p, acc))) (fun d p => Ms K (d, p)) (fun o => (o.1, (o.2.1, (o.2.2.1, ())))) (fun o => o.2.2.2.1) (fun o => o.2.2.2.2)
  (fun j c t d p acc => by rw [A4f, Zi]) vs hvs
  (fun v hv i rest hi hd => ⟨(v.1, v.2.1, v.2.2.1, T.take n, ((i + (Da v).length : Nat) : Int)), rfl, rfl, rfl, walk_R K hK T n hn hT v (hb v hv) i hi rest hd⟩) i hi rest hd
theorem slot_R (s : Ar) (hb : Ck s = true) (i : Nat) (hi : i ≤ n) (rest : List Int) (hd : T.drop i = Dx s ++ rest) : R (Mp K (T.take n, (i : Int))) n (i + (Dx s).length) (s.1, s.2.1, s.2.2.1, s.2.2.2.1, T.take n, ((i + (Dx s).length : Nat) : Int), s.2.2.2.2.1) := by
 obtain ⟨q0, q1, q2, q3, q4, q5⟩ := Agg hb
 have e : (Dx s).length = (Dh s.1).length + ((vi s.2.1.toNat).length + ((vi s.2.2.1.toNat).length + ((vi s.2.2.2.1.toNat).length + (A2 Da s.2.2.2.2.1).length))) := by unfold Dx; simp only [List.length_append]
 unfold Dx at hd
 simp only [List.append_assoc] at hd
 have d1 := Bu hd
 have d2 := Bu d1
 have d3 := Bu d2
 have d4 := Bu d3
 rw [e, A3s, Akk]
 refine R.bind (Ae6 K hK T n hn hT i hi s.1 q0 _ hd) (fun g1 => ?_) (by omega)
 refine R.bind (Du K hK T n hn hT _ g1 s.2.1 (Av q1).1 (Av q1).2 _ d1) (fun g2 => ?_) (by omega)
 refine R.bind (Du K hK T n hn hT _ g2 s.2.2.1 (Av q2).1 (Av q2).2 _ d2) (fun g3 => ?_) (by omega)
 refine R.bind (Du K hK T n hn hT _ g3 s.2.2.2.1 (Av q3).1 (Av q3).2 _ d3) (fun g4 => ?_) (by omega)
 refine R.bind (walks_R K hK T n hn hT s.2.2.2.2.1 q4 q5 _ g4 _ d4) (fun g5 => ?_) (by omega)
 rw [← Nat.add_assoc, ← Nat.add_assoc, ← Nat.add_assoc, ← Nat.add_assoc]
 exact R.fin g5 rfl
theorem ring_R (vs : List Ar) (hb : C9 vs = true) (i : Nat) (hi : i ≤ n) (rest : List Int) (hd : T.drop i = Fs vs ++ rest) : R (Mo K (T.take n, (i : Int))) n (i + (Fs vs).length) (T.take n, ((i + (Fs vs).length : Nat) : Int), vs) := by
 have hs := Ls hb
 unfold Fs at hd ⊢
 have h : R (Qy K (4, T.take n, (i : Int))) n (i + (A2 Dx vs).length) (T.take n, ((i + (A2 Dx vs).length : Nat) : Int), vs) := by
  rw [A35, Y8]
  exact Pz K hK T n hn hT 4 (by omega) 64 (by omega) Dx (fun j c t d p acc => (Es K).L 3 [] j (N6 (c, t, d, p, acc))) (fun d p => Mp K (d, p)) (fun o => (o.1, (o.2.1, (o.2.2.1, (o.2.2.2.1, (o.2.2.2.2.2.2, ())))))) (fun o => o.2.2.2.2.1) (fun o => o.2.2.2.2.2.1)
   (fun j c t d p acc => by rw [A36, Y9]) vs hs.1.2
   (fun v hv i rest hi hd => ⟨(v.1, v.2.1, v.2.2.1, v.2.2.2.1, T.take n, ((i + (Dx v).length : Nat) : Int), v.2.2.2.2.1), rfl, rfl, rfl, slot_R K hK T n hn hT v (hs.2 v hv) i hi rest hd⟩) i hi rest hd
 rw [A3q, Aki]
 exact R.bind h (fun g => R.fin g rfl) (Nat.le_refl _)
theorem span_R (v : Bd) (hb : Cl v = true) (i : Nat) (hi : i ≤ n) (rest : List Int) (hd : T.drop i = Dy v ++ rest) : R (Mq K (T.take n, (i : Int))) n (i + (Dy v).length) (T.take n, ((i + (Dy v).length : Nat) : Int), v.1) := by
 have hs := Lw hb
 unfold Dy at hd ⊢
 have h : R (Qx K (2, T.take n, (i : Int))) n (i + (A2 Fs v.1).length) (T.take n, ((i + (A2 Fs v.1).length : Nat) : Int), v.1) := by
  rw [A32, Y5]
  exact Pz K hK T n hn hT 2 (by omega) 24 (by omega) Fs (fun j c t d p acc => (Er K).L 3 [] j (N4 (c, t, d, p, acc))) (fun d p => Mo K (d, p)) (fun o => o.2.2) (fun o => o.1) (fun o => o.2.1)
   (fun j c t d p acc => by rw [A33, Y6]) v.1 hs.1.2
   (fun x hx i rest hi hd => ⟨(T.take n, ((i + (Fs x).length : Nat) : Int), x), rfl, rfl, rfl, ring_R K hK T n hn hT x (hs.2 x hx) i hi rest hd⟩) i hi rest hd
 rw [A3u, Akm]
 exact R.bind h (fun g => R.fin g rfl) (Nat.le_refl _)
theorem spans_R (vs : List Bd) (hvs : vs.length ≤ 4) (hb : ∀ w ∈ vs, Cl w = true) (i : Nat) (hi : i ≤ n) (rest : List Int) (hd : T.drop i = A2 Dy vs ++ rest) : R (Qz K (4, T.take n, (i : Int))) n (i + (A2 Dy vs).length) (T.take n, ((i + (A2 Dy vs).length : Nat) : Int), vs) := by
 rw [A38, Zb]
 exact Pz K hK T n hn hT 4 (by omega) 24 (by omega) Dy (fun j c t d p acc => (Et K).L 3 [] j (N8 (c, t, d, p, acc))) (fun d p => Mq K (d, p)) (fun o => (o.2.2, ())) (fun o => o.1) (fun o => o.2.1)
  (fun j c t d p acc => by rw [A39, Zc]) vs hvs
  (fun v hv i rest hi hd => ⟨(T.take n, ((i + (Dy v).length : Nat) : Int), v.1), rfl, rfl, rfl, span_R K hK T n hn hT v (hb v hv) i hi rest hd⟩) i hi rest hd
theorem tim_R (t : TimT) (hb : timB t = true) (i : Nat) (hi : i ≤ n) (rest : List Int) (hd : T.drop i = timV t ++ rest) : R (Mr K (T.take n, (i : Int))) n (i + (timV t).length) (t.1, t.2.1, t.2.2.2.1.1, t.2.2.2.1.2.1, T.take n, ((i + (timV t).length : Nat) : Int), t.2.2.1) := by
 obtain ⟨q0, q1, q2, q3, q4, q5⟩ := Agp hb
 have e : (timV t).length = (Dh t.1).length + ((vi t.2.1.toNat).length + ((vi t.2.2.2.1.1.toNat).length + ((vi t.2.2.2.1.2.1.toNat).length + (A2 Dy t.2.2.1).length))) := by unfold timV; simp only [List.length_append]
 unfold timV at hd
 simp only [List.append_assoc] at hd
 have d1 := Bu hd
 have d2 := Bu d1
 have d3 := Bu d2
 have d4 := Bu d3
 rw [e, A3w, Ako]
 refine R.bind (Ae6 K hK T n hn hT i hi t.1 q0 _ hd) (fun g1 => ?_) (by omega)
 refine R.bind (Du K hK T n hn hT _ g1 t.2.1 (Av q1).1 (Av q1).2 _ d1) (fun g2 => ?_) (by omega)
 refine R.bind (Du K hK T n hn hT _ g2 t.2.2.2.1.1 (Av q2).1 (Av q2).2 _ d2) (fun g3 => ?_) (by omega)
 refine R.bind (Du K hK T n hn hT _ g3 t.2.2.2.1.2.1 (Av q3).1 (Av q3).2 _ d3) (fun g4 => ?_) (by omega)
 refine R.bind (spans_R K hK T n hn hT t.2.2.1 q4 q5 _ g4 _ d4) (fun g5 => ?_) (by omega)
 rw [← Nat.add_assoc, ← Nat.add_assoc, ← Nat.add_assoc, ← Nat.add_assoc]
 exact R.fin g5 rfl
theorem tims_R (vs : List TimT) (hvs : vs.length ≤ 12) (hb : ∀ w ∈ vs, timB w = true) (i : Nat) (hi : i ≤ n) (rest : List Int) (hd : T.drop i = A2 timV vs ++ rest) : R (Q0 K (12, T.take n, (i : Int))) n (i + (A2 timV vs).length) (T.take n, ((i + (A2 timV vs).length : Nat) : Int), vs) := by
 rw [A4b, Ze]
 exact Pz K hK T n hn hT 12 (by omega) 64 (by omega) timV (fun j c t d p acc => (Eu K).L 3 [] j (Oa (c, t, d, p, acc))) (fun d p => Mr K (d, p)) (fun o => (o.1, (o.2.1, (o.2.2.2.2.2.2, ((o.2.2.1, (o.2.2.2.1, ())), ()))))) (fun o => o.2.2.2.2.1) (fun o => o.2.2.2.2.2.1)
  (fun j c t d p acc => by rw [A4c, Zf]) vs hvs
  (fun v hv i rest hi hd => ⟨(v.1, v.2.1, v.2.2.2.1.1, v.2.2.2.1.2.1, T.take n, ((i + (timV v).length : Nat) : Int), v.2.2.1), rfl, rfl, rfl, tim_R K hK T n hn hT v (hb v hv) i hi rest hd⟩) i hi rest hd
theorem Ax3 (a b : Int) (ha : numB a = true) (hb : numB b = true) (i : Nat) (hi : i ≤ n) (rest : List Int) (hd : T.drop i = vi a.toNat ++ (vi b.toNat ++ rest)) : R (Mt K (T.take n, (i : Int))) n (i + (vi a.toNat).length + (vi b.toNat).length) (a, b, T.take n, ((i + (vi a.toNat).length + (vi b.toNat).length : Nat) : Int)) := by
 rw [A30, Aks]
 refine R.bind (Du K hK T n hn hT i hi a (Av ha).1 (Av ha).2 _ hd) (fun g1 => ?_) (by omega)
 refine R.bind (Du K hK T n hn hT _ g1 b (Av hb).1 (Av hb).2 _ (Bu hd)) (fun g2 => ?_) (by omega)
 exact R.fin g2 rfl
end
theorem Ae5 {s : List Int} (h : s.length ≤ 24) : Hd s = some (Dh s) := by
 unfold Hd Dh
 rw [if_neg (by omega)]
theorem Auk {X : Type} {e : X → Option (List Int)} {enc : X → List Int} : ∀ {vs : List X}, (∀ v ∈ vs, e v = some (enc v)) → seqE e vs = some (vs.flatMap enc)
 | [], _ => rfl
 | v :: r, h => by
  rw [seqE, h v (by simp), Auk fun y hy => h y (by simp [hy])]
  rfl
theorem numE1 {x : Int} (hx : 0 ≤ x) : numE [x] = some (vi x.toNat) := by simp [numE, show ¬ x < 0 by omega]
theorem num2E {x y : Int} (hx : 0 ≤ x) (hy : 0 ≤ y) : numE [x, y] = some (vi x.toNat ++ vi y.toNat) := by
 simp [numE, show ¬ x < 0 by omega, show ¬ y < 0 by omega]
theorem num3E {x y z : Int} (hx : 0 ≤ x) (hy : 0 ≤ y) (hz : 0 ≤ z) : numE [x, y, z] = some (vi x.toNat ++ (vi y.toNat ++ vi z.toNat)) := by
 simp [numE, show ¬ x < 0 by omega, show ¬ y < 0 by omega, show ¬ z < 0 by omega]
theorem numE4 {x y z w : Int} (hx : 0 ≤ x) (hy : 0 ≤ y) (hz : 0 ≤ z) (hw : 0 ≤ w) : numE [x, y, z, w] = some (vi x.toNat ++ (vi y.toNat ++ (vi z.toNat ++ vi w.toNat))) := by
 simp [numE, show ¬ x < 0 by omega, show ¬ y < 0 by omega, show ¬ z < 0 by omega, show ¬ w < 0 by omega]
theorem Lm {X : Type} {e : X → Option (List Int)} {enc : X → List Int} {lim : Nat} {vs : List X} (hl : vs.length ≤ lim) (h : ∀ v ∈ vs, e v = some (enc v)) : putE lim e vs = some (A2 enc vs) := by
 unfold putE A2
 rw [if_neg (by omega), numE1 (by omega), Auk h, Int.toNat_natCast]
 rfl
theorem walkE_v {w : Bb} (hb : wlkB w = true) : Iv w = some (Da w) := by
 obtain ⟨q0, q1, q2⟩ := P7 hb
 unfold Iv Da
 rw [Ae5 q0, num2E (Av q1).1 (Av q2).1]
 rfl
theorem slotE_v {s : Ar} (hb : Ck s = true) : J0 s = some (Dx s) := by
 obtain ⟨q0, q1, q2, q3, q4, q5⟩ := Agg hb
 unfold J0 Dx
 rw [Ae5 q0, num3E (Av q1).1 (Av q2).1 (Av q3).1, Lm q4 fun w hw => walkE_v (q5 w hw)]
 simp [app2]
theorem ringE_v {l : List Ar} (hb : C9 l = true) : Jw l = some (Fs l) := by
 have := Ls hb
 unfold Jw Fs
 exact Lm this.1.2 fun w hw => slotE_v (this.2 w hw)
theorem spanE_v {g : Bd} (hb : Cl g = true) : Ir g = some (Dy g) := by
 have := Lw hb
 unfold Ir Dy
 exact Lm this.1.2 fun w hw => ringE_v (this.2 w hw)
theorem Axk {t : TimT} (hb : timB t = true) : Ho t = some (timV t) := by
 obtain ⟨q0, q1, q2, q3, q4, q5⟩ := Agp hb
 unfold Ho timV
 rw [Ae5 q0, num3E (Av q1).1 (Av q2).1 (Av q3).1, Lm q4 fun w hw => spanE_v (q5 w hw)]
 simp [app2]
theorem plE_v {p : A4} (hb : B8 p = true) : plE p.1 p.2.1 p.2.2.1 p.2.2.2.1 p.2.2.2.2.1 p.2.2.2.2.2.1 p.2.2.2.2.2.2.1 p.2.2.2.2.2.2.2 = some (Fz p) := by
 obtain ⟨q0, q1, q2, q3, q4, q5, q6, q7⟩ := Vj hb
 unfold plE Fz bitV
 rw [numE1 (Av q0).1, numE1 (Av q5).1, numE4 (Av q1).1 (Av q2).1 (Av q3).1 (Av q4).1, Lm q6 fun w hw => Axk (q7 w hw)]
 simp [app2]
theorem i64n {x : Int} (h : numB x = true) : I64 x := by
 have := Av h
 unfold I64; omega
theorem lml {l : List Int} (h : l.length ≤ 24) : l.length ≤ maxLen := by simp only [maxLen]; omega
theorem okW_b {w : Bb} (hb : wlkB w = true) : OkW w := ⟨lml (P7 hb).1, i64n (P7 hb).2.1, i64n (P7 hb).2.2⟩
theorem okS_b {s : Ar} (hb : Ck s = true) : OkS s := by
 obtain ⟨q0, q1, q2, q3, q4, q5⟩ := Agg hb
 exact ⟨lml q0, i64n q1, i64n q2, i64n q3, fun w hw => okW_b (q5 w hw)⟩
theorem okR_b {l : List Ar} (hb : C9 l = true) : OkR l := fun s hs => okS_b ((Ls hb).2 s hs)
theorem okP_b {g : Bd} (hb : Cl g = true) : OkP g := fun s hs => okR_b ((Lw hb).2 s hs)
theorem okT_b {t : TimT} (hb : timB t = true) : OkT t := by
 obtain ⟨q0, q1, q2, q3, q4, q5⟩ := Agp hb
 exact ⟨lml q0, i64n q1, i64n q2, i64n q3, fun w hw => okP_b (q5 w hw)⟩
theorem Afk {p : A4} (hb : B8 p = true) : 8 ≤ (A7 p).length ∧ (A7 p).length ≤ 200000 := by
 obtain ⟨q0, q1, q2, q3, q4, q5, q6, q7⟩ := Vj hb
 have h := Axn (l := p.2.1) (fun t ht => okT_b (q7 t ht)) _ (Lm q6 fun w hw => Axk (q7 w hw))
 have ln : ∀ {x : Int}, numB x = true → (vi x.toNat).length ≤ 9 := fun {x} h => Agu (by have := Av h; omega)
 have l0 := ln q0
 have l1 := ln q1
 have l2 := ln q2
 have l3 := ln q3
 have l4 := ln q4
 have l5 := ln q5
 have ge : ∀ x : Nat, 1 ≤ (vi x).length := fun x => by
  by_cases hx : x < 128
  ·rw [Dz hx]; simp
  ·rw [J5 hx]; simp
 have g0 := ge p.1.toNat
 have g1 := ge p.2.2.1.toNat
 have g2 := ge p.2.2.2.1.toNat
 have g3 := ge p.2.2.2.2.1.toNat
 have g4 := ge p.2.2.2.2.2.1.toNat
 unfold A7 Fz
 generalize A2 timV p.2.1 = t at h ⊢
 generalize vi p.1.toNat = a at *
 generalize vi p.2.2.1.toNat = b at *
 generalize vi p.2.2.2.1.toNat = c at *
 generalize vi p.2.2.2.2.1.toNat = d at *
 generalize vi p.2.2.2.2.2.1.toNat = e at *
 generalize vi p.2.2.2.2.2.2.2.toNat = f at *
 simp only [List.length_cons, List.length_append]
 omega
section
variable (K : Nat) (hK : 100 ≤ K)
include hK
theorem Atx (p : A4) (hb : B8 p = true) (n : Nat) (hn : n ≤ (A7 p).length) : R (Mn K ((A7 p).take n, 0)) n (A7 p).length (p.1, p.2.2.1, p.2.2.2.1, p.2.2.2.2.1, p.2.2.2.2.2.1, p.2.2.2.2.2.2.1, p.2.2.2.2.2.2.2, (A7 p).take n, (((A7 p).length : Nat) : Int), p.2.1) := by
 obtain ⟨q0, q1, q2, q3, q4, q5, q6, q7⟩ := Vj hb
 have hl := Afk hb
 have c0 : (A7 p).drop 0 = 67 :: 70 :: 1 :: Fz p := rfl
 have hlen : (A7 p).length = 3 + ((vi p.1.toNat).length + ((A2 timV p.2.1).length + ((vi p.2.2.1.toNat).length + ((vi p.2.2.2.1.toNat).length + ((vi p.2.2.2.2.1.toNat).length + ((vi p.2.2.2.2.2.1.toNat).length + (1 + (vi p.2.2.2.2.2.2.2.toNat).length))))))) := by
  unfold A7 Fz
  simp only [List.length_cons, List.length_append]
  omega
 have hT : (A7 p).length ≤ 900000 := by omega
 generalize A7 p = T at *
 have htl : (T.take n).length = n := by rw [List.length_take]; omega
 obtain ⟨y0, c1⟩ := Km c0
 obtain ⟨y1, c2⟩ := Km c1
 obtain ⟨y2, d0⟩ := Km c2
 unfold Fz at d0
 have d1 := Bu d0
 have d2 := Bu d1
 have d3 := Bu d2
 have d4 := Bu d3
 have d5 := Bu d4
 have d6 := Bu d5
 obtain ⟨y7, d7⟩ := Km d6
 obtain ⟨j, hj⟩ : ∃ j, K = j + 4 := ⟨K - 4, by omega⟩
 have main : R ((Cp K).L 2 [] (j + 4) (Kv (3, (0 : Int), T.take n, (0 : Int), (0 : Int), (0 : Int), (0 : Int), (0 : Int), (0 : Int), false, (0 : Int), ([67, 70, 1] : List Int)))) n T.length (p.1, p.2.2.1, p.2.2.2.1, p.2.2.2.2.1, p.2.2.2.2.2.1, p.2.2.2.2.2.2.1, p.2.2.2.2.2.2.2, T.take n, ((T.length : Nat) : Int), p.2.1) := by
  rw [Ku, Ia, show decide ((0 : Int) < 3) = true from rfl, cond_true, show inB (0 : Int) (List.length ([67, 70, 1] : List Int)) = true from rfl, cond_true]
  refine R.bind (Hf K hK T n hn hT 0 (Nat.zero_le _) 67 y0) (fun g => ?_) (by omega)
  simp only []
  rw [show ((67 : Int) != rdI ([67, 70, 1] : List Int) (Int.toNat (0 : Int))) = false from rfl, cond_false, show IntKind.wrap .i64 ((0 : Int) + 1) = 1 from rfl]
  rw [Ku, Ia, show decide ((1 : Int) < 3) = true from rfl, cond_true, show inB (1 : Int) (List.length ([67, 70, 1] : List Int)) = true from rfl, cond_true]
  refine R.bind (Hf K hK T n hn hT 1 g 70 y1) (fun g => ?_) (by omega)
  simp only []
  rw [show ((70 : Int) != rdI ([67, 70, 1] : List Int) (Int.toNat (1 : Int))) = false from rfl, cond_false, show IntKind.wrap .i64 ((1 : Int) + 1) = 2 from rfl]
  rw [Ku, Ia, show decide ((2 : Int) < 3) = true from rfl, cond_true, show inB (2 : Int) (List.length ([67, 70, 1] : List Int)) = true from rfl, cond_true]
  refine R.bind (Hf K hK T n hn hT 2 g 1 y2) (fun g => ?_) (by omega)
  simp only []
  rw [show ((1 : Int) != rdI ([67, 70, 1] : List Int) (Int.toNat (2 : Int))) = false from rfl, cond_false, show IntKind.wrap .i64 ((2 : Int) + 1) = 3 from rfl]
  rw [Ku, Ia, show decide ((3 : Int) < 3) = false from rfl, cond_false]
  refine R.bind (Du K hK T n hn hT _ g p.1 (Av q0).1 (Av q0).2 _ d0) (fun g => ?_) (by omega)
  refine R.bind (tims_R K hK T n hn hT p.2.1 q6 q7 _ g _ d1) (fun g => ?_) (by omega)
  refine R.bind (Ax3 K hK T n hn hT p.2.2.1 p.2.2.2.1 q1 q2 _ g _ d2) (fun g => ?_) (by omega)
  refine R.bind (Ax3 K hK T n hn hT p.2.2.2.2.1 p.2.2.2.2.2.1 q3 q4 _ g _ d4) (fun g => ?_) (by omega)
  refine R.bind (Hf K hK T n hn hT _ g _ y7) (fun g => ?_) (by omega)
  simp only []
  have hbit : 0 ≤ bitV p.2.2.2.2.2.2.1 ∧ bitV p.2.2.2.2.2.2.1 ≤ 1 := by unfold bitV; split <;> omega
  rw [cd, if_neg (by omega), A3o, Yx]
  refine R.bind (Du K hK T n hn hT _ g p.2.2.2.2.2.2.2 (Av q5).1 (Av q5).2 [] (by rw [List.append_nil]; exact d7)) (fun g => ?_) (by omega)
  simp only []
  rw [cd, htl, if_neg (by omega)]
  refine R.fin (by omega) ?_
  have hbb : (bitV p.2.2.2.2.2.2.1 == (1 : Int)) = p.2.2.2.2.2.2.1 := by unfold bitV; cases p.2.2.2.2.2.2.1 <;> rfl
  rw [hbb]
  simp only [Prod.mk.injEq, true_and, and_true]
  omega
 rw [Ake, Sy]
 rw [← hj] at main
 exact main
theorem Aim (p : A4) (hb : B8 p = true) : G7 K (A7 p) = some (p.1, p.2.2.1, p.2.2.2.1, p.2.2.2.2.1, p.2.2.2.2.2.1, p.2.2.2.2.2.2.1, p.2.2.2.2.2.2.2, 0, 0, p.2.1) := by
 have h := Atx K hK p hb (A7 p).length (Nat.le_refl _)
 rw [List.take_length] at h
 unfold R at h
 rw [if_pos (Nat.le_refl _)] at h
 rw [Xq, Se, h]
 rfl
theorem A15 (p : A4) (hb : B8 p = true) : G7 K ((A7 p).take ((A7 p).length - 1)) = some (0, 0, 0, 0, 0, false, 0, 50, (((A7 p).length - 1 : Nat) : Int), []) := by
 have hl := Afk hb
 have h := Atx K hK p hb ((A7 p).length - 1) (by omega)
 unfold R at h
 rw [if_neg (by omega)] at h
 rw [Xq, Se, h]
 rfl
end
theorem Xn (K : Nat) (hK : 120 ≤ K) (p : A4) (hb : B8 p = true) : F2 K p = some (0, A7 p) := by
 obtain ⟨q0, q1, q2, q3, q4, q5, q6, q7⟩ := Vj hb
 have h := enc_w K hK p.1 p.2.1 p.2.2.1 p.2.2.2.1 p.2.2.2.2.1 p.2.2.2.2.2.1 p.2.2.2.2.2.2.1 p.2.2.2.2.2.2.2 (i64n q0) (fun t ht => okT_b (q7 t ht)) (i64n q1) (i64n q2) (i64n q3) (i64n q4) (i64n q5)
 rw [plE_v hb] at h
 exact h
set_option maxRecDepth 100000
def p5 : A4 := (5, [], 0, 0, 0, 0, false, 0)
def p300 : A4 := (300, [], 0, 0, 0, 0, false, 0)
def p301 : A4 := (300, [], 0, 0, 0, 0, true, 7)
theorem v5 : A7 p5 = [67, 70, 1, 5, 0, 0, 0, 0, 0, 0, 0] := by
 simp [A7, Fz, A2, bitV, p5, Dz, J5]
theorem v300 : A7 p300 = [67, 70, 1, 172, 2, 0, 0, 0, 0, 0, 0, 0] := by
 simp [A7, Fz, A2, bitV, p300, Dz, J5]
theorem v301 : A7 p301 = [67, 70, 1, 172, 2, 0, 0, 0, 0, 0, 1, 7] := by
 simp [A7, Fz, A2, bitV, p301, Dz, J5]
section
variable (K : Nat) (hK : 400000 ≤ K)
include hK
omit hK in
theorem Ahk {α β γ : Type} {r : Option (α ⊕ γ)} {f : α → Option β} {g : γ → Option β} {o : α} (h : r = some (.inl o)) : r.bind (orP f g) = f o := by rw [h]; rfl
theorem dec_bad (T : List Int) (hl : T.length = 2) (y0 : T[0]? = some 67) (y1 : T[1]? = some 71) : G7 K T = some (0, 0, 0, 0, 0, false, 0, 40, 1, []) := by
 have n0 := Hf K (by omega) T 2 (by omega) (by omega) 0 (by omega) 67 y0
 have n1 := Hf K (by omega) T 2 (by omega) (by omega) 1 (by omega) 71 y1
 unfold R at n0 n1
 rw [if_pos (by omega), List.take_of_length_le (by omega)] at n0 n1
 rw [show ((0 : Nat) : Int) = 0 from rfl, show ((0 + 1 : Nat) : Int) = 1 from rfl] at n0
 rw [show ((1 : Nat) : Int) = 1 from rfl] at n1
 obtain ⟨j, hj⟩ : ∃ j, K = j + 2 := ⟨K - 2, by omega⟩
 have main : (Cp K).L 2 [] (j + 2) (Kv (3, (0 : Int), T, (0 : Int), (0 : Int), (0 : Int), (0 : Int), (0 : Int), (0 : Int), false, (0 : Int), ([67, 70, 1] : List Int))) = some (.inr (40, 1)) := by
  rw [Ku, Ia, show decide ((0 : Int) < 3) = true from rfl, cond_true, show inB (0 : Int) (List.length ([67, 70, 1] : List Int)) = true from rfl, cond_true]
  refine (Ahk n0).trans ?_
  simp only []
  rw [show ((67 : Int) != rdI ([67, 70, 1] : List Int) (Int.toNat (0 : Int))) = false from rfl, cond_false, show IntKind.wrap .i64 ((0 : Int) + 1) = 1 from rfl]
  rw [Ku, Ia, show decide ((1 : Int) < 3) = true from rfl, cond_true, show inB (1 : Int) (List.length ([67, 70, 1] : List Int)) = true from rfl, cond_true]
  refine (Ahk n1).trans ?_
  simp only []
  rw [show ((71 : Int) != rdI ([67, 70, 1] : List Int) (Int.toNat (1 : Int))) = true from rfl, cond_true]
 rw [← hj] at main
 have hp : Mn K (T, 0) = some (.inr (40, 1)) := by
  rw [Ake, Sy]
  exact main
 rw [Xq, Se, hp]
 rfl
theorem Ayg : Nl K () = some true := by
 have e1 := Xn K (by omega) p5 (by decide +kernel)
 have e2 := Xn K (by omega) p300 (by decide +kernel)
 have e3 := Aim K (by omega) p301 (by decide +kernel)
 have e4 := dec_bad K hK [67, 71] rfl rfl rfl
 rw [v5] at e1
 rw [v300] at e2
 rw [v301] at e3
 have e1 : F2 K (5, [], 0, 0, 0, 0, false, 0) = _ := e1
 have e2 : F2 K (300, [], 0, 0, 0, 0, false, 0) = _ := e2
 rw [Baf, Arv, e1, Option.bind_some, e2, Option.bind_some, e3, Option.bind_some, e4, Option.bind_some]
 rfl
end
def outQ (x : A4 × Int × Int) := (x.1.1, x.1.2.2.1, x.1.2.2.2.1, x.1.2.2.2.2.1, x.1.2.2.2.2.2.1, x.1.2.2.2.2.2.2.1, x.1.2.2.2.2.2.2.2, x.2.1, x.2.2, x.1.2.1)
theorem deviceText_pure (b : Bac) : ∃ k, Xg k b = some true := by
 obtain ⟨k, hk⟩ : ∃ k : Nat, k = 400000 := ⟨_, rfl⟩
 refine ⟨k, ?_⟩
 have hk : 400000 ≤ k := by omega
 have hA := Ayg k hk
 rw [Bad, Arr]
 by_cases hb : (6000 : Nat) < b.length
 ·rw [show decide (((List.length b : Nat) : Int) > (6000 : Int)) = true by simp; omega]
  rfl
 have hq : M8 k b = some (outQ (Ct b)) := Bbg k (by omega) b (by omega) (by omega)
 rw [show decide (((List.length b : Nat) : Int) > (6000 : Int)) = false by simp; omega, cond_false, hq, Option.bind_some]
 have hR := @Bbz b
 revert hR
 generalize Ct b = x
 intro hR
 unfold outQ
 simp only
 by_cases h0 : x.2.1 = 0
 ·have hB := hR h0
  have hb0 : (x.2.1 != 0) = false := by simpa using h0
  have hS := Bbn hB
  have h1 : F2 k (x.1.1, x.1.2.1, x.1.2.2.1, x.1.2.2.2.1, x.1.2.2.2.2.1, x.1.2.2.2.2.2.1, x.1.2.2.2.2.2.2.1, x.1.2.2.2.2.2.2.2) = _ := Xn k (by omega) x.1 hB
  have h2 := Aim k (by omega) x.1 hB
  have h3 := A15 k (by omega) x.1 hB
  have h4 : Ki k (x.1.1, x.1.2.1, x.1.2.2.1, x.1.2.2.2.1, x.1.2.2.2.2.1, x.1.2.2.2.2.2.1, x.1.2.2.2.2.2.2.1, x.1.2.2.2.2.2.2.2) = some (Ju x.1, 0) := Bbr k (by omega) x.1 hS hB
  have hl := Afk hB
  generalize A7 x.1 = T at h1 h2 h3 hl
  generalize Ju x.1 = S at h4
  have hcut : IntKind.wrap .i64 (((List.length T : Nat) : Int) - (1 : Int)) = ((T.length - 1 : Nat) : Int) := by rw [w64 (by omega)]; omega
  have hc2 : ∀ {R : Type} (F : List Int → Option R), cut T (0 : Int) ((T.length - 1 : Nat) : Int) F = F (T.take (T.length - 1)) := fun F => by
   have := Aif (K := F) (l := T) (i := 0) (j := T.length - 1) (by omega) (by omega)
   rw [List.drop_zero] at this
   exact this
  rw [hb0, cond_false, h1, Option.bind_some]
  simp only
  rw [show decide (((List.length T : Nat) : Int) < (1 : Int)) = false by simp; omega, hcut, h2, Option.bind_some, hc2, h3, Option.bind_some, h4, Option.bind_some]
  simp only
  rw [Option.bind_some, hA]
  simp only [beq_self_eq_true, cond_true, Option.bind_some]
  rfl
 ·have hb0 : (x.2.1 != 0) = true := by simpa using h0
  rw [hb0, cond_true, hA]
  rfl
end Go.Proofs.YtghmhkpgdmgepaaGreatDoorV
