import Derived.Test.YtipcabmhdokfjaaGreatDoorC8
import Derived.Test.YtipcabmhdokfjaaGreatDoorC5
/-! Joined, names shortened: NS, QA, QB, QR, QC, QE, QD, SR3, SF, XJ, ST, SX, SY. -/
set_option linter.unusedVariables false
set_option linter.unusedSimpArgs false
namespace Go.Proofs.YtipcabmhdokfjaaGreatDoorV
open Go Go.RowKit
theorem A3 {R : Type} {l : List Tk} {K : Tk → Option R} (h : l ≠ []) : idx tkD l 0 K = K (hd l) := by
 cases l with
 | nil => exact absurd rfl h
 | cons x r => exact A5 (i := 0) rfl
theorem Kj {R : Type} {l : List Tk} {a b : Option R} (h : l ≠ []) : (bif inB (0 : Int) l.length then a else b) = a := by
 cases l with
 | nil => exact absurd rfl h
 | cons x r => rw [cinB, if_pos (by simp)]
theorem Ol {l : List Tk} : rdA tkD l (Int.toNat 0) = hd l := by
 cases l <;> rfl
theorem Ace {R : Type} {l : List Tk} {a b : Option R} (h : l ≠ []) : (bif cutB (1 : Int) ((l.length : Nat) : Int) l.length then a else b) = a := by
 cases l with
 | nil => exact absurd rfl h
 | cons x r => rw [Je, if_pos (by simp; omega)]
theorem Acf {l : List Tk} : cutL l 1 ((l.length : Nat) : Int) = l.tail := by
 cases l <;> simp [cutL]
theorem Aqy {R : Type} {l : List Tk} {K : List Tk → Option R} (h : l ≠ []) : cut l 1 ((l.length : Nat) : Int) K = K l.tail := by
 unfold cut
 rw [Ace h, Acf]
section
variable (k : Nat) (hk : 1000 ≤ k)
section
variable (x : RS) (g : EndT x.1)
include g
theorem is_run0 (s : List Int) : Vy k (s, x.2.1, x.2.2, x.1) = some (Ay s x, x.2.1, x.2.2, x.1) := by
 rw [B7d, A8w, Kj g.ne, Kj g.ne, Kj g.ne, Ol]
 unfold Ay
 cases x.2.1 == 0 <;> cases (hd x.1).1 != 2 <;> cases (hd x.1).1 != 0 <;> rfl
theorem L0 (s : List Int) : Il k (s, x.1, x.2.1, x.2.2) = some (Ay s x, x.1, x.2.1, x.2.2) := by
 rw [B7c, A8t, A3 g.ne, A3 g.ne, A3 g.ne]
 unfold Ay
 cases x.2.1 == 0 <;> cases (hd x.1).1 != 2 <;> cases (hd x.1).1 != 0 <;> rfl
theorem Bxk (c : Int) : Vu k (c, x.2.1, x.2.2, x.1) = some ((A2 c x).2.1, (A2 c x).2.2, (A2 c x).1) := by
 rw [B61, A8i, Kj g.ne, Ol]
 unfold A2
 cases x.2.1 == 0 <;> rfl
theorem Kf (c : Int) : Fw k (c, x.1, x.2.1, x.2.2) = some ((A2 c x).1, (A2 c x).2.1, (A2 c x).2.2) := by
 rw [B60, A8f, A3 g.ne]
 unfold A2
 cases x.2.1 == 0 <;> rfl
theorem Bgq : P6 k (x.2.1, x.2.2, x.1) = some ((hd x.1).1, (hd x.1).2.1, (hd x.1).2.2.1, (hd x.1).2.2.2.1, (A1 x).1, (A1 x).2.1, (A1 x).2.2) := by
 rw [B7l, A87, Kj g.ne, Ace g.ne, Acf, Ol]
 unfold A1
 cases x.2.1 == 0 <;> cases (hd x.1).1 != 0 <;> rfl
theorem Iw : Fd k (x.1, x.2.1, x.2.2) = some ((hd x.1).1, (hd x.1).2.1, (hd x.1).2.2.1, (hd x.1).2.2.2.1, (A1 x).1, (A1 x).2.1, (A1 x).2.2) := by
 rw [B7k, A84, A3 g.ne, Aqy g.ne]
 unfold A1
 cases x.2.1 == 0 <;> cases (hd x.1).1 != 0 <;> rfl
theorem Cg3 (s : List Int) : V2 k (s, x.2.1, x.2.2, x.1) = some ((Aj s x).1, (Aj s x).2.1, (Aj s x).2.2) := by
 rw [B74, A9o, is_run0 k x g, Option.bind_some]
 unfold Aj
 cases Ay s x
 ·have e := Bgq k (A2 50 x) ((Fs 50 x).g g)
  simp only [Bool.not_false, cond_true, cond_false, Bxk k x g, Option.bind_some]
  rw [e, Option.bind_some]
 ·simp only [Bool.not_true, cond_true, cond_false]
  rw [Bgq k x g, Option.bind_some]
theorem Dg (s : List Int) : Cm k (s, x.1, x.2.1, x.2.2) = some ((Aj s x).1, (Aj s x).2.1, (Aj s x).2.2) := by
 rw [B72, A9l, L0 k x g, Option.bind_some]
 unfold Aj
 cases Ay s x
 ·have e := Iw k (A2 50 x) ((Fs 50 x).g g)
  simp only [Bool.not_false, cond_true, cond_false, Kf k x g, Option.bind_some]
  rw [e, Option.bind_some]
 ·simp only [Bool.not_true, cond_true, cond_false]
  rw [Iw k x g, Option.bind_some]
theorem Bgs : (Hv k).J 3 [] (R5 (x.1, x.2.1, x.2.2)) = some ((numC x).1, (numC x).2.1, (numC x).2.2.1, (numC x).2.2.2) := by
 rw [B7y, Ak7, A3 g.ne, Kf k x g, Iw k x g, cbne]
 unfold numC
 by_cases h : (hd x.1).1 = 2
 ·rw [if_pos h, h]; rfl
 ·rw [if_neg h, show ((hd x.1).1 == 2) = false by simpa using h]; rfl
theorem Bgr : (Hw k).J 3 [] (R4 (x.1, x.2.1, x.2.2)) = some ((numC x).1, (numC x).2.1, (numC x).2.2.1, (numC x).2.2.2) := by
 rw [B7v, Ak3, A3 g.ne, Kf k x g, Iw k x g, cbne]
 unfold numC
 by_cases h : (hd x.1).1 = 2
 ·rw [if_pos h, h]; rfl
 ·rw [if_neg h, show ((hd x.1).1 == 2) = false by simpa using h]; rfl
theorem Ccu (w : List Int) : V0 k (w, x.2.1, x.2.2, x.1) = some ((numR w x).1, (numR w x).2.1, (numR w x).2.2.1, (numR w x).2.2.2) := by
 rw [B7x, Ak6, Cg3 k x g, Option.bind_some]
 unfold numR
 cases w == []
 ·simp only [Bool.not_false, cond_true, cond_false]
  exact Bgs k (Aj w x) ((Bo w x).g g)
 ·simp only [Bool.not_true, cond_true, cond_false]
  exact Bgs k x g
theorem Dy (w : List Int) : C0 k (w, x.1, x.2.1, x.2.2) = some ((numR w x).1, (numR w x).2.1, (numR w x).2.2.1, (numR w x).2.2.2) := by
 rw [B7u, Ak2, Dg k x g, Option.bind_some]
 unfold numR
 cases w == []
 ·simp only [Bool.not_false, cond_true, cond_false]
  exact Bgr k (Aj w x) ((Bo w x).g g)
 ·simp only [Bool.not_true, cond_true, cond_false]
  exact Bgr k x g
theorem A9w (w : List Int) : P3 k (w, x.1, x.2.1, x.2.2) = some ((Dk w x).1.1, (Dk w x).1.2, (Dk w x).2.1, (Dk w x).2.2.1, (Dk w x).2.2.2) := by
 rw [B63, A8l, Dy k x g, Option.bind_some]
 have e := Dy k (numR w x).2 ((Bm w x).g g) ([47] : List Int)
 rw [e]
 rfl
theorem J7 (w : List Int) (a b : Int) : Gq k (w, a, b, x.1, x.2.1, x.2.2) = some ((A6 w a b x).1, (A6 w a b x).2.1, (A6 w a b x).2.2.1, (A6 w a b x).2.2.2) := by
 rw [B6z, A8c, L0 k x g, Option.bind_some]
 unfold A6
 cases Ay w x
 ·rfl
 ·simp only [Bool.not_true, cond_true, cond_false]
  rw [Kf k x g, Iw k x g]
  cases a == b <;> rfl
include hk
theorem Ga : Ek k (x.1, x.2.1, x.2.2) = some ((Ah x).1, (Ah x).2.1, (Ah x).2.2.1, (Ah x).2.2.2) := by
 rw [B7f, A8z, A3 g.ne, A3 g.ne, Bhz k _ (by omega), Kf k x g, Iw k x g, Option.bind_some, cbne]
 unfold Ah
 by_cases h : (hd x.1).1 = 1
 ·rw [if_pos h, show ((hd x.1).1 == 1) = true by simpa using h]
  cases resB (hd x.1).2.1 <;> rfl
 ·rw [if_neg h, show ((hd x.1).1 == 1) = false by simpa using h]; rfl
end
theorem Cf3 {x : RS} {s : List Int} (h : Ay s x = true) (g : EndT x.1) : (A1 x).1.length < x.1.length := by
 have := g.ne
 unfold Ay at h
 simp only [Bool.and_eq_true] at h
 unfold A1
 rw [h.1, h.2.2.1]
 cases hx : x.1 with
 | nil => exact absurd hx this
 | cons y r => simp
include hk
theorem Bgj (most : Int) : ∀ (f j : Nat) (x : RS) (o : List (List Int)), x.1.length < f → x.1.length < j → EndT x.1 → o.length + x.1.length ≤ 200000 →
  (Ec k).L 2 [] j (R2 (most, x.1, x.2.1, x.2.2, o)) = some ((Cb most f x o).2.1, (Cb most f x o).2.2.1, (Cb most f x o).2.2.2, (Cb most f x o).1)
 | 0, j, x, o, h, _, _, _ => by omega
 | f + 1, 0, x, o, _, h, _, _ => by omega
 | f + 1, j + 1, x, o, hf, hj, g, hm => by
  rw [B7j, Akm, L0 k x g, Option.bind_some, Cb]
  cases hs : Ay ([44] : List Int) x
  ·simp only [cond_false]
   rw [Dg k x g]
   rfl
  ·have hlt := Cf3 hs g
   have gy := (Eh x).g g
   simp only [cond_true]
   rw [Iw k x g, Option.bind_some]
   simp only
   rw [A3 gy.ne, A3 gy.ne, Bhz k _ (by omega), Option.bind_some, Kf k (A1 x) gy 4, Option.bind_some]
   generalize hz : (bif (((o.length : Nat) : Int) == most) && ((hd (A1 x).1).1 == 1 && !(resB (hd (A1 x).1).2.1)) then A2 4 (A1 x) else A1 x) = z
   have az : Adv (A1 x) z := by rw [← hz]; exact Ik (Fs 4 _) (.refl _)
   have gz := az.g gy
   have hzl := az.l
   have J6 : (Ec k).J 6 [j] (Lt (most, z.1, z.2.1, z.2.2, o)) = some ((Cb most f (Ah z).2 (o ++ [(Ah z).1])).2.1, (Cb most f (Ah z).2 (o ++ [(Ah z).1])).2.2.1, (Cb most f (Ah z).2 (o ++ [(Ah z).1])).2.2.2, (Cb most f (Ah z).2 (o ++ [(Ah z).1])).1) := by
    have hn := (B1 z).l
    rw [B7i, Akl, Ga k hk z gz, Option.bind_some, Ce (by simp; omega) (by simp; omega)]
    exact Bgj most f j (Ah z).2 _ (by omega) (by omega) ((B1 z).g gz) (by simp; omega)
   rw [← J6, ← hz]
   cases ((o.length : Nat) : Int) == most
   ·simp only [cond_false, Bool.false_and]
   ·cases (hd (A1 x).1).1 == 1
    ·rw [cond_true, cond_false, Bool.false_and, Bool.and_false, cond_false]
    ·cases resB (hd (A1 x).1).2.1 <;> simp only [cond_false, cond_true, Bool.not_true, Bool.not_false, Bool.and_false, Bool.and_true]
theorem Bgk (most : Int) (x : RS) (g : EndT x.1) (hl : x.1.length < k) (hm : x.1.length ≤ 100000) : P5 k (most, x.1, x.2.1, x.2.2) = some ((Cg most x).2.1, (Cg most x).2.2.1, (Cg most x).2.2.2, (Cg most x).1) := by
 have hn := (B1 x).l
 rw [B7h, Akk, Ga k hk x g, Option.bind_some]
 exact Bgj k hk most _ k (Ah x).2 _ (by omega) (by omega) ((B1 x).g g) (by simp; omega)
end
def TokW (t : Tk) : Prop := (t.1 = 0 → t.2.1 = []) ∧ (t.1 = 2 → ∀ c ∈ t.2.1, A0 c = true)
def WS (s : List Int) : Prop := ∃ c r, s = c :: r ∧ A0 c = false
structure Rdy (l : List Tk) : Prop where
 e : EndT l
 w : ∀ t ∈ l, TokW t
theorem Rdy.ne {l : List Tk} (r : Rdy l) : l ≠ [] := r.e.ne
theorem Rdy.hd {l : List Tk} (r : Rdy l) : TokW (hd l) := by
 have := r.ne
 cases l with
 | nil => exact absurd rfl this
 | cons t q => exact r.w t (by simp)
theorem Rdy.of {x y : RS} (r : Rdy x.1) (h : Adv x y) (hs : y.1 <:+ x.1) : Rdy y.1 := ⟨h.g r.e, fun t ht => r.w t (hs.subset ht)⟩
abbrev Suf (x y : RS) : Prop := y.1 <:+ x.1
theorem Suf.trans {x y z : RS} (h : Suf x y) (h2 : Suf y z) : Suf x z := List.IsSuffix.trans h2 h
theorem Gf (x : RS) : Suf x x := List.suffix_rfl
theorem Mh (c : Int) (x : RS) : Suf x (A2 c x) := by
 unfold A2
 cases x.2.1 == 0 <;> exact List.suffix_rfl
theorem I7 (x : RS) : Suf x (A1 x) := by
 unfold A1
 cases h : x.2.1 == 0 && (Go.Proofs.YtipcabmhdokfjaaGreatDoorV.hd x.1).1 != 0
 ·exact List.suffix_rfl
 ·exact List.tail_suffix _
theorem Jw {x y z : RS} {c : Bool} (h : Suf x y) (h2 : Suf x z) : Suf x (bif c then y else z) := by cases c <;> assumption
theorem Cy (s : List Int) (x : RS) : Suf x (Aj s x) := (Jw (Gf x) (Mh 50 x)).trans (I7 _)
theorem Fo (x : RS) : Suf x (Ah x).2 := by
 unfold Ah
 cases (Go.Proofs.YtipcabmhdokfjaaGreatDoorV.hd x.1).1 == 1 && !(resB (Go.Proofs.YtipcabmhdokfjaaGreatDoorV.hd x.1).2.1)
 ·exact Mh 50 x
 ·exact I7 x
theorem Y7 (x : RS) : Suf x (numC x).2 := by
 unfold numC
 cases (Go.Proofs.YtipcabmhdokfjaaGreatDoorV.hd x.1).1 == 2
 ·exact Mh 50 x
 ·exact I7 x
theorem Zi (x : RS) : Adv x (numC x).2 := by
 unfold numC
 cases (Go.Proofs.YtipcabmhdokfjaaGreatDoorV.hd x.1).1 == 2
 ·exact Fs 50 x
 ·exact Eh x
theorem Ds (w : List Int) (x : RS) : Suf x (numR w x).2 := (Jw (c := w == []) (Gf x) (Cy w x)).trans (Y7 _)
theorem Bod (w : List Int) (x : RS) : Suf x (Dk w x).2 := (Ds w x).trans (Ds _ _)
theorem Cgl (w : List Int) (a b : Int) (x : RS) : Suf x (A6 w a b x).2 := by
 unfold A6
 cases Ay w x
 ·exact Gf x
 ·cases a == b
  ·exact I7 x
  ·exact Mh 4 x
theorem Boe {α : Type} (w : List Int) (most : Int) (item : RS → α × RS) (hi : ∀ x, Suf x (item x).2) : ∀ (f : Nat) (x : RS) (o : List α), Suf x (Cs w most item f x o).2
 | 0, x, o => Gf x
 | f + 1, x, o => by
  rw [Cs]
  have hb := Cgl w ((o.length : Nat) : Int) most x
  cases (A6 w ((o.length : Nat) : Int) most x).1
  ·exact hb
  ·exact hb.trans ((hi _).trans (Boe w most item hi f _ _))
theorem Jx {α : Type} {w : List Int} {most : Int} {item : RS → α × RS} (hi : ∀ x, Suf x (item x).2) (x : RS) : Suf x (Aw w most item x).2 := Boe w most item hi _ x []
theorem Bof (most : Int) : ∀ (f : Nat) (x : RS) (o : List (List Int)), Suf x (Cb most f x o).2
 | 0, x, o => Gf x
 | f + 1, x, o => by
  rw [Cb]
  cases Ay ([44] : List Int) x
  ·exact Cy _ _
  ·exact (I7 x).trans ((Jw (Mh 4 _) (Gf _)).trans ((Fo _).trans (Bof most f _ _)))
theorem Aos (most : Int) (x : RS) : Suf x (Cg most x).2 := (Fo x).trans (Bof most _ _ _)
set_option maxRecDepth 100000 in
theorem Aor (x : RS) : Suf x (Bf x).2 :=
 (Fo x).trans ((Ds _ _).trans ((Ds _ _).trans ((Bod _ _).trans ((Ds _ _).trans ((Cy _ _).trans ((Jw (I7 _) (Gf _)).trans ((Ds _ _).trans ((Ds _ _).trans ((Ds _ _).trans ((Ds _ _).trans (Cy _ _)))))))))))
theorem Aox (x : RS) : Suf x (Bx x).2 := (Fo x).trans ((Cy _ _).trans ((Fo _).trans ((Ds _ _).trans ((Ds _ _).trans ((Ds _ _).trans (Cy _ _))))))
theorem Aou (x : RS) : Suf x (Dq x).2 := (Fo x).trans ((Cy _ _).trans (Aos _ _))
theorem Aov (x : RS) : Suf x (Dz x).2 := (Jw (I7 _) (Gf _)).trans (Aos _ _)
theorem Aoq (x : RS) : Suf x (Cx x).2 := (Cy _ _).trans ((Jw (Gf _) (Mh _ _)).trans ((Jx Aov _).trans (Cy _ _)))
theorem Aop (x : RS) : Suf x (foeR x).2 := (Fo x).trans ((Fo _).trans (Cy _ _))
theorem Aot (x : RS) : Suf x (Bv x).2 := (Fo x).trans ((Cy _ _).trans ((Jx Aor _).trans ((Jx Aox _).trans ((Jx Aou _).trans ((Jx Aoq _).trans ((Jx Aop _).trans (Cy _ _)))))))
theorem Aow (x : RS) : Suf x (Ef x).2 := (Fo x).trans ((Cy _ _).trans ((Fo _).trans ((Cy _ _).trans ((Fo _).trans ((Ds _ _).trans ((Ds _ _).trans (Cy _ _)))))))
section
variable {l : List Tk} {e p : Int} (h : e ≠ 0)
include h
theorem Ak (c : Int) : A2 c (l, e, p) = (l, e, p) := by
 have he : (e == 0) = false := by simpa using h
 unfold A2; simp only [he]; rfl
theorem An : A1 (l, e, p) = (l, e, p) := by
 have he : (e == 0) = false := by simpa using h
 unfold A1; simp only [he]; rfl
theorem Al (s : List Int) : Ay s (l, e, p) = false := by
 have he : (e == 0) = false := by simpa using h
 unfold Ay; simp only [he]; rfl
theorem Am (s : List Int) : Aj s (l, e, p) = (l, e, p) := by
 unfold Aj; rw [Al h, cond_false, Ak h, An h]
theorem Aq : (Ah (l, e, p)).2 = (l, e, p) := by
 unfold Ah
 cases (Go.Proofs.YtipcabmhdokfjaaGreatDoorV.hd (l, e, p).1).1 == 1 && !(resB (Go.Proofs.YtipcabmhdokfjaaGreatDoorV.hd (l, e, p).1).2.1)
 ·exact Ak h 50
 ·exact An h
theorem Ao : (numC (l, e, p)).2 = (l, e, p) := by
 unfold numC
 cases (Go.Proofs.YtipcabmhdokfjaaGreatDoorV.hd (l, e, p).1).1 == 2
 ·exact Ak h 50
 ·exact An h
theorem stk_num (w : List Int) : (numR w (l, e, p)).2 = (l, e, p) := by
 unfold numR
 cases w == []
 ·rw [cond_false, Am h, Ao h]
 ·exact Ao h
theorem Ar {α : Type} (w : List Int) (most : Int) (item : RS → α × RS) : (Aw w most item (l, e, p)).2 = (l, e, p) := by
 unfold Aw
 rw [Cs]
 unfold A6
 rw [Al h]
 rfl
theorem Av (most : Int) : (Cg most (l, e, p)).2 = (l, e, p) := by
 unfold Cg
 rw [Aq h, Cb, Al h, cond_false, Am h]
end
inductive OK {α : Type} (l0 : List Tk) : α × RS → Prop
 | fail (v : α) (l : List Tk) (e p : Int) (h : e ≠ 0) : OK l0 (v, l, e, p)
 | ok (v : α) (l : List Tk) (r : Rdy l) (hl : l.length ≤ l0.length) : OK l0 (v, l, 0, 0)
inductive OK1 (l0 : List Tk) : RS → Prop
 | fail (l : List Tk) (e p : Int) (h : e ≠ 0) : OK1 l0 (l, e, p)
 | ok (l : List Tk) (r : Rdy l) (hl : l.length ≤ l0.length) : OK1 l0 (l, 0, 0)
def Zr (x : RS) : Prop := (x.2.1 = 0 → x.2.2 = 0) ∧ (x.2.1 = 0 ∨ x.2.1 = 50 ∨ x.2.1 = 4)
theorem zr0 {l : List Tk} : Zr (l, 0, 0) := ⟨fun _ => rfl, .inl rfl⟩
theorem OK.of {α : Type} {l0 : List Tk} (r : Rdy l0) {o : α × RS} (ha : Adv (l0, 0, 0) o.2) (hs : Suf (l0, 0, 0) o.2) (hz : Zr o.2) : OK l0 o := by
 obtain ⟨v, l, e, p⟩ := o
 by_cases he : e = 0
 ·subst he
  obtain rfl : p = 0 := hz.1 rfl
  exact .ok v l (Rdy.of (x := (l0, 0, 0)) (y := (l, 0, 0)) r ha hs) ha.l
 ·exact .fail v l e p he
theorem OK1.of {l0 : List Tk} (r : Rdy l0) {y : RS} (ha : Adv (l0, 0, 0) y) (hs : Suf (l0, 0, 0) y) (hz : Zr y) : OK1 l0 y := by
 obtain ⟨l, e, p⟩ := y
 by_cases he : e = 0
 ·subst he
  obtain rfl : p = 0 := hz.1 rfl
  exact .ok l (Rdy.of (x := (l0, 0, 0)) (y := (l, 0, 0)) r ha hs) ha.l
 ·exact .fail l e p he
theorem K3 (c : Int) (hc : c = 50 ∨ c = 4) (x : RS) (h : Zr x) : Zr (A2 c x) := by
 unfold A2
 cases hx : x.2.1 == 0
 ·exact h
 ·exact ⟨fun (h2 : c = 0) => by omega, .inr hc⟩
theorem Ih (x : RS) (h : Zr x) : Zr (A1 x) := by
 unfold A1
 cases x.2.1 == 0 && (Go.Proofs.YtipcabmhdokfjaaGreatDoorV.hd x.1).1 != 0 <;> exact h
theorem I9 {y z : RS} {c : Bool} (h : Zr y) (h2 : Zr z) : Zr (bif c then y else z) := by cases c <;> assumption
theorem Cv (s : List Int) (x : RS) (h : Zr x) : Zr (Aj s x) := Ih _ (I9 h (K3 50 (by decide) x h))
theorem Fq (x : RS) (h : Zr x) : Zr (Ah x).2 := by
 unfold Ah
 cases (Go.Proofs.YtipcabmhdokfjaaGreatDoorV.hd x.1).1 == 1 && !(resB (Go.Proofs.YtipcabmhdokfjaaGreatDoorV.hd x.1).2.1)
 ·exact K3 50 (by decide) x h
 ·exact Ih x h
theorem Zd (x : RS) (h : Zr x) : Zr (numC x).2 := by
 unfold numC
 cases (Go.Proofs.YtipcabmhdokfjaaGreatDoorV.hd x.1).1 == 2
 ·exact K3 50 (by decide) x h
 ·exact Ih x h
theorem Dt (w : List Int) (x : RS) (h : Zr x) : Zr (numR w x).2 := Zd _ (I9 h (Cv w x h))
theorem Bov (w : List Int) (x : RS) (h : Zr x) : Zr (Dk w x).2 := Dt _ _ (Dt w x h)
theorem Cg5 (w : List Int) (a b : Int) (x : RS) (h : Zr x) : Zr (A6 w a b x).2 := by
 unfold A6
 cases Ay w x
 ·exact h
 ·cases a == b
  ·exact Ih x h
  ·exact K3 4 (by decide) x h
theorem Bow {α : Type} (w : List Int) (most : Int) (item : RS → α × RS) (hi : ∀ x, Zr x → Zr (item x).2) : ∀ (f : Nat) (x : RS) (o : List α), Zr x → Zr (Cs w most item f x o).2
 | 0, x, o, h => h
 | f + 1, x, o, h => by
  rw [Cs]
  have hb := Cg5 w ((o.length : Nat) : Int) most x h
  cases (A6 w ((o.length : Nat) : Int) most x).1
  ·exact hb
  ·exact Bow w most item hi f _ _ (hi _ hb)
theorem J1 {α : Type} (w : List Int) (most : Int) (item : RS → α × RS) (hi : ∀ x, Zr x → Zr (item x).2) (x : RS) (h : Zr x) : Zr (Aw w most item x).2 := Bow w most item hi _ x [] h
theorem Box (most : Int) : ∀ (f : Nat) (x : RS) (o : List (List Int)), Zr x → Zr (Cb most f x o).2
 | 0, x, o, h => h
 | f + 1, x, o, h => by
  rw [Cb]
  cases Ay ([44] : List Int) x
  ·exact Cv _ _ h
  ·exact Box most f _ _ (Fq _ (I9 (K3 4 (by decide) _ (Ih x h)) (Ih x h)))
theorem Ao4 (most : Int) (x : RS) (h : Zr x) : Zr (Cg most x).2 := Box most _ _ _ (Fq x h)
section
variable {l : List Tk} (r : Rdy l)
include r
theorem Bl (s : List Int) : OK1 l (Aj s (l, 0, 0)) := .of r (Bo s _) (Cy s _) (Cv s _ zr0)
theorem I1 : OK l (Ah (l, 0, 0)) := .of r (B1 _) (Fo _) (Fq _ zr0)
theorem C7 : OK l (numC (l, 0, 0)) := .of r (Zi _) (Y7 _) (Zd _ zr0)
theorem Bgw (most : Int) : OK l (Cg most (l, 0, 0)) := .of r (Zh most _) (Aos most _) (Ao4 most _ zr0)
theorem ok_next : OK1 l (A1 (l, 0, 0)) := .of r (Eh _) (I7 _) (Ih _ zr0)
theorem Ccz (s : List Int) : OK1 l (bif Ay s (l, 0, 0) then A1 (l, 0, 0) else (l, 0, 0)) := .of r (Ik (Eh _) (.refl _)) (Jw (I7 _) (Gf _)) (I9 (Ih _ zr0) zr0)
theorem ok_sees (s : List Int) : OK1 l (bif Ay s (l, 0, 0) then (l, 0, 0) else A2 50 (l, 0, 0)) := .of r (Ik (.refl _) (Fs _ _)) (Jw (Gf _) (Mh _ _)) (I9 zr0 (K3 50 (by decide) _ zr0))
theorem Oo {s : List Int} (hs : WS s) : Ay s (l, 0, 0) = ((Go.Proofs.YtipcabmhdokfjaaGreatDoorV.hd l).2.1 == s) := by
 have hw := r.hd
 unfold Ay
 simp only [beq_self_eq_true, Bool.true_and]
 cases h : (Go.Proofs.YtipcabmhdokfjaaGreatDoorV.hd l).2.1 == s
 ·simp
 ·have h2 : (Go.Proofs.YtipcabmhdokfjaaGreatDoorV.hd l).2.1 = s := by simpa using h
  obtain ⟨c, q, rfl, hc⟩ := hs
  have h3 : ¬ (Go.Proofs.YtipcabmhdokfjaaGreatDoorV.hd l).1 = 2 := fun e => by
   have := hw.2 e c (by rw [h2]; simp)
   rw [hc] at this
   cases this
  have h4 : ¬ (Go.Proofs.YtipcabmhdokfjaaGreatDoorV.hd l).1 = 0 := fun e => by
   have := hw.1 e
   rw [h2] at this
   cases this
  simp [h3, h4]
end
def D5 (x : RS) : (Int × Int) × RS := (((numC x).1, (numC (Aj ([47] : List Int) (numC x).2)).1), (numC (Aj ([47] : List Int) (numC x).2)).2)
theorem Iy (c : Int) (w : List Int) (x : RS) : numR (c :: w) x = numC (Aj (c :: w) x) := rfl
theorem Iz (x : RS) : numR [] x = numC x := rfl
theorem Iq (c : Int) (w : List Int) (x : RS) : Dk (c :: w) x = D5 (Aj (c :: w) x) := rfl
theorem Bo0 (x : RS) : Adv x (D5 x).2 := (Zi x).trans ((Bo _ _).trans (Zi _))
theorem Cgm (x : RS) : Suf x (D5 x).2 := (Y7 x).trans ((Cy _ _).trans (Y7 _))
theorem Cg6 (x : RS) (h : Zr x) : Zr (D5 x).2 := Zd _ (Cv _ _ (Zd x h))
theorem Bgv {l : List Tk} (r : Rdy l) : OK l (D5 (l, 0, 0)) := .of r (Bo0 _) (Cgm _) (Cg6 _ zr0)
theorem Au {l : List Tk} {e p : Int} (h : e ≠ 0) : (D5 (l, e, p)).2 = (l, e, p) := by
 unfold D5
 rw [Ao h, Am h, Ao h]
def Sim {ρ : Type} (c : Option ρ) (pr : ρ → Bool × Int × Int × List Tk) (y : RS) (post : ρ → Prop) : Prop :=
 ∃ r, c = some r ∧ pr r = (y.2.1 == 0, y.2.1, y.2.2, y.1) ∧ (y.2.1 = 0 → post r)
section
variable {ρ ρ' : Type} {pr : ρ → Bool × Int × Int × List Tk} {pr' : ρ' → Bool × Int × Int × List Tk} {y : RS} {post : ρ → Prop} {post' : ρ' → Prop}
theorem As {A : ρ} {B : Option ρ} {l : List Tk} {e p : Int} (h : e ≠ 0) (hp : pr A = (e == 0, e, p, l)) (hy : y = (l, e, p)) : Sim (bif !(e == 0) then some A else B) pr y post := by
 have h2 : (e == 0) = false := by simpa using h
 subst hy
 refine ⟨A, by rw [h2]; rfl, hp, fun h3 => absurd h3 h⟩
theorem Gc {A : ρ} (hp : pr A = (y.2.1 == 0, y.2.1, y.2.2, y.1)) (h : y.2.1 = 0 → post A) : Sim (some A) pr y post := ⟨A, rfl, hp, h⟩
theorem Jv {c : Option ρ} {F : ρ → ρ'} (hp : ∀ r, pr' (F r) = pr r) (h : Sim c pr y fun r => post' (F r)) : Sim (c.bind fun o => some (F o)) pr' y post' := by
 obtain ⟨r, rfl, h1, h2⟩ := h
 exact ⟨F r, rfl, (hp r).trans h1, h2⟩
end
section
variable {ρ ρ' : Type} {pr : ρ → Bool × Int × Int × List Tk} {pr' : ρ' → Bool × Int × Int × List Tk} {y : RS} {post : ρ → Prop} {post' : ρ' → Prop}
theorem E7 {c : Option ρ} (h1 : Sim c pr y post) {F : ρ → Option ρ'} {y2 : RS} (hK : ∀ q, pr q = (y.2.1 == 0, y.2.1, y.2.2, y.1) → (y.2.1 = 0 → post q) → Sim (F q) pr' y2 post') : Sim (c.bind F) pr' y2 post' := by
 obtain ⟨r, rfl, h2, h3⟩ := h1
 exact hK r h2 h3
theorem Cf8 {c : Option ρ} {b : ρ → Bool} {A B : ρ → ρ'} (hA : ∀ r, pr' (A r) = pr r) (hB : ∀ r, pr' (B r) = pr r) (h : Sim c pr y fun r => post' (bif b r then A r else B r)) : Sim (c.bind fun o => bif b o then some (A o) else some (B o)) pr' y post' := by
 obtain ⟨r, rfl, h1, h2⟩ := h
 refine ⟨bif b r then A r else B r, ?_, ?_, h2⟩
 ·show (bif b r then some (A r) else some (B r)) = _
  cases b r <;> rfl
 ·rw [← h1]
  cases b r
  ·exact hB r
  ·exact hA r
end
set_option maxRecDepth 100000 in
theorem Ao3 (x : RS) (h : Zr x) : Zr (Bf x).2 :=
 have q := Cv ([103, 114, 97, 100, 101] : List Int) _ (Dt ([115, 112, 101, 101, 100] : List Int) _ (Bov ([117, 115, 101] : List Int) _ (Dt ([102, 108, 111, 119] : List Int) _ (Dt ([118, 111, 108, 117, 109, 101] : List Int) _ (Fq x h)))))
 Cv _ _ (Dt _ _ (Dt _ _ (Dt _ _ (Dt _ _ (I9 (Ih _ q) q)))))
theorem Ao9 (x : RS) (h : Zr x) : Zr (Bx x).2 := Cv _ _ (Dt _ _ (Dt _ _ (Dt _ _ (Fq _ (Cv _ _ (Fq _ h))))))
theorem Ao6 (x : RS) (h : Zr x) : Zr (Dq x).2 := Ao4 _ _ (Cv _ _ (Fq _ h))
theorem Ao7 (x : RS) (h : Zr x) : Zr (Dz x).2 := Ao4 _ _ (I9 (Ih _ h) h)
theorem Ao2 (x : RS) (h : Zr x) : Zr (Cx x).2 := Cv _ _ (J1 _ _ _ (fun x h => Ao7 x h) _ (I9 (Cv _ _ h) (K3 50 (by decide) _ (Cv _ _ h))))
theorem Ao1 (x : RS) (h : Zr x) : Zr (foeR x).2 := Cv _ _ (Fq _ (Fq _ h))
theorem Ao5 (x : RS) (h : Zr x) : Zr (Bv x).2 :=
 Cv _ _ (J1 _ _ _ (fun x h => Ao1 x h) _ (J1 _ _ _ (fun x h => Ao2 x h) _ (J1 _ _ _ (fun x h => Ao6 x h) _ (J1 _ _ _ (fun x h => Ao9 x h) _ (J1 _ _ _ (fun x h => Ao3 x h) _ (Cv _ _ (Fq _ h)))))))
theorem Ao8 (x : RS) (h : Zr x) : Zr (Ef x).2 := Cv _ _ (Dt _ _ (Dt _ _ (Fq _ (Cv _ _ (Fq _ (Cv _ _ (Fq _ h)))))))
theorem Kr {α : Type} {l : List Tk} (r : Rdy l) (w : List Int) (most : Int) {item : RS → α × RS} (ha : ∀ x, Adv x (item x).2) (hs : ∀ x, Suf x (item x).2) (hz : ∀ x, Zr x → Zr (item x).2) : OK l (Aw w most item (l, 0, 0)) :=
 .of r (Fa ha _) (Jx hs _) (J1 w most item hz _ zr0)
theorem Cge {α : Type} (w : List Int) (most : Int) (item : RS → α × RS) {l : List Tk} {e p : Int} (h : e ≠ 0) : ∀ (f : Nat) (o : List α), (Cs w most item f (l, e, p) o).2 = (l, e, p)
 | 0, o => rfl
 | f + 1, o => by
  rw [Cs]
  unfold A6
  rw [Al h]
  rfl
theorem Bob (most : Int) {l : List Tk} {e p : Int} (h : e ≠ 0) : ∀ (f : Nat) (o : List (List Int)), (Cb most f (l, e, p) o).2 = (l, e, p)
 | 0, o => rfl
 | f + 1, o => by
  rw [Cb, Al h, cond_false]
  exact Am h _
set_option maxRecDepth 100000
def nx (l : List Tk) : List Tk := bif (hd l).1 != 0 then l.tail else l
theorem Jk (l : List Tk) : A1 (l, 0, 0) = (nx l, 0, 0) := by
 unfold A1 nx
 cases (hd l).1 != 0 <;> rfl
theorem C6 (l : List Tk) : numC (l, 0, 0) = bif (hd l).1 == 2 then ((hd l).2.2.1, nx l, 0, 0) else (0, l, 50, (hd l).2.2.2.1) := by
 unfold numC
 rw [Jk]
 rfl
theorem C5 (l : List Tk) : Ah (l, 0, 0) = bif (hd l).1 == 1 && !(resB (hd l).2.1) then ((hd l).2.1, nx l, 0, 0) else ([], l, 50, (hd l).2.2.2.1) := by
 unfold Ah
 rw [Jk]
 rfl
theorem Bor {l : List Tk} (r : Rdy l) {s : List Int} (hs : WS s) : Aj s (l, 0, 0) = bif (hd l).2.1 == s then (nx l, 0, 0) else (l, 50, (hd l).2.2.2.1) := by
 unfold Aj
 rw [Oo r hs]
 cases (hd l).2.1 == s
 ·exact An (by decide)
 ·exact Jk l
theorem Anc {l : List Tk} (r : Rdy l) (s : List Int) : ∃ l2, (bif Ay s (l, 0, 0) then A1 (l, 0, 0) else (l, 0, 0)) = (l2, 0, 0) ∧ Rdy l2 ∧ l2.length ≤ l.length := by
 have h := Ccz r s
 cases hs : Ay s (l, 0, 0)
 ·exact ⟨l, rfl, r, Nat.le_refl _⟩
 ·rw [hs, cond_true] at h
  rw [cond_true]
  rw [Jk] at h ⊢
  cases h with
  | fail _ _ _ h => exact absurd rfl h
  | ok _ r2 h2 => exact ⟨_, rfl, r2, h2⟩
theorem cut_nx {R : Type} {l : List Tk} (r : Rdy l) {K : List Tk → Option R} : (bif (hd l).1 != 0 then cut l 1 ((l.length : Nat) : Int) K else K l) = K (nx l) := by
 rw [Aqy r.ne]
 unfold nx
 cases (hd l).1 != 0 <;> rfl
theorem pis_run (k : Nat) {l : List Tk} (r : Rdy l) (s : List Int) : cpis k (s, l) = some ((hd l).2.1 == s, l) := by
 rw [fpis_e, Axz, Kj r.ne, Ol]
theorem By (k : Nat) {l : List Tk} (r : Rdy l) (s : List Int) : Dh k (s, l) = some ((hd l).2.1 == s, l) := by
 rw [B16, Axw, A3 r.ne]
theorem Cdm (k : Nat) {l : List Tk} (r : Rdy l) (c : Int) : cpfail k (c, l) = some (false, c, (hd l).2.2.2.1, l) := by
 rw [B1w, Axc, Kj r.ne, Ol]
theorem Bd (k : Nat) {l : List Tk} (r : Rdy l) (c : Int) : A7 k (c, l) = some (false, c, (hd l).2.2.2.1, l) := by
 rw [B1v, Aw9, A3 r.ne]
theorem Cfd (k : Nat) {l : List Tk} (r : Rdy l) : cptake k l = some ((hd l).1, (hd l).2.1, (hd l).2.2.1, (hd l).2.2.2.1, nx l) := by
 rw [B5u, A6j, Kj r.ne, Ol, Ace r.ne, Acf]
 unfold nx
 cases (hd l).1 != 0 <;> rfl
theorem A8 (k : Nat) {l : List Tk} (r : Rdy l) : A4 k l = some ((hd l).1, (hd l).2.1, (hd l).2.2.1, (hd l).2.2.2.1, nx l) := by
 rw [B5t, A6g, A3 r.ne]
 exact cut_nx r (K := fun o2 => some ((hd l).1, (hd l).2.1, (hd l).2.2.1, (hd l).2.2.2.1, o2))
theorem Ie (k : Nat) {l : List Tk} (r : Rdy l) : cpnamed k l = some ((hd l).1 == 1 && !(resB (hd l).2.1), l) := by
 rw [B3d, A0n, A3 r.ne, A3 r.ne, An3, Option.bind_some]
 cases (hd l).1 == 1 <;> rfl
theorem Yu (k : Nat) {l : List Tk} (r : Rdy l) : Pt k l = some ((hd l).1 == 1 && !(resB (hd l).2.1)) := by
 rw [B3b, A0j, A3 r.ne, A3 r.ne, An3, Option.bind_some]
 cases (hd l).1 == 1 <;> rfl
theorem Cfi (k : Nat) {a1 : List Tk} (r : Rdy a1) (a0 : _) (hs : WS a0) : Vl k (a0, a1) = some ((Aj a0 (a1, 0, 0)).2.1 == 0, (Aj a0 (a1, 0, 0)).2.1, (Aj a0 (a1, 0, 0)).2.2, a0, (Aj a0 (a1, 0, 0)).1) := by
 rw [B5z, A6t, pis_run k r, Option.bind_some, Bor r hs]
 simp only [Cdm k r, Cfd k r]
 cases h : (hd a1).2.1 == a0 <;> simp only [h, Bool.not_true, Bool.not_false, cond_true, cond_false, Option.bind_some] <;> rfl
theorem Ce2 (k : Nat) {a0 : List Tk} (r : Rdy a0) (a1 : _) (a2 : _) (a3 : _) (a4 : _) (a5 : _) (a6 : _) (a7 : _) : Us k (a0, a1, a2, a3, a4, a5, a6, a7) = some ((numC (a0, 0, 0)).2.2.1 == 0, (numC (a0, 0, 0)).2.2.1, (numC (a0, 0, 0)).2.2.2, (numC (a0, 0, 0)).2.1, (bif (numC (a0, 0, 0)).2.2.1 == 0 then (numC (a0, 0, 0)).1 else a1), a2, a3, a4, a5, a6, a7) := by
 rw [B49, A4w, A3 r.ne, Bd k r, A8 k r, C6]
 cases h : (hd a0).1 == 2 <;> simp only [bne, h, Bool.not_true, Bool.not_false, cond_true, cond_false, Option.bind_some] <;> rfl
theorem Bn (k : Nat) {a1 : List Tk} (r : Rdy a1) (a0 : _) (hs : WS a0) : Bj k (a0, a1) = some ((Aj a0 (a1, 0, 0)).2.1 == 0, (Aj a0 (a1, 0, 0)).2.1, (Aj a0 (a1, 0, 0)).2.2, a0, (Aj a0 (a1, 0, 0)).1) := by
 rw [B5x, A6q, By k r, Option.bind_some, Bor r hs]
 simp only [Bd k r, A8 k r]
 cases h : (hd a1).2.1 == a0 <;> simp only [h, Bool.not_true, Bool.not_false, cond_true, cond_false, Option.bind_some] <;> rfl
theorem Ces (k : Nat) {a0 : List Tk} (r : Rdy a0) (a1 : _) (a2 : _) (a3 : _) (a4 : _) (a5 : _) (a6 : _) (a7 : _) : Ut k (a0, a1, a2, a3, a4, a5, a6, a7) = some ((numC (a0, 0, 0)).2.2.1 == 0, (numC (a0, 0, 0)).2.2.1, (numC (a0, 0, 0)).2.2.2, (numC (a0, 0, 0)).2.1, a1, (bif (numC (a0, 0, 0)).2.2.1 == 0 then (numC (a0, 0, 0)).1 else a2), a3, a4, a5, a6, a7) := by
 rw [B4q, A32, A3 r.ne, Bd k r, A8 k r, C6]
 cases h : (hd a0).1 == 2 <;> simp only [bne, h, Bool.not_true, Bool.not_false, cond_true, cond_false, Option.bind_some] <;> rfl
theorem Ceu (k : Nat) {a0 : List Tk} (r : Rdy a0) (a1 : _) (a2 : _) (a3 : _) (a4 : _) (a5 : _) (a6 : _) (a7 : _) : U4 k (a0, a1, a2, a3, a4, a5, a6, a7) = some ((numC (a0, 0, 0)).2.2.1 == 0, (numC (a0, 0, 0)).2.2.1, (numC (a0, 0, 0)).2.2.2, (numC (a0, 0, 0)).2.1, a1, a2, (bif (numC (a0, 0, 0)).2.2.1 == 0 then (numC (a0, 0, 0)).1 else a3), a4, a5, a6, a7) := by
 rw [B4u, A38, A3 r.ne, Bd k r, A8 k r, C6]
 cases h : (hd a0).1 == 2 <;> simp only [bne, h, Bool.not_true, Bool.not_false, cond_true, cond_false, Option.bind_some] <;> rfl
theorem Cev (k : Nat) {a0 : List Tk} (r : Rdy a0) (a1 : _) (a2 : _) (a3 : _) (a4 : _) (a5 : _) (a6 : _) (a7 : _) : U6 k (a0, a1, a2, a3, a4, a5, a6, a7) = some ((numC (a0, 0, 0)).2.2.1 == 0, (numC (a0, 0, 0)).2.2.1, (numC (a0, 0, 0)).2.2.2, (numC (a0, 0, 0)).2.1, a1, a2, a3, (bif (numC (a0, 0, 0)).2.2.1 == 0 then (numC (a0, 0, 0)).1 else a4), a5, a6, a7) := by
 rw [B4w, A4b, A3 r.ne, Bd k r, A8 k r, C6]
 cases h : (hd a0).1 == 2 <;> simp only [bne, h, Bool.not_true, Bool.not_false, cond_true, cond_false, Option.bind_some] <;> rfl
theorem Cew (k : Nat) {a0 : List Tk} (r : Rdy a0) (a1 : _) (a2 : _) (a3 : _) (a4 : _) (a5 : _) (a6 : _) (a7 : _) : U7 k (a0, a1, a2, a3, a4, a5, a6, a7) = some ((numC (a0, 0, 0)).2.2.1 == 0, (numC (a0, 0, 0)).2.2.1, (numC (a0, 0, 0)).2.2.2, (numC (a0, 0, 0)).2.1, a1, a2, a3, a4, (bif (numC (a0, 0, 0)).2.2.1 == 0 then (numC (a0, 0, 0)).1 else a5), a6, a7) := by
 rw [B4y, A4e, A3 r.ne, Bd k r, A8 k r, C6]
 cases h : (hd a0).1 == 2 <;> simp only [bne, h, Bool.not_true, Bool.not_false, cond_true, cond_false, Option.bind_some] <;> rfl
theorem Ce9 (k : Nat) {a0 : List Tk} (r : Rdy a0) (a1 : _) (a2 : _) : Vd k (a0, a1, a2) = some (a0, a1, (hd a0).2.2.2.1) := by
 rw [B5m, A52, A3 r.ne]
theorem Cea (k : Nat) {a0 : List Tk} (r : Rdy a0) (a1 : _) (a2 : _) : Uf k (a0, a1, a2) = some ((Ah (a0, 0, 0)).2.2.1 == 0, (Ah (a0, 0, 0)).2.2.1, (Ah (a0, 0, 0)).2.2.2, (Ah (a0, 0, 0)).2.1, (bif (Ah (a0, 0, 0)).2.2.1 == 0 then (Ah (a0, 0, 0)).1 else a1), a2) := by
 rw [B28, A0e, Ie k r, Option.bind_some, C5]
 simp only [Bd k r, A8 k r]
 cases h : (hd a0).1 == 1 && !(resB (hd a0).2.1) <;> simp only [h, Bool.not_true, Bool.not_false, cond_true, cond_false, Option.bind_some] <;> rfl
theorem Ce4 (k : Nat) {a0 : List Tk} (r : Rdy a0) (a1 : _) (a2 : _) (a3 : _) (a4 : _) (a5 : _) (a6 : _) (a7 : _) (a8 : _) (a9 : _) (a10 : _) (a11 : _) : Ve k (a0, a1, a2, a3, a4, a5, a6, a7, a8, a9, a10, a11) = some (a0, a1, a2, a3, a4, a5, a6, a7, a8, a9, a10, (hd a0).2.2.2.1) := by
 rw [B5h, A5n, A3 r.ne]
theorem Cd2 (k : Nat) {a0 : List Tk} (r : Rdy a0) (a1 : _) (a2 : _) (a3 : _) (a4 : _) (a5 : _) (a6 : _) (a7 : _) (a8 : _) (a9 : _) (a10 : _) (a11 : _) : Ug k (a0, a1, a2, a3, a4, a5, a6, a7, a8, a9, a10, a11) = some ((Ah (a0, 0, 0)).2.2.1 == 0, (Ah (a0, 0, 0)).2.2.1, (Ah (a0, 0, 0)).2.2.2, (Ah (a0, 0, 0)).2.1, (bif (Ah (a0, 0, 0)).2.2.1 == 0 then (Ah (a0, 0, 0)).1 else a1), a2, a3, a4, a5, a6, a7, a8, a9, a10, a11) := by
 rw [B2q, Azn, Ie k r, Option.bind_some, C5]
 simp only [Bd k r, A8 k r]
 cases h : (hd a0).1 == 1 && !(resB (hd a0).2.1) <;> simp only [h, Bool.not_true, Bool.not_false, cond_true, cond_false, Option.bind_some] <;> rfl
theorem Cex (k : Nat) {a0 : List Tk} (r : Rdy a0) (a1 : _) (a2 : _) (a3 : _) (a4 : _) (a5 : _) (a6 : _) (a7 : _) (a8 : _) (a9 : _) (a10 : _) (a11 : _) : U8 k (a0, a1, a2, a3, a4, a5, a6, a7, a8, a9, a10, a11) = some ((numC (a0, 0, 0)).2.2.1 == 0, (numC (a0, 0, 0)).2.2.1, (numC (a0, 0, 0)).2.2.2, (numC (a0, 0, 0)).2.1, a1, (bif (numC (a0, 0, 0)).2.2.1 == 0 then (numC (a0, 0, 0)).1 else a2), a3, a4, a5, a6, a7, a8, a9, a10, a11) := by
 rw [B40, A4h, A3 r.ne, Bd k r, A8 k r, C6]
 cases h : (hd a0).1 == 2 <;> simp only [bne, h, Bool.not_true, Bool.not_false, cond_true, cond_false, Option.bind_some] <;> rfl
theorem Cey (k : Nat) {a0 : List Tk} (r : Rdy a0) (a1 : _) (a2 : _) (a3 : _) (a4 : _) (a5 : _) (a6 : _) (a7 : _) (a8 : _) (a9 : _) (a10 : _) (a11 : _) : U9 k (a0, a1, a2, a3, a4, a5, a6, a7, a8, a9, a10, a11) = some ((numC (a0, 0, 0)).2.2.1 == 0, (numC (a0, 0, 0)).2.2.1, (numC (a0, 0, 0)).2.2.2, (numC (a0, 0, 0)).2.1, a1, a2, (bif (numC (a0, 0, 0)).2.2.1 == 0 then (numC (a0, 0, 0)).1 else a3), a4, a5, a6, a7, a8, a9, a10, a11) := by
 rw [B42, A4k, A3 r.ne, Bd k r, A8 k r, C6]
 cases h : (hd a0).1 == 2 <;> simp only [bne, h, Bool.not_true, Bool.not_false, cond_true, cond_false, Option.bind_some] <;> rfl
theorem Cez (k : Nat) {a0 : List Tk} (r : Rdy a0) (a1 : _) (a2 : _) (a3 : _) (a4 : _) (a5 : _) (a6 : _) (a7 : _) (a8 : _) (a9 : _) (a10 : _) (a11 : _) : Va k (a0, a1, a2, a3, a4, a5, a6, a7, a8, a9, a10, a11) = some ((numC (a0, 0, 0)).2.2.1 == 0, (numC (a0, 0, 0)).2.2.1, (numC (a0, 0, 0)).2.2.2, (numC (a0, 0, 0)).2.1, a1, a2, a3, (bif (numC (a0, 0, 0)).2.2.1 == 0 then (numC (a0, 0, 0)).1 else a4), a5, a6, a7, a8, a9, a10, a11) := by
 rw [B44, A4n, A3 r.ne, Bd k r, A8 k r, C6]
 cases h : (hd a0).1 == 2 <;> simp only [bne, h, Bool.not_true, Bool.not_false, cond_true, cond_false, Option.bind_some] <;> rfl
theorem Ce0 (k : Nat) {a0 : List Tk} (r : Rdy a0) (a1 : _) (a2 : _) (a3 : _) (a4 : _) (a5 : _) (a6 : _) (a7 : _) (a8 : _) (a9 : _) (a10 : _) (a11 : _) : Vb k (a0, a1, a2, a3, a4, a5, a6, a7, a8, a9, a10, a11) = some ((numC (a0, 0, 0)).2.2.1 == 0, (numC (a0, 0, 0)).2.2.1, (numC (a0, 0, 0)).2.2.2, (numC (a0, 0, 0)).2.1, a1, a2, a3, a4, (bif (numC (a0, 0, 0)).2.2.1 == 0 then (numC (a0, 0, 0)).1 else a5), a6, a7, a8, a9, a10, a11) := by
 rw [B46, A4q, A3 r.ne, Bd k r, A8 k r, C6]
 cases h : (hd a0).1 == 2 <;> simp only [bne, h, Bool.not_true, Bool.not_false, cond_true, cond_false, Option.bind_some] <;> rfl
theorem Ce1 (k : Nat) {a0 : List Tk} (r : Rdy a0) (a1 : _) (a2 : _) (a3 : _) (a4 : _) (a5 : _) (a6 : _) (a7 : _) (a8 : _) (a9 : _) (a10 : _) (a11 : _) : Vc k (a0, a1, a2, a3, a4, a5, a6, a7, a8, a9, a10, a11) = some ((numC (a0, 0, 0)).2.2.1 == 0, (numC (a0, 0, 0)).2.2.1, (numC (a0, 0, 0)).2.2.2, (numC (a0, 0, 0)).2.1, a1, a2, a3, a4, a5, (bif (numC (a0, 0, 0)).2.2.1 == 0 then (numC (a0, 0, 0)).1 else a6), a7, a8, a9, a10, a11) := by
 rw [B48, A4t, A3 r.ne, Bd k r, A8 k r, C6]
 cases h : (hd a0).1 == 2 <;> simp only [bne, h, Bool.not_true, Bool.not_false, cond_true, cond_false, Option.bind_some] <;> rfl
theorem Bho (k : Nat) {a1 : List Tk} (r : Rdy a1) (a0 : List Int) (a2 : Bool) (hs : WS a0) : Ps k (a0, a1, a2) = some (a0, (bif Ay a0 (a1, 0, 0) then A1 (a1, 0, 0) else (a1, 0, 0)).1, (bif Ay a0 (a1, 0, 0) then true else a2)) := by
 rw [B2c, Ayc, By k r, Option.bind_some, Oo r hs, Jk]
 simp only [A8 k r]
 cases h : (hd a1).2.1 == a0 <;> simp only [h, cond_true, cond_false, Option.bind_some]
theorem Cei (k : Nat) {a0 : List Tk} (r : Rdy a0) (a1 : _) (a2 : _) (a3 : _) (a4 : _) (a5 : _) (a6 : _) (a7 : _) (a8 : _) (a9 : _) (a10 : _) (a11 : _) : Uu k (a0, a1, a2, a3, a4, a5, a6, a7, a8, a9, a10, a11) = some ((numC (a0, 0, 0)).2.2.1 == 0, (numC (a0, 0, 0)).2.2.1, (numC (a0, 0, 0)).2.2.2, (numC (a0, 0, 0)).2.1, a1, a2, a3, a4, a5, a6, (bif (numC (a0, 0, 0)).2.2.1 == 0 then (numC (a0, 0, 0)).1 else a7), a8, a9, a10, a11) := by
 rw [B36, A28, A3 r.ne, Bd k r, A8 k r, C6]
 cases h : (hd a0).1 == 2 <;> simp only [bne, h, Bool.not_true, Bool.not_false, cond_true, cond_false, Option.bind_some] <;> rfl
theorem Cej (k : Nat) {a0 : List Tk} (r : Rdy a0) (a1 : _) (a2 : _) (a3 : _) (a4 : _) (a5 : _) (a6 : _) (a7 : _) (a8 : _) (a9 : _) (a10 : _) (a11 : _) : Uv k (a0, a1, a2, a3, a4, a5, a6, a7, a8, a9, a10, a11) = some ((numC (a0, 0, 0)).2.2.1 == 0, (numC (a0, 0, 0)).2.2.1, (numC (a0, 0, 0)).2.2.2, (numC (a0, 0, 0)).2.1, a1, a2, a3, a4, a5, a6, a7, (bif (numC (a0, 0, 0)).2.2.1 == 0 then (numC (a0, 0, 0)).1 else a8), a9, a10, a11) := by
 rw [B38, A3b, A3 r.ne, Bd k r, A8 k r, C6]
 cases h : (hd a0).1 == 2 <;> simp only [bne, h, Bool.not_true, Bool.not_false, cond_true, cond_false, Option.bind_some] <;> rfl
theorem Cek (k : Nat) {a0 : List Tk} (r : Rdy a0) (a1 : _) (a2 : _) (a3 : _) (a4 : _) (a5 : _) (a6 : _) (a7 : _) (a8 : _) (a9 : _) (a10 : _) (a11 : _) : Uw k (a0, a1, a2, a3, a4, a5, a6, a7, a8, a9, a10, a11) = some ((numC (a0, 0, 0)).2.2.1 == 0, (numC (a0, 0, 0)).2.2.1, (numC (a0, 0, 0)).2.2.2, (numC (a0, 0, 0)).2.1, a1, a2, a3, a4, a5, a6, a7, a8, (bif (numC (a0, 0, 0)).2.2.1 == 0 then (numC (a0, 0, 0)).1 else a9), a10, a11) := by
 rw [B4a, A3e, A3 r.ne, Bd k r, A8 k r, C6]
 cases h : (hd a0).1 == 2 <;> simp only [bne, h, Bool.not_true, Bool.not_false, cond_true, cond_false, Option.bind_some] <;> rfl
theorem Cel (k : Nat) {a0 : List Tk} (r : Rdy a0) (a1 : _) (a2 : _) (a3 : _) (a4 : _) (a5 : _) (a6 : _) (a7 : _) (a8 : _) (a9 : _) (a10 : _) (a11 : _) : Ux k (a0, a1, a2, a3, a4, a5, a6, a7, a8, a9, a10, a11) = some ((numC (a0, 0, 0)).2.2.1 == 0, (numC (a0, 0, 0)).2.2.1, (numC (a0, 0, 0)).2.2.2, (numC (a0, 0, 0)).2.1, a1, a2, a3, a4, a5, a6, a7, a8, a9, (bif (numC (a0, 0, 0)).2.2.1 == 0 then (numC (a0, 0, 0)).1 else a10), a11) := by
 rw [B4c, A3h, A3 r.ne, Bd k r, A8 k r, C6]
 cases h : (hd a0).1 == 2 <;> simp only [bne, h, Bool.not_true, Bool.not_false, cond_true, cond_false, Option.bind_some] <;> rfl
theorem Ce5 (k : Nat) {a0 : List Tk} (r : Rdy a0) (a1 : _) (a2 : _) (a3 : _) (a4 : _) (a5 : _) (a6 : _) : Vf k (a0, a1, a2, a3, a4, a5, a6) = some (a0, a1, a2, a3, a4, a5, (hd a0).2.2.2.1) := by
 rw [B5i, A5q, A3 r.ne]
theorem Cd3 (k : Nat) {a0 : List Tk} (r : Rdy a0) (a1 : _) (a2 : _) (a3 : _) (a4 : _) (a5 : _) (a6 : _) : Ui k (a0, a1, a2, a3, a4, a5, a6) = some ((Ah (a0, 0, 0)).2.2.1 == 0, (Ah (a0, 0, 0)).2.2.1, (Ah (a0, 0, 0)).2.2.2, (Ah (a0, 0, 0)).2.1, (bif (Ah (a0, 0, 0)).2.2.1 == 0 then (Ah (a0, 0, 0)).1 else a1), a2, a3, a4, a5, a6) := by
 rw [B2s, Azq, Ie k r, Option.bind_some, C5]
 simp only [Bd k r, A8 k r]
 cases h : (hd a0).1 == 1 && !(resB (hd a0).2.1) <;> simp only [h, Bool.not_true, Bool.not_false, cond_true, cond_false, Option.bind_some] <;> rfl
theorem Cd4 (k : Nat) {a0 : List Tk} (r : Rdy a0) (a1 : _) (a2 : _) (a3 : _) (a4 : _) (a5 : _) (a6 : _) : Uj k (a0, a1, a2, a3, a4, a5, a6) = some ((Ah (a0, 0, 0)).2.2.1 == 0, (Ah (a0, 0, 0)).2.2.1, (Ah (a0, 0, 0)).2.2.2, (Ah (a0, 0, 0)).2.1, a1, (bif (Ah (a0, 0, 0)).2.2.1 == 0 then (Ah (a0, 0, 0)).1 else a2), a3, a4, a5, a6) := by
 rw [B2u, Azt, Ie k r, Option.bind_some, C5]
 simp only [Bd k r, A8 k r]
 cases h : (hd a0).1 == 1 && !(resB (hd a0).2.1) <;> simp only [h, Bool.not_true, Bool.not_false, cond_true, cond_false, Option.bind_some] <;> rfl
theorem Cem (k : Nat) {a0 : List Tk} (r : Rdy a0) (a1 : _) (a2 : _) (a3 : _) (a4 : _) (a5 : _) (a6 : _) : Uy k (a0, a1, a2, a3, a4, a5, a6) = some ((numC (a0, 0, 0)).2.2.1 == 0, (numC (a0, 0, 0)).2.2.1, (numC (a0, 0, 0)).2.2.2, (numC (a0, 0, 0)).2.1, a1, a2, (bif (numC (a0, 0, 0)).2.2.1 == 0 then (numC (a0, 0, 0)).1 else a3), a4, a5, a6) := by
 rw [B4e, A3k, A3 r.ne, Bd k r, A8 k r, C6]
 cases h : (hd a0).1 == 2 <;> simp only [bne, h, Bool.not_true, Bool.not_false, cond_true, cond_false, Option.bind_some] <;> rfl
theorem Cen (k : Nat) {a0 : List Tk} (r : Rdy a0) (a1 : _) (a2 : _) (a3 : _) (a4 : _) (a5 : _) (a6 : _) : Uz k (a0, a1, a2, a3, a4, a5, a6) = some ((numC (a0, 0, 0)).2.2.1 == 0, (numC (a0, 0, 0)).2.2.1, (numC (a0, 0, 0)).2.2.2, (numC (a0, 0, 0)).2.1, a1, a2, a3, (bif (numC (a0, 0, 0)).2.2.1 == 0 then (numC (a0, 0, 0)).1 else a4), a5, a6) := by
 rw [B4g, A3n, A3 r.ne, Bd k r, A8 k r, C6]
 cases h : (hd a0).1 == 2 <;> simp only [bne, h, Bool.not_true, Bool.not_false, cond_true, cond_false, Option.bind_some] <;> rfl
theorem Ceo (k : Nat) {a0 : List Tk} (r : Rdy a0) (a1 : _) (a2 : _) (a3 : _) (a4 : _) (a5 : _) (a6 : _) : U0 k (a0, a1, a2, a3, a4, a5, a6) = some ((numC (a0, 0, 0)).2.2.1 == 0, (numC (a0, 0, 0)).2.2.1, (numC (a0, 0, 0)).2.2.2, (numC (a0, 0, 0)).2.1, a1, a2, a3, a4, (bif (numC (a0, 0, 0)).2.2.1 == 0 then (numC (a0, 0, 0)).1 else a5), a6) := by
 rw [B4i, A3q, A3 r.ne, Bd k r, A8 k r, C6]
 cases h : (hd a0).1 == 2 <;> simp only [bne, h, Bool.not_true, Bool.not_false, cond_true, cond_false, Option.bind_some] <;> rfl
theorem Ce6 (k : Nat) {a0 : List Tk} (r : Rdy a0) (a1 : _) (a2 : _) : Vh k (a0, a1, a2) = some (a0, a1, (hd a0).2.2.2.1) := by
 rw [B5j, A5t, A3 r.ne]
theorem Cd5 (k : Nat) {a0 : List Tk} (r : Rdy a0) (a1 : _) (a2 : _) : Uk k (a0, a1, a2) = some ((Ah (a0, 0, 0)).2.2.1 == 0, (Ah (a0, 0, 0)).2.2.1, (Ah (a0, 0, 0)).2.2.2, (Ah (a0, 0, 0)).2.1, (bif (Ah (a0, 0, 0)).2.2.1 == 0 then (Ah (a0, 0, 0)).1 else a1), a2) := by
 rw [B2w, Azw, Ie k r, Option.bind_some, C5]
 simp only [Bd k r, A8 k r]
 cases h : (hd a0).1 == 1 && !(resB (hd a0).2.1) <;> simp only [h, Bool.not_true, Bool.not_false, cond_true, cond_false, Option.bind_some] <;> rfl
theorem Oj (k : Nat) {a0 : List Tk} (r : Rdy a0) (a1 : _) : Ul k (a0, a1) = some ((Ah (a0, 0, 0)).2.2.1 == 0, (Ah (a0, 0, 0)).2.2.1, (Ah (a0, 0, 0)).2.2.2, (Ah (a0, 0, 0)).2.1, (bif (Ah (a0, 0, 0)).2.2.1 == 0 then (Ah (a0, 0, 0)).1 else a1)) := by
 rw [B2y, Azz, Ie k r, Option.bind_some, C5]
 simp only [Bd k r, A8 k r]
 cases h : (hd a0).1 == 1 && !(resB (hd a0).2.1) <;> simp only [h, Bool.not_true, Bool.not_false, cond_true, cond_false, Option.bind_some] <;> rfl
theorem Cfb (k : Nat) {a1 : List Tk} (r : Rdy a1) (a0 : _) (hs : WS a0) : Vk k (a0, a1) = some ((bif Ay a0 (a1, 0, 0) then (a1, 0, 0) else A2 50 (a1, 0, 0)).2.1 == 0, (bif Ay a0 (a1, 0, 0) then (a1, 0, 0) else A2 50 (a1, 0, 0)).2.1, (bif Ay a0 (a1, 0, 0) then (a1, 0, 0) else A2 50 (a1, 0, 0)).2.2, a0, (bif Ay a0 (a1, 0, 0) then (a1, 0, 0) else A2 50 (a1, 0, 0)).1) := by
 rw [B5q, A59, By k r, Option.bind_some, Oo r hs]
 simp only [Bd k r, A8 k r]
 cases h : (hd a1).2.1 == a0 <;> simp only [h, Bool.not_true, Bool.not_false, cond_true, cond_false, Option.bind_some] <;> rfl
theorem Cd0 (k : Nat) {a1 : List Tk} (r : Rdy a1) (a0 : List Int) (a2 : Bool) (hs : WS a0) : Ue k (a0, a1, a2) = some (a0, (bif Ay a0 (a1, 0, 0) then A1 (a1, 0, 0) else (a1, 0, 0)).1, (bif Ay a0 (a1, 0, 0) then true else a2)) := by
 rw [B2a, Ax9, By k r, Option.bind_some, Oo r hs, Jk]
 simp only [A8 k r]
 cases h : (hd a1).2.1 == a0 <;> simp only [h, cond_true, cond_false, Option.bind_some]
theorem Ce7 (k : Nat) {a0 : List Tk} (r : Rdy a0) (a1 : _) (a2 : _) (a3 : _) : Vi k (a0, a1, a2, a3) = some (a0, a1, a2, (hd a0).2.2.2.1) := by
 rw [B5k, A5w, A3 r.ne]
theorem Cd6 (k : Nat) {a0 : List Tk} (r : Rdy a0) (a1 : _) (a2 : _) (a3 : _) : Um k (a0, a1, a2, a3) = some ((Ah (a0, 0, 0)).2.2.1 == 0, (Ah (a0, 0, 0)).2.2.1, (Ah (a0, 0, 0)).2.2.2, (Ah (a0, 0, 0)).2.1, (bif (Ah (a0, 0, 0)).2.2.1 == 0 then (Ah (a0, 0, 0)).1 else a1), a2, a3) := by
 rw [B20, Az2, Ie k r, Option.bind_some, C5]
 simp only [Bd k r, A8 k r]
 cases h : (hd a0).1 == 1 && !(resB (hd a0).2.1) <;> simp only [h, Bool.not_true, Bool.not_false, cond_true, cond_false, Option.bind_some] <;> rfl
theorem Cd7 (k : Nat) {a0 : List Tk} (r : Rdy a0) (a1 : _) (a2 : _) (a3 : _) : Un k (a0, a1, a2, a3) = some ((Ah (a0, 0, 0)).2.2.1 == 0, (Ah (a0, 0, 0)).2.2.1, (Ah (a0, 0, 0)).2.2.2, (Ah (a0, 0, 0)).2.1, a1, (bif (Ah (a0, 0, 0)).2.2.1 == 0 then (Ah (a0, 0, 0)).1 else a2), a3) := by
 rw [B22, Az5, Ie k r, Option.bind_some, C5]
 simp only [Bd k r, A8 k r]
 cases h : (hd a0).1 == 1 && !(resB (hd a0).2.1) <;> simp only [h, Bool.not_true, Bool.not_false, cond_true, cond_false, Option.bind_some] <;> rfl
theorem Ce8 (k : Nat) {a0 : List Tk} (r : Rdy a0) (a1 : _) (a2 : _) (a3 : _) (a4 : _) (a5 : _) (a6 : _) : Vj k (a0, a1, a2, a3, a4, a5, a6) = some (a0, a1, a2, a3, a4, a5, (hd a0).2.2.2.1) := by
 rw [B5l, A5z, A3 r.ne]
theorem Cd8 (k : Nat) {a0 : List Tk} (r : Rdy a0) (a1 : _) (a2 : _) (a3 : _) (a4 : _) (a5 : _) (a6 : _) : Uo k (a0, a1, a2, a3, a4, a5, a6) = some ((Ah (a0, 0, 0)).2.2.1 == 0, (Ah (a0, 0, 0)).2.2.1, (Ah (a0, 0, 0)).2.2.2, (Ah (a0, 0, 0)).2.1, (bif (Ah (a0, 0, 0)).2.2.1 == 0 then (Ah (a0, 0, 0)).1 else a1), a2, a3, a4, a5, a6) := by
 rw [B24, Az8, Ie k r, Option.bind_some, C5]
 simp only [Bd k r, A8 k r]
 cases h : (hd a0).1 == 1 && !(resB (hd a0).2.1) <;> simp only [h, Bool.not_true, Bool.not_false, cond_true, cond_false, Option.bind_some] <;> rfl
theorem Cd9 (k : Nat) {a0 : List Tk} (r : Rdy a0) (a1 : _) (a2 : _) (a3 : _) (a4 : _) (a5 : _) (a6 : _) : Up k (a0, a1, a2, a3, a4, a5, a6) = some ((Ah (a0, 0, 0)).2.2.1 == 0, (Ah (a0, 0, 0)).2.2.1, (Ah (a0, 0, 0)).2.2.2, (Ah (a0, 0, 0)).2.1, a1, (bif (Ah (a0, 0, 0)).2.2.1 == 0 then (Ah (a0, 0, 0)).1 else a2), a3, a4, a5, a6) := by
 rw [B26, A0b, Ie k r, Option.bind_some, C5]
 simp only [Bd k r, A8 k r]
 cases h : (hd a0).1 == 1 && !(resB (hd a0).2.1) <;> simp only [h, Bool.not_true, Bool.not_false, cond_true, cond_false, Option.bind_some] <;> rfl
theorem Cd1 (k : Nat) {a0 : List Tk} (r : Rdy a0) (a1 : _) (a2 : _) (a3 : _) (a4 : _) (a5 : _) (a6 : _) : Uh k (a0, a1, a2, a3, a4, a5, a6) = some ((Ah (a0, 0, 0)).2.2.1 == 0, (Ah (a0, 0, 0)).2.2.1, (Ah (a0, 0, 0)).2.2.2, (Ah (a0, 0, 0)).2.1, a1, a2, (bif (Ah (a0, 0, 0)).2.2.1 == 0 then (Ah (a0, 0, 0)).1 else a3), a4, a5, a6) := by
 rw [B2o, Azk, Ie k r, Option.bind_some, C5]
 simp only [Bd k r, A8 k r]
 cases h : (hd a0).1 == 1 && !(resB (hd a0).2.1) <;> simp only [h, Bool.not_true, Bool.not_false, cond_true, cond_false, Option.bind_some] <;> rfl
theorem Cep (k : Nat) {a0 : List Tk} (r : Rdy a0) (a1 : _) (a2 : _) (a3 : _) (a4 : _) (a5 : _) (a6 : _) : U1 k (a0, a1, a2, a3, a4, a5, a6) = some ((numC (a0, 0, 0)).2.2.1 == 0, (numC (a0, 0, 0)).2.2.1, (numC (a0, 0, 0)).2.2.2, (numC (a0, 0, 0)).2.1, a1, a2, a3, (bif (numC (a0, 0, 0)).2.2.1 == 0 then (numC (a0, 0, 0)).1 else a4), a5, a6) := by
 rw [B4k, A3t, A3 r.ne, Bd k r, A8 k r, C6]
 cases h : (hd a0).1 == 2 <;> simp only [bne, h, Bool.not_true, Bool.not_false, cond_true, cond_false, Option.bind_some] <;> rfl
theorem Ceq (k : Nat) {a0 : List Tk} (r : Rdy a0) (a1 : _) (a2 : _) (a3 : _) (a4 : _) (a5 : _) (a6 : _) : U2 k (a0, a1, a2, a3, a4, a5, a6) = some ((numC (a0, 0, 0)).2.2.1 == 0, (numC (a0, 0, 0)).2.2.1, (numC (a0, 0, 0)).2.2.2, (numC (a0, 0, 0)).2.1, a1, a2, a3, a4, (bif (numC (a0, 0, 0)).2.2.1 == 0 then (numC (a0, 0, 0)).1 else a5), a6) := by
 rw [B4m, A3w, A3 r.ne, Bd k r, A8 k r, C6]
 cases h : (hd a0).1 == 2 <;> simp only [bne, h, Bool.not_true, Bool.not_false, cond_true, cond_false, Option.bind_some] <;> rfl
theorem Cer (k : Nat) {a0 : List Tk} (r : Rdy a0) (a1 : _) (a2 : _) (a3 : _) (a4 : _) (a5 : _) (a6 : _) (a7 : _) (a8 : _) (a9 : _) : U3 k (a0, a1, a2, a3, a4, a5, a6, a7, a8, a9) = some ((numC (a0, 0, 0)).2.2.1 == 0, (numC (a0, 0, 0)).2.2.1, (numC (a0, 0, 0)).2.2.2, (numC (a0, 0, 0)).2.1, a1, a2, a3, a4, a5, (bif (numC (a0, 0, 0)).2.2.1 == 0 then (numC (a0, 0, 0)).1 else a6), a7, a8, a9) := by
 rw [B4o, A3z, A3 r.ne, Bd k r, A8 k r, C6]
 cases h : (hd a0).1 == 2 <;> simp only [bne, h, Bool.not_true, Bool.not_false, cond_true, cond_false, Option.bind_some] <;> rfl
theorem Cet (k : Nat) {a0 : List Tk} (r : Rdy a0) (a1 : _) (a2 : _) (a3 : _) (a4 : _) (a5 : _) (a6 : _) (a7 : _) (a8 : _) (a9 : _) : U5 k (a0, a1, a2, a3, a4, a5, a6, a7, a8, a9) = some ((numC (a0, 0, 0)).2.2.1 == 0, (numC (a0, 0, 0)).2.2.1, (numC (a0, 0, 0)).2.2.2, (numC (a0, 0, 0)).2.1, a1, a2, a3, a4, a5, a6, (bif (numC (a0, 0, 0)).2.2.1 == 0 then (numC (a0, 0, 0)).1 else a7), a8, a9) := by
 rw [B4s, A35, A3 r.ne, Bd k r, A8 k r, C6]
 cases h : (hd a0).1 == 2 <;> simp only [bne, h, Bool.not_true, Bool.not_false, cond_true, cond_false, Option.bind_some] <;> rfl
theorem Cdl (k : Nat) {l : List Tk} (r : Rdy l) : cpend k l = some ((bif (hd l).1 != 0 then A2 50 (l, 0, 0) else (l, 0, 0)).2.1 == 0, (bif (hd l).1 != 0 then A2 50 (l, 0, 0) else (l, 0, 0)).2.1, (bif (hd l).1 != 0 then A2 50 (l, 0, 0) else (l, 0, 0)).2.2, (bif (hd l).1 != 0 then A2 50 (l, 0, 0) else (l, 0, 0)).1) := by
 rw [fpend_e, Aw7, A3 r.ne, Bd k r]
 cases h : (hd l).1 != 0 <;> simp only [h, cond_true, cond_false, Option.bind_some] <;> rfl
theorem Yk {l : List Tk} (r : Rdy l) (h : (hd l).1 ≠ 0) : (nx l).length + 1 = l.length := by
 have hne := r.ne
 have h0 : ((hd l).1 != 0) = true := by simpa using h
 unfold nx
 rw [h0, cond_true]
 cases l with
 | nil => exact absurd rfl hne
 | cons t q => rfl
theorem Bgt {l : List Tk} (r : Rdy l) (h : (hd l).2.1 ≠ []) : (nx l).length + 1 = l.length := Yk r fun e => h (r.hd.1 e)
theorem Ano {l : List Tk} (r : Rdy l) : Rdy (nx l) := by
 have := ok_next r
 rw [Jk] at this
 cases this with
 | fail _ _ _ h => exact absurd rfl h
 | ok _ r2 _ => exact r2
section
variable {α ρ : Type} (w : List Int) (hw : WS w) (most : Int) (item : RS → α × RS) (ha : ∀ x, Adv x (item x).2) (hs : ∀ x, Suf x (item x).2) (hz : ∀ x, Zr x → Zr (item x).2)
 (F : Nat → List Tk → List α → Option ρ) (pr : ρ → Bool × Int × Int × List Tk) (post : ρ → List α → Prop)
 (h0 : ∀ j l o, Rdy l → (hd l).2.1 ≠ w → ∃ r, F (j + 1) l o = some r ∧ pr r = (true, 0, 0, l) ∧ post r o)
 (h1 : ∀ j l o, Rdy l → (hd l).2.1 = w → ((o.length : Nat) : Int) = most → ∃ r, F (j + 1) l o = some r ∧ pr r = (false, 4, (hd l).2.2.2.1, l))
 (h2 : ∀ j l o, Rdy l → Rdy (nx l) → l.length ≤ 100000 → (nx l).length ≤ 100000 → o.length ≤ 100000 → (hd l).2.1 = w → ((o.length : Nat) : Int) ≠ most →
  ((item (nx l, 0, 0)).2.2.1 ≠ 0 → ∃ r, F (j + 1) l o = some r ∧ pr r = (false, (item (nx l, 0, 0)).2.2.1, (item (nx l, 0, 0)).2.2.2, (item (nx l, 0, 0)).2.1)) ∧
  ((item (nx l, 0, 0)).2.2.1 = 0 → F (j + 1) l o = F j (item (nx l, 0, 0)).2.1 (o ++ [(item (nx l, 0, 0)).1])))
include hw ha hs hz h0 h1 h2
theorem Jq : ∀ (f j : Nat) (l : List Tk) (o : List α), Rdy l → l.length < f → l.length < j → o.length + l.length ≤ 100000 →
  Sim (F j l o) pr (Cs w most item f (l, 0, 0) o).2 fun r => post r (Cs w most item f (l, 0, 0) o).1
 | 0, j, l, o, r, hf, _, _ => by omega
 | f + 1, 0, l, o, r, _, hj, _ => by omega
 | f + 1, j + 1, l, o, r, hf, hj, hm => by
  rw [Cs]
  unfold A6
  rw [Oo r hw]
  by_cases hc : (hd l).2.1 = w
  ·rw [hc, beq_self_eq_true, cond_true]
   by_cases hmo : ((o.length : Nat) : Int) = most
   ·obtain ⟨q, e1, e2⟩ := h1 j l o r hc hmo
    rw [hmo, beq_self_eq_true, cond_true]
    exact ⟨q, e1, e2, fun h => absurd (show (4 : Int) = 0 from h) (by decide)⟩
   ·have hmo2 : (((o.length : Nat) : Int) == most) = false := by simpa using hmo
    rw [hmo2, cond_false, cond_true, Jk]
    have rn := Ano r
    have hln := Bgt r (by obtain ⟨c, q, rfl, _⟩ := hw; rw [hc]; exact List.cons_ne_nil _ _)
    have hok : OK (nx l) (item (nx l, 0, 0)) := .of rn (ha _) (hs _) (hz _ zr0)
    obtain ⟨g1, g2⟩ := h2 j l o r rn (by omega) (by omega) (by omega) hc hmo
    show Sim _ pr (Cs w most item f (item (nx l, 0, 0)).2 (o ++ [(item (nx l, 0, 0)).1])).2 fun r => post r (Cs w most item f (item (nx l, 0, 0)).2 (o ++ [(item (nx l, 0, 0)).1])).1
    generalize item (nx l, 0, 0) = oi at hok g1 g2 ⊢
    rcases hok with ⟨v, l2, e, p, he⟩ | ⟨v, l2, r2, n2⟩
    ·obtain ⟨q, e1, e2⟩ := g1 he
     rw [e1, Cge w most item he]
     have he2 : (e == 0) = false := by simpa using he
     exact ⟨q, rfl, by rw [e2, he2], fun h => absurd h he⟩
    ·rw [g2 rfl]
     exact Jq f j l2 _ r2 (by omega) (by omega) (by rw [List.length_append, List.length_singleton]; omega)
  ·have hc2 : ((hd l).2.1 == w) = false := by simpa using hc
   rw [hc2, cond_false]
   obtain ⟨q, e1, e2, e3⟩ := h0 j l o r hc
   exact ⟨q, e1, e2, fun _ => e3⟩
end
section
variable {ρ : Type} (most : Int) (F : Nat → List Tk → List (List Int) → Option ρ) (pr : ρ → Bool × Int × Int × List Tk) (post : ρ → List (List Int) → Prop)
 (h1 : ∀ j l o, Rdy l → o.length ≤ 100000 → ((o.length : Nat) : Int) = most → ((hd l).1 == 1 && !(resB (hd l).2.1)) = true → ∃ r, F (j + 1) l o = some r ∧ pr r = (false, 4, (hd l).2.2.2.1, l))
 (h2 : ∀ j l o, Rdy l → o.length ≤ 100000 → ((hd l).1 == 1 && !(resB (hd l).2.1)) = false → ∃ r, F (j + 1) l o = some r ∧ pr r = (false, 50, (hd l).2.2.2.1, l))
 (h3 : ∀ j l o, Rdy l → Rdy (nx l) → o.length ≤ 100000 → ((o.length : Nat) : Int) ≠ most → ((hd l).1 == 1 && !(resB (hd l).2.1)) = true → (hd (nx l)).2.1 ≠ ([44] : List Int) →
  ∃ r, F (j + 1) l o = some r ∧ pr r = ((Aj ([59] : List Int) (nx l, 0, 0)).2.1 == 0, (Aj ([59] : List Int) (nx l, 0, 0)).2.1, (Aj ([59] : List Int) (nx l, 0, 0)).2.2, (Aj ([59] : List Int) (nx l, 0, 0)).1) ∧ post r (o ++ [(hd l).2.1]))
 (h4 : ∀ j l o, Rdy l → Rdy (nx l) → o.length ≤ 100000 → ((o.length : Nat) : Int) ≠ most → ((hd l).1 == 1 && !(resB (hd l).2.1)) = true → (hd (nx l)).2.1 = ([44] : List Int) → F (j + 1) l o = F j (nx (nx l)) (o ++ [(hd l).2.1]))
include h1 h2 h3 h4
theorem Anh : ∀ (f j : Nat) (l : List Tk) (o : List (List Int)), Rdy l → l.length ≤ f → l.length < j → o.length + l.length ≤ 100000 →
  Sim (F j l o) pr (Cb most f (Ah (bif (((o.length : Nat) : Int) == most) && ((hd l).1 == 1 && !(resB (hd l).2.1)) then A2 4 (l, 0, 0) else (l, 0, 0))).2
   (o ++ [(Ah (bif (((o.length : Nat) : Int) == most) && ((hd l).1 == 1 && !(resB (hd l).2.1)) then A2 4 (l, 0, 0) else (l, 0, 0))).1])).2
   fun r => post r (Cb most f (Ah (bif (((o.length : Nat) : Int) == most) && ((hd l).1 == 1 && !(resB (hd l).2.1)) then A2 4 (l, 0, 0) else (l, 0, 0))).2
   (o ++ [(Ah (bif (((o.length : Nat) : Int) == most) && ((hd l).1 == 1 && !(resB (hd l).2.1)) then A2 4 (l, 0, 0) else (l, 0, 0))).1])).1
 | 0, j, l, o, r, hf, _, _ => by have := List.length_pos_iff.2 r.ne; omega
 | f + 1, 0, l, o, r, _, hj, _ => by omega
 | f + 1, j + 1, l, o, r, hf, hj, hm => by
  have ho : o.length ≤ 100000 := by omega
  cases hn : (hd l).1 == 1 && !(resB (hd l).2.1)
  ·obtain ⟨q, e1, e2⟩ := h2 j l o r ho hn
   rw [Bool.and_false, cond_false, C5, hn, cond_false, Bob most (by decide)]
   exact ⟨q, e1, e2, fun h => absurd (show (50 : Int) = 0 from h) (by decide)⟩
  ·by_cases hmo : ((o.length : Nat) : Int) = most
   ·obtain ⟨q, e1, e2⟩ := h1 j l o r ho hmo hn
    rw [hmo, beq_self_eq_true, Bool.true_and, cond_true]
    have e : (A2 4 (l, 0, 0)) = (l, 4, (hd l).2.2.2.1) := rfl
    rw [e, Aq (by decide), Bob most (by decide)]
    exact ⟨q, e1, e2, fun h => absurd (show (4 : Int) = 0 from h) (by decide)⟩
   ·have hmo2 : (((o.length : Nat) : Int) == most) = false := by simpa using hmo
    have rn := Ano r
    rw [hmo2, Bool.false_and, cond_false, C5, hn, cond_true, Cb]
    simp only []
    rw [Oo rn (s := ([44] : List Int)) ⟨_, _, rfl, rfl⟩]
    have hln := Yk r (by simp only [Bool.and_eq_true, beq_iff_eq] at hn; omega)
    by_cases hc : (hd (nx l)).2.1 = ([44] : List Int)
    ·rw [hc, beq_self_eq_true, cond_true, h4 j l o r rn ho hmo hn hc, Jk]
     have hln2 := Bgt rn (by rw [hc]; simp)
     exact Anh f j (nx (nx l)) _ (Ano rn) (by omega) (by omega) (by rw [List.length_append, List.length_singleton]; omega)
    ·have hc2 : ((hd (nx l)).2.1 == ([44] : List Int)) = false := by simpa using hc
     rw [hc2, cond_false]
     obtain ⟨q, e1, e2, e3⟩ := h3 j l o r rn ho hmo hn hc
     exact ⟨q, e1, e2, fun _ => e3⟩
end
theorem Cec (k : Nat) (hk : 200000 ≤ k) {l0 : List Tk} (r0 : Rdy l0) (m0 : l0.length ≤ 100000) (a1 : _) (a2 : _) : Sim (Uq k ((16 : Int), a1, a2, l0)) (fun o => (o.1, o.2.1, o.2.2.1, o.2.2.2.2.2.2.1)) (Cg (16 : Int) (l0, 0, 0)).2 (fun r => (r.2.2.2.1, r.2.2.2.2.1, r.2.2.2.2.2.1, r.2.2.2.2.2.2.2) = ((16 : Int), a1, a2, (Cg (16 : Int) (l0, 0, 0)).1)) := by
 rw [B3i, Aha]
 have hz : ((((([] : List (List Int)).length : Nat) : Int) == (16 : Int)) && ((hd l0).1 == 1 && !(resB (hd l0).2.1))) = false := rfl
 have h := Anh (16 : Int) (fun j l o => (Hl k).L 1 [] j (Na ((16 : Int), a1, a2, l, o))) (fun o => (o.1, o.2.1, o.2.2.1, o.2.2.2.2.2.2.1)) (fun r o => (r.2.2.2.1, r.2.2.2.2.1, r.2.2.2.2.2.1, r.2.2.2.2.2.2.2) = ((16 : Int), a1, a2, o)) (fun j l o r ho hmo hn => ?_) (fun j l o r ho hn => ?_) (fun j l o r rn ho hmo hn hc => ?_) (fun j l o r rn ho hmo hn hc => ?_) ((Ah (l0, 0, 0)).2.1.length + 1) k l0 [] r0 ?_ (by omega) (by rw [List.length_nil]; omega)
 ·rw [hz, cond_false] at h
  exact h
 ·rw [Wz, Nb, hmo, beq_self_eq_true, cond_true, Yu k r, Option.bind_some, hn, cond_true, Bd k r, Option.bind_some]
  exact ⟨_, rfl, rfl⟩
 ·rw [Wz, Nb, Yu k r, hn]
  simp only [Option.bind_some, cond_false, ite_self, M7, Lp, M6, Lo, Oj k r, C5, hn]
  cases (((o.length : Nat) : Int) == (16 : Int)) <;> exact ⟨_, rfl, rfl⟩
 ·have hmo2 : (((o.length : Nat) : Int) == (16 : Int)) = false := by simpa using hmo
  have hc2 : ((hd (nx l)).2.1 == [44]) = false := by simpa using hc
  rw [Wz, Nb, hmo2]
  simp only [Option.bind_some, cond_false, M7, Lp, M6, Lo, Oj k r, C5, hn, cond_true, beq_self_eq_true, Bool.not_true]
  rw [Ce (by rw [List.length_singleton]; omega) (by rw [List.length_singleton]; omega)]
  simp only [By k rn, Option.bind_some, hc2, Bool.not_false, cond_true, Fz, Fh, Awy, Agm, Bn k rn [59] ⟨_, _, rfl, rfl⟩]
  have s := Bl rn [59]
  generalize Aj [59] (nx l, 0, 0) = y at s ⊢
  rcases s with ⟨l2, e, p, h⟩ | ⟨l2, r2, n2⟩
  ·have he : (e == 0) = false := by simpa using h
   simp only [he, Bool.not_false, cond_true, Option.bind_some]
   exact ⟨_, rfl, rfl, rfl⟩
  ·simp only [beq_self_eq_true, Bool.not_true, cond_false, Option.bind_some]
   exact ⟨_, rfl, rfl, rfl⟩
 ·have hmo2 : (((o.length : Nat) : Int) == (16 : Int)) = false := by simpa using hmo
  have hc2 : ((hd (nx l)).2.1 == [44]) = true := by simpa using hc
  rw [Wz, Nb, hmo2]
  simp only [Option.bind_some, cond_false, M7, Lp, M6, Lo, Oj k r, C5, hn, cond_true, beq_self_eq_true, Bool.not_true]
  rw [Ce (by rw [List.length_singleton]; omega) (by rw [List.length_singleton]; omega)]
  simp only [By k rn, Option.bind_some, hc2, Bool.not_true, cond_false, A8 k rn]
 ·rw [C5]
  cases hn : (hd l0).1 == 1 && !(resB (hd l0).2.1)
  ·show l0.length ≤ l0.length + 1
   omega
  ·show l0.length ≤ (nx l0).length + 1
   have := Yk r0 (by simp only [Bool.and_eq_true, beq_iff_eq] at hn; omega)
   omega
theorem Ceb (k : Nat) (hk : 200000 ≤ k) {l0 : List Tk} (r0 : Rdy l0) (m0 : l0.length ≤ 100000) (a1 : _) : Sim (Ur k ((4 : Int), a1, l0)) (fun o => (o.1, o.2.1, o.2.2.1, o.2.2.2.2.2.1)) (Cg (4 : Int) (l0, 0, 0)).2 (fun r => (r.2.2.2.1, r.2.2.2.2.1, r.2.2.2.2.2.2) = ((4 : Int), a1, (Cg (4 : Int) (l0, 0, 0)).1)) := by
 rw [B3g, Ag6]
 have hz : ((((([] : List (List Int)).length : Nat) : Int) == (4 : Int)) && ((hd l0).1 == 1 && !(resB (hd l0).2.1))) = false := rfl
 have h := Anh (4 : Int) (fun j l o => (Hm k).L 1 [] j (M8 ((4 : Int), a1, l, o))) (fun o => (o.1, o.2.1, o.2.2.1, o.2.2.2.2.2.1)) (fun r o => (r.2.2.2.1, r.2.2.2.2.1, r.2.2.2.2.2.2) = ((4 : Int), a1, o)) (fun j l o r ho hmo hn => ?_) (fun j l o r ho hn => ?_) (fun j l o r rn ho hmo hn hc => ?_) (fun j l o r rn ho hmo hn hc => ?_) ((Ah (l0, 0, 0)).2.1.length + 1) k l0 [] r0 ?_ (by omega) (by rw [List.length_nil]; omega)
 ·rw [hz, cond_false] at h
  exact h
 ·rw [Wy, M9, hmo, beq_self_eq_true, cond_true, Yu k r, Option.bind_some, hn, cond_true, Bd k r, Option.bind_some]
  exact ⟨_, rfl, rfl⟩
 ·rw [Wy, M9, Yu k r, hn]
  simp only [Option.bind_some, cond_false, ite_self, M7, Lp, M6, Lo, Oj k r, C5, hn]
  cases (((o.length : Nat) : Int) == (4 : Int)) <;> exact ⟨_, rfl, rfl⟩
 ·have hmo2 : (((o.length : Nat) : Int) == (4 : Int)) = false := by simpa using hmo
  have hc2 : ((hd (nx l)).2.1 == [44]) = false := by simpa using hc
  rw [Wy, M9, hmo2]
  simp only [Option.bind_some, cond_false, M7, Lp, M6, Lo, Oj k r, C5, hn, cond_true, beq_self_eq_true, Bool.not_true]
  rw [Ce (by rw [List.length_singleton]; omega) (by rw [List.length_singleton]; omega)]
  simp only [By k rn, Option.bind_some, hc2, Bool.not_false, cond_true, Fz, Fh, Awy, Agm, Bn k rn [59] ⟨_, _, rfl, rfl⟩]
  have s := Bl rn [59]
  generalize Aj [59] (nx l, 0, 0) = y at s ⊢
  rcases s with ⟨l2, e, p, h⟩ | ⟨l2, r2, n2⟩
  ·have he : (e == 0) = false := by simpa using h
   simp only [he, Bool.not_false, cond_true, Option.bind_some]
   exact ⟨_, rfl, rfl, rfl⟩
  ·simp only [beq_self_eq_true, Bool.not_true, cond_false, Option.bind_some]
   exact ⟨_, rfl, rfl, rfl⟩
 ·have hmo2 : (((o.length : Nat) : Int) == (4 : Int)) = false := by simpa using hmo
  have hc2 : ((hd (nx l)).2.1 == [44]) = true := by simpa using hc
  rw [Wy, M9, hmo2]
  simp only [Option.bind_some, cond_false, M7, Lp, M6, Lo, Oj k r, C5, hn, cond_true, beq_self_eq_true, Bool.not_true]
  rw [Ce (by rw [List.length_singleton]; omega) (by rw [List.length_singleton]; omega)]
  simp only [By k rn, Option.bind_some, hc2, Bool.not_true, cond_false, A8 k rn]
 ·rw [C5]
  cases hn : (hd l0).1 == 1 && !(resB (hd l0).2.1)
  ·show l0.length ≤ l0.length + 1
   omega
  ·show l0.length ≤ (nx l0).length + 1
   have := Yk r0 (by simp only [Bool.and_eq_true, beq_iff_eq] at hn; omega)
   omega
theorem Cdp (k : Nat) (hk : 200000 ≤ k) {l0 : List Tk} (r0 : Rdy l0) (m0 : l0.length ≤ 100000) (a1 : _) (a2 : _) (a3 : _) (a4 : _) (a5 : _) (a6 : _) (a7 : _) : Sim (Uc k (l0, a1, a2, a3, a4, a5, a6, a7)) (fun o => (o.1, o.2.1, o.2.2.1, o.2.2.2.1)) (D5 (l0, 0, 0)).2 (fun o => (o.2.2.2.2.1, o.2.2.2.2.2.1, o.2.2.2.2.2.2.1, o.2.2.2.2.2.2.2.1, o.2.2.2.2.2.2.2.2.1, o.2.2.2.2.2.2.2.2.2.1, o.2.2.2.2.2.2.2.2.2.2) = (a1, a2, a3, (D5 (l0, 0, 0)).1.1, (D5 (l0, 0, 0)).1.2, a6, a7)) := by
 rw [B11, Axn]
 simp only [B3y, A2g, Fz, Fh, B3z, A2k, Option.bind_some]
 refine Jv (pr := (fun o => (o.1, o.2.1, o.2.2.1, o.2.2.2.1))) (fun o => rfl) ?_
 rw [B1g, Awc]
 unfold D5
 rw [Cev k r0]
 simp only [Option.bind_some]
 have s0 := C7 r0
 generalize numC (l0, 0, 0) = o0 at s0 ⊢
 rcases s0 with ⟨v0, l, e, p, h⟩ | ⟨v0, l1, r1, n0⟩
 ·exact As h rfl (by simp only [Am h, Aq h, Ao h, Au h, Ar h, Av h, An h, Al h, Ak h, cond_false])
 have m1 := Nat.le_trans n0 m0
 simp only [beq_self_eq_true, Bool.not_true, cond_false, cond_true]
 rw [Bn k r1 ([47] : List Int) ⟨_, _, rfl, rfl⟩]
 simp only [Option.bind_some]
 have s1 := Bl r1 ([47] : List Int)
 generalize Aj ([47] : List Int) (l1, 0, 0) = o1 at s1 ⊢
 rcases s1 with ⟨l, e, p, h⟩ | ⟨l2, r2, n1⟩
 ·exact As h rfl (by simp only [Am h, Aq h, Ao h, Au h, Ar h, Av h, An h, Al h, Ak h, cond_false])
 have m2 := Nat.le_trans n1 m1
 simp only [beq_self_eq_true, Bool.not_true, cond_false, cond_true]
 rw [Cew k r2]
 simp only [Option.bind_some]
 have s2 := C7 r2
 generalize numC (l2, 0, 0) = o2 at s2 ⊢
 rcases s2 with ⟨v2, l, e, p, h⟩ | ⟨v2, l3, r3, n2⟩
 ·exact As h rfl (by simp only [Am h, Aq h, Ao h, Au h, Ar h, Av h, An h, Al h, Ak h, cond_false])
 have m3 := Nat.le_trans n2 m2
 simp only [beq_self_eq_true, Bool.not_true, cond_false, cond_true]
 exact Gc rfl fun _ => rfl
theorem Cdo (k : Nat) (hk : 200000 ≤ k) {l0 : List Tk} (r0 : Rdy l0) (m0 : l0.length ≤ 100000) (a1 : _) (a2 : _) (a3 : _) (a4 : _) (a5 : _) (a6 : _) (a7 : _) (a8 : _) (a9 : _) (a10 : _) (a11 : _) : Sim (Ud k (l0, a1, a2, a3, a4, a5, a6, a7, a8, a9, a10, a11)) (fun o => (o.1, o.2.1, o.2.2.1, o.2.2.2.1)) (D5 (l0, 0, 0)).2 (fun o => (o.2.2.2.2.1, o.2.2.2.2.2.1, o.2.2.2.2.2.2.1, o.2.2.2.2.2.2.2.1, o.2.2.2.2.2.2.2.2.1, o.2.2.2.2.2.2.2.2.2.1, o.2.2.2.2.2.2.2.2.2.2.1, o.2.2.2.2.2.2.2.2.2.2.2.1, o.2.2.2.2.2.2.2.2.2.2.2.2.1, o.2.2.2.2.2.2.2.2.2.2.2.2.2.1, o.2.2.2.2.2.2.2.2.2.2.2.2.2.2) = (a1, a2, a3, (D5 (l0, 0, 0)).1.1, (D5 (l0, 0, 0)).1.2, a6, a7, a8, a9, a10, a11)) := by
 rw [B1z, Axk]
 simp only [B3n, A08, Fz, Fh, B3o, A1c, Option.bind_some]
 refine Jv (pr := (fun o => (o.1, o.2.1, o.2.2.1, o.2.2.2.1))) (fun o => rfl) ?_
 rw [B1m, Awm]
 unfold D5
 rw [Cez k r0]
 simp only [Option.bind_some]
 have s0 := C7 r0
 generalize numC (l0, 0, 0) = o0 at s0 ⊢
 rcases s0 with ⟨v0, l, e, p, h⟩ | ⟨v0, l1, r1, n0⟩
 ·exact As h rfl (by simp only [Am h, Aq h, Ao h, Au h, Ar h, Av h, An h, Al h, Ak h, cond_false])
 have m1 := Nat.le_trans n0 m0
 simp only [beq_self_eq_true, Bool.not_true, cond_false, cond_true]
 rw [Bn k r1 ([47] : List Int) ⟨_, _, rfl, rfl⟩]
 simp only [Option.bind_some]
 have s1 := Bl r1 ([47] : List Int)
 generalize Aj ([47] : List Int) (l1, 0, 0) = o1 at s1 ⊢
 rcases s1 with ⟨l, e, p, h⟩ | ⟨l2, r2, n1⟩
 ·exact As h rfl (by simp only [Am h, Aq h, Ao h, Au h, Ar h, Av h, An h, Al h, Ak h, cond_false])
 have m2 := Nat.le_trans n1 m1
 simp only [beq_self_eq_true, Bool.not_true, cond_false, cond_true]
 rw [Ce0 k r2]
 simp only [Option.bind_some]
 have s2 := C7 r2
 generalize numC (l2, 0, 0) = o2 at s2 ⊢
 rcases s2 with ⟨v2, l, e, p, h⟩ | ⟨v2, l3, r3, n2⟩
 ·exact As h rfl (by simp only [Am h, Aq h, Ao h, Au h, Ar h, Av h, An h, Al h, Ak h, cond_false])
 have m3 := Nat.le_trans n2 m2
 simp only [beq_self_eq_true, Bool.not_true, cond_false, cond_true]
 exact Gc rfl fun _ => rfl
theorem Cdv (k : Nat) (hk : 200000 ≤ k) {l0 : List Tk} (r0 : Rdy l0) (m0 : l0.length ≤ 100000) : Sim (cphead k l0) (fun o => (o.2.2.2.2.2.2.2.2.2.2.2.1, o.2.2.2.2.2.2.2.2.2.2.2.2.1, o.2.2.2.2.2.2.2.2.2.2.2.2.2.1, o.2.2.2.2.2.2.2.2.2.2.2.2.2.2)) (Bf (l0, 0, 0)).2 (fun o => (o.1, (o.2.1, (o.2.2.1, ((o.2.2.2.1, (o.2.2.2.2.1, ())), (o.2.2.2.2.2.1, (o.2.2.2.2.2.2.1, (o.2.2.2.2.2.2.2.1, (o.2.2.2.2.2.2.2.2.1, (o.2.2.2.2.2.2.2.2.2.1, (o.2.2.2.2.2.2.2.2.2.2.1, ())))))))))) = (Bf (l0, 0, 0)).1) := by
 rw [B15, Axu]
 simp only [B5c, A43, B2f, Ayl, Fz, Fh, B30, A2o, B31, A2s, B1x, Axg, B32, A2w, B17, Ax1, B33, A20, B34, A24, B3l, A00, B3m, A04, Option.bind_some]
 refine Cf8 (pr := (fun o => (o.1, o.2.1, o.2.2.1, o.2.2.2.1))) (fun o => rfl) (fun o => rfl) ?_
 rw [B1k, Awj]
 simp only [Bf, Iy, Iz, Iq]
 rw [Ce4 k r0]
 simp only [Option.bind_some]
 rw [Cd2 k r0]
 simp only [Option.bind_some]
 have s0 := I1 r0
 generalize Ah (l0, 0, 0) = o0 at s0 ⊢
 rcases s0 with ⟨v0, l, e, p, h⟩ | ⟨v0, l1, r1, n0⟩
 ·exact As h rfl (by simp only [Am h, Aq h, Ao h, Au h, Ar h, Av h, An h, Al h, Ak h, cond_false])
 have m1 := Nat.le_trans n0 m0
 simp only [beq_self_eq_true, Bool.not_true, cond_false, cond_true]
 rw [Bn k r1 ([118, 111, 108, 117, 109, 101] : List Int) ⟨_, _, rfl, rfl⟩]
 simp only [Option.bind_some]
 have s1 := Bl r1 ([118, 111, 108, 117, 109, 101] : List Int)
 generalize Aj ([118, 111, 108, 117, 109, 101] : List Int) (l1, 0, 0) = o1 at s1 ⊢
 rcases s1 with ⟨l, e, p, h⟩ | ⟨l2, r2, n1⟩
 ·exact As h rfl (by simp only [Am h, Aq h, Ao h, Au h, Ar h, Av h, An h, Al h, Ak h, cond_false])
 have m2 := Nat.le_trans n1 m1
 simp only [beq_self_eq_true, Bool.not_true, cond_false, cond_true]
 rw [Cex k r2]
 simp only [Option.bind_some]
 have s2 := C7 r2
 generalize numC (l2, 0, 0) = o2 at s2 ⊢
 rcases s2 with ⟨v2, l, e, p, h⟩ | ⟨v2, l3, r3, n2⟩
 ·exact As h rfl (by simp only [Am h, Aq h, Ao h, Au h, Ar h, Av h, An h, Al h, Ak h, cond_false])
 have m3 := Nat.le_trans n2 m2
 simp only [beq_self_eq_true, Bool.not_true, cond_false, cond_true]
 rw [Bn k r3 ([102, 108, 111, 119] : List Int) ⟨_, _, rfl, rfl⟩]
 simp only [Option.bind_some]
 have s3 := Bl r3 ([102, 108, 111, 119] : List Int)
 generalize Aj ([102, 108, 111, 119] : List Int) (l3, 0, 0) = o3 at s3 ⊢
 rcases s3 with ⟨l, e, p, h⟩ | ⟨l4, r4, n3⟩
 ·exact As h rfl (by simp only [Am h, Aq h, Ao h, Au h, Ar h, Av h, An h, Al h, Ak h, cond_false])
 have m4 := Nat.le_trans n3 m3
 simp only [beq_self_eq_true, Bool.not_true, cond_false, cond_true]
 rw [Cey k r4]
 simp only [Option.bind_some]
 have s4 := C7 r4
 generalize numC (l4, 0, 0) = o4 at s4 ⊢
 rcases s4 with ⟨v4, l, e, p, h⟩ | ⟨v4, l5, r5, n4⟩
 ·exact As h rfl (by simp only [Am h, Aq h, Ao h, Au h, Ar h, Av h, An h, Al h, Ak h, cond_false])
 have m5 := Nat.le_trans n4 m4
 simp only [beq_self_eq_true, Bool.not_true, cond_false, cond_true]
 rw [Bn k r5 ([117, 115, 101] : List Int) ⟨_, _, rfl, rfl⟩]
 simp only [Option.bind_some]
 have s5 := Bl r5 ([117, 115, 101] : List Int)
 generalize Aj ([117, 115, 101] : List Int) (l5, 0, 0) = o5 at s5 ⊢
 rcases s5 with ⟨l, e, p, h⟩ | ⟨l6, r6, n5⟩
 ·exact As h rfl (by simp only [Am h, Aq h, Ao h, Au h, Ar h, Av h, An h, Al h, Ak h, cond_false])
 have m6 := Nat.le_trans n5 m5
 simp only [beq_self_eq_true, Bool.not_true, cond_false, cond_true]
 refine E7 (Cdo k hk r6 m6 _ _ _ _ _ _ _ _ _ _ _) fun q hp hd => ?_
 obtain ⟨q0, q1, q2, q3, q4, q5, q6, q7, q8, q9, q10, q11, q12, q13, q14⟩ := q
 simp only [Prod.mk.injEq] at hp hd
 obtain ⟨rfl, rfl, rfl, rfl⟩ := hp
 have s6 := Bgv r6
 generalize D5 (l6, 0, 0) = o6 at s6 hd ⊢
 rcases s6 with ⟨v6, l, e, p, h⟩ | ⟨v6, l7, r7, n6⟩
 ·exact As h rfl (by simp only [Am h, Aq h, Ao h, Au h, Ar h, Av h, An h, Al h, Ak h, cond_false])
 have m7 := Nat.le_trans n6 m6
 obtain ⟨rfl, rfl, rfl, rfl, rfl, rfl, rfl, rfl, rfl, rfl, rfl⟩ := hd rfl
 simp only [beq_self_eq_true, Bool.not_true, cond_false, cond_true]
 rw [Bn k r7 ([115, 112, 101, 101, 100] : List Int) ⟨_, _, rfl, rfl⟩]
 simp only [Option.bind_some]
 have s7 := Bl r7 ([115, 112, 101, 101, 100] : List Int)
 generalize Aj ([115, 112, 101, 101, 100] : List Int) (l7, 0, 0) = o7 at s7 ⊢
 rcases s7 with ⟨l, e, p, h⟩ | ⟨l8, r8, n7⟩
 ·exact As h rfl (by simp only [Am h, Aq h, Ao h, Au h, Ar h, Av h, An h, Al h, Ak h, cond_false])
 have m8 := Nat.le_trans n7 m7
 simp only [beq_self_eq_true, Bool.not_true, cond_false, cond_true]
 rw [Ce1 k r8]
 simp only [Option.bind_some]
 have s8 := C7 r8
 generalize numC (l8, 0, 0) = o8 at s8 ⊢
 rcases s8 with ⟨v8, l, e, p, h⟩ | ⟨v8, l9, r9, n8⟩
 ·exact As h rfl (by simp only [Am h, Aq h, Ao h, Au h, Ar h, Av h, An h, Al h, Ak h, cond_false])
 have m9 := Nat.le_trans n8 m8
 simp only [beq_self_eq_true, Bool.not_true, cond_false, cond_true]
 rw [Bn k r9 ([103, 114, 97, 100, 101] : List Int) ⟨_, _, rfl, rfl⟩]
 simp only [Option.bind_some]
 have s9 := Bl r9 ([103, 114, 97, 100, 101] : List Int)
 generalize Aj ([103, 114, 97, 100, 101] : List Int) (l9, 0, 0) = o9 at s9 ⊢
 rcases s9 with ⟨l, e, p, h⟩ | ⟨l10, r10, n9⟩
 ·exact As h rfl (by simp only [Am h, Aq h, Ao h, Au h, Ar h, Av h, An h, Al h, Ak h, cond_false])
 have m10 := Nat.le_trans n9 m9
 simp only [beq_self_eq_true, Bool.not_true, cond_false, cond_true]
 rw [Bho k r10 ([45] : List Int) _ ⟨_, _, rfl, rfl⟩]
 simp only [Option.bind_some]
 obtain ⟨l11, q10, r11, n10⟩ := Anc r10 ([45] : List Int)
 simp only [q10]
 have m11 := Nat.le_trans n10 m10
 rw [Cei k r11]
 simp only [Option.bind_some]
 have s11 := C7 r11
 generalize numC (l11, 0, 0) = o11 at s11 ⊢
 rcases s11 with ⟨v11, l, e, p, h⟩ | ⟨v11, l12, r12, n11⟩
 ·exact As h rfl (by simp only [Am h, Aq h, Ao h, Au h, Ar h, Av h, An h, Al h, Ak h, cond_false])
 have m12 := Nat.le_trans n11 m11
 simp only [beq_self_eq_true, Bool.not_true, cond_false, cond_true]
 rw [Bn k r12 ([119, 105, 100, 116, 104] : List Int) ⟨_, _, rfl, rfl⟩]
 simp only [Option.bind_some]
 have s12 := Bl r12 ([119, 105, 100, 116, 104] : List Int)
 generalize Aj ([119, 105, 100, 116, 104] : List Int) (l12, 0, 0) = o12 at s12 ⊢
 rcases s12 with ⟨l, e, p, h⟩ | ⟨l13, r13, n12⟩
 ·exact As h rfl (by simp only [Am h, Aq h, Ao h, Au h, Ar h, Av h, An h, Al h, Ak h, cond_false])
 have m13 := Nat.le_trans n12 m12
 simp only [beq_self_eq_true, Bool.not_true, cond_false, cond_true]
 rw [Cej k r13]
 simp only [Option.bind_some]
 have s13 := C7 r13
 generalize numC (l13, 0, 0) = o13 at s13 ⊢
 rcases s13 with ⟨v13, l, e, p, h⟩ | ⟨v13, l14, r14, n13⟩
 ·exact As h rfl (by simp only [Am h, Aq h, Ao h, Au h, Ar h, Av h, An h, Al h, Ak h, cond_false])
 have m14 := Nat.le_trans n13 m13
 simp only [beq_self_eq_true, Bool.not_true, cond_false, cond_true]
 rw [Bn k r14 ([108, 101, 110, 103, 116, 104] : List Int) ⟨_, _, rfl, rfl⟩]
 simp only [Option.bind_some]
 have s14 := Bl r14 ([108, 101, 110, 103, 116, 104] : List Int)
 generalize Aj ([108, 101, 110, 103, 116, 104] : List Int) (l14, 0, 0) = o14 at s14 ⊢
 rcases s14 with ⟨l, e, p, h⟩ | ⟨l15, r15, n14⟩
 ·exact As h rfl (by simp only [Am h, Aq h, Ao h, Au h, Ar h, Av h, An h, Al h, Ak h, cond_false])
 have m15 := Nat.le_trans n14 m14
 simp only [beq_self_eq_true, Bool.not_true, cond_false, cond_true]
 rw [Cek k r15]
 simp only [Option.bind_some]
 have s15 := C7 r15
 generalize numC (l15, 0, 0) = o15 at s15 ⊢
 rcases s15 with ⟨v15, l, e, p, h⟩ | ⟨v15, l16, r16, n15⟩
 ·exact As h rfl (by simp only [Am h, Aq h, Ao h, Au h, Ar h, Av h, An h, Al h, Ak h, cond_false])
 have m16 := Nat.le_trans n15 m15
 simp only [beq_self_eq_true, Bool.not_true, cond_false, cond_true]
 rw [Bn k r16 ([103, 114, 101, 101, 110] : List Int) ⟨_, _, rfl, rfl⟩]
 simp only [Option.bind_some]
 have s16 := Bl r16 ([103, 114, 101, 101, 110] : List Int)
 generalize Aj ([103, 114, 101, 101, 110] : List Int) (l16, 0, 0) = o16 at s16 ⊢
 rcases s16 with ⟨l, e, p, h⟩ | ⟨l17, r17, n16⟩
 ·exact As h rfl (by simp only [Am h, Aq h, Ao h, Au h, Ar h, Av h, An h, Al h, Ak h, cond_false])
 have m17 := Nat.le_trans n16 m16
 simp only [beq_self_eq_true, Bool.not_true, cond_false, cond_true]
 rw [Cel k r17]
 simp only [Option.bind_some]
 have s17 := C7 r17
 generalize numC (l17, 0, 0) = o17 at s17 ⊢
 rcases s17 with ⟨v17, l, e, p, h⟩ | ⟨v17, l18, r18, n17⟩
 ·exact As h rfl (by simp only [Am h, Aq h, Ao h, Au h, Ar h, Av h, An h, Al h, Ak h, cond_false])
 have m18 := Nat.le_trans n17 m17
 simp only [beq_self_eq_true, Bool.not_true, cond_false, cond_true]
 rw [Bn k r18 ([59] : List Int) ⟨_, _, rfl, rfl⟩]
 simp only [Option.bind_some]
 have s18 := Bl r18 ([59] : List Int)
 generalize Aj ([59] : List Int) (l18, 0, 0) = o18 at s18 ⊢
 rcases s18 with ⟨l, e, p, h⟩ | ⟨l19, r19, n18⟩
 ·exact As h rfl (by simp only [Am h, Aq h, Ao h, Au h, Ar h, Av h, An h, Al h, Ak h, cond_false])
 have m19 := Nat.le_trans n18 m18
 simp only [beq_self_eq_true, Bool.not_true, cond_false, cond_true]
 exact Gc rfl fun _ => by cases Ay ([45] : List Int) (l10, 0, 0) <;> rfl
theorem Cch (k : Nat) (hk : 200000 ≤ k) {l0 : List Tk} (r0 : Rdy l0) (m0 : l0.length ≤ 100000) (a3 : _) (a4 : _) : Sim (T4 k ([104, 101, 97, 100], (16 : Int), l0, a3, a4)) (fun o => (o.1, o.2.1, o.2.2.1, o.2.2.2.2.2.1)) (Aw [104, 101, 97, 100] (16 : Int) Bf (l0, 0, 0)).2 (fun r => (r.2.2.2.1, r.2.2.2.2.1, r.2.2.2.2.2.2.1, r.2.2.2.2.2.2.2.1, r.2.2.2.2.2.2.2.2) = ([104, 101, 97, 100], (16 : Int), a3, a4, (Aw [104, 101, 97, 100] (16 : Int) Bf (l0, 0, 0)).1)) := by
 rw [B0m, Afk]
 refine Jq [104, 101, 97, 100] ⟨_, _, rfl, rfl⟩ (16 : Int) Bf O1 Aor Ao3 (fun j l o => (Hf k).L 1 [] j (Rf ([104, 101, 97, 100], (16 : Int), l, a3, a4, o))) (fun o => (o.1, o.2.1, o.2.2.1, o.2.2.2.2.2.1)) (fun r o => (r.2.2.2.1, r.2.2.2.2.1, r.2.2.2.2.2.2.1, r.2.2.2.2.2.2.2.1, r.2.2.2.2.2.2.2.2) = ([104, 101, 97, 100], (16 : Int), a3, a4, o)) (fun j l o r hc => ?_) (fun j l o r hc hm => ?_) (fun j l o r rn hl hl2 ho hc hm => ?_) (l0.length + 1) k l0 [] r0 (by omega) (by omega) (by rw [List.length_nil]; omega)
 ·have hc2 : ((hd l).2.1 == [104, 101, 97, 100]) = false := by simpa using hc
  rw [Afj, Rg, By k r, Option.bind_some, hc2, cond_false]
  exact ⟨_, rfl, rfl, rfl⟩
 ·rw [Afj, Rg, By k r, Option.bind_some, hc, beq_self_eq_true, cond_true, hm, beq_self_eq_true, cond_true, Bd k r, Option.bind_some]
  exact ⟨_, rfl, rfl⟩
 ·have hm2 : (((o.length : Nat) : Int) == (16 : Int)) = false := by simpa using hm
  rw [Afj, Rg, By k r, Option.bind_some, hc, beq_self_eq_true, cond_true, hm2, cond_false, A8 k r, Option.bind_some]
  simp only []
  obtain ⟨q, e1, e2, e3⟩ := Cdv k hk rn hl2
  rw [e1, Option.bind_some]
  obtain ⟨q0, q1, q2, q3, q4, q5, q6, q7, q8, q9, q10, q11, q12, q13, q14⟩ := q
  simp only [Prod.mk.injEq] at e2 e3
  obtain ⟨rfl, rfl, rfl, rfl⟩ := e2
  refine ⟨fun he => ?_, fun he => ?_⟩
  ·have he2 : ((Bf (nx l, 0, 0)).2.2.1 == 0) = false := by simpa using he
   simp only [he2, Bool.not_false, cond_true]
   exact ⟨_, rfl, rfl⟩
  ·simp only [he, beq_self_eq_true, Bool.not_true, cond_false]
   rw [Ce (by rw [List.length_singleton]; omega) (by rw [List.length_singleton]; omega), e3 he]
theorem Cfh (k : Nat) (hk : 200000 ≤ k) {l0 : List Tk} (r0 : Rdy l0) (m0 : l0.length ≤ 100000) : Sim (cpwalk k l0) (fun o => (o.2.2.2.2.2.2.1, o.2.2.2.2.2.2.2.1, o.2.2.2.2.2.2.2.2.1, o.2.2.2.2.2.2.2.2.2)) (Bx (l0, 0, 0)).2 (fun o => (o.1, (o.2.1, (o.2.2.1, (o.2.2.2.1, (o.2.2.2.2.1, (o.2.2.2.2.2.1, ())))))) = (Bx (l0, 0, 0)).1) := by
 rw [B5v, A6l]
 simp only [B5d, A47, B2g, Ayp, Fz, Fh, B2h, Ayt, B3p, A1g, B3q, A1k, B3r, A1o, Option.bind_some]
 refine Jv (pr := (fun o => (o.1, o.2.1, o.2.2.1, o.2.2.2.1))) (fun o => rfl) ?_
 rw [B1o, Awp]
 simp only [Bx, Iy, Iz, Iq]
 rw [Ce5 k r0]
 simp only [Option.bind_some]
 rw [Cd3 k r0]
 simp only [Option.bind_some]
 have s0 := I1 r0
 generalize Ah (l0, 0, 0) = o0 at s0 ⊢
 rcases s0 with ⟨v0, l, e, p, h⟩ | ⟨v0, l1, r1, n0⟩
 ·exact As h rfl (by simp only [Am h, Aq h, Ao h, Au h, Ar h, Av h, An h, Al h, Ak h, cond_false])
 have m1 := Nat.le_trans n0 m0
 simp only [beq_self_eq_true, Bool.not_true, cond_false, cond_true]
 rw [Bn k r1 ([119, 105, 116, 104] : List Int) ⟨_, _, rfl, rfl⟩]
 simp only [Option.bind_some]
 have s1 := Bl r1 ([119, 105, 116, 104] : List Int)
 generalize Aj ([119, 105, 116, 104] : List Int) (l1, 0, 0) = o1 at s1 ⊢
 rcases s1 with ⟨l, e, p, h⟩ | ⟨l2, r2, n1⟩
 ·exact As h rfl (by simp only [Am h, Aq h, Ao h, Au h, Ar h, Av h, An h, Al h, Ak h, cond_false])
 have m2 := Nat.le_trans n1 m1
 simp only [beq_self_eq_true, Bool.not_true, cond_false, cond_true]
 rw [Cd4 k r2]
 simp only [Option.bind_some]
 have s2 := I1 r2
 generalize Ah (l2, 0, 0) = o2 at s2 ⊢
 rcases s2 with ⟨v2, l, e, p, h⟩ | ⟨v2, l3, r3, n2⟩
 ·exact As h rfl (by simp only [Am h, Aq h, Ao h, Au h, Ar h, Av h, An h, Al h, Ak h, cond_false])
 have m3 := Nat.le_trans n2 m2
 simp only [beq_self_eq_true, Bool.not_true, cond_false, cond_true]
 rw [Bn k r3 ([108, 111, 110, 103] : List Int) ⟨_, _, rfl, rfl⟩]
 simp only [Option.bind_some]
 have s3 := Bl r3 ([108, 111, 110, 103] : List Int)
 generalize Aj ([108, 111, 110, 103] : List Int) (l3, 0, 0) = o3 at s3 ⊢
 rcases s3 with ⟨l, e, p, h⟩ | ⟨l4, r4, n3⟩
 ·exact As h rfl (by simp only [Am h, Aq h, Ao h, Au h, Ar h, Av h, An h, Al h, Ak h, cond_false])
 have m4 := Nat.le_trans n3 m3
 simp only [beq_self_eq_true, Bool.not_true, cond_false, cond_true]
 rw [Cem k r4]
 simp only [Option.bind_some]
 have s4 := C7 r4
 generalize numC (l4, 0, 0) = o4 at s4 ⊢
 rcases s4 with ⟨v4, l, e, p, h⟩ | ⟨v4, l5, r5, n4⟩
 ·exact As h rfl (by simp only [Am h, Aq h, Ao h, Au h, Ar h, Av h, An h, Al h, Ak h, cond_false])
 have m5 := Nat.le_trans n4 m4
 simp only [beq_self_eq_true, Bool.not_true, cond_false, cond_true]
 rw [Bn k r5 ([112, 97, 99, 101] : List Int) ⟨_, _, rfl, rfl⟩]
 simp only [Option.bind_some]
 have s5 := Bl r5 ([112, 97, 99, 101] : List Int)
 generalize Aj ([112, 97, 99, 101] : List Int) (l5, 0, 0) = o5 at s5 ⊢
 rcases s5 with ⟨l, e, p, h⟩ | ⟨l6, r6, n5⟩
 ·exact As h rfl (by simp only [Am h, Aq h, Ao h, Au h, Ar h, Av h, An h, Al h, Ak h, cond_false])
 have m6 := Nat.le_trans n5 m5
 simp only [beq_self_eq_true, Bool.not_true, cond_false, cond_true]
 rw [Cen k r6]
 simp only [Option.bind_some]
 have s6 := C7 r6
 generalize numC (l6, 0, 0) = o6 at s6 ⊢
 rcases s6 with ⟨v6, l, e, p, h⟩ | ⟨v6, l7, r7, n6⟩
 ·exact As h rfl (by simp only [Am h, Aq h, Ao h, Au h, Ar h, Av h, An h, Al h, Ak h, cond_false])
 have m7 := Nat.le_trans n6 m6
 simp only [beq_self_eq_true, Bool.not_true, cond_false, cond_true]
 rw [Bn k r7 ([108, 101, 97, 115, 116] : List Int) ⟨_, _, rfl, rfl⟩]
 simp only [Option.bind_some]
 have s7 := Bl r7 ([108, 101, 97, 115, 116] : List Int)
 generalize Aj ([108, 101, 97, 115, 116] : List Int) (l7, 0, 0) = o7 at s7 ⊢
 rcases s7 with ⟨l, e, p, h⟩ | ⟨l8, r8, n7⟩
 ·exact As h rfl (by simp only [Am h, Aq h, Ao h, Au h, Ar h, Av h, An h, Al h, Ak h, cond_false])
 have m8 := Nat.le_trans n7 m7
 simp only [beq_self_eq_true, Bool.not_true, cond_false, cond_true]
 rw [Ceo k r8]
 simp only [Option.bind_some]
 have s8 := C7 r8
 generalize numC (l8, 0, 0) = o8 at s8 ⊢
 rcases s8 with ⟨v8, l, e, p, h⟩ | ⟨v8, l9, r9, n8⟩
 ·exact As h rfl (by simp only [Am h, Aq h, Ao h, Au h, Ar h, Av h, An h, Al h, Ak h, cond_false])
 have m9 := Nat.le_trans n8 m8
 simp only [beq_self_eq_true, Bool.not_true, cond_false, cond_true]
 rw [Bn k r9 ([59] : List Int) ⟨_, _, rfl, rfl⟩]
 simp only [Option.bind_some]
 have s9 := Bl r9 ([59] : List Int)
 generalize Aj ([59] : List Int) (l9, 0, 0) = o9 at s9 ⊢
 rcases s9 with ⟨l, e, p, h⟩ | ⟨l10, r10, n9⟩
 ·exact As h rfl (by simp only [Am h, Aq h, Ao h, Au h, Ar h, Av h, An h, Al h, Ak h, cond_false])
 have m10 := Nat.le_trans n9 m9
 simp only [beq_self_eq_true, Bool.not_true, cond_false, cond_true]
 exact Gc rfl fun _ => rfl
theorem Ccj (k : Nat) (hk : 200000 ≤ k) {l0 : List Tk} (r0 : Rdy l0) (m0 : l0.length ≤ 100000) (a3 : _) (a4 : _) (a5 : _) : Sim (T6 k ([119, 97, 108, 107], (8 : Int), l0, a3, a4, a5)) (fun o => (o.1, o.2.1, o.2.2.1, o.2.2.2.2.2.1)) (Aw [119, 97, 108, 107] (8 : Int) Bx (l0, 0, 0)).2 (fun r => (r.2.2.2.1, r.2.2.2.2.1, r.2.2.2.2.2.2.1, r.2.2.2.2.2.2.2.1, r.2.2.2.2.2.2.2.2.1, r.2.2.2.2.2.2.2.2.2) = ([119, 97, 108, 107], (8 : Int), a3, a4, a5, (Aw [119, 97, 108, 107] (8 : Int) Bx (l0, 0, 0)).1)) := by
 rw [B0s, Afu]
 refine Jq [119, 97, 108, 107] ⟨_, _, rfl, rfl⟩ (8 : Int) Bx O3 Aox Ao9 (fun j l o => (Hh k).L 1 [] j (Rj ([119, 97, 108, 107], (8 : Int), l, a3, a4, a5, o))) (fun o => (o.1, o.2.1, o.2.2.1, o.2.2.2.2.2.1)) (fun r o => (r.2.2.2.1, r.2.2.2.2.1, r.2.2.2.2.2.2.1, r.2.2.2.2.2.2.2.1, r.2.2.2.2.2.2.2.2.1, r.2.2.2.2.2.2.2.2.2) = ([119, 97, 108, 107], (8 : Int), a3, a4, a5, o)) (fun j l o r hc => ?_) (fun j l o r hc hm => ?_) (fun j l o r rn hl hl2 ho hc hm => ?_) (l0.length + 1) k l0 [] r0 (by omega) (by omega) (by rw [List.length_nil]; omega)
 ·have hc2 : ((hd l).2.1 == [119, 97, 108, 107]) = false := by simpa using hc
  rw [Aft, Rk, By k r, Option.bind_some, hc2, cond_false]
  exact ⟨_, rfl, rfl, rfl⟩
 ·rw [Aft, Rk, By k r, Option.bind_some, hc, beq_self_eq_true, cond_true, hm, beq_self_eq_true, cond_true, Bd k r, Option.bind_some]
  exact ⟨_, rfl, rfl⟩
 ·have hm2 : (((o.length : Nat) : Int) == (8 : Int)) = false := by simpa using hm
  rw [Aft, Rk, By k r, Option.bind_some, hc, beq_self_eq_true, cond_true, hm2, cond_false, A8 k r, Option.bind_some]
  simp only []
  obtain ⟨q, e1, e2, e3⟩ := Cfh k hk rn hl2
  rw [e1, Option.bind_some]
  obtain ⟨q0, q1, q2, q3, q4, q5, q6, q7, q8, q9⟩ := q
  simp only [Prod.mk.injEq] at e2 e3
  obtain ⟨rfl, rfl, rfl, rfl⟩ := e2
  refine ⟨fun he => ?_, fun he => ?_⟩
  ·have he2 : ((Bx (nx l, 0, 0)).2.2.1 == 0) = false := by simpa using he
   simp only [he2, Bool.not_false, cond_true]
   exact ⟨_, rfl, rfl⟩
  ·simp only [he, beq_self_eq_true, Bool.not_true, cond_false]
   rw [Ce (by rw [List.length_singleton]; omega) (by rw [List.length_singleton]; omega), e3 he]
theorem Ce3 (k : Nat) (hk : 200000 ≤ k) {l0 : List Tk} (r0 : Rdy l0) (m0 : l0.length ≤ 100000) : Sim (cpphase k l0) (fun o => (o.2.2.1, o.2.2.2.1, o.2.2.2.2.1, o.2.2.2.2.2.1)) (Dq (l0, 0, 0)).2 (fun o => (o.1, (o.2.2.2.2.2.2, (o.2.1, ()))) = (Dq (l0, 0, 0)).1) := by
 rw [B5b, A41]
 simp only [B5e, A5b, B2i, Ayx, Fz, Fh, B3j, A0v, Option.bind_some]
 refine Jv (pr := (fun o => (o.1, o.2.1, o.2.2.1, o.2.2.2.1))) (fun o => rfl) ?_
 rw [B1q, Aws]
 simp only [Dq, Iy, Iz, Iq]
 rw [Ce6 k r0]
 simp only [Option.bind_some]
 rw [Cd5 k r0]
 simp only [Option.bind_some]
 have s0 := I1 r0
 generalize Ah (l0, 0, 0) = o0 at s0 ⊢
 rcases s0 with ⟨v0, l, e, p, h⟩ | ⟨v0, l1, r1, n0⟩
 ·exact As h rfl (by simp only [Am h, Aq h, Ao h, Au h, Ar h, Av h, An h, Al h, Ak h, cond_false])
 have m1 := Nat.le_trans n0 m0
 simp only [beq_self_eq_true, Bool.not_true, cond_false, cond_true]
 rw [Bn k r1 ([58] : List Int) ⟨_, _, rfl, rfl⟩]
 simp only [Option.bind_some]
 have s1 := Bl r1 ([58] : List Int)
 generalize Aj ([58] : List Int) (l1, 0, 0) = o1 at s1 ⊢
 rcases s1 with ⟨l, e, p, h⟩ | ⟨l2, r2, n1⟩
 ·exact As h rfl (by simp only [Am h, Aq h, Ao h, Au h, Ar h, Av h, An h, Al h, Ak h, cond_false])
 have m2 := Nat.le_trans n1 m1
 simp only [beq_self_eq_true, Bool.not_true, cond_false, cond_true]
 refine E7 (Cec k hk r2 m2 _ _) fun q hp hd => ?_
 obtain ⟨q0, q1, q2, q3, q4, q5, q6, q7⟩ := q
 simp only [Prod.mk.injEq] at hp hd
 obtain ⟨rfl, rfl, rfl, rfl⟩ := hp
 have s2 := Bgw r2 (16 : Int)
 generalize Cg (16 : Int) (l2, 0, 0) = o2 at s2 hd ⊢
 rcases s2 with ⟨v2, l, e, p, h⟩ | ⟨v2, l3, r3, n2⟩
 ·exact As h rfl (by simp only [Am h, Aq h, Ao h, Au h, Ar h, Av h, An h, Al h, Ak h, cond_false])
 have m3 := Nat.le_trans n2 m2
 obtain ⟨rfl, rfl, rfl, rfl⟩ := hd rfl
 simp only [beq_self_eq_true, Bool.not_true, cond_false, cond_true]
 exact Gc rfl fun _ => rfl
theorem Cck (k : Nat) (hk : 200000 ≤ k) {l0 : List Tk} (r0 : Rdy l0) (m0 : l0.length ≤ 100000) (a3 : _) (a4 : _) (a5 : _) (a6 : _) : Sim (T7 k ([112, 104, 97, 115, 101], (16 : Int), l0, a3, a4, a5, a6)) (fun o => (o.1, o.2.1, o.2.2.1, o.2.2.2.2.2.1)) (Aw [112, 104, 97, 115, 101] (16 : Int) Dq (l0, 0, 0)).2 (fun r => (r.2.2.2.1, r.2.2.2.2.1, r.2.2.2.2.2.2.1, r.2.2.2.2.2.2.2.1, r.2.2.2.2.2.2.2.2.1, r.2.2.2.2.2.2.2.2.2.1, r.2.2.2.2.2.2.2.2.2.2) = ([112, 104, 97, 115, 101], (16 : Int), a3, a4, a5, a6, (Aw [112, 104, 97, 115, 101] (16 : Int) Dq (l0, 0, 0)).1)) := by
 rw [B0v, Afz]
 refine Jq [112, 104, 97, 115, 101] ⟨_, _, rfl, rfl⟩ (16 : Int) Dq O2 Aou Ao6 (fun j l o => (Hi k).L 1 [] j (Rl ([112, 104, 97, 115, 101], (16 : Int), l, a3, a4, a5, a6, o))) (fun o => (o.1, o.2.1, o.2.2.1, o.2.2.2.2.2.1)) (fun r o => (r.2.2.2.1, r.2.2.2.2.1, r.2.2.2.2.2.2.1, r.2.2.2.2.2.2.2.1, r.2.2.2.2.2.2.2.2.1, r.2.2.2.2.2.2.2.2.2.1, r.2.2.2.2.2.2.2.2.2.2) = ([112, 104, 97, 115, 101], (16 : Int), a3, a4, a5, a6, o)) (fun j l o r hc => ?_) (fun j l o r hc hm => ?_) (fun j l o r rn hl hl2 ho hc hm => ?_) (l0.length + 1) k l0 [] r0 (by omega) (by omega) (by rw [List.length_nil]; omega)
 ·have hc2 : ((hd l).2.1 == [112, 104, 97, 115, 101]) = false := by simpa using hc
  rw [Afy, Rm, By k r, Option.bind_some, hc2, cond_false]
  exact ⟨_, rfl, rfl, rfl⟩
 ·rw [Afy, Rm, By k r, Option.bind_some, hc, beq_self_eq_true, cond_true, hm, beq_self_eq_true, cond_true, Bd k r, Option.bind_some]
  exact ⟨_, rfl, rfl⟩
 ·have hm2 : (((o.length : Nat) : Int) == (16 : Int)) = false := by simpa using hm
  rw [Afy, Rm, By k r, Option.bind_some, hc, beq_self_eq_true, cond_true, hm2, cond_false, A8 k r, Option.bind_some]
  simp only []
  obtain ⟨q, e1, e2, e3⟩ := Ce3 k hk rn hl2
  rw [e1, Option.bind_some]
  obtain ⟨q0, q1, q2, q3, q4, q5, q6⟩ := q
  simp only [Prod.mk.injEq] at e2 e3
  obtain ⟨rfl, rfl, rfl, rfl⟩ := e2
  refine ⟨fun he => ?_, fun he => ?_⟩
  ·have he2 : ((Dq (nx l, 0, 0)).2.2.1 == 0) = false := by simpa using he
   simp only [he2, Bool.not_false, cond_true]
   exact ⟨_, rfl, rfl⟩
  ·simp only [he, beq_self_eq_true, Bool.not_true, cond_false]
   rw [Ce (by rw [List.length_singleton]; omega) (by rw [List.length_singleton]; omega), e3 he]
theorem Cfa (k : Nat) (hk : 200000 ≤ k) {l0 : List Tk} (r0 : Rdy l0) (m0 : l0.length ≤ 100000) : Sim (cpring k l0) (fun o => (o.2.1, o.2.2.1, o.2.2.2.1, o.2.2.2.2.1)) (Dz (l0, 0, 0)).2 (fun o => (o.1, (o.2.2.2.2.2, ())) = (Dz (l0, 0, 0)).1) := by
 rw [B5o, A57]
 simp only [B18, Ax5, B3e, A0p, Option.bind_some]
 refine Jv (pr := (fun o => (o.1, o.2.1, o.2.2.1, o.2.2.2.1))) (fun o => rfl) ?_
 rw [B06, Avv]
 simp only [Dz, Iy, Iz, Iq]
 rw [Cd0 k r0 ([102, 114, 101, 101] : List Int) _ ⟨_, _, rfl, rfl⟩]
 simp only [Option.bind_some]
 obtain ⟨l1, q0, r1, n0⟩ := Anc r0 ([102, 114, 101, 101] : List Int)
 simp only [q0]
 have m1 := Nat.le_trans n0 m0
 refine E7 (Ceb k hk r1 m1 _) fun q hp hd => ?_
 obtain ⟨q0, q1, q2, q3, q4, q5, q6⟩ := q
 simp only [Prod.mk.injEq] at hp hd
 obtain ⟨rfl, rfl, rfl, rfl⟩ := hp
 have s1 := Bgw r1 (4 : Int)
 generalize Cg (4 : Int) (l1, 0, 0) = o1 at s1 hd ⊢
 rcases s1 with ⟨v1, l, e, p, h⟩ | ⟨v1, l2, r2, n1⟩
 ·exact As h rfl (by simp only [Am h, Aq h, Ao h, Au h, Ar h, Av h, An h, Al h, Ak h, cond_false])
 have m2 := Nat.le_trans n1 m1
 obtain ⟨rfl, rfl, rfl⟩ := hd rfl
 simp only [beq_self_eq_true, Bool.not_true, cond_false, cond_true]
 exact Gc rfl fun _ => by cases Ay ([102, 114, 101, 101] : List Int) (l0, 0, 0) <;> rfl
theorem Ccl (k : Nat) (hk : 200000 ≤ k) {l0 : List Tk} (r0 : Rdy l0) (m0 : l0.length ≤ 100000) : Sim (T8 k ([114, 105, 110, 103], (2 : Int), l0)) (fun o => (o.1, o.2.1, o.2.2.1, o.2.2.2.2.2.1)) (Aw [114, 105, 110, 103] (2 : Int) Dz (l0, 0, 0)).2 (fun r => (r.2.2.2.1, r.2.2.2.2.1, r.2.2.2.2.2.2) = ([114, 105, 110, 103], (2 : Int), (Aw [114, 105, 110, 103] (2 : Int) Dz (l0, 0, 0)).1)) := by
 rw [B0y, Af4]
 refine Jq [114, 105, 110, 103] ⟨_, _, rfl, rfl⟩ (2 : Int) Dz S8 Aov Ao7 (fun j l o => (Hj k).L 1 [] j (Rn ([114, 105, 110, 103], (2 : Int), l, o))) (fun o => (o.1, o.2.1, o.2.2.1, o.2.2.2.2.2.1)) (fun r o => (r.2.2.2.1, r.2.2.2.2.1, r.2.2.2.2.2.2) = ([114, 105, 110, 103], (2 : Int), o)) (fun j l o r hc => ?_) (fun j l o r hc hm => ?_) (fun j l o r rn hl hl2 ho hc hm => ?_) (l0.length + 1) k l0 [] r0 (by omega) (by omega) (by rw [List.length_nil]; omega)
 ·have hc2 : ((hd l).2.1 == [114, 105, 110, 103]) = false := by simpa using hc
  rw [Af3, Ro, By k r, Option.bind_some, hc2, cond_false]
  exact ⟨_, rfl, rfl, rfl⟩
 ·rw [Af3, Ro, By k r, Option.bind_some, hc, beq_self_eq_true, cond_true, hm, beq_self_eq_true, cond_true, Bd k r, Option.bind_some]
  exact ⟨_, rfl, rfl⟩
 ·have hm2 : (((o.length : Nat) : Int) == (2 : Int)) = false := by simpa using hm
  rw [Af3, Ro, By k r, Option.bind_some, hc, beq_self_eq_true, cond_true, hm2, cond_false, A8 k r, Option.bind_some]
  simp only []
  obtain ⟨q, e1, e2, e3⟩ := Cfa k hk rn hl2
  rw [e1, Option.bind_some]
  obtain ⟨q0, q1, q2, q3, q4, q5⟩ := q
  simp only [Prod.mk.injEq] at e2 e3
  obtain ⟨rfl, rfl, rfl, rfl⟩ := e2
  refine ⟨fun he => ?_, fun he => ?_⟩
  ·have he2 : ((Dz (nx l, 0, 0)).2.2.1 == 0) = false := by simpa using he
   simp only [he2, Bool.not_false, cond_true]
   exact ⟨_, rfl, rfl⟩
  ·simp only [he, beq_self_eq_true, Bool.not_true, cond_false]
   rw [Ce (by rw [List.length_singleton]; omega) (by rw [List.length_singleton]; omega), e3 he]
theorem Cdq (k : Nat) (hk : 200000 ≤ k) {l0 : List Tk} (r0 : Rdy l0) (m0 : l0.length ≤ 100000) : Sim (cpgroup k l0) (fun o => (o.1, o.2.1, o.2.2.1, o.2.2.2.1)) (Cx (l0, 0, 0)).2 (fun o => (o.2.2.2.2, ()) = (Cx (l0, 0, 0)).1) := by
 rw [B14, Axs]
 simp only [Fz, Fh, B5r, A6c, B0z, Avk, Option.bind_some]
 refine Jv (pr := (fun o => (o.1, o.2.1, o.2.2.1, o.2.2.2.1))) (fun o => rfl) ?_
 rw [B1u, Aw1]
 simp only [Cx, Iy, Iz, Iq]
 rw [Bn k r0 ([123] : List Int) ⟨_, _, rfl, rfl⟩]
 simp only [Option.bind_some]
 have s0 := Bl r0 ([123] : List Int)
 generalize Aj ([123] : List Int) (l0, 0, 0) = o0 at s0 ⊢
 rcases s0 with ⟨l, e, p, h⟩ | ⟨l1, r1, n0⟩
 ·exact As h rfl (by simp only [Am h, Aq h, Ao h, Au h, Ar h, Av h, An h, Al h, Ak h, cond_false])
 have m1 := Nat.le_trans n0 m0
 simp only [beq_self_eq_true, Bool.not_true, cond_false, cond_true]
 rw [Cfb k r1 ([114, 105, 110, 103] : List Int) ⟨_, _, rfl, rfl⟩]
 simp only [Option.bind_some]
 have s1 := ok_sees r1 ([114, 105, 110, 103] : List Int)
 generalize (bif Ay ([114, 105, 110, 103] : List Int) (l1, 0, 0) then (l1, 0, 0) else A2 50 (l1, 0, 0)) = o1 at s1 ⊢
 rcases s1 with ⟨l, e, p, h⟩ | ⟨l2, r2, n1⟩
 ·exact As h rfl (by simp only [Am h, Aq h, Ao h, Au h, Ar h, Av h, An h, Al h, Ak h, cond_false])
 have m2 := Nat.le_trans n1 m1
 simp only [beq_self_eq_true, Bool.not_true, cond_false, cond_true]
 refine E7 (Ccl k hk r2 m2) fun q hp hd => ?_
 obtain ⟨q0, q1, q2, q3, q4, q5, q6⟩ := q
 simp only [Prod.mk.injEq] at hp hd
 obtain ⟨rfl, rfl, rfl, rfl⟩ := hp
 have s2 := Kr r2 ([114, 105, 110, 103] : List Int) (2 : Int) S8 Aov Ao7
 generalize Aw ([114, 105, 110, 103] : List Int) (2 : Int) Dz (l2, 0, 0) = o2 at s2 hd ⊢
 rcases s2 with ⟨v2, l, e, p, h⟩ | ⟨v2, l3, r3, n2⟩
 ·exact As h rfl (by simp only [Am h, Aq h, Ao h, Au h, Ar h, Av h, An h, Al h, Ak h, cond_false])
 have m3 := Nat.le_trans n2 m2
 obtain ⟨rfl, rfl, rfl⟩ := hd rfl
 simp only [beq_self_eq_true, Bool.not_true, cond_false, cond_true]
 rw [Bn k r3 ([125] : List Int) ⟨_, _, rfl, rfl⟩]
 simp only [Option.bind_some]
 have s3 := Bl r3 ([125] : List Int)
 generalize Aj ([125] : List Int) (l3, 0, 0) = o3 at s3 ⊢
 rcases s3 with ⟨l, e, p, h⟩ | ⟨l4, r4, n3⟩
 ·exact As h rfl (by simp only [Am h, Aq h, Ao h, Au h, Ar h, Av h, An h, Al h, Ak h, cond_false])
 have m4 := Nat.le_trans n3 m3
 simp only [beq_self_eq_true, Bool.not_true, cond_false, cond_true]
 exact Gc rfl fun _ => rfl
theorem Ccg (k : Nat) (hk : 200000 ≤ k) {l0 : List Tk} (r0 : Rdy l0) (m0 : l0.length ≤ 100000) (a3 : _) (a4 : _) (a5 : _) (a6 : _) (a7 : _) : Sim (T2 k ([103, 114, 111, 117, 112], (4 : Int), l0, a3, a4, a5, a6, a7)) (fun o => (o.1, o.2.1, o.2.2.1, o.2.2.2.2.2.1)) (Aw [103, 114, 111, 117, 112] (4 : Int) Cx (l0, 0, 0)).2 (fun r => (r.2.2.2.1, r.2.2.2.2.1, r.2.2.2.2.2.2.1, r.2.2.2.2.2.2.2.1, r.2.2.2.2.2.2.2.2.1, r.2.2.2.2.2.2.2.2.2.1, r.2.2.2.2.2.2.2.2.2.2.1, r.2.2.2.2.2.2.2.2.2.2.2) = ([103, 114, 111, 117, 112], (4 : Int), a3, a4, a5, a6, a7, (Aw [103, 114, 111, 117, 112] (4 : Int) Cx (l0, 0, 0)).1)) := by
 rw [B0j, Aff]
 refine Jq [103, 114, 111, 117, 112] ⟨_, _, rfl, rfl⟩ (4 : Int) Cx O0 Aoq Ao2 (fun j l o => (He k).L 1 [] j (Rd ([103, 114, 111, 117, 112], (4 : Int), l, a3, a4, a5, a6, a7, o))) (fun o => (o.1, o.2.1, o.2.2.1, o.2.2.2.2.2.1)) (fun r o => (r.2.2.2.1, r.2.2.2.2.1, r.2.2.2.2.2.2.1, r.2.2.2.2.2.2.2.1, r.2.2.2.2.2.2.2.2.1, r.2.2.2.2.2.2.2.2.2.1, r.2.2.2.2.2.2.2.2.2.2.1, r.2.2.2.2.2.2.2.2.2.2.2) = ([103, 114, 111, 117, 112], (4 : Int), a3, a4, a5, a6, a7, o)) (fun j l o r hc => ?_) (fun j l o r hc hm => ?_) (fun j l o r rn hl hl2 ho hc hm => ?_) (l0.length + 1) k l0 [] r0 (by omega) (by omega) (by rw [List.length_nil]; omega)
 ·have hc2 : ((hd l).2.1 == [103, 114, 111, 117, 112]) = false := by simpa using hc
  rw [Afe, Re, By k r, Option.bind_some, hc2, cond_false]
  exact ⟨_, rfl, rfl, rfl⟩
 ·rw [Afe, Re, By k r, Option.bind_some, hc, beq_self_eq_true, cond_true, hm, beq_self_eq_true, cond_true, Bd k r, Option.bind_some]
  exact ⟨_, rfl, rfl⟩
 ·have hm2 : (((o.length : Nat) : Int) == (4 : Int)) = false := by simpa using hm
  rw [Afe, Re, By k r, Option.bind_some, hc, beq_self_eq_true, cond_true, hm2, cond_false, A8 k r, Option.bind_some]
  simp only []
  obtain ⟨q, e1, e2, e3⟩ := Cdq k hk rn hl2
  rw [e1, Option.bind_some]
  obtain ⟨q0, q1, q2, q3, q4⟩ := q
  simp only [Prod.mk.injEq] at e2 e3
  obtain ⟨rfl, rfl, rfl, rfl⟩ := e2
  refine ⟨fun he => ?_, fun he => ?_⟩
  ·have he2 : ((Cx (nx l, 0, 0)).2.2.1 == 0) = false := by simpa using he
   simp only [he2, Bool.not_false, cond_true]
   exact ⟨_, rfl, rfl⟩
  ·simp only [he, beq_self_eq_true, Bool.not_true, cond_false]
   rw [Ce (by rw [List.length_singleton]; omega) (by rw [List.length_singleton]; omega), e3 he]
theorem Cdn (k : Nat) (hk : 200000 ≤ k) {l0 : List Tk} (r0 : Rdy l0) (m0 : l0.length ≤ 100000) : Sim (cpfoe k l0) (fun o => (o.2.2.2.1, o.2.2.2.2.1, o.2.2.2.2.2.1, o.2.2.2.2.2.2)) (foeR (l0, 0, 0)).2 (fun o => (o.1, (o.2.1, (o.2.2.1, ()))) = (foeR (l0, 0, 0)).1) := by
 rw [fpfoe_e, Axe]
 simp only [B5f, A5f, B2j, Ay4, B2k, Ay8, Fz, Fh, Option.bind_some]
 refine Jv (pr := (fun o => (o.1, o.2.1, o.2.2.1, o.2.2.2.1))) (fun o => rfl) ?_
 rw [B08, Avz]
 simp only [foeR, Iy, Iz, Iq]
 rw [Ce7 k r0]
 simp only [Option.bind_some]
 rw [Cd6 k r0]
 simp only [Option.bind_some]
 have s0 := I1 r0
 generalize Ah (l0, 0, 0) = o0 at s0 ⊢
 rcases s0 with ⟨v0, l, e, p, h⟩ | ⟨v0, l1, r1, n0⟩
 ·exact As h rfl (by simp only [Am h, Aq h, Ao h, Au h, Ar h, Av h, An h, Al h, Ak h, cond_false])
 have m1 := Nat.le_trans n0 m0
 simp only [beq_self_eq_true, Bool.not_true, cond_false, cond_true]
 rw [Cd7 k r1]
 simp only [Option.bind_some]
 have s1 := I1 r1
 generalize Ah (l1, 0, 0) = o1 at s1 ⊢
 rcases s1 with ⟨v1, l, e, p, h⟩ | ⟨v1, l2, r2, n1⟩
 ·exact As h rfl (by simp only [Am h, Aq h, Ao h, Au h, Ar h, Av h, An h, Al h, Ak h, cond_false])
 have m2 := Nat.le_trans n1 m1
 simp only [beq_self_eq_true, Bool.not_true, cond_false, cond_true]
 rw [Bn k r2 ([59] : List Int) ⟨_, _, rfl, rfl⟩]
 simp only [Option.bind_some]
 have s2 := Bl r2 ([59] : List Int)
 generalize Aj ([59] : List Int) (l2, 0, 0) = o2 at s2 ⊢
 rcases s2 with ⟨l, e, p, h⟩ | ⟨l3, r3, n2⟩
 ·exact As h rfl (by simp only [Am h, Aq h, Ao h, Au h, Ar h, Av h, An h, Al h, Ak h, cond_false])
 have m3 := Nat.le_trans n2 m2
 simp only [beq_self_eq_true, Bool.not_true, cond_false, cond_true]
 exact Gc rfl fun _ => rfl
theorem Ccf (k : Nat) (hk : 200000 ≤ k) {l0 : List Tk} (r0 : Rdy l0) (m0 : l0.length ≤ 100000) (a3 : _) (a4 : _) (a5 : _) (a6 : _) (a7 : _) (a8 : _) : Sim (T1 k ([102, 111, 101], (64 : Int), l0, a3, a4, a5, a6, a7, a8)) (fun o => (o.1, o.2.1, o.2.2.1, o.2.2.2.2.2.1)) (Aw [102, 111, 101] (64 : Int) foeR (l0, 0, 0)).2 (fun r => (r.2.2.2.1, r.2.2.2.2.1, r.2.2.2.2.2.2.1, r.2.2.2.2.2.2.2.1, r.2.2.2.2.2.2.2.2.1, r.2.2.2.2.2.2.2.2.2.1, r.2.2.2.2.2.2.2.2.2.2.1, r.2.2.2.2.2.2.2.2.2.2.2.1, r.2.2.2.2.2.2.2.2.2.2.2.2) = ([102, 111, 101], (64 : Int), a3, a4, a5, a6, a7, a8, (Aw [102, 111, 101] (64 : Int) foeR (l0, 0, 0)).1)) := by
 rw [B0g, Afa]
 refine Jq [102, 111, 101] ⟨_, _, rfl, rfl⟩ (64 : Int) foeR S5 Aop Ao1 (fun j l o => (Hd k).L 1 [] j (Rb ([102, 111, 101], (64 : Int), l, a3, a4, a5, a6, a7, a8, o))) (fun o => (o.1, o.2.1, o.2.2.1, o.2.2.2.2.2.1)) (fun r o => (r.2.2.2.1, r.2.2.2.2.1, r.2.2.2.2.2.2.1, r.2.2.2.2.2.2.2.1, r.2.2.2.2.2.2.2.2.1, r.2.2.2.2.2.2.2.2.2.1, r.2.2.2.2.2.2.2.2.2.2.1, r.2.2.2.2.2.2.2.2.2.2.2.1, r.2.2.2.2.2.2.2.2.2.2.2.2) = ([102, 111, 101], (64 : Int), a3, a4, a5, a6, a7, a8, o)) (fun j l o r hc => ?_) (fun j l o r hc hm => ?_) (fun j l o r rn hl hl2 ho hc hm => ?_) (l0.length + 1) k l0 [] r0 (by omega) (by omega) (by rw [List.length_nil]; omega)
 ·have hc2 : ((hd l).2.1 == [102, 111, 101]) = false := by simpa using hc
  rw [Ae9, Rc, By k r, Option.bind_some, hc2, cond_false]
  exact ⟨_, rfl, rfl, rfl⟩
 ·rw [Ae9, Rc, By k r, Option.bind_some, hc, beq_self_eq_true, cond_true, hm, beq_self_eq_true, cond_true, Bd k r, Option.bind_some]
  exact ⟨_, rfl, rfl⟩
 ·have hm2 : (((o.length : Nat) : Int) == (64 : Int)) = false := by simpa using hm
  rw [Ae9, Rc, By k r, Option.bind_some, hc, beq_self_eq_true, cond_true, hm2, cond_false, A8 k r, Option.bind_some]
  simp only []
  obtain ⟨q, e1, e2, e3⟩ := Cdn k hk rn hl2
  rw [e1, Option.bind_some]
  obtain ⟨q0, q1, q2, q3, q4, q5, q6⟩ := q
  simp only [Prod.mk.injEq] at e2 e3
  obtain ⟨rfl, rfl, rfl, rfl⟩ := e2
  refine ⟨fun he => ?_, fun he => ?_⟩
  ·have he2 : ((foeR (nx l, 0, 0)).2.2.1 == 0) = false := by simpa using he
   simp only [he2, Bool.not_false, cond_true]
   exact ⟨_, rfl, rfl⟩
  ·simp only [he, beq_self_eq_true, Bool.not_true, cond_false]
   rw [Ce (by rw [List.length_singleton]; omega) (by rw [List.length_singleton]; omega), e3 he]
theorem Ceg (k : Nat) (hk : 200000 ≤ k) {l0 : List Tk} (r0 : Rdy l0) (m0 : l0.length ≤ 100000) : Sim (cpnode k l0) (fun o => (o.2.2.1, o.2.2.2.1, o.2.2.2.2.1, o.2.2.2.2.2.1)) (Bv (l0, 0, 0)).2 (fun o => (o.1, (o.2.2.2.2.2.2.1, (o.2.2.2.2.2.2.2.1, (o.2.2.2.2.2.2.2.2.1, (o.2.2.2.2.2.2.2.2.2.1, (o.2.2.2.2.2.2.2.2.2.2, (o.2.1, ()))))))) = (Bv (l0, 0, 0)).1) := by
 rw [B3k, A0y]
 simp only [B5n, A55, B29, A0h, Fz, Fh, B0n, Au0, B0t, Ava, B0w, Avf, B0k, Auv, B0h, Auq, Option.bind_some]
 refine Jv (pr := (fun o => (o.1, o.2.1, o.2.2.1, o.2.2.2.1))) (fun o => rfl) ?_
 rw [B1i, Awf]
 simp only [Bv, Iy, Iz, Iq]
 rw [Ce9 k r0]
 simp only [Option.bind_some]
 rw [Cea k r0]
 simp only [Option.bind_some]
 have s0 := I1 r0
 generalize Ah (l0, 0, 0) = o0 at s0 ⊢
 rcases s0 with ⟨v0, l, e, p, h⟩ | ⟨v0, l1, r1, n0⟩
 ·exact As h rfl (by simp only [Am h, Aq h, Ao h, Au h, Ar h, Av h, An h, Al h, Ak h, cond_false])
 have m1 := Nat.le_trans n0 m0
 simp only [beq_self_eq_true, Bool.not_true, cond_false, cond_true]
 rw [Bn k r1 ([123] : List Int) ⟨_, _, rfl, rfl⟩]
 simp only [Option.bind_some]
 have s1 := Bl r1 ([123] : List Int)
 generalize Aj ([123] : List Int) (l1, 0, 0) = o1 at s1 ⊢
 rcases s1 with ⟨l, e, p, h⟩ | ⟨l2, r2, n1⟩
 ·exact As h rfl (by simp only [Am h, Aq h, Ao h, Au h, Ar h, Av h, An h, Al h, Ak h, cond_false])
 have m2 := Nat.le_trans n1 m1
 simp only [beq_self_eq_true, Bool.not_true, cond_false, cond_true]
 refine E7 (Cch k hk r2 m2 _ _) fun q hp hd => ?_
 obtain ⟨q0, q1, q2, q3, q4, q5, q6, q7, q8⟩ := q
 simp only [Prod.mk.injEq] at hp hd
 obtain ⟨rfl, rfl, rfl, rfl⟩ := hp
 have s2 := Kr r2 ([104, 101, 97, 100] : List Int) (16 : Int) O1 Aor Ao3
 generalize Aw ([104, 101, 97, 100] : List Int) (16 : Int) Bf (l2, 0, 0) = o2 at s2 hd ⊢
 rcases s2 with ⟨v2, l, e, p, h⟩ | ⟨v2, l3, r3, n2⟩
 ·exact As h rfl (by simp only [Am h, Aq h, Ao h, Au h, Ar h, Av h, An h, Al h, Ak h, cond_false])
 have m3 := Nat.le_trans n2 m2
 obtain ⟨rfl, rfl, rfl, rfl, rfl⟩ := hd rfl
 simp only [beq_self_eq_true, Bool.not_true, cond_false, cond_true]
 refine E7 (Ccj k hk r3 m3 _ _ _) fun q hp hd => ?_
 obtain ⟨q0, q1, q2, q3, q4, q5, q6, q7, q8, q9⟩ := q
 simp only [Prod.mk.injEq] at hp hd
 obtain ⟨rfl, rfl, rfl, rfl⟩ := hp
 have s3 := Kr r3 ([119, 97, 108, 107] : List Int) (8 : Int) O3 Aox Ao9
 generalize Aw ([119, 97, 108, 107] : List Int) (8 : Int) Bx (l3, 0, 0) = o3 at s3 hd ⊢
 rcases s3 with ⟨v3, l, e, p, h⟩ | ⟨v3, l4, r4, n3⟩
 ·exact As h rfl (by simp only [Am h, Aq h, Ao h, Au h, Ar h, Av h, An h, Al h, Ak h, cond_false])
 have m4 := Nat.le_trans n3 m3
 obtain ⟨rfl, rfl, rfl, rfl, rfl, rfl⟩ := hd rfl
 simp only [beq_self_eq_true, Bool.not_true, cond_false, cond_true]
 refine E7 (Cck k hk r4 m4 _ _ _ _) fun q hp hd => ?_
 obtain ⟨q0, q1, q2, q3, q4, q5, q6, q7, q8, q9, q10⟩ := q
 simp only [Prod.mk.injEq] at hp hd
 obtain ⟨rfl, rfl, rfl, rfl⟩ := hp
 have s4 := Kr r4 ([112, 104, 97, 115, 101] : List Int) (16 : Int) O2 Aou Ao6
 generalize Aw ([112, 104, 97, 115, 101] : List Int) (16 : Int) Dq (l4, 0, 0) = o4 at s4 hd ⊢
 rcases s4 with ⟨v4, l, e, p, h⟩ | ⟨v4, l5, r5, n4⟩
 ·exact As h rfl (by simp only [Am h, Aq h, Ao h, Au h, Ar h, Av h, An h, Al h, Ak h, cond_false])
 have m5 := Nat.le_trans n4 m4
 obtain ⟨rfl, rfl, rfl, rfl, rfl, rfl, rfl⟩ := hd rfl
 simp only [beq_self_eq_true, Bool.not_true, cond_false, cond_true]
 refine E7 (Ccg k hk r5 m5 _ _ _ _ _) fun q hp hd => ?_
 obtain ⟨q0, q1, q2, q3, q4, q5, q6, q7, q8, q9, q10, q11⟩ := q
 simp only [Prod.mk.injEq] at hp hd
 obtain ⟨rfl, rfl, rfl, rfl⟩ := hp
 have s5 := Kr r5 ([103, 114, 111, 117, 112] : List Int) (4 : Int) O0 Aoq Ao2
 generalize Aw ([103, 114, 111, 117, 112] : List Int) (4 : Int) Cx (l5, 0, 0) = o5 at s5 hd ⊢
 rcases s5 with ⟨v5, l, e, p, h⟩ | ⟨v5, l6, r6, n5⟩
 ·exact As h rfl (by simp only [Am h, Aq h, Ao h, Au h, Ar h, Av h, An h, Al h, Ak h, cond_false])
 have m6 := Nat.le_trans n5 m5
 obtain ⟨rfl, rfl, rfl, rfl, rfl, rfl, rfl, rfl⟩ := hd rfl
 simp only [beq_self_eq_true, Bool.not_true, cond_false, cond_true]
 refine E7 (Ccf k hk r6 m6 _ _ _ _ _ _) fun q hp hd => ?_
 obtain ⟨q0, q1, q2, q3, q4, q5, q6, q7, q8, q9, q10, q11, q12⟩ := q
 simp only [Prod.mk.injEq] at hp hd
 obtain ⟨rfl, rfl, rfl, rfl⟩ := hp
 have s6 := Kr r6 ([102, 111, 101] : List Int) (64 : Int) S5 Aop Ao1
 generalize Aw ([102, 111, 101] : List Int) (64 : Int) foeR (l6, 0, 0) = o6 at s6 hd ⊢
 rcases s6 with ⟨v6, l, e, p, h⟩ | ⟨v6, l7, r7, n6⟩
 ·exact As h rfl (by simp only [Am h, Aq h, Ao h, Au h, Ar h, Av h, An h, Al h, Ak h, cond_false])
 have m7 := Nat.le_trans n6 m6
 obtain ⟨rfl, rfl, rfl, rfl, rfl, rfl, rfl, rfl, rfl⟩ := hd rfl
 simp only [beq_self_eq_true, Bool.not_true, cond_false, cond_true]
 rw [Bn k r7 ([125] : List Int) ⟨_, _, rfl, rfl⟩]
 simp only [Option.bind_some]
 have s7 := Bl r7 ([125] : List Int)
 generalize Aj ([125] : List Int) (l7, 0, 0) = o7 at s7 ⊢
 rcases s7 with ⟨l, e, p, h⟩ | ⟨l8, r8, n7⟩
 ·exact As h rfl (by simp only [Am h, Aq h, Ao h, Au h, Ar h, Av h, An h, Al h, Ak h, cond_false])
 have m8 := Nat.le_trans n7 m7
 simp only [beq_self_eq_true, Bool.not_true, cond_false, cond_true]
 exact Gc rfl fun _ => rfl
theorem Cci (k : Nat) (hk : 200000 ≤ k) {l0 : List Tk} (r0 : Rdy l0) (m0 : l0.length ≤ 100000) (a3 : _) (a4 : _) (a5 : _) (a6 : _) (a7 : _) (a8 : _) (a9 : _) : Sim (T5 k ([110, 111, 100, 101], (12 : Int), l0, a3, a4, a5, a6, a7, a8, a9)) (fun o => (o.1, o.2.1, o.2.2.1, o.2.2.2.2.2.1)) (Aw [110, 111, 100, 101] (12 : Int) Bv (l0, 0, 0)).2 (fun r => (r.2.2.2.1, r.2.2.2.2.1, r.2.2.2.2.2.2.1, r.2.2.2.2.2.2.2.1, r.2.2.2.2.2.2.2.2.1, r.2.2.2.2.2.2.2.2.2.1, r.2.2.2.2.2.2.2.2.2.2.1, r.2.2.2.2.2.2.2.2.2.2.2.1, r.2.2.2.2.2.2.2.2.2.2.2.2.1, r.2.2.2.2.2.2.2.2.2.2.2.2.2) = ([110, 111, 100, 101], (12 : Int), a3, a4, a5, a6, a7, a8, a9, (Aw [110, 111, 100, 101] (12 : Int) Bv (l0, 0, 0)).1)) := by
 rw [B0p, Afp]
 refine Jq [110, 111, 100, 101] ⟨_, _, rfl, rfl⟩ (12 : Int) Bv S7 Aot Ao5 (fun j l o => (Hg k).L 1 [] j (Rh ([110, 111, 100, 101], (12 : Int), l, a3, a4, a5, a6, a7, a8, a9, o))) (fun o => (o.1, o.2.1, o.2.2.1, o.2.2.2.2.2.1)) (fun r o => (r.2.2.2.1, r.2.2.2.2.1, r.2.2.2.2.2.2.1, r.2.2.2.2.2.2.2.1, r.2.2.2.2.2.2.2.2.1, r.2.2.2.2.2.2.2.2.2.1, r.2.2.2.2.2.2.2.2.2.2.1, r.2.2.2.2.2.2.2.2.2.2.2.1, r.2.2.2.2.2.2.2.2.2.2.2.2.1, r.2.2.2.2.2.2.2.2.2.2.2.2.2) = ([110, 111, 100, 101], (12 : Int), a3, a4, a5, a6, a7, a8, a9, o)) (fun j l o r hc => ?_) (fun j l o r hc hm => ?_) (fun j l o r rn hl hl2 ho hc hm => ?_) (l0.length + 1) k l0 [] r0 (by omega) (by omega) (by rw [List.length_nil]; omega)
 ·have hc2 : ((hd l).2.1 == [110, 111, 100, 101]) = false := by simpa using hc
  rw [Afo, Ri, By k r, Option.bind_some, hc2, cond_false]
  exact ⟨_, rfl, rfl, rfl⟩
 ·rw [Afo, Ri, By k r, Option.bind_some, hc, beq_self_eq_true, cond_true, hm, beq_self_eq_true, cond_true, Bd k r, Option.bind_some]
  exact ⟨_, rfl, rfl⟩
 ·have hm2 : (((o.length : Nat) : Int) == (12 : Int)) = false := by simpa using hm
  rw [Afo, Ri, By k r, Option.bind_some, hc, beq_self_eq_true, cond_true, hm2, cond_false, A8 k r, Option.bind_some]
  simp only []
  obtain ⟨q, e1, e2, e3⟩ := Ceg k hk rn hl2
  rw [e1, Option.bind_some]
  obtain ⟨q0, q1, q2, q3, q4, q5, q6, q7, q8, q9, q10⟩ := q
  simp only [Prod.mk.injEq] at e2 e3
  obtain ⟨rfl, rfl, rfl, rfl⟩ := e2
  refine ⟨fun he => ?_, fun he => ?_⟩
  ·have he2 : ((Bv (nx l, 0, 0)).2.2.1 == 0) = false := by simpa using he
   simp only [he2, Bool.not_false, cond_true]
   exact ⟨_, rfl, rfl⟩
  ·simp only [he, beq_self_eq_true, Bool.not_true, cond_false]
   rw [Ce (by rw [List.length_singleton]; omega) (by rw [List.length_singleton]; omega), e3 he]
theorem Cfc (k : Nat) (hk : 200000 ≤ k) {l0 : List Tk} (r0 : Rdy l0) (m0 : l0.length ≤ 100000) : Sim (cpstop k l0) (fun o => (o.2.2.2.2.2.2.1, o.2.2.2.2.2.2.2.1, o.2.2.2.2.2.2.2.2.1, o.2.2.2.2.2.2.2.2.2)) (Ef (l0, 0, 0)).2 (fun o => (o.1, (o.2.1, (o.2.2.1, (o.2.2.2.1, (o.2.2.2.2.1, (o.2.2.2.2.2.1, ())))))) = (Ef (l0, 0, 0)).1) := by
 rw [B5s, A6e]
 simp only [B5g, A5j, B2l, Azc, Fz, Fh, B2m, Azg, B2e, Ayh, B3u, A10, B3w, A18, Option.bind_some]
 refine Jv (pr := (fun o => (o.1, o.2.1, o.2.2.1, o.2.2.2.1))) (fun o => rfl) ?_
 rw [B1c, Av6]
 simp only [Ef, Iy, Iz, Iq]
 rw [Ce8 k r0]
 simp only [Option.bind_some]
 rw [Cd8 k r0]
 simp only [Option.bind_some]
 have s0 := I1 r0
 generalize Ah (l0, 0, 0) = o0 at s0 ⊢
 rcases s0 with ⟨v0, l, e, p, h⟩ | ⟨v0, l1, r1, n0⟩
 ·exact As h rfl (by simp only [Am h, Aq h, Ao h, Au h, Ar h, Av h, An h, Al h, Ak h, cond_false])
 have m1 := Nat.le_trans n0 m0
 simp only [beq_self_eq_true, Bool.not_true, cond_false, cond_true]
 rw [Bn k r1 ([111, 117, 116] : List Int) ⟨_, _, rfl, rfl⟩]
 simp only [Option.bind_some]
 have s1 := Bl r1 ([111, 117, 116] : List Int)
 generalize Aj ([111, 117, 116] : List Int) (l1, 0, 0) = o1 at s1 ⊢
 rcases s1 with ⟨l, e, p, h⟩ | ⟨l2, r2, n1⟩
 ·exact As h rfl (by simp only [Am h, Aq h, Ao h, Au h, Ar h, Av h, An h, Al h, Ak h, cond_false])
 have m2 := Nat.le_trans n1 m1
 simp only [beq_self_eq_true, Bool.not_true, cond_false, cond_true]
 rw [Cd9 k r2]
 simp only [Option.bind_some]
 have s2 := I1 r2
 generalize Ah (l2, 0, 0) = o2 at s2 ⊢
 rcases s2 with ⟨v2, l, e, p, h⟩ | ⟨v2, l3, r3, n2⟩
 ·exact As h rfl (by simp only [Am h, Aq h, Ao h, Au h, Ar h, Av h, An h, Al h, Ak h, cond_false])
 have m3 := Nat.le_trans n2 m2
 simp only [beq_self_eq_true, Bool.not_true, cond_false, cond_true]
 rw [Bn k r3 ([105, 110] : List Int) ⟨_, _, rfl, rfl⟩]
 simp only [Option.bind_some]
 have s3 := Bl r3 ([105, 110] : List Int)
 generalize Aj ([105, 110] : List Int) (l3, 0, 0) = o3 at s3 ⊢
 rcases s3 with ⟨l, e, p, h⟩ | ⟨l4, r4, n3⟩
 ·exact As h rfl (by simp only [Am h, Aq h, Ao h, Au h, Ar h, Av h, An h, Al h, Ak h, cond_false])
 have m4 := Nat.le_trans n3 m3
 simp only [beq_self_eq_true, Bool.not_true, cond_false, cond_true]
 rw [Cd1 k r4]
 simp only [Option.bind_some]
 have s4 := I1 r4
 generalize Ah (l4, 0, 0) = o4 at s4 ⊢
 rcases s4 with ⟨v4, l, e, p, h⟩ | ⟨v4, l5, r5, n4⟩
 ·exact As h rfl (by simp only [Am h, Aq h, Ao h, Au h, Ar h, Av h, An h, Al h, Ak h, cond_false])
 have m5 := Nat.le_trans n4 m4
 simp only [beq_self_eq_true, Bool.not_true, cond_false, cond_true]
 rw [Bn k r5 ([97, 104, 101, 97, 100] : List Int) ⟨_, _, rfl, rfl⟩]
 simp only [Option.bind_some]
 have s5 := Bl r5 ([97, 104, 101, 97, 100] : List Int)
 generalize Aj ([97, 104, 101, 97, 100] : List Int) (l5, 0, 0) = o5 at s5 ⊢
 rcases s5 with ⟨l, e, p, h⟩ | ⟨l6, r6, n5⟩
 ·exact As h rfl (by simp only [Am h, Aq h, Ao h, Au h, Ar h, Av h, An h, Al h, Ak h, cond_false])
 have m6 := Nat.le_trans n5 m5
 simp only [beq_self_eq_true, Bool.not_true, cond_false, cond_true]
 rw [Cep k r6]
 simp only [Option.bind_some]
 have s6 := C7 r6
 generalize numC (l6, 0, 0) = o6 at s6 ⊢
 rcases s6 with ⟨v6, l, e, p, h⟩ | ⟨v6, l7, r7, n6⟩
 ·exact As h rfl (by simp only [Am h, Aq h, Ao h, Au h, Ar h, Av h, An h, Al h, Ak h, cond_false])
 have m7 := Nat.le_trans n6 m6
 simp only [beq_self_eq_true, Bool.not_true, cond_false, cond_true]
 rw [Bn k r7 ([98, 97, 99, 107] : List Int) ⟨_, _, rfl, rfl⟩]
 simp only [Option.bind_some]
 have s7 := Bl r7 ([98, 97, 99, 107] : List Int)
 generalize Aj ([98, 97, 99, 107] : List Int) (l7, 0, 0) = o7 at s7 ⊢
 rcases s7 with ⟨l, e, p, h⟩ | ⟨l8, r8, n7⟩
 ·exact As h rfl (by simp only [Am h, Aq h, Ao h, Au h, Ar h, Av h, An h, Al h, Ak h, cond_false])
 have m8 := Nat.le_trans n7 m7
 simp only [beq_self_eq_true, Bool.not_true, cond_false, cond_true]
 rw [Ceq k r8]
 simp only [Option.bind_some]
 have s8 := C7 r8
 generalize numC (l8, 0, 0) = o8 at s8 ⊢
 rcases s8 with ⟨v8, l, e, p, h⟩ | ⟨v8, l9, r9, n8⟩
 ·exact As h rfl (by simp only [Am h, Aq h, Ao h, Au h, Ar h, Av h, An h, Al h, Ak h, cond_false])
 have m9 := Nat.le_trans n8 m8
 simp only [beq_self_eq_true, Bool.not_true, cond_false, cond_true]
 rw [Bn k r9 ([59] : List Int) ⟨_, _, rfl, rfl⟩]
 simp only [Option.bind_some]
 have s9 := Bl r9 ([59] : List Int)
 generalize Aj ([59] : List Int) (l9, 0, 0) = o9 at s9 ⊢
 rcases s9 with ⟨l, e, p, h⟩ | ⟨l10, r10, n9⟩
 ·exact As h rfl (by simp only [Am h, Aq h, Ao h, Au h, Ar h, Av h, An h, Al h, Ak h, cond_false])
 have m10 := Nat.le_trans n9 m9
 simp only [beq_self_eq_true, Bool.not_true, cond_false, cond_true]
 exact Gc rfl fun _ => rfl
theorem Ccm (k : Nat) (hk : 200000 ≤ k) {l0 : List Tk} (r0 : Rdy l0) (m0 : l0.length ≤ 100000) (a3 : _) (a4 : _) (a5 : _) (a6 : _) (a7 : _) (a8 : _) (a9 : _) (a10 : _) : Sim (T9 k ([115, 116, 111, 112], (12 : Int), l0, a3, a4, a5, a6, a7, a8, a9, a10)) (fun o => (o.1, o.2.1, o.2.2.1, o.2.2.2.2.2.1)) (Aw [115, 116, 111, 112] (12 : Int) Ef (l0, 0, 0)).2 (fun r => (r.2.2.2.1, r.2.2.2.2.1, r.2.2.2.2.2.2.1, r.2.2.2.2.2.2.2.1, r.2.2.2.2.2.2.2.2.1, r.2.2.2.2.2.2.2.2.2.1, r.2.2.2.2.2.2.2.2.2.2.1, r.2.2.2.2.2.2.2.2.2.2.2.1, r.2.2.2.2.2.2.2.2.2.2.2.2.1, r.2.2.2.2.2.2.2.2.2.2.2.2.2.1, r.2.2.2.2.2.2.2.2.2.2.2.2.2.2) = ([115, 116, 111, 112], (12 : Int), a3, a4, a5, a6, a7, a8, a9, a10, (Aw [115, 116, 111, 112] (12 : Int) Ef (l0, 0, 0)).1)) := by
 rw [B01, Af9]
 refine Jq [115, 116, 111, 112] ⟨_, _, rfl, rfl⟩ (12 : Int) Ef S9 Aow Ao8 (fun j l o => (Hk k).L 1 [] j (Rp ([115, 116, 111, 112], (12 : Int), l, a3, a4, a5, a6, a7, a8, a9, a10, o))) (fun o => (o.1, o.2.1, o.2.2.1, o.2.2.2.2.2.1)) (fun r o => (r.2.2.2.1, r.2.2.2.2.1, r.2.2.2.2.2.2.1, r.2.2.2.2.2.2.2.1, r.2.2.2.2.2.2.2.2.1, r.2.2.2.2.2.2.2.2.2.1, r.2.2.2.2.2.2.2.2.2.2.1, r.2.2.2.2.2.2.2.2.2.2.2.1, r.2.2.2.2.2.2.2.2.2.2.2.2.1, r.2.2.2.2.2.2.2.2.2.2.2.2.2.1, r.2.2.2.2.2.2.2.2.2.2.2.2.2.2) = ([115, 116, 111, 112], (12 : Int), a3, a4, a5, a6, a7, a8, a9, a10, o)) (fun j l o r hc => ?_) (fun j l o r hc hm => ?_) (fun j l o r rn hl hl2 ho hc hm => ?_) (l0.length + 1) k l0 [] r0 (by omega) (by omega) (by rw [List.length_nil]; omega)
 ·have hc2 : ((hd l).2.1 == [115, 116, 111, 112]) = false := by simpa using hc
  rw [Af8, Rq, By k r, Option.bind_some, hc2, cond_false]
  exact ⟨_, rfl, rfl, rfl⟩
 ·rw [Af8, Rq, By k r, Option.bind_some, hc, beq_self_eq_true, cond_true, hm, beq_self_eq_true, cond_true, Bd k r, Option.bind_some]
  exact ⟨_, rfl, rfl⟩
 ·have hm2 : (((o.length : Nat) : Int) == (12 : Int)) = false := by simpa using hm
  rw [Af8, Rq, By k r, Option.bind_some, hc, beq_self_eq_true, cond_true, hm2, cond_false, A8 k r, Option.bind_some]
  simp only []
  obtain ⟨q, e1, e2, e3⟩ := Cfc k hk rn hl2
  rw [e1, Option.bind_some]
  obtain ⟨q0, q1, q2, q3, q4, q5, q6, q7, q8, q9⟩ := q
  simp only [Prod.mk.injEq] at e2 e3
  obtain ⟨rfl, rfl, rfl, rfl⟩ := e2
  refine ⟨fun he => ?_, fun he => ?_⟩
  ·have he2 : ((Ef (nx l, 0, 0)).2.2.1 == 0) = false := by simpa using he
   simp only [he2, Bool.not_false, cond_true]
   exact ⟨_, rfl, rfl⟩
  ·simp only [he, beq_self_eq_true, Bool.not_true, cond_false]
   rw [Ce (by rw [List.length_singleton]; omega) (by rw [List.length_singleton]; omega), e3 he]
def D8 (x : RS) : (Int × Int × Int × Int × Int × List YT6 × Bool) × RS :=
 let a := numR [99, 121, 99, 108, 101] x
 let b := numR [116, 111] a.2
 let c := numR [98, 121] b.2
 let p := Dk [112, 101, 97, 107] (Aj [59] c.2)
 let n := Aw [110, 111, 100, 101] 12 Bv (Aj [59] p.2)
 ((a.1, b.1, c.1, p.1.1, p.1.2, n.1, Ay [97, 114, 116, 101, 114, 121] n.2), bif Ay [97, 114, 116, 101, 114, 121] n.2 then A1 n.2 else n.2)
def L8 (o : (Int × Int × Int × Int × Int × List YT6 × Bool) × RS) : NetT × RS :=
 let t := bif o.1.2.2.2.2.2.2 then B5 o.2 else (([], 0, 0), o.2)
 ((o.1.1, o.1.2.1, o.1.2.2.1, o.1.2.2.2.1, o.1.2.2.2.2.1, o.1.2.2.2.2.2.1, t.1.1, t.1.2.1, t.1.2.2), bif (hd t.2.1).1 != 0 then A2 50 t.2 else t.2)
theorem Bgo (x : RS) : netR x = L8 (D8 x) := by
 unfold netR L8 D8
 simp only []
 generalize Aw [110, 111, 100, 101] 12 Bv _ = n
 cases Ay [97, 114, 116, 101, 114, 121] n.2 <;> rfl
theorem Bo1 (x : RS) : Adv x (D8 x).2 := (Bm _ _).trans ((Bm _ _).trans ((Bm _ _).trans ((Bo _ _).trans ((S6 _ _).trans ((Bo _ _).trans ((Fa S7 _).trans (Ik (Eh _) (.refl _))))))))
theorem Cgn (x : RS) : Suf x (D8 x).2 := (Ds _ _).trans ((Ds _ _).trans ((Ds _ _).trans ((Cy _ _).trans ((Bod _ _).trans ((Cy _ _).trans ((Jx Aot _).trans (Jw (I7 _) (Gf _))))))))
theorem Boy (x : RS) (h : Zr x) : Zr (D8 x).2 :=
 have q := J1 [110, 111, 100, 101] 12 Bv Ao5 _ (Cv [59] _ (Bov [112, 101, 97, 107] _ (Cv [59] _ (Dt [98, 121] _ (Dt [116, 111] _ (Dt [99, 121, 99, 108, 101] x h))))))
 I9 (Ih _ q) q
theorem ok_net1 {l : List Tk} (r : Rdy l) : OK l (D8 (l, 0, 0)) := .of r (Bo1 _) (Cgn _) (Boy _ zr0)
theorem Cgk (x : RS) : Suf x (B5 x).2 := (Cy _ _).trans ((Jx Aow _).trans ((Ds _ _).trans ((Ds _ _).trans ((Cy _ _).trans (Cy _ _)))))
theorem Bou (x : RS) (h : Zr x) : Zr (B5 x).2 := Cv _ _ (Cv _ _ (Dt _ _ (Dt _ _ (J1 _ _ _ Ao8 _ (Cv _ _ h)))))
theorem Ccy {l : List Tk} (r : Rdy l) : OK l (B5 (l, 0, 0)) := .of r (Aph _) (Cgk _) (Bou _ zr0)
theorem Cgd {l : List Tk} {e p : Int} (h : e ≠ 0) : (B5 (l, e, p)).2 = (l, e, p) := by
 unfold B5
 simp only [Am h, Ar h, stk_num h]
theorem Bgn {v : Int × Int × Int × Int × Int × List YT6 × Bool} {l : List Tk} {e p : Int} (h : e ≠ 0) : (L8 (v, l, e, p)).2 = (l, e, p) := by
 unfold L8
 simp only []
 have ht : (bif v.2.2.2.2.2.2 then B5 (l, e, p) else (([], 0, 0), l, e, p)).2 = (l, e, p) := by
  cases v.2.2.2.2.2.2
  ·rfl
  ·exact Cgd h
 rw [ht, Ak h]
 cases (hd l).1 != 0 <;> rfl
theorem Ced (k : Nat) (hk : 200000 ≤ k) {l0 : List Tk} (r0 : Rdy l0) (m0 : l0.length ≤ 100000) : Sim (cpall k (([99, 121, 99, 108, 101] : List Int), ([116, 111] : List Int), ([98, 121] : List Int), ([59] : List Int), ([112, 101, 97, 107] : List Int), ([59] : List Int), ([110, 111, 100, 101] : List Int), (12 : Int), ([97, 114, 116, 101, 114, 121] : List Int), (0 : Int), (0 : Int), (0 : Int), (0 : Int), (0 : Int), (0 : Int), (0 : Int), false, l0)) (fun o => (o.1, o.2.1, o.2.2.1, o.2.2.2.1)) (D8 (l0, 0, 0)).2 (fun o => (o.2.2.2.2.2.2.2.2.2.2.2.2.2.1, o.2.2.2.2.2.2.2.2.2.2.2.2.2.2.1, o.2.2.2.2.2.2.2.2.2.2.2.2.2.2.2.1, o.2.2.2.2.2.2.2.2.2.2.2.2.2.2.2.2.1, o.2.2.2.2.2.2.2.2.2.2.2.2.2.2.2.2.2.1, o.2.2.2.2.2.2.2.2.2.2.2.2.2.2.2.2.2.2.1, o.2.2.2.2.2.2.2.2.2.2.2.2.2.2.2.2.2.2.2.1, o.2.2.2.2.2.2.2.2.2.2.2.2.2.2.2.2.2.2.2.2.2, o.2.2.2.2.2.2.2.2.2.2.2.2.2.2.2.2.2.2.2.2.1) = ((D8 (l0, 0, 0)).1.1, (D8 (l0, 0, 0)).1.2.1, (D8 (l0, 0, 0)).1.2.2.1, (D8 (l0, 0, 0)).1.2.2.2.1, (D8 (l0, 0, 0)).1.2.2.2.2.1, 0, 0, (D8 (l0, 0, 0)).1.2.2.2.2.2.1, (D8 (l0, 0, 0)).1.2.2.2.2.2.2)) := by
 rw [fpall_e, Aw5]
 simp only [D8, Iy, Iz, Iq]
 rw [Cfi k r0 ([99, 121, 99, 108, 101] : List Int) ⟨_, _, rfl, rfl⟩]
 simp only [Option.bind_some]
 have s0 := Bl r0 ([99, 121, 99, 108, 101] : List Int)
 generalize Aj ([99, 121, 99, 108, 101] : List Int) (l0, 0, 0) = o0 at s0 ⊢
 rcases s0 with ⟨l, e, p, h⟩ | ⟨l1, r1, n0⟩
 ·exact As h rfl (by simp only [Am h, Aq h, Ao h, Au h, Ar h, Av h, An h, Al h, Ak h, cond_false])
 have m1 := Nat.le_trans n0 m0
 simp only [beq_self_eq_true, Bool.not_true, cond_false, cond_true]
 rw [Ce2 k r1]
 simp only [Option.bind_some]
 have s1 := C7 r1
 generalize numC (l1, 0, 0) = o1 at s1 ⊢
 rcases s1 with ⟨v1, l, e, p, h⟩ | ⟨v1, l2, r2, n1⟩
 ·exact As h rfl (by simp only [Am h, Aq h, Ao h, Au h, Ar h, Av h, An h, Al h, Ak h, cond_false])
 have m2 := Nat.le_trans n1 m1
 simp only [beq_self_eq_true, Bool.not_true, cond_false, cond_true]
 rw [Bn k r2 ([116, 111] : List Int) ⟨_, _, rfl, rfl⟩]
 simp only [Option.bind_some]
 have s2 := Bl r2 ([116, 111] : List Int)
 generalize Aj ([116, 111] : List Int) (l2, 0, 0) = o2 at s2 ⊢
 rcases s2 with ⟨l, e, p, h⟩ | ⟨l3, r3, n2⟩
 ·exact As h rfl (by simp only [Am h, Aq h, Ao h, Au h, Ar h, Av h, An h, Al h, Ak h, cond_false])
 have m3 := Nat.le_trans n2 m2
 simp only [beq_self_eq_true, Bool.not_true, cond_false, cond_true]
 rw [Ces k r3]
 simp only [Option.bind_some]
 have s3 := C7 r3
 generalize numC (l3, 0, 0) = o3 at s3 ⊢
 rcases s3 with ⟨v3, l, e, p, h⟩ | ⟨v3, l4, r4, n3⟩
 ·exact As h rfl (by simp only [Am h, Aq h, Ao h, Au h, Ar h, Av h, An h, Al h, Ak h, cond_false])
 have m4 := Nat.le_trans n3 m3
 simp only [beq_self_eq_true, Bool.not_true, cond_false, cond_true]
 rw [Bn k r4 ([98, 121] : List Int) ⟨_, _, rfl, rfl⟩]
 simp only [Option.bind_some]
 have s4 := Bl r4 ([98, 121] : List Int)
 generalize Aj ([98, 121] : List Int) (l4, 0, 0) = o4 at s4 ⊢
 rcases s4 with ⟨l, e, p, h⟩ | ⟨l5, r5, n4⟩
 ·exact As h rfl (by simp only [Am h, Aq h, Ao h, Au h, Ar h, Av h, An h, Al h, Ak h, cond_false])
 have m5 := Nat.le_trans n4 m4
 simp only [beq_self_eq_true, Bool.not_true, cond_false, cond_true]
 rw [Ceu k r5]
 simp only [Option.bind_some]
 have s5 := C7 r5
 generalize numC (l5, 0, 0) = o5 at s5 ⊢
 rcases s5 with ⟨v5, l, e, p, h⟩ | ⟨v5, l6, r6, n5⟩
 ·exact As h rfl (by simp only [Am h, Aq h, Ao h, Au h, Ar h, Av h, An h, Al h, Ak h, cond_false])
 have m6 := Nat.le_trans n5 m5
 simp only [beq_self_eq_true, Bool.not_true, cond_false, cond_true]
 rw [Bn k r6 ([59] : List Int) ⟨_, _, rfl, rfl⟩]
 simp only [Option.bind_some]
 have s6 := Bl r6 ([59] : List Int)
 generalize Aj ([59] : List Int) (l6, 0, 0) = o6 at s6 ⊢
 rcases s6 with ⟨l, e, p, h⟩ | ⟨l7, r7, n6⟩
 ·exact As h rfl (by simp only [Am h, Aq h, Ao h, Au h, Ar h, Av h, An h, Al h, Ak h, cond_false])
 have m7 := Nat.le_trans n6 m6
 simp only [beq_self_eq_true, Bool.not_true, cond_false, cond_true]
 rw [Bn k r7 ([112, 101, 97, 107] : List Int) ⟨_, _, rfl, rfl⟩]
 simp only [Option.bind_some]
 have s7 := Bl r7 ([112, 101, 97, 107] : List Int)
 generalize Aj ([112, 101, 97, 107] : List Int) (l7, 0, 0) = o7 at s7 ⊢
 rcases s7 with ⟨l, e, p, h⟩ | ⟨l8, r8, n7⟩
 ·exact As h rfl (by simp only [Am h, Aq h, Ao h, Au h, Ar h, Av h, An h, Al h, Ak h, cond_false])
 have m8 := Nat.le_trans n7 m7
 simp only [beq_self_eq_true, Bool.not_true, cond_false, cond_true]
 refine E7 (Cdp k hk r8 m8 _ _ _ _ _ _ _) fun q hp hd => ?_
 obtain ⟨q0, q1, q2, q3, q4, q5, q6, q7, q8, q9, q10⟩ := q
 simp only [Prod.mk.injEq] at hp hd
 obtain ⟨rfl, rfl, rfl, rfl⟩ := hp
 have s8 := Bgv r8
 generalize D5 (l8, 0, 0) = o8 at s8 hd ⊢
 rcases s8 with ⟨v8, l, e, p, h⟩ | ⟨v8, l9, r9, n8⟩
 ·exact As h rfl (by simp only [Am h, Aq h, Ao h, Au h, Ar h, Av h, An h, Al h, Ak h, cond_false])
 have m9 := Nat.le_trans n8 m8
 obtain ⟨rfl, rfl, rfl, rfl, rfl, rfl, rfl⟩ := hd rfl
 simp only [beq_self_eq_true, Bool.not_true, cond_false, cond_true]
 rw [Bn k r9 ([59] : List Int) ⟨_, _, rfl, rfl⟩]
 simp only [Option.bind_some]
 have s9 := Bl r9 ([59] : List Int)
 generalize Aj ([59] : List Int) (l9, 0, 0) = o9 at s9 ⊢
 rcases s9 with ⟨l, e, p, h⟩ | ⟨l10, r10, n9⟩
 ·exact As h rfl (by simp only [Am h, Aq h, Ao h, Au h, Ar h, Av h, An h, Al h, Ak h, cond_false])
 have m10 := Nat.le_trans n9 m9
 simp only [beq_self_eq_true, Bool.not_true, cond_false, cond_true]
 refine E7 (Cci k hk r10 m10 _ _ _ _ _ _ _) fun q hp hd => ?_
 obtain ⟨q0, q1, q2, q3, q4, q5, q6, q7, q8, q9, q10, q11, q12, q13⟩ := q
 simp only [Prod.mk.injEq] at hp hd
 obtain ⟨rfl, rfl, rfl, rfl⟩ := hp
 have s10 := Kr r10 ([110, 111, 100, 101] : List Int) (12 : Int) S7 Aot Ao5
 generalize Aw ([110, 111, 100, 101] : List Int) (12 : Int) Bv (l10, 0, 0) = o10 at s10 hd ⊢
 rcases s10 with ⟨v10, l, e, p, h⟩ | ⟨v10, l11, r11, n10⟩
 ·exact As h rfl (by simp only [Am h, Aq h, Ao h, Au h, Ar h, Av h, An h, Al h, Ak h, cond_false])
 have m11 := Nat.le_trans n10 m10
 obtain ⟨rfl, rfl, rfl, rfl, rfl, rfl, rfl, rfl, rfl, rfl⟩ := hd rfl
 simp only [beq_self_eq_true, Bool.not_true, cond_false, cond_true]
 rw [Bho k r11 ([97, 114, 116, 101, 114, 121] : List Int) _ ⟨_, _, rfl, rfl⟩]
 simp only [Option.bind_some]
 obtain ⟨l12, q11, r12, n11⟩ := Anc r11 ([97, 114, 116, 101, 114, 121] : List Int)
 simp only [q11]
 have m12 := Nat.le_trans n11 m11
 exact Gc rfl fun _ => by cases Ay ([97, 114, 116, 101, 114, 121] : List Int) (l11, 0, 0) <;> rfl
theorem Cee (k : Nat) (hk : 200000 ≤ k) {l0 : List Tk} (r0 : Rdy l0) (m0 : l0.length ≤ 100000) (x13 : _) (x14 : _) (x15 : _) (x16 : _) (x17 : _) (x18 : _) (x19 : _) (x21 : _) : Sim (Ua k (l0, ([123] : List Int), ([115, 116, 111, 112] : List Int), (12 : Int), ([119, 101, 105, 103, 104, 116, 115] : List Int), ([59] : List Int), ([125] : List Int), x13, x14, x15, x16, x17, x18, x19, x21)) (fun o => (o.1, o.2.1, o.2.2.1, o.2.2.2.1)) (B5 (l0, 0, 0)).2 (fun o => (o.2.2.2.2.2.2.2.2.2.2.1, o.2.2.2.2.2.2.2.2.2.2.2.1, o.2.2.2.2.2.2.2.2.2.2.2.2.1, o.2.2.2.2.2.2.2.2.2.2.2.2.2.1, o.2.2.2.2.2.2.2.2.2.2.2.2.2.2.1, o.2.2.2.2.2.2.2.2.2.2.2.2.2.2.2.1, o.2.2.2.2.2.2.2.2.2.2.2.2.2.2.2.2.1, o.2.2.2.2.2.2.2.2.2.2.2.2.2.2.2.2.2.1, o.2.2.2.2.2.2.2.2.2.2.2.2.2.2.2.2.2.2) = (x13, x14, x15, x16, x17, (B5 (l0, 0, 0)).1.2.1, (B5 (l0, 0, 0)).1.2.2, x21, (B5 (l0, 0, 0)).1.1)) := by
 rw [B1a, Av2]
 simp only [B5, Iy, Iz, Iq]
 rw [Bn k r0 ([123] : List Int) ⟨_, _, rfl, rfl⟩]
 simp only [Option.bind_some]
 have s0 := Bl r0 ([123] : List Int)
 generalize Aj ([123] : List Int) (l0, 0, 0) = o0 at s0 ⊢
 rcases s0 with ⟨l, e, p, h⟩ | ⟨l1, r1, n0⟩
 ·exact As h rfl (by simp only [Am h, Aq h, Ao h, Au h, Ar h, Av h, An h, Al h, Ak h, cond_false])
 have m1 := Nat.le_trans n0 m0
 simp only [beq_self_eq_true, Bool.not_true, cond_false, cond_true]
 refine E7 (Ccm k hk r1 m1 _ _ _ _ _ _ _ _) fun q hp hd => ?_
 obtain ⟨q0, q1, q2, q3, q4, q5, q6, q7, q8, q9, q10, q11, q12, q13, q14⟩ := q
 simp only [Prod.mk.injEq] at hp hd
 obtain ⟨rfl, rfl, rfl, rfl⟩ := hp
 have s1 := Kr r1 ([115, 116, 111, 112] : List Int) (12 : Int) S9 Aow Ao8
 generalize Aw ([115, 116, 111, 112] : List Int) (12 : Int) Ef (l1, 0, 0) = o1 at s1 hd ⊢
 rcases s1 with ⟨v1, l, e, p, h⟩ | ⟨v1, l2, r2, n1⟩
 ·exact As h rfl (by simp only [Am h, Aq h, Ao h, Au h, Ar h, Av h, An h, Al h, Ak h, cond_false])
 have m2 := Nat.le_trans n1 m1
 obtain ⟨rfl, rfl, rfl, rfl, rfl, rfl, rfl, rfl, rfl, rfl, rfl⟩ := hd rfl
 simp only [beq_self_eq_true, Bool.not_true, cond_false, cond_true]
 rw [Bn k r2 ([119, 101, 105, 103, 104, 116, 115] : List Int) ⟨_, _, rfl, rfl⟩]
 simp only [Option.bind_some]
 have s2 := Bl r2 ([119, 101, 105, 103, 104, 116, 115] : List Int)
 generalize Aj ([119, 101, 105, 103, 104, 116, 115] : List Int) (l2, 0, 0) = o2 at s2 ⊢
 rcases s2 with ⟨l, e, p, h⟩ | ⟨l3, r3, n2⟩
 ·exact As h rfl (by simp only [Am h, Aq h, Ao h, Au h, Ar h, Av h, An h, Al h, Ak h, cond_false])
 have m3 := Nat.le_trans n2 m2
 simp only [beq_self_eq_true, Bool.not_true, cond_false, cond_true]
 rw [Cer k r3]
 simp only [Option.bind_some]
 have s3 := C7 r3
 generalize numC (l3, 0, 0) = o3 at s3 ⊢
 rcases s3 with ⟨v3, l, e, p, h⟩ | ⟨v3, l4, r4, n3⟩
 ·exact As h rfl (by simp only [Am h, Aq h, Ao h, Au h, Ar h, Av h, An h, Al h, Ak h, cond_false])
 have m4 := Nat.le_trans n3 m3
 simp only [beq_self_eq_true, Bool.not_true, cond_false, cond_true]
 rw [Cet k r4]
 simp only [Option.bind_some]
 have s4 := C7 r4
 generalize numC (l4, 0, 0) = o4 at s4 ⊢
 rcases s4 with ⟨v4, l, e, p, h⟩ | ⟨v4, l5, r5, n4⟩
 ·exact As h rfl (by simp only [Am h, Aq h, Ao h, Au h, Ar h, Av h, An h, Al h, Ak h, cond_false])
 have m5 := Nat.le_trans n4 m4
 simp only [beq_self_eq_true, Bool.not_true, cond_false, cond_true]
 rw [Bn k r5 ([59] : List Int) ⟨_, _, rfl, rfl⟩]
 simp only [Option.bind_some]
 have s5 := Bl r5 ([59] : List Int)
 generalize Aj ([59] : List Int) (l5, 0, 0) = o5 at s5 ⊢
 rcases s5 with ⟨l, e, p, h⟩ | ⟨l6, r6, n5⟩
 ·exact As h rfl (by simp only [Am h, Aq h, Ao h, Au h, Ar h, Av h, An h, Al h, Ak h, cond_false])
 have m6 := Nat.le_trans n5 m5
 simp only [beq_self_eq_true, Bool.not_true, cond_false, cond_true]
 rw [Bn k r6 ([125] : List Int) ⟨_, _, rfl, rfl⟩]
 simp only [Option.bind_some]
 have s6 := Bl r6 ([125] : List Int)
 generalize Aj ([125] : List Int) (l6, 0, 0) = o6 at s6 ⊢
 rcases s6 with ⟨l, e, p, h⟩ | ⟨l7, r7, n6⟩
 ·exact As h rfl (by simp only [Am h, Aq h, Ao h, Au h, Ar h, Av h, An h, Al h, Ak h, cond_false])
 have m7 := Nat.le_trans n6 m6
 simp only [beq_self_eq_true, Bool.not_true, cond_false, cond_true]
 exact Gc rfl fun _ => rfl
theorem Bhg (k : Nat) {l0 : List Tk} (r0 : Rdy l0) : Ub k l0 = some ((bif (hd l0).1 != 0 then A2 50 (l0, 0, 0) else (l0, 0, 0)).2.1 == 0, (bif (hd l0).1 != 0 then A2 50 (l0, 0, 0) else (l0, 0, 0)).2.1, (bif (hd l0).1 != 0 then A2 50 (l0, 0, 0) else (l0, 0, 0)).2.2, (bif (hd l0).1 != 0 then A2 50 (l0, 0, 0) else (l0, 0, 0)).1) := by
 rw [B1e, Av9, Cdl k r0, Option.bind_some]
 cases (hd l0).1 != 0 <;> rfl
theorem Cef (k : Nat) (hk : 200000 ≤ k) {l0 : List Tk} (r0 : Rdy l0) (m0 : l0.length ≤ 100000) :
  Sim (cpnet k l0) (fun o => (o.2.2.2.2.2.2.2.1, o.2.2.2.2.2.2.2.2.1, o.2.2.2.2.2.2.2.2.2.1, o.2.2.2.2.2.2.2.2.2.2.1)) (netR (l0, 0, 0)).2
   (fun o => (o.1, o.2.1, o.2.2.1, o.2.2.2.1, o.2.2.2.2.1, o.2.2.2.2.2.2.2.2.2.2.2.1, o.2.2.2.2.2.2.2.2.2.2.2.2, o.2.2.2.2.2.1, o.2.2.2.2.2.2.1) = (netR (l0, 0, 0)).1) := by
 rw [fpnet_e, Ahe]
 simp only [B50, A6x, fpnum_e, A4z, B3v, A14, B3x, A2c, B12, Axq, B0q, Au5, B2d, Ayf, Option.bind_some]
 refine E7 (Ced k hk r0 m0) fun q hp hq => ?_
 obtain ⟨q0, q1, q2, q3, q4, q5, q6, q7, q8, q9, q10, q11, q12, q13, q14, q15, q16, q17, q18, q19, q20, q21⟩ := q
 simp only [Prod.mk.injEq] at hp hq
 obtain ⟨rfl, rfl, rfl, rfl⟩ := hp
 rw [Bgo]
 have s := ok_net1 r0
 generalize D8 (l0, 0, 0) = o at s hq ⊢
 rcases s with ⟨v, l, e, p, h⟩ | ⟨⟨v0, v1, v2, v3, v4, v5, v6⟩, l1, r1, n1⟩
 ·have he : (e == 0) = false := by simpa using h
  simp only [he, cond_false]
  rw [W0, Nc, cond_false]
  refine ⟨_, rfl, ?_, fun h3 => ?_⟩
  ·rw [Bgn h, he]
  ·rw [Bgn h] at h3
   exact absurd h3 h
 ·have m1 := Nat.le_trans n1 m0
  obtain ⟨rfl, rfl, rfl, rfl, rfl, rfl, rfl, rfl, rfl⟩ := hq rfl
  simp only [beq_self_eq_true, cond_true]
  cases q20 with
  | false =>
   simp only [cond_false]
   rw [W0, Nc]
   simp only [cond_true]
   rw [Bhg k r1]
   simp only [Option.bind_some, L8, cond_false]
   exact ⟨_, rfl, rfl, fun _ => rfl⟩
  | true =>
   simp only [cond_true, Fz, Fh, B02, Avp, B3s, A1s, B3t, A1w, Option.bind_some]
   refine E7 (Cee k hk r1 m1 _ _ _ _ _ _ _ _) fun q hp hq => ?_
   obtain ⟨q0, q1, q2, q3, q4, q5, q6, q7, q8, q9, q10, q11, q12, q13, q14, q15, q16, q17, q18⟩ := q
   simp only [Prod.mk.injEq] at hp hq
   obtain ⟨rfl, rfl, rfl, rfl⟩ := hp
   simp only [L8, cond_true]
   have s := Ccy r1
   generalize B5 (l1, 0, 0) = o at s hq ⊢
   rcases s with ⟨v, l, e, p, h⟩ | ⟨⟨w0, w1, w2⟩, l2, r2, n2⟩
   ·have he : (e == 0) = false := by simpa using h
    simp only [he]
    rw [W0, Nc, cond_false]
    have hf : (bif (hd l).1 != 0 then A2 50 (l, e, p) else (l, e, p)) = (l, e, p) := by
     rw [Ak h]
     cases (hd l).1 != 0 <;> rfl
    refine ⟨_, rfl, ?_, fun h3 => ?_⟩
    ·simp only [hf, he]
    ·simp only [hf] at h3
     exact absurd h3 h
   ·obtain ⟨rfl, rfl, rfl, rfl, rfl, rfl, rfl, rfl, rfl⟩ := hq rfl
    simp only [beq_self_eq_true]
    rw [W0, Nc]
    simp only [cond_true]
    rw [Bhg k r2]
    simp only [Option.bind_some]
    exact ⟨_, rfl, rfl, fun _ => rfl⟩
theorem Bfk (k : Nat) (n p m : Int) : Zz k (false, n, p, m) = some (n == m) := rfl
theorem as_some (k : Nat) (z : Bool) (n p : Int) : Zy k (z, n, p) = some (!z, z, n, p) := rfl
theorem Ccv (k : Nat) (hk : 1000 ≤ k) (n p : Int) (hn : n = 50 ∨ n = 4) : cnetnumber k (false, n, p) = some n := by
 obtain ⟨j, hj⟩ : ∃ j, k = j + 2 := ⟨k - 2, by omega⟩
 have e1 : (decide ((0 : Int) < ((List.length ([(50 : Int), (4 : Int)] : List Int) : Nat) : Int))) = true := by decide
 have e2 : inB (0 : Int) (List.length ([(50 : Int), (4 : Int)] : List Int)) = true := by decide
 have e3 : rdI ([(50 : Int), (4 : Int)] : List Int) (Int.toNat 0) = 50 := rfl
 have f0 : IntKind.wrap .i64 ((0 : Int) + (1 : Int)) = 1 := w64 (by omega)
 have f1 : (decide ((1 : Int) < ((List.length ([(50 : Int), (4 : Int)] : List Int) : Nat) : Int))) = true := by decide
 have f2 : inB (1 : Int) (List.length ([(50 : Int), (4 : Int)] : List Int)) = true := by decide
 have f3 : rdI ([(50 : Int), (4 : Int)] : List Int) (Int.toNat 1) = 4 := rfl
 rw [B0e, Ae7]
 have hL : (fnetnumber k).L 2 [] (j + 2) (Ra (false, n, p, ((List.length ([(50 : Int), (4 : Int)] : List Int) : Nat) : Int), (0 : Int), ([(50 : Int), (4 : Int)] : List Int))) = some n := by
  rw [Aum, Wx, e1, e2, e3, cond_true, cond_true, Bfk, Option.bind_some, f0, Aum, Wx, f1, f2, f3, cond_true, cond_true, Bfk, Option.bind_some]
  rcases hn with rfl | rfl <;> rfl
 rw [← hL, ← hj]
theorem tok1_w (s : List Int) : TokW ((tok1 s).2.1, (tok1 s).2.2.1, (tok1 s).2.2.2.1, 0, ()) := by
 cases s with
 | nil => exact ⟨fun _ => rfl, fun h => (by cases h)⟩
 | cons x r =>
  simp only [tok1]
  split
  ·split
   ·exact ⟨fun _ => rfl, fun h => (by cases h)⟩
   ·exact ⟨fun h => (by cases h), fun h => (by cases h)⟩
  ·split
   ·split
    ·exact ⟨fun _ => rfl, fun h => (by cases h)⟩
    ·exact ⟨fun h => (by cases h), fun _ c hc => Yf hc⟩
   ·split
    ·exact ⟨fun h => (by cases h), fun h => (by cases h)⟩
    ·exact ⟨fun _ => rfl, fun h => (by cases h)⟩
theorem lx_w (n : Nat) : ∀ (f : Nat) (s : List Int), ∀ t ∈ (lx n f s).2.2, TokW t
 | 0, s, t, h => by cases h
 | f + 1, s, t, h => by
  rw [lx] at h
  cases hd : drp false s with
  | nil =>
   rw [hd] at h
   rcases List.mem_cons.1 h with rfl | h
   ·exact ⟨fun _ => rfl, fun h => (by cases h)⟩
   ·cases h
  | cons x r =>
   rw [hd] at h
   simp only [] at h
   split at h
   ·split at h
    ·rcases List.mem_cons.1 h with rfl | h
     ·exact tok1_w (x :: r)
     ·exact lx_w n f _ t h
    ·cases h
   ·cases h
theorem Cgu {b : List Int} (h : (toks b).1 = 0) : Rdy (toks b).2.2 ∧ (toks b).2.2.length ≤ 100000 := by
 have h1 := Boi h
 unfold toks at h h1 ⊢
 split at h
 ·simp at h
 ·rename_i hl
  rw [if_neg hl] at h1 ⊢
  exact ⟨⟨h1.1, lx_w _ _ _⟩, by omega⟩
theorem zr_net (x : RS) (h : Zr x) : Zr (netR x).2 := by
 rw [Bgo]
 have h1 := Boy x h
 generalize D8 x = o at h1 ⊢
 unfold L8
 simp only []
 have h2 : Zr (bif o.1.2.2.2.2.2.2 then B5 o.2 else (([], 0, 0), o.2)).2 := by
  cases o.1.2.2.2.2.2.2
  ·exact h1
  ·exact Bou _ h1
 generalize (bif o.1.2.2.2.2.2.2 then B5 o.2 else (([], 0, 0), o.2)) = t at h2 ⊢
 exact I9 (K3 50 (by decide) _ h2) h2
theorem Ccs (k : Nat) (hk : 200000 ≤ k) (b : List Int) (hb : b.length < k) (hm : b.length < 1000000) :
  T0 k b = some ((Bt b).1.1, (Bt b).1.2.1, (Bt b).1.2.2.1, (Bt b).1.2.2.2.1, (Bt b).1.2.2.2.2.1, (Bt b).1.2.2.2.2.2.2.2.1, (Bt b).1.2.2.2.2.2.2.2.2, (Bt b).2.1, (Bt b).2.2, (Bt b).1.2.2.2.2.2.1, (Bt b).1.2.2.2.2.2.2.1) := by
 rw [B0c, Auj, Boh k b hb hm, Option.bind_some]
 unfold Bt
 by_cases h0 : (toks b).1 = 0
 ·have hb0 : ((toks b).1 != 0) = false := by simpa using h0
  obtain ⟨r, hl⟩ := Cgu h0
  obtain ⟨q, e1, e2, e3⟩ := Cef k hk r hl
  have hz := zr_net ((toks b).2.2, 0, 0) zr0
  rw [hb0]
  simp only [cond_false]
  rw [e1, Option.bind_some]
  generalize netR ((toks b).2.2, 0, 0) = o at e2 e3 hz ⊢
  obtain ⟨q0, q1, q2, q3, q4, q5, q6, q7, q8, q9, q10, q11, q12⟩ := q
  simp only [Prod.mk.injEq] at e2
  obtain ⟨rfl, rfl, rfl, rfl⟩ := e2
  obtain ⟨m, l, e, p⟩ := o
  simp only
  rw [as_some, Option.bind_some]
  rcases hz.2 with he | he
  ·have he : e = 0 := he
   subst he
   have e4 := e3 rfl
   simp only at e4
   subst e4
   rfl
  ·have he : e = 50 ∨ e = 4 := he
   have h1 : (e == 0) = false := by simp; omega
   have h2 : (e != 0) = true := by simp; omega
   simp only [h1, h2, Bool.not_false, cond_true]
   rw [Ccv k (by omega) e p he]
   rfl
 ·have hb0 : ((toks b).1 != 0) = true := by simpa using h0
  rw [hb0]
  rfl
section
variable {R : Type}
end
section
variable (k : Nat) (hk : 1000 ≤ k)
include hk
end
section
variable (k : Nat) (hk : 1000 ≤ k)
include hk
end
def byB (l : List Int) : Prop := ∀ x ∈ l, 0 ≤ x ∧ x ≤ 255
def Ci (sep : List Int) : List (List Int) → List Int
 | [] => []
 | [x] => x
 | x :: y :: r => x ++ (sep ++ Ci sep (y :: r))
def u8n (l : List UInt8) : List Int := l.map fun b => (b.toNat : Int)
theorem Aoz {l : List Int} (h : byB l) : u8n (u8s l) = l := by
 unfold u8n u8s
 rw [List.map_map]
 conv => rhs; rw [← List.map_id l]
 apply List.map_congr_left
 intro x hx
 have := h x hx
 simp only [Function.comp, id]
 rw [UInt8.toNat_ofNat']
 omega
theorem Bok (a b : List UInt8) : u8n (a ++ b) = u8n a ++ u8n b := List.map_append
theorem Cbo (sep x y : List UInt8) (r : List (List UInt8)) : Lib.join (x :: y :: r) sep = x ++ (sep ++ Lib.join (y :: r) sep) := by
 rw [Lib.join_cons, Lib.join_cons]
 simp [Lib.joinTail]
theorem Bol (sep : List Int) (hs : byB sep) : ∀ (ws : List (List Int)), (∀ w ∈ ws, byB w) → u8n (Lib.join (ws.map u8s) (u8s sep)) = Ci sep ws
 | [], _ => rfl
 | [x], h => by
  rw [List.map_cons, List.map_nil, Lib.join_one, Aoz (h x (by simp))]; rfl
 | x :: y :: r, h => by
  have IH := Bol sep hs (y :: r) fun w hw => h w (by simp [hw])
  rw [List.map_cons] at IH
  rw [List.map_cons, List.map_cons, Cbo, Bok, Bok, IH, Aoz (h x (by simp)), Aoz hs]
  rfl
theorem Bfn (sep : List Int) (ws : List (List Int)) (hs : byB sep) (hw : ∀ w ∈ ws, byB w) (hl : (Ci sep ws).length ≤ 140737488355328) (hn : ws.length ≤ 140737488355328) : N9 (ws, sep) = some (Ci sep ws) := by
 have e1 : Kl (ws, sep) = Lib.join (ws.map u8s) (u8s sep) := by
  unfold Kl
  simp only [List.map_map]
  rfl
 have e2 := Bol sep hs ws hw
 have e3 : (Kl (ws, sep)).length = (Ci sep ws).length := by
  rw [e1, ← e2]
  unfold u8n
  rw [List.length_map]
 unfold N9
 have hm : maxLen = 9223372036854775807 := rfl
 rw [if_pos ⟨by omega, hn, by omega⟩]
 refine congrArg some ?_
 rw [e1, ← e2]
 rfl
theorem Bfm (sep : List Int) (m : Nat) : ∀ (ws : List (List Int)), (∀ w ∈ ws, w.length ≤ m) → (Ci sep ws).length ≤ ws.length * (m + sep.length)
 | [], _ => Nat.zero_le _
 | [x], h => by
  have := h x (by simp)
  show x.length ≤ _
  simp
  omega
 | x :: y :: r, h => by
  have IH := Bfm sep m (y :: r) fun w hw => h w (by simp [hw])
  have := h x (by simp)
  show (x ++ (sep ++ Ci sep (y :: r))).length ≤ _
  rw [List.length_append, List.length_append, List.length_cons (a := x), Nat.add_mul]
  omega
theorem Am2 (sep : List Int) (hs : byB sep) : ∀ (ws : List (List Int)), (∀ w ∈ ws, byB w) → byB (Ci sep ws)
 | [], _ => fun x hx => by cases hx
 | [x], h => h x (by simp)
 | x :: y :: r, h => by
  have IH := Am2 sep hs (y :: r) fun w hw => h w (by simp [hw])
  intro z hz
  rcases List.mem_append.1 hz with hz | hz
  ·exact h x (by simp) z hz
  ·rcases List.mem_append.1 hz with hz | hz
   ·exact hs z hz
   ·exact IH z hz
def digN : Nat → Nat → List Int
 | 0, _ => []
 | f + 1, n => if n < 10 then [((48 + n : Nat) : Int)] else digN f (n / 10) ++ [((48 + n % 10 : Nat) : Int)]
def numT (n : Int) : List Int := if n < 0 then 45 :: digN 18 n.natAbs else digN 18 n.natAbs
theorem Ack : ∀ (f n : Nat), n < 10 ^ f → 1 ≤ f → (Lib.decDigits n).map (fun b => (b.toNat : Int)) = digN f n
 | 0, n, _, h => by omega
 | f + 1, n, h, _ => by
  rw [Lib.decDigits, digN]
  by_cases h10 : n < 10
  ·rw [dif_pos h10, if_pos h10]
   simp
   omega
  ·have hf : n / 10 < 10 ^ f := by rw [Nat.pow_succ] at h; omega
   have h1 : 1 ≤ f := by
    rcases f with _ | f
    ·simp at h; omega
    ·omega
   rw [dif_neg h10, if_neg h10, List.map_append, Ack f (n / 10) hf h1]
   simp
   omega
theorem Acl : ∀ (f n : Nat), (digN f n).length ≤ f
 | 0, _ => Nat.zero_le _
 | f + 1, n => by
  rw [digN]
  have := Acl f (n / 10)
  split <;> simp <;> omega
theorem Wo : ∀ (f n : Nat), ∀ x ∈ digN f n, A0 x = true
 | 0, _, x, h => by cases h
 | f + 1, n, x, h => by
  rw [digN] at h
  unfold A0
  split at h
  ·simp at h; simp; omega
  ·rcases List.mem_append.1 h with h | h
   ·exact Wo f _ x h
   ·simp at h; simp; omega
theorem digN_ne (f n : Nat) : digN (f + 1) n ≠ [] := by
 rw [digN]; split <;> simp
theorem Cl (n : Int) : (numT n).length ≤ 19 := by
 unfold numT
 have := Acl 18 n.natAbs
 split <;> simp <;> omega
theorem Aq6 {x : Int} (h : A0 x = true) : 0 ≤ x ∧ x ≤ 255 := by
 unfold A0 at h; simp at h; omega
theorem L9 (n : Int) : byB (numT n) := by
 intro x hx
 unfold numT at hx
 split at hx
 ·rcases List.mem_cons.1 hx with rfl | hx
  ·omega
  ·exact Aq6 (Wo _ _ x hx)
 ·exact Aq6 (Wo _ _ x hx)
def inM (n : Int) : Prop := -999999999999999999 ≤ n ∧ n ≤ 999999999999999999
theorem Cc {n : Int} (h : numB n = true) : inM n := by
 unfold numB at h; unfold inM; simp at h; omega
theorem Bfl {n : Int} (h : inM n) : bs ⟨(Lib.itoa n).toArray⟩ = numT n := by
 unfold inM at h
 unfold bs Lib.itoa numT
 by_cases hn : n < 0
 ·rw [if_pos hn, if_pos hn]
  show ((45 : UInt8) :: Lib.decDigits n.natAbs).map _ = _
  rw [List.map_cons, Ack 18 _ (by omega) (by omega)]
  rfl
 ·rw [if_neg hn, if_neg hn]
  show (Lib.decDigits n.toNat).map _ = _
  rw [Ack 18 _ (by omega) (by omega), show n.toNat = n.natAbs by omega]
theorem Dp (k : Nat) {n : Int} (h : inM n) : cshownum k n = some (numT n) := by
 have hl : (Lib.itoa n).length = (numT n).length := by
  rw [← Bfl h]; unfold bs; exact (List.length_map _).symm
 have := Cl n
 rw [B9j, Bcn]
 unfold Aca fmtI
 have hm : maxLen = 9223372036854775807 := rfl
 rw [if_pos ⟨rfl, by simp only; omega⟩, Bfl h]
 rfl
theorem A9x (k : Nat) {a b : Int} (ha : inM a) (hb : inM b) : cshowfrac k (a, b) = some (numT a ++ ([47] : List Int) ++ numT b) := by
 have h1 := Cl a
 have h2 := Cl b
 rw [B9a, Bca, Dp k ha, Option.bind_some, Zx (by simp; omega), Dp k hb, Option.bind_some, Zx (by simp; omega)]
theorem Bf2 (k : Nat) (l : List (List Int)) (hw : ∀ w ∈ l, byB w) (hl : (Ci ([44, 32] : List Int) l).length ≤ 1000000) (hn : l.length ≤ 1000) : Lc k l = some (Ci ([44, 32] : List Int) l) := by
 rw [B9c, Bcc]
 unfold Lf
 rw [Bfn _ _ (by intro x hx; simp at hx; omega) hw (by omega) (by omega)]
 rfl
def Em (a b : Int) : List Int := numT a ++ ([47] : List Int) ++ numT b
def Fj (h : YT1) : List (List Int) :=
 [([32, 32, 104, 101, 97, 100, 32] : List Int), h.1, ([32, 118, 111, 108, 117, 109, 101, 32] : List Int), numT h.2.1, ([32, 102, 108, 111, 119, 32] : List Int), numT h.2.2.1, ([32, 117, 115, 101, 32] : List Int), Em h.2.2.2.1.1 h.2.2.2.1.2.1, ([32, 115, 112, 101, 101, 100, 32] : List Int), numT h.2.2.2.2.1, ([32, 103, 114, 97, 100, 101, 32] : List Int), numT h.2.2.2.2.2.1,
  ([32, 119, 105, 100, 116, 104, 32] : List Int), numT h.2.2.2.2.2.2.1, ([32, 108, 101, 110, 103, 116, 104, 32] : List Int), numT h.2.2.2.2.2.2.2.1, ([32, 103, 114, 101, 101, 110, 32] : List Int), numT h.2.2.2.2.2.2.2.2.1, ([59, 10] : List Int)]
def pedP (p : YT2) : List (List Int) := [([32, 32, 119, 97, 108, 107, 32] : List Int), p.1, ([32, 119, 105, 116, 104, 32] : List Int), p.2.1, ([32, 108, 111, 110, 103, 32] : List Int), numT p.2.2.1, ([32, 112, 97, 99, 101, 32] : List Int), numT p.2.2.2.1, ([32, 108, 101, 97, 115, 116, 32] : List Int), numT p.2.2.2.2.1, ([59, 10] : List Int)]
def Dc (h : YT1) : List Int := (Fj h).flatten
def pedT (p : YT2) : List Int := (pedP p).flatten
def B8 (l : List (List Int)) : List Int := Ci ([44, 32] : List Int) l
def Ez (x : YT3) : List (List Int) := [([32, 32, 112, 104, 97, 115, 101, 32] : List Int), x.1, ([58, 32] : List Int), B8 x.2.1, ([59, 10] : List Int)]
def Dr (x : YT3) : List Int := (Ez x).flatten
def E6 (r : YT4) : List Int := ([32, 32, 32, 32, 114, 105, 110, 103, 32] : List Int) ++ ((bif r.1 then ([102, 114, 101, 101, 32] : List Int) else []) ++ (B8 r.2.1 ++ ([59, 10] : List Int)))
def It (g : List YT4 × Unit) : List Int := ([32, 32, 103, 114, 111, 117, 112, 32, 123, 10] : List Int) ++ (g.1.flatMap E6 ++ ([32, 32, 125, 10] : List Int))
def foeP (f : YT5) : List (List Int) := [([32, 32, 102, 111, 101, 32] : List Int), f.1, ([32] : List Int), f.2.1, ([59, 10] : List Int)]
def foeT (f : YT5) : List Int := (foeP f).flatten
def Jl (n : YT6) : List Int := n.2.1.flatMap Dc ++ (n.2.2.1.flatMap pedT ++ (n.2.2.2.1.flatMap Dr ++ (n.2.2.2.2.1.flatMap It ++ n.2.2.2.2.2.1.flatMap foeT)))
def Ix (n : YT6) : List Int := ([110, 111, 100, 101, 32] : List Int) ++ (n.1 ++ (([32, 123, 10] : List Int) ++ (Jl n ++ ([125, 10] : List Int))))
def Fn (s : YT7) : List (List Int) := [([32, 32, 115, 116, 111, 112, 32] : List Int), s.1, ([32, 111, 117, 116, 32] : List Int), s.2.1, ([32, 105, 110, 32] : List Int), s.2.2.1, ([32, 97, 104, 101, 97, 100, 32] : List Int), numT s.2.2.2.1, ([32, 98, 97, 99, 107, 32] : List Int), numT s.2.2.2.2.1, ([59, 10] : List Int)]
def Cu (s : YT7) : List Int := (Fn s).flatten
def Cz (a b : Int) : List Int := [([32, 32, 119, 101, 105, 103, 104, 116, 115, 32] : List Int), numT a, ([32] : List Int), numT b, ([59, 10] : List Int)].flatten
def artB (n : NetT) : Bool := (decide (((n.2.2.2.2.2.2.1.length : Nat) : Int) > 0) || n.2.2.2.2.2.2.2.1 != 0) || n.2.2.2.2.2.2.2.2 != 0
def artT (n : NetT) : List Int := bif artB n then ([97, 114, 116, 101, 114, 121, 32, 123, 10] : List Int) ++ (n.2.2.2.2.2.2.1.flatMap Cu ++ (Cz n.2.2.2.2.2.2.2.1 n.2.2.2.2.2.2.2.2 ++ ([125, 10] : List Int))) else []
def Di (a b c d e : Int) : List Int := [([99, 121, 99, 108, 101, 32] : List Int), numT a, ([32, 116, 111, 32] : List Int), numT b, ([32, 98, 121, 32] : List Int), numT c, ([59, 10, 112, 101, 97, 107, 32] : List Int), Em d e, ([59, 10] : List Int)].flatten
def netT (n : NetT) : List Int := Di n.1 n.2.1 n.2.2.1 n.2.2.2.1 n.2.2.2.2.1 ++ (n.2.2.2.2.2.1.flatMap Ix ++ artT n)
theorem Ex {s : List Int} (h : Bw s = true) : byB s ∧ s.length ≤ 24 ∧ s ≠ [] ∧ (∀ x ∈ s, Bh x = true) ∧ (∃ c r, s = c :: r ∧ B7 c = true) := by
 unfold Bw Kz at h
 simp only [Bool.and_eq_true, decide_eq_true_eq] at h
 obtain ⟨⟨h0, h1, h2⟩, _⟩ := h
 cases s with
 | nil => exact absurd rfl h0
 | cons c r =>
  have hs := Mi (x := c) (r := r) (by rw [h2])
  rw [h2] at hs
  have hw : ∀ x ∈ c :: r, Bh x = true := by
   intro x hx
   have h3 : (c :: r).takeWhile Bh = c :: r ∧ B7 c = true := by
    simp only [tok1] at h2
    split at h2
    ·rename_i hc
     split at h2
     ·simp at h2
     ·simp only [Prod.mk.injEq] at h2
      exact ⟨h2.2.2.1, hc⟩
    ·split at h2
     ·split at h2 <;> simp at h2
     ·split at h2 <;> simp at h2
   rw [← h3.1] at hx
   exact Yf hx
  have hc : B7 c = true := by
   simp only [tok1] at h2
   split at h2
   ·rename_i hc; exact hc
   ·split at h2
    ·split at h2 <;> simp at h2
    ·split at h2 <;> simp at h2
  refine ⟨fun x hx => ?_, hs.2.2.2, by simp, hw, c, r, rfl, hc⟩
  have := hw x hx
  unfold Bh B7 A0 at this
  simp at this
  omega
theorem Ib {s : List Int} (h : Bw s = true) : s.length ≤ 24 := (Ex h).2.1
theorem On {m : Nat} {l : List (List Int)} (h : rowB m l = true) : (1 ≤ l.length ∧ l.length ≤ m) ∧ ∀ s ∈ l, Bw s = true := by
 unfold rowB at h
 simp only [Bool.and_eq_true, decide_eq_true_eq, List.all_eq_true] at h
 exact ⟨⟨h.1, h.2.1⟩, h.2.2⟩
theorem Ye {m : Nat} {l : List (List Int)} (h : rowB m l = true) : (B8 l).length ≤ m * 26 := by
 have h1 := On h
 have h2 := Bfm ([44, 32] : List Int) 24 l fun w hw => Ib (h1.2 w hw)
 have h3 : l.length * (24 + List.length ([44, 32] : List Int)) ≤ m * 26 := Nat.mul_le_mul h1.1.2 (by simp)
 exact Nat.le_trans h2 h3
theorem A9u (a b : Int) : (Em a b).length ≤ 39 := by
 have h1 := Cl a
 have h2 := Cl b
 unfold Em
 simp; omega
theorem Cbg {h : YT1} (hb : Eo h = true) : (Dc h).length ≤ 400 := by
 have h0 : h.1.length ≤ 24 := by
  unfold Eo at hb
  simp only [Bool.and_eq_true] at hb
  exact Ib hb.1
 clear hb
 obtain ⟨a0, a1, a2, ⟨a3, a4, ⟨⟩⟩, a5, a6, a7, a8, a9, a10, ⟨⟩⟩ := h
 simp only at h0
 have h1 := Cl a1
 have h2 := Cl a2
 have h3 := A9u a3 a4
 have h4 := Cl a5
 have h5 := Cl a6
 have h6 := Cl a7
 have h7 := Cl a8
 have h8 := Cl a9
 unfold Dc Fj
 (simp only [List.flatten_cons, List.flatten_nil, List.append_nil, List.length_append, List.length_cons, List.length_nil, Nat.reduceAdd, ← Nat.add_assoc]; omega)
theorem Cdj {p : YT2} (hb : pedB p = true) : (pedT p).length ≤ 200 := by
 unfold pedB at hb
 simp only [Bool.and_eq_true] at hb
 have := Ib hb.1
 have := Ib hb.2.1
 have h1 := Cl p.2.2.1
 have h2 := Cl p.2.2.2.1
 have h4 := Cl p.2.2.2.2.1
 unfold pedT pedP
 (simp only [List.flatten_cons, List.flatten_nil, List.append_nil, List.length_append, List.length_cons, List.length_nil, Nat.reduceAdd, ← Nat.add_assoc]; omega)
theorem Cds {x : YT3} (hb : Ey x = true) : (Dr x).length ≤ 500 := by
 unfold Ey at hb
 simp only [Bool.and_eq_true] at hb
 have := Ib hb.1
 have := Ye hb.2.1
 unfold Dr Ez
 (simp only [List.flatten_cons, List.flatten_nil, List.append_nil, List.length_append, List.length_cons, List.length_nil, Nat.reduceAdd, ← Nat.add_assoc]; omega)
theorem Cfq {r : YT4} (hb : Jp r = true) : (E6 r).length ≤ 200 := by
 unfold Jp at hb
 have := Ye hb
 unfold E6
 cases r.1 <;> simp only [cond_true, cond_false] <;> (simp only [List.flatten_cons, List.flatten_nil, List.append_nil, List.length_append, List.length_cons, List.length_nil, Nat.reduceAdd, ← Nat.add_assoc]; omega)
theorem Ca9 {g : List YT4 × Unit} (hb : En g = true) : (It g).length ≤ 500 := by
 unfold En at hb
 simp only [Bool.and_eq_true, Bool.not_eq_true', decide_eq_false_iff_not, List.all_eq_true] at hb
 have := Ws E6 200 g.1 fun r hr => Cfq (hb.2.2 r hr)
 have h2 : g.1.length * 200 ≤ 2 * 200 := Nat.mul_le_mul_right _ (by omega)
 unfold It
 (simp only [List.flatten_cons, List.flatten_nil, List.append_nil, List.length_append, List.length_cons, List.length_nil, Nat.reduceAdd, ← Nat.add_assoc]; omega)
theorem B03 {f : YT5} (hb : foeB f = true) : (foeT f).length ≤ 80 := by
 unfold foeB at hb
 simp only [Bool.and_eq_true] at hb
 have := Ib hb.1
 have := Ib hb.2.1
 unfold foeT foeP
 (simp only [List.flatten_cons, List.flatten_nil, List.append_nil, List.length_append, List.length_cons, List.length_nil, Nat.reduceAdd, ← Nat.add_assoc]; omega)
theorem Cgf {s : YT7} (hb : E8 s = true) : (Cu s).length ≤ 200 := by
 unfold E8 at hb
 simp only [Bool.and_eq_true] at hb
 have := Ib hb.1
 have := Ib hb.2.1
 have := Ib hb.2.2.1
 have h1 := Cl s.2.2.2.1
 have h2 := Cl s.2.2.2.2.1
 unfold Cu Fn
 (simp only [List.flatten_cons, List.flatten_nil, List.append_nil, List.length_append, List.length_cons, List.length_nil, Nat.reduceAdd, ← Nat.add_assoc]; omega)
theorem C3 {α : Type} {l : List α} {m : Int} (h : leB l m = true) : ((l.length : Nat) : Int) ≤ m := by
 unfold leB at h; simp at h; exact h
theorem Lm {α : Type} (l : List α) (f : α → List Int) (p : α → Bool) (m n : Nat) (h : l.all p = true) (hf : ∀ x, p x = true → (f x).length ≤ m) (hl : l.length ≤ n) : (l.flatMap f).length ≤ n * m := by
 have := Ws f m l fun x hx => hf x (List.all_eq_true.1 h x hx)
 exact Nat.le_trans this (Nat.mul_le_mul_right _ hl)
theorem Cdd {n : YT6} (hb : Dn n = true) : (Jl n).length ≤ 24000 := by
 unfold Dn at hb
 simp only [Bool.and_eq_true] at hb
 obtain ⟨h0, h1, h2, h3, h4, h5, p1, p2, p3, p4, p5⟩ := hb
 have := Lm _ Dc Eo 400 16 p1 (fun x => Cbg) (by have := C3 h1; omega)
 have := Lm _ pedT pedB 200 8 p2 (fun x => Cdj) (by have := C3 h2; omega)
 have := Lm _ Dr Ey 500 16 p3 (fun x => Cds) (by have := C3 h3; omega)
 have := Lm _ It En 500 4 p4 (fun x => Ca9) (by have := C3 h4; omega)
 have := Lm _ foeT foeB 80 64 p5 (fun x => B03) (by have := C3 h5; omega)
 unfold Jl
 (simp only [List.flatten_cons, List.flatten_nil, List.append_nil, List.length_append, List.length_cons, List.length_nil, Nat.reduceAdd, ← Nat.add_assoc]; omega)
theorem Ccp {n : YT6} (hb : Dn n = true) : (Ix n).length ≤ 24100 := by
 have := Cdd hb
 unfold Dn at hb
 simp only [Bool.and_eq_true] at hb
 have := Ib hb.1
 unfold Ix
 (simp only [List.flatten_cons, List.flatten_nil, List.append_nil, List.length_append, List.length_cons, List.length_nil, Nat.reduceAdd, ← Nat.add_assoc]; omega)
theorem Bgp {n : NetT} (hb : netB n = true) : (netT n).length ≤ 400000 := by
 unfold netB at hb
 simp only [Bool.and_eq_true] at hb
 obtain ⟨-, -, -, -, -, -, h1, h2, p1, p2⟩ := hb
 have := Lm _ Ix Dn 24100 12 p1 (fun x => Ccp) (by have := C3 h1; omega)
 have := Lm _ Cu E8 200 12 p2 (fun x => Cgf) (by have := C3 h2; omega)
 have h1 := Cl n.1
 have h2 := Cl n.2.1
 have h3 := Cl n.2.2.1
 have h4 := A9u n.2.2.2.1 n.2.2.2.2.1
 have h5 := Cl n.2.2.2.2.2.2.2.1
 have h6 := Cl n.2.2.2.2.2.2.2.2
 unfold netT artT Di Cz
 cases artB n <;> simp only [cond_true, cond_false] <;> (simp only [List.flatten_cons, List.flatten_nil, List.append_nil, List.length_append, List.length_cons, List.length_nil, Nat.reduceAdd, ← Nat.add_assoc]; omega)
theorem gr_inM {n : Int} (h1 : (!decide (n < -999999999999999999)) = true) (h2 : (!decide (n > 999999999999999999)) = true) : inM n := by
 unfold inM; simp at h1 h2; omega
theorem Am0 {h : YT1} (hb : Eo h = true) : Bw h.1 = true ∧ inM h.2.1 ∧ inM h.2.2.1 ∧ inM h.2.2.2.1.1 ∧ inM h.2.2.2.1.2.1 ∧ inM h.2.2.2.2.1 ∧ inM h.2.2.2.2.2.1 ∧ inM h.2.2.2.2.2.2.1 ∧ inM h.2.2.2.2.2.2.2.1 ∧ inM h.2.2.2.2.2.2.2.2.1 := by
 unfold Eo at hb
 simp only [Bool.and_eq_true] at hb
 obtain ⟨h0, h1, h2, ⟨h3, h4⟩, h5, h6, h7, h8, h9, h10, -⟩ := hb
 exact ⟨h0, Cc h1, Cc h2, Cc h3, Cc h4, Cc h5, gr_inM h6 h7, Cc h8, Cc h9, Cc h10⟩
theorem Bhf {p : YT2} (hb : pedB p = true) : Bw p.1 = true ∧ Bw p.2.1 = true ∧ inM p.2.2.1 ∧ inM p.2.2.2.1 ∧ inM p.2.2.2.2.1 := by
 unfold pedB at hb
 simp only [Bool.and_eq_true] at hb
 exact ⟨hb.1, hb.2.1, Cc hb.2.2.1, Cc hb.2.2.2.1, Cc hb.2.2.2.2.1⟩
theorem Boc {s : YT7} (hb : E8 s = true) : Bw s.1 = true ∧ Bw s.2.1 = true ∧ Bw s.2.2.1 = true ∧ inM s.2.2.2.1 ∧ inM s.2.2.2.2.1 := by
 unfold E8 at hb
 simp only [Bool.and_eq_true] at hb
 exact ⟨hb.1, hb.2.1, hb.2.2.1, Cc hb.2.2.2.1, Cc hb.2.2.2.2.1⟩
section
variable (k : Nat) (hk : 1000 ≤ k)
include hk
end
end Go.Proofs.YtipcabmhdokfjaaGreatDoorV
