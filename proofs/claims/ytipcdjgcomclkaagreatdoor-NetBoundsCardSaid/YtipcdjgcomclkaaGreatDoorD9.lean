import Derived.Test.YtipcdjgcomclkaaGreatDoorD8
import Derived.Test.YtipcdjgcomclkaaGreatDoorD7
/-! Joined, names shortened: QI, QG, QH, LJ, LK, NBo. -/
set_option linter.unusedVariables false
set_option linter.unusedSimpArgs false
set_option maxRecDepth 100000
namespace Go.Proofs.YtipcdjgcomclkaaGreatDoorV
open Go Go.RowKit
structure Eqp (x y : RS) : Prop where
 e : x.2.1 = y.2.1
 t : x.1.map strip = y.1.map strip
theorem Eqp.hd {x y : RS} (h : Eqp x y) : (hd x.1).1 = (hd y.1).1 ∧ (hd x.1).2.1 = (hd y.1).2.1 ∧ (hd x.1).2.2.1 = (hd y.1).2.2.1 := by
 have := h.t
 cases hx : x.1 <;> cases hy : y.1 <;> rw [hx, hy] at this <;> simp only [List.map_nil, List.map_cons, List.cons.injEq, reduceCtorEq] at this
 ·exact ⟨rfl, rfl, rfl⟩
 ·have := this.1
  unfold strip at this
  simp only [Prod.mk.injEq] at this
  exact this
theorem Eqp.len {x y : RS} (h : Eqp x y) : x.1.length = y.1.length := by
 have := congrArg List.length h.t
 simpa using this
theorem Iv {x y x' y' : RS} {c d : Bool} (hc : c = d) (h : Eqp x x') (h2 : Eqp y y') : Eqp (bif c then x else y) (bif d then x' else y') := by
 subst hc
 cases c <;> assumption
theorem Iw (c : Int) {x y : RS} (h : Eqp x y) : Eqp (A5 c x) (A5 c y) := by
 unfold A5
 rw [h.e]
 cases y.2.1 == 0
 ·exact h
 ·exact ⟨rfl, h.t⟩
theorem Ho {x y : RS} (h : Eqp x y) : Eqp (A0 x) (A0 y) := by
 unfold A0
 rw [h.e, h.hd.1]
 cases y.2.1 == 0 && (Go.Proofs.YtipcdjgcomclkaaGreatDoorV.hd y.1).1 != 0
 ·exact h
 ·refine ⟨rfl, ?_⟩
  have := congrArg List.tail h.t
  simpa [List.map_tail] using this
theorem Ix (s : List Int) {x y : RS} (h : Eqp x y) : Aw s x = Aw s y := by
 unfold Aw
 rw [h.e, h.hd.1, h.hd.2.1]
theorem Ct (s : List Int) {x y : RS} (h : Eqp x y) : Eqp (Aj s x) (Aj s y) := Ho (Iv (Ix s h) h (Iw 50 h))
theorem Ef {x y : RS} (h : Eqp x y) : (Ai x).1 = (Ai y).1 ∧ Eqp (Ai x).2 (Ai y).2 := by
 unfold Ai
 rw [h.hd.1, h.hd.2.1]
 cases (Go.Proofs.YtipcdjgcomclkaaGreatDoorV.hd y.1).1 == 1 && !(resB (Go.Proofs.YtipcdjgcomclkaaGreatDoorV.hd y.1).2.1)
 ·exact ⟨rfl, Iw 50 h⟩
 ·exact ⟨rfl, Ho h⟩
theorem eq_numC {x y : RS} (h : Eqp x y) : (numC x).1 = (numC y).1 ∧ Eqp (numC x).2 (numC y).2 := by
 unfold numC
 rw [h.hd.1, h.hd.2.2]
 cases (Go.Proofs.YtipcdjgcomclkaaGreatDoorV.hd y.1).1 == 2
 ·exact ⟨rfl, Iw 50 h⟩
 ·exact ⟨rfl, Ho h⟩
theorem Cd (w : List Int) {x y : RS} (h : Eqp x y) : (numR w x).1 = (numR w y).1 ∧ Eqp (numR w x).2 (numR w y).2 := eq_numC (Iv rfl h (Ct w h))
theorem Aez (w : List Int) {x y : RS} (h : Eqp x y) : (C1 w x).1 = (C1 w y).1 ∧ Eqp (C1 w x).2 (C1 w y).2 :=
 ⟨Prod.ext (Cd w h).1 (Cd _ (Cd w h).2).1, (Cd _ (Cd w h).2).2⟩
theorem A6p (w : List Int) (a m : Int) {x y : RS} (h : Eqp x y) : (A3 w a m x).1 = (A3 w a m y).1 ∧ Eqp (A3 w a m x).2 (A3 w a m y).2 := by
 unfold A3
 rw [Ix w h]
 cases Aw w y
 ·exact ⟨rfl, h⟩
 ·cases a == m
  ·exact ⟨rfl, Ho h⟩
  ·exact ⟨rfl, Iw 4 h⟩
theorem Ae0 {α β : Type} (er : α → β) (w : List Int) (most : Int) (item : RS → α × RS) (hi : ∀ {x y}, Eqp x y → er (item x).1 = er (item y).1 ∧ Eqp (item x).2 (item y).2) : ∀ (f : Nat) (x y : RS) (o o' : List α),
  Eqp x y → o.map er = o'.map er → (Bl w most item f x o).1.map er = (Bl w most item f y o').1.map er ∧ Eqp (Bl w most item f x o).2 (Bl w most item f y o').2
 | 0, x, y, o, o', h, ho => ⟨ho, h⟩
 | f + 1, x, y, o, o', h, ho => by
  have hl : o.length = o'.length := by simpa using congrArg List.length ho
  have hb := A6p w ((o'.length : Nat) : Int) most h
  rw [Bl, Bl, hl]
  generalize A3 w ((o'.length : Nat) : Int) most x = b at hb ⊢
  generalize A3 w ((o'.length : Nat) : Int) most y = c at hb ⊢
  rw [hb.1]
  cases c.1
  ·exact ⟨ho, hb.2⟩
  ·have h2 := hi hb.2
   exact Ae0 er w most item hi f _ _ _ _ h2.2 (by rw [List.map_append, List.map_append, ho]; simp [h2.1])
theorem Hn {α β : Type} (er : α → β) {w : List Int} {most : Int} {item : RS → α × RS} (hi : ∀ {x y}, Eqp x y → er (item x).1 = er (item y).1 ∧ Eqp (item x).2 (item y).2) {x y : RS} (h : Eqp x y) :
  (Ay w most item x).1.map er = (Ay w most item y).1.map er ∧ Eqp (Ay w most item x).2 (Ay w most item y).2 := by
 unfold Ay
 rw [h.len]
 exact Ae0 er w most item hi _ x y [] [] h rfl
theorem Ae2 (most : Int) : ∀ (f : Nat) (x y : RS) (o : List (List Int)), Eqp x y → (Bt most f x o).1 = (Bt most f y o).1 ∧ Eqp (Bt most f x o).2 (Bt most f y o).2
 | 0, x, y, o, h => ⟨rfl, h⟩
 | f + 1, x, y, o, h => by
  rw [Bt, Bt, Ix _ h]
  cases Aw ([44] : List Int) y
  ·exact ⟨rfl, Ct _ h⟩
  ·simp only [cond_true]
   have h2 := Ho h
   have h3 := Ef (Iv (c := ((o.length : Nat) : Int) == most && ((hd (A0 x).1).1 == 1 && !(resB (hd (A0 x).1).2.1))) (d := ((o.length : Nat) : Int) == most && ((hd (A0 y).1).1 == 1 && !(resB (hd (A0 y).1).2.1))) (by rw [h2.hd.1, h2.hd.2.1]) (Iw 4 h2) h2)
   rw [h3.1]
   exact Ae2 most f _ _ _ h3.2
theorem Ae1 (most : Int) {x y : RS} (h : Eqp x y) : (B3 most x).1 = (B3 most y).1 ∧ Eqp (B3 most x).2 (B3 most y).2 := by
 unfold B3
 have h2 := Ef h
 rw [h2.1, h2.2.len]
 exact Ae2 most _ _ _ _ h2.2
theorem eq_neg {c d : Bool} {a b : Int} (h : c = d) (h2 : a = b) : (bif c then negI .i64 a else a) = (bif d then negI .i64 b else b) := by rw [h, h2]
theorem eq_head {x y : RS} (h : Eqp x y) : erH (Cf x).1 = erH (Cf y).1 ∧ Eqp (Cf x).2 (Cf y).2 := by
 have n := Ef h
 have v := Cd ([118, 111, 108, 117, 109, 101] : List Int) n.2
 have s := Cd ([102, 108, 111, 119] : List Int) v.2
 have u := Aez ([117, 115, 101] : List Int) s.2
 have p := Cd ([115, 112, 101, 101, 100] : List Int) u.2
 have q := Ct ([103, 114, 97, 100, 101] : List Int) p.2
 have c := Ix ([45] : List Int) q
 have g := Cd [] (Iv c (Ho q) q)
 have a := Cd ([119, 105, 100, 116, 104] : List Int) g.2
 have l := Cd ([108, 101, 110, 103, 116, 104] : List Int) a.2
 have e := Cd ([103, 114, 101, 101, 110] : List Int) l.2
 refine ⟨?_, Ct _ e.2⟩
 refine Prod.ext n.1 (Prod.ext v.1 (Prod.ext s.1 (Prod.ext ?_ (Prod.ext p.1 (Prod.ext ?_ (Prod.ext a.1 (Prod.ext l.1 (Prod.ext e.1 rfl))))))))
 ·exact congrArg (fun p : Int × Int => (p.1, p.2, ())) u.1
 ·exact eq_neg c g.1
theorem eq_walk {x y : RS} (h : Eqp x y) : erP (Ci x).1 = erP (Ci y).1 ∧ Eqp (Ci x).2 (Ci y).2 := by
 have n := Ef h
 have p := Ef (Ct ([119, 105, 116, 104] : List Int) n.2)
 have a := Cd ([108, 111, 110, 103] : List Int) p.2
 have b := Cd ([112, 97, 99, 101] : List Int) a.2
 have c := Cd ([108, 101, 97, 115, 116] : List Int) b.2
 exact ⟨Prod.ext n.1 (Prod.ext p.1 (Prod.ext a.1 (Prod.ext b.1 (Prod.ext c.1 rfl)))), Ct _ c.2⟩
theorem A6r {x y : RS} (h : Eqp x y) : erX (Cq x).1 = erX (Cq y).1 ∧ Eqp (Cq x).2 (Cq y).2 := by
 have n := Ef h
 have l := Ae1 16 (Ct ([58] : List Int) n.2)
 exact ⟨Prod.ext n.1 (Prod.ext l.1 rfl), l.2⟩
theorem eq_ring {x y : RS} (h : Eqp x y) : id (B0 x).1 = id (B0 y).1 ∧ Eqp (B0 x).2 (B0 y).2 := by
 have c := Ix ([102, 114, 101, 101] : List Int) h
 have l := Ae1 4 (Iv c (Ho h) h)
 exact ⟨Prod.ext c (Prod.ext l.1 rfl), l.2⟩
theorem A6q {x y : RS} (h : Eqp x y) : id (Ce x).1 = id (Ce y).1 ∧ Eqp (Ce x).2 (Ce y).2 := by
 have a := Ct ([123] : List Int) h
 have r := Hn id eq_ring (w := ([114, 105, 110, 103] : List Int)) (most := 2) (Iv (Ix ([114, 105, 110, 103] : List Int) a) a (Iw 50 a))
 rw [List.map_id, List.map_id] at r
 exact ⟨Prod.ext r.1 rfl, Ct _ r.2⟩
theorem eq_foe {x y : RS} (h : Eqp x y) : erF (foeR x).1 = erF (foeR y).1 ∧ Eqp (foeR x).2 (foeR y).2 := by
 have n := Ef h
 have m := Ef n.2
 exact ⟨Prod.ext n.1 (Prod.ext m.1 rfl), Ct _ m.2⟩
theorem eq_stop {x y : RS} (h : Eqp x y) : erS (Cg x).1 = erS (Cg y).1 ∧ Eqp (Cg x).2 (Cg y).2 := by
 have n := Ef h
 have o := Ef (Ct ([111, 117, 116] : List Int) n.2)
 have i := Ef (Ct ([105, 110] : List Int) o.2)
 have a := Cd ([97, 104, 101, 97, 100] : List Int) i.2
 have b := Cd ([98, 97, 99, 107] : List Int) a.2
 exact ⟨Prod.ext n.1 (Prod.ext o.1 (Prod.ext i.1 (Prod.ext a.1 (Prod.ext b.1 rfl)))), Ct _ b.2⟩
theorem eq_node {x y : RS} (h : Eqp x y) : erN (Bu x).1 = erN (Bu y).1 ∧ Eqp (Bu x).2 (Bu y).2 := by
 have n := Ef h
 have a := Hn erH eq_head (w := ([104, 101, 97, 100] : List Int)) (most := 16) (Ct ([123] : List Int) n.2)
 have b := Hn erP eq_walk (w := ([119, 97, 108, 107] : List Int)) (most := 8) a.2
 have c := Hn erX A6r (w := ([112, 104, 97, 115, 101] : List Int)) (most := 16) b.2
 have d := Hn id A6q (w := ([103, 114, 111, 117, 112] : List Int)) (most := 4) c.2
 have e := Hn erF eq_foe (w := ([102, 111, 101] : List Int)) (most := 64) d.2
 rw [List.map_id, List.map_id] at d
 exact ⟨Prod.ext n.1 (Prod.ext a.1 (Prod.ext b.1 (Prod.ext c.1 (Prod.ext d.1 (Prod.ext e.1 rfl))))), Ct _ e.2⟩
theorem A6o {x y : RS} (h : Eqp x y) : (Bf x).1.1.map erS = (Bf y).1.1.map erS ∧ (Bf x).1.2 = (Bf y).1.2 ∧ Eqp (Bf x).2 (Bf y).2 := by
 have s := Hn erS eq_stop (w := ([115, 116, 111, 112] : List Int)) (most := 12) (Ct ([123] : List Int) h)
 have a := Cd ([119, 101, 105, 103, 104, 116, 115] : List Int) s.2
 have b := Cd [] a.2
 exact ⟨s.1, Prod.ext a.1 b.1, Ct _ (Ct _ b.2)⟩
theorem eq_art {x y : RS} (h : Eqp x y) : (bif Aw ([97, 114, 116, 101, 114, 121] : List Int) x then Bf (A0 x) else (([], 0, 0), x)).1.1.map erS = (bif Aw ([97, 114, 116, 101, 114, 121] : List Int) y then Bf (A0 y) else (([], 0, 0), y)).1.1.map erS ∧
  (bif Aw ([97, 114, 116, 101, 114, 121] : List Int) x then Bf (A0 x) else (([], 0, 0), x)).1.2 = (bif Aw ([97, 114, 116, 101, 114, 121] : List Int) y then Bf (A0 y) else (([], 0, 0), y)).1.2 ∧
  Eqp (bif Aw ([97, 114, 116, 101, 114, 121] : List Int) x then Bf (A0 x) else (([], 0, 0), x)).2 (bif Aw ([97, 114, 116, 101, 114, 121] : List Int) y then Bf (A0 y) else (([], 0, 0), y)).2 := by
 rw [Ix _ h]
 cases Aw ([97, 114, 116, 101, 114, 121] : List Int) y
 ·exact ⟨rfl, rfl, h⟩
 ·exact A6o (Ho h)
theorem eq_net {x y : RS} (h : Eqp x y) : Cj (netR x).1 = Cj (netR y).1 ∧ Eqp (netR x).2 (netR y).2 := by
 have a := Cd ([99, 121, 99, 108, 101] : List Int) h
 have b := Cd ([116, 111] : List Int) a.2
 have c := Cd ([98, 121] : List Int) b.2
 have p := Aez ([112, 101, 97, 107] : List Int) (Ct ([59] : List Int) c.2)
 have n := Hn erN eq_node (w := ([110, 111, 100, 101] : List Int)) (most := 12) (Ct ([59] : List Int) p.2)
 have t := eq_art n.2
 have p1 := congrArg Prod.fst p.1
 have p2 := congrArg Prod.snd p.1
 refine ⟨Prod.ext a.1 (Prod.ext b.1 (Prod.ext c.1 (Prod.ext p1 (Prod.ext p2 (Prod.ext n.1 (Prod.ext t.1 t.2.1)))))), ?_⟩
 have h3 := t.2.2
 exact Iv (congrArg (fun k : Int => k != 0) h3.hd.1) (Iw 50 h3) h3
theorem parse_eq {b c : List Int} (h1 : (toks b).1 = (toks c).1) (h2 : (toks b).2.2.map strip = (toks c).2.2.map strip) : (Cp b).2.1 = (Cp c).2.1 ∧ Cj (Cp b).1 = Cj (Cp c).1 := by
 have e := eq_net (x := ((toks b).2.2, 0, 0)) (y := ((toks c).2.2, 0, 0)) ⟨rfl, h2⟩
 unfold Cp
 rw [h1, e.2.e]
 cases (toks c).1 != 0
 ·cases (netR ((toks c).2.2, 0, 0)).2.2.1 != 0
  ·exact ⟨rfl, e.1⟩
  ·exact ⟨rfl, rfl⟩
 ·exact ⟨rfl, rfl⟩
def TokG (t : Tk) : Prop := (t.1 = 1 → Ge 1 t.2.1 0 = true) ∧ (t.1 = 2 → numB t.2.2.1 = true)
def Gd (l : List Tk) : Prop := ∀ t ∈ l, TokG t
theorem Gd.suf {x y : RS} (g : Gd x.1) (h : Suf x y) : Gd y.1 := fun t ht => g t (h.subset ht)
theorem Gd.hd {l : List Tk} (g : Gd l) : TokG (hd l) := by
 cases l with
 | nil => exact ⟨fun h => (by cases h), fun h => (by cases h)⟩
 | cons t r => exact g t (by simp)
structure Rr (x y : RS) (P : Prop) : Prop where
 s : Suf x y
 p : Gd x.1 → y.2.1 = 0 → x.2.1 = 0 ∧ P
theorem Rr.imp {x y : RS} {P Q : Prop} (h : Rr x y P) (f : P → Q) : Rr x y Q := ⟨h.s, fun g e => ⟨(h.p g e).1, f (h.p g e).2⟩⟩
theorem Rr.then {x y z : RS} {P Q : Prop} (h : Rr x y P) (h2 : Rr y z Q) : Rr x z (P ∧ Q) :=
 ⟨h.s.trans h2.s, fun g e => ⟨(h.p g (h2.p (g.suf h.s) e).1).1, (h.p g (h2.p (g.suf h.s) e).1).2, (h2.p (g.suf h.s) e).2⟩⟩
theorem Gf (x : RS) : Rr x x True := ⟨Dl x, fun _ e => ⟨e, trivial⟩⟩
theorem Jn (c : Int) (hc : c ≠ 0) (x : RS) : Rr x (A5 c x) False := by
 refine ⟨Ii c x, fun _ e => ?_⟩
 unfold A5 at e
 cases h : x.2.1 == 0 <;> rw [h] at e
 ·simp only [cond_false] at e
  rw [e] at h
  cases h
 ·exact absurd e hc
theorem Ig (x : RS) : Rr x (A0 x) True := by
 refine ⟨D8 x, fun _ e => ⟨?_, trivial⟩⟩
 unfold A0 at e
 cases h : x.2.1 == 0 && (Go.Proofs.YtipcdjgcomclkaaGreatDoorV.hd x.1).1 != 0 <;> rw [h] at e <;> exact e
theorem Nc {x y z : RS} {c : Bool} {P : Prop} (h : c = true → Rr x y P) (h2 : c = false → Rr x z P) : Rr x (bif c then y else z) P := by
 cases c
 ·exact h2 rfl
 ·exact h rfl
theorem Cx (s : List Int) (x : RS) : Rr x (Aj s x) True :=
 ((Nc (c := Aw s x) (fun _ => Gf x) (fun _ => (Jn 50 (by decide) x).imp False.elim)).then (Ig _)).imp fun _ => trivial
theorem Ep (x : RS) : Rr x (Ai x).2 (Bq (Ai x).1 = true ∧ ((hd x.1).1 == 1 && !(resB (hd x.1).2.1)) = true) := by
 unfold Ai
 cases h : (Go.Proofs.YtipcdjgcomclkaaGreatDoorV.hd x.1).1 == 1 && !(resB (Go.Proofs.YtipcdjgcomclkaaGreatDoorV.hd x.1).2.1)
 ·exact (Jn 50 (by decide) x).imp False.elim
 ·refine ⟨D8 x, fun g e => ⟨((Ig x).p g e).1, ?_, rfl⟩⟩
  simp only [Bool.and_eq_true, beq_iff_eq] at h
  unfold Bq
  simp only [cond_true]
  rw [g.hd.1 h.1, h.2]
  rfl
theorem rr_numC (x : RS) : Rr x (numC x).2 (numB (numC x).1 = true) := by
 unfold numC
 cases h : (Go.Proofs.YtipcdjgcomclkaaGreatDoorV.hd x.1).1 == 2
 ·exact (Jn 50 (by decide) x).imp False.elim
 ·refine ⟨D8 x, fun g e => ⟨((Ig x).p g e).1, g.hd.2 (by simpa using h)⟩⟩
theorem C4 (w : List Int) (x : RS) : Rr x (numR w x).2 (numB (numR w x).1 = true) :=
 ((Nc (c := w == []) (fun _ => Gf x) (fun _ => Cx w x)).then (rr_numC _)).imp And.right
theorem Awu (w : List Int) (x : RS) : Rr x (C1 w x).2 (numB (C1 w x).1.1 = true ∧ numB (C1 w x).1.2 = true) := (C4 w x).then (C4 _ _)
theorem Bjb (w : List Int) (a m : Int) (x : RS) : Rr x (A3 w a m x).2 ((A3 w a m x).1 = true → a ≠ m) := by
 unfold A3
 cases Aw w x
 ·exact (Gf x).imp fun _ h => by cases h
 ·cases h : a == m
  ·exact (Ig x).imp fun _ _ h2 => by rw [h2] at h; simp at h
  ·exact (Jn 4 (by decide) x).imp False.elim
theorem Awv {α : Type} (w : List Int) (most : Int) (item : RS → α × RS) (p : α → Bool) (hi : ∀ x, Rr x (item x).2 (p (item x).1 = true)) : ∀ (f : Nat) (x : RS) (o : List α),
  Rr x (Bl w most item f x o).2 (o.all p = true → ((o.length : Nat) : Int) ≤ most → (Bl w most item f x o).1.all p = true ∧ (((Bl w most item f x o).1.length : Nat) : Int) ≤ most)
 | 0, x, o => ⟨Dl x, fun g e => ⟨e, fun h1 h2 => ⟨h1, h2⟩⟩⟩
 | f + 1, x, o => by
  have hb := Bjb w ((o.length : Nat) : Int) most x
  rw [Bl]
  generalize A3 w ((o.length : Nat) : Int) most x = b at hb ⊢
  obtain ⟨b, y⟩ := b
  cases b
  ·simp only [cond_false]
   exact hb.imp fun _ h1 h2 => ⟨h1, h2⟩
  ·simp only [cond_true]
   refine (hb.then ((hi y).then (Awv w most item p hi f _ _))).imp ?_
   rintro ⟨h1, h2, h3⟩ h4 h5
   have h1 := h1 rfl
   exact h3 (by rw [List.all_append, h4]; simp [h2]) (by rw [List.length_append]; simp; omega)
theorem If {α : Type} {w : List Int} {most : Int} (hm : 0 ≤ most) {item : RS → α × RS} {p : α → Bool} (hi : ∀ x, Rr x (item x).2 (p (item x).1 = true)) (x : RS) :
  Rr x (Ay w most item x).2 ((Ay w most item x).1.all p = true ∧ leB (Ay w most item x).1 most = true) :=
 (Awv w most item p hi _ x []).imp fun h => by
  obtain ⟨a, b⟩ := h rfl hm
  refine ⟨a, ?_⟩
  unfold leB
  simp only [Bool.not_eq_true', decide_eq_false_iff_not]
  unfold Ay
  omega
theorem Awx (most : Nat) : ∀ (f : Nat) (x : RS) (o : List (List Int)),
  Rr x (Bt (most : Int) f x o).2 (o.all Bq = true → 1 ≤ o.length → o.length ≤ most → rowB most (Bt (most : Int) f x o).1 = true)
 | 0, x, o => ⟨Dl x, fun g e => ⟨e, fun h1 h2 h3 => by
   unfold rowB
   rw [Bt]
   simp [h2, h3]
   simpa using h1⟩⟩
 | f + 1, x, o => by
  rw [Bt]
  cases Aw ([44] : List Int) x
  ·simp only [cond_false]
   refine (Cx ([59] : List Int) x).imp fun _ h1 h2 h3 => ?_
   unfold rowB
   simp [h2, h3]
   simpa using h1
  ·simp only [cond_true]
   generalize hy : A0 x = y
   have n0 := Ig x
   rw [hy] at n0
   have hz : Rr y (bif (((o.length : Nat) : Int) == (most : Int)) && ((hd y.1).1 == 1 && !(resB (hd y.1).2.1)) then A5 4 y else y) (o.length = most → (bif (((o.length : Nat) : Int) == (most : Int)) && ((hd y.1).1 == 1 && !(resB (hd y.1).2.1)) then A5 4 y else y) = y ∧ ((hd y.1).1 == 1 && !(resB (hd y.1).2.1)) = false) := by
    cases hc : ((hd y.1).1 == 1 && !(resB (hd y.1).2.1))
    ·rw [Bool.and_false]
     exact (Gf y).imp fun _ _ => ⟨rfl, rfl⟩
    ·rw [Bool.and_true]
     cases hm : ((o.length : Nat) : Int) == (most : Int)
     ·exact (Gf y).imp fun _ h => by
       rw [h] at hm
       simp at hm
     ·exact (Jn 4 (by decide) y).imp False.elim
   generalize (bif (((o.length : Nat) : Int) == (most : Int)) && ((hd y.1).1 == 1 && !(resB (hd y.1).2.1)) then A5 4 y else y) = z at hz ⊢
   refine (n0.then (hz.then ((Ep z).then (Awx most f _ _)))).imp ?_
   rintro ⟨-, h1, ⟨h2, h3⟩, h4⟩ h5 h6 h7
   have hne : o.length ≠ most := fun h => by
    obtain ⟨e1, e2⟩ := h1 h
    rw [e1, e2] at h3
    cases h3
   exact h4 (by rw [List.all_append, h5]; simp [h2]) (by rw [List.length_append]; omega) (by rw [List.length_append]; simp; omega)
theorem Aww (most : Nat) (hm : 1 ≤ most) (x : RS) : Rr x (B3 (most : Int) x).2 (rowB most (B3 (most : Int) x).1 = true) :=
 ((Ep x).then (Awx most _ _ _)).imp fun ⟨h1, h2⟩ => h2 (by simp [h1.1]) (by simp) (by simpa using hm)
theorem Rg {n : Int} (h : numB n = true) : 0 ≤ n ∧ n ≤ 999999999999999999 := by
 unfold numB at h
 simpa using h
theorem rr_head (x : RS) : Rr x (Cf x).2 (Hu (Cf x).1 = true) :=
 ((Ep x).then ((C4 _ _).then ((C4 _ _).then ((Awu _ _).then ((C4 _ _).then ((Cx _ _).then ((Nc (fun _ => Ig _) (fun _ => Gf _)).then ((C4 _ _).then ((C4 _ _).then ((C4 _ _).then ((C4 _ _).then (Cx _ _)))))))))))).imp
  fun ⟨h1, h2, h3, h4, h5, _, _, h6, h7, h8, h9, _⟩ => by
   have h6 := Rg h6
   unfold Hu
   simp only [Bool.and_eq_true, Bool.not_eq_true', decide_eq_false_iff_not, and_true]
   refine ⟨h1.1, h2, h3, h4, h5, ?_, ?_, h7, h8, h9⟩
   ·show ¬ (bif _ then negI .i64 _ else _) < _
    generalize (numR [] _).1 = g at h6 ⊢
    cases Aw ([45] : List Int) _
    ·simp only [cond_false]; omega
    ·simp only [cond_true, negI]
     rw [w64 (by omega)]; omega
   ·show ¬ (bif _ then negI .i64 _ else _) > _
    generalize (numR [] _).1 = g at h6 ⊢
    cases Aw ([45] : List Int) _
    ·simp only [cond_false]; omega
    ·simp only [cond_true, negI]
     rw [w64 (by omega)]; omega
theorem rr_walk (x : RS) : Rr x (Ci x).2 (pedB (Ci x).1 = true) :=
 ((Ep x).then ((Cx _ _).then ((Ep _).then ((C4 _ _).then ((C4 _ _).then ((C4 _ _).then (Cx _ _))))))).imp
  fun ⟨h1, _, h2, h3, h4, h5, _⟩ => by
   unfold pedB
   simp only [Bool.and_eq_true, and_true]
   exact ⟨h1.1, h2.1, h3, h4, h5⟩
theorem Bjd (x : RS) : Rr x (Cq x).2 (Jl (Cq x).1 = true) :=
 ((Ep x).then ((Cx _ _).then (Aww 16 (by omega) _))).imp
  fun ⟨h1, _, h2⟩ => by
   unfold Jl
   simp only [Bool.and_eq_true, and_true]
   exact ⟨h1.1, h2⟩
theorem rr_ring (x : RS) : Rr x (B0 x).2 (K8 (B0 x).1 = true) :=
 ((Nc (fun _ => Ig _) (fun _ => Gf _)).then (Aww 4 (by omega) _)).imp And.right
theorem rr_foe (x : RS) : Rr x (foeR x).2 (foeB (foeR x).1 = true) :=
 ((Ep x).then ((Ep _).then (Cx _ _))).imp
  fun ⟨h1, h2, _⟩ => by
   unfold foeB
   simp only [Bool.and_eq_true, and_true]
   exact ⟨h1.1, h2.1⟩
theorem rr_stop (x : RS) : Rr x (Cg x).2 (Gh (Cg x).1 = true) :=
 ((Ep x).then ((Cx _ _).then ((Ep _).then ((Cx _ _).then ((Ep _).then ((C4 _ _).then ((C4 _ _).then (Cx _ _)))))))).imp
  fun ⟨h1, _, h2, _, h3, h4, h5, _⟩ => by
   unfold Gh
   simp only [Bool.and_eq_true, and_true]
   exact ⟨h1.1, h2.1, h3.1, h4, h5⟩
theorem Au5 {α : Type} (w : List Int) (most : Int) (item : RS → α × RS) : ∀ (f : Nat) (x : RS) (o : List α), o.length ≤ (Bl w most item f x o).1.length
 | 0, x, o => Nat.le_refl _
 | f + 1, x, o => by
  rw [Bl]
  cases (A3 w ((o.length : Nat) : Int) most x).1
  ·exact Nat.le_refl _
  ·simp only [cond_true]
   refine Nat.le_trans ?_ (Au5 w most item f _ _)
   simp
theorem Bf5 {α : Type} {w : List Int} {most : Int} (hm : 0 < most) (item : RS → α × RS) {x : RS} (h : Aw w x = true) : 1 ≤ (Ay w most item x).1.length := by
 unfold Ay
 have e : A3 w (((([] : List α).length : Nat) : Int)) most x = (true, A0 x) := by
  unfold A3
  have : ((((([] : List α).length : Nat) : Int)) == most) = false := by simp; omega
  rw [h, this]
  rfl
 rw [Bl, e]
 simp only [cond_true]
 exact Nat.le_trans (by simp) (Au5 w most item _ _ _)
theorem Bjc (x : RS) : Rr x (Ce x).2 (Gu (Ce x).1 = true) := by
 have hb : ∀ a : RS, Rr a (bif Aw ([114, 105, 110, 103] : List Int) a then a else A5 50 a) (Aw ([114, 105, 110, 103] : List Int) (bif Aw ([114, 105, 110, 103] : List Int) a then a else A5 50 a) = true) := fun a => by
  cases h : Aw ([114, 105, 110, 103] : List Int) a
  ·exact (Jn 50 (by decide) a).imp False.elim
  ·exact (Gf a).imp fun _ => h
 refine ((Cx ([123] : List Int) x).then ((hb _).then ((If (by decide) rr_ring _).then (Cx _ _)))).imp ?_
 rintro ⟨-, h1, ⟨h2, h3⟩, -⟩
 have h4 := Bf5 (most := 2) (by decide) B0 h1
 unfold Gu
 unfold leB at h3
 simp only [Bool.and_eq_true, Bool.not_eq_true', decide_eq_false_iff_not] at h3 ⊢
 refine ⟨?_, h3, h2⟩
 show ¬ (((Ay ([114, 105, 110, 103] : List Int) 2 B0 _).1.length : Nat) : Int) < 1
 have h4 : 1 ≤ (Ay ([114, 105, 110, 103] : List Int) 2 B0 (bif Aw ([114, 105, 110, 103] : List Int) (Aj ([123] : List Int) x) then Aj ([123] : List Int) x else A5 50 (Aj ([123] : List Int) x))).1.length := h4
 omega
theorem rr_node (x : RS) : Rr x (Bu x).2 (Gz (Bu x).1 = true) :=
 ((Ep x).then ((Cx _ _).then ((If (by decide) rr_head _).then ((If (by decide) rr_walk _).then ((If (by decide) Bjd _).then ((If (by decide) Bjc _).then ((If (by decide) rr_foe _).then (Cx _ _)))))))).imp
  fun ⟨h1, _, h2, h3, h4, h5, h6, _⟩ => by
   unfold Gz
   simp only [Bool.and_eq_true]
   exact ⟨h1.1, h2.2, h3.2, h4.2, h5.2, h6.2, h2.1, h3.1, h4.1, h5.1, h6.1⟩
theorem Bja (x : RS) : Rr x (Bf x).2 ((Bf x).1.1.all Gh = true ∧ leB (Bf x).1.1 12 = true ∧ numB (Bf x).1.2.1 = true ∧ numB (Bf x).1.2.2 = true) :=
 ((Cx _ x).then ((If (by decide) rr_stop _).then ((C4 _ _).then ((C4 _ _).then ((Cx _ _).then (Cx _ _)))))).imp
  fun ⟨_, h1, h2, h3, _⟩ => ⟨h1.1, h1.2, h2, h3⟩
theorem rr_art (x : RS) : Rr x (bif Aw ([97, 114, 116, 101, 114, 121] : List Int) x then Bf (A0 x) else (([], 0, 0), x)).2
  ((bif Aw ([97, 114, 116, 101, 114, 121] : List Int) x then Bf (A0 x) else (([], 0, 0), x)).1.1.all Gh = true ∧ leB (bif Aw ([97, 114, 116, 101, 114, 121] : List Int) x then Bf (A0 x) else (([], 0, 0), x)).1.1 12 = true ∧
   numB (bif Aw ([97, 114, 116, 101, 114, 121] : List Int) x then Bf (A0 x) else (([], 0, 0), x)).1.2.1 = true ∧ numB (bif Aw ([97, 114, 116, 101, 114, 121] : List Int) x then Bf (A0 x) else (([], 0, 0), x)).1.2.2 = true) := by
 cases Aw ([97, 114, 116, 101, 114, 121] : List Int) x
 ·exact (Gf x).imp fun _ => ⟨rfl, rfl, rfl, rfl⟩
 ·exact ((Ig x).then (Bja _)).imp And.right
theorem rr_net (x : RS) : Rr x (netR x).2 (netB (netR x).1 = true) :=
 ((C4 _ x).then ((C4 _ _).then ((C4 _ _).then ((Cx _ _).then ((Awu _ _).then ((Cx _ _).then ((If (by decide) rr_node _).then ((rr_art _).then (Nc (fun _ => (Jn 50 (by decide) _).imp fun _ => trivial) (fun _ => Gf _)))))))))).imp
  fun ⟨h1, h2, h3, _, h4, _, h5, h6, _⟩ => by
   unfold netB
   simp only [Bool.and_eq_true]
   exact ⟨h1, h2, h3, h4, h6.2.2.1, h6.2.2.2, h5.2, h6.2.1, h5.1, h6.1⟩
theorem Bkq {w : List Int} {c : Int} {r : List Int} (e : w = c :: r) (hc : Bot c = true) (hl : ¬ 24 < w.length) (hall : ∀ y ∈ w, Bd y = true) : Ge 1 w 0 = true := by
 obtain ⟨t1, t2⟩ := Lc (s := []) hall (fun c r h => by cases h)
 rw [List.append_nil] at t1 t2
 subst e
 have e : c ≠ 35 ∧ Bz c = false := by
  unfold Bot at hc
  unfold Bz
  simp at hc ⊢
  omega
 unfold Ge
 rw [decide_eq_true_eq]
 refine ⟨by simp, ?_, ?_⟩
 ·rw [drp, if_neg e.1, e.2]; rfl
 ·rw [tok1, hc, t1, t2, if_pos rfl, if_neg hl]
theorem tok1_g (s : List Int) : TokG ((tok1 s).2.1, (tok1 s).2.2.1, (tok1 s).2.2.2.1, 0, ()) := by
 cases s with
 | nil => exact ⟨fun h => (by cases h), fun h => (by cases h)⟩
 | cons x r =>
  rw [tok1]
  split
  ·rename_i hs
   split
   ·exact ⟨fun h => (by cases h), fun h => (by cases h)⟩
   ·rename_i hl
    refine ⟨fun _ => ?_, fun h => (by cases h)⟩
    have hx : Bd x = true := by unfold Bd; rw [hs]; rfl
    have e : (x :: r).takeWhile Bd = x :: r.takeWhile Bd := by rw [List.takeWhile_cons, hx]; rfl
    exact Bkq e hs hl fun y hy => Jd hy
  ·split
   ·split
    ·exact ⟨fun h => (by cases h), fun h => (by cases h)⟩
    ·rename_i hl
     refine ⟨fun h => (by cases h), fun _ => ?_⟩
     have := A1b ((x :: r).takeWhile A1) 0 0 (by decide) (by decide) fun c hc => Jd hc
     have hp : (10 : Int) ^ (0 + ((x :: r).takeWhile A1).length) ≤ 10 ^ 18 := by
      rw [Nat.zero_add]
      exact_mod_cast Nat.pow_le_pow_right (by decide) (by omega)
     show numB (valD ((x :: r).takeWhile A1)) = true
     unfold numB valD
     simp only [Bool.and_eq_true, decide_eq_true_eq]
     have h18 : (10 : Int) ^ 18 = 1000000000000000000 := by decide
     omega
   ·split
    ·exact ⟨fun h => (by cases h), fun h => (by cases h)⟩
    ·exact ⟨fun h => (by cases h), fun h => (by cases h)⟩
theorem lx_g (n : Nat) : ∀ (f : Nat) (s : List Int), ∀ t ∈ (lx n f s).2.2, TokG t
 | 0, s, t, h => by cases h
 | f + 1, s, t, h => by
  rw [lx] at h
  cases hd : drp false s with
  | nil =>
   rw [hd] at h
   rcases List.mem_cons.1 h with rfl | h
   ·exact ⟨fun h => (by cases h), fun h => (by cases h)⟩
   ·cases h
  | cons x r =>
   rw [hd] at h
   simp only [] at h
   split at h
   ·split at h
    ·rcases List.mem_cons.1 h with rfl | h
     ·exact tok1_g (x :: r)
     ·exact lx_g n f _ t h
    ·cases h
   ·cases h
theorem toks_g (b : List Int) : Gd (toks b).2.2 := by
 intro t h
 unfold toks at h
 split at h
 ·cases h
 ·exact lx_g _ _ _ t h
theorem Biz {b : List Int} (h : (Cp b).2.1 = 0) : netB (Cp b).1 = true := by
 have hn := (rr_net ((toks b).2.2, 0, 0)).p (toks_g b)
 unfold Cp at h ⊢
 cases h0 : (toks b).1 != 0 <;> rw [h0] at h
 ·simp only [cond_false] at h ⊢
  cases h1 : (netR ((toks b).2.2, 0, 0)).2.2.1 != 0 <;> rw [h1] at h
  ·exact (hn (by simpa using h1)).2
  ·simp only [cond_true] at h
   rw [h] at h1
   cases h1
 ·simp only [cond_true] at h
  rw [h] at h0
  cases h0
theorem Ja {α : Type} {l : List α} {m : Int} (h : leB l m = true) : ((l.length : Nat) : Int) ≤ m := by
 unfold leB at h
 simp only [Bool.not_eq_true', decide_eq_false_iff_not] at h
 omega
theorem L4 : ∀ (m : Bool) (a b : List Int), drp m a = [] → drp m (a ++ 10 :: b) = drp false b
 | true, [], b, _ => by simp [drp]
 | false, [], b, _ => by simp [drp, Bz]
 | true, x :: a, b, h => by
  rw [drp] at h
  rw [List.cons_append, drp]
  split at h
  ·rename_i e; rw [if_pos e]; exact L4 false a b h
  ·rename_i e; rw [if_neg e]; exact L4 true a b h
 | false, x :: a, b, h => by
  rw [drp] at h
  rw [List.cons_append, drp]
  split at h
  ·rename_i e; rw [if_pos e]; exact L4 true a b h
  ·rename_i e
   rw [if_neg e]
   split at h
   ·rename_i e2; rw [if_pos e2]; exact L4 false a b h
   ·cases h
theorem J1 : ∀ (m : Bool) (a t : List Int) {x : Int} {r : List Int}, drp m a = x :: r → drp m (a ++ t) = x :: r ++ t
 | true, [], t, x, r, h => by simp [drp] at h
 | false, [], t, x, r, h => by simp [drp] at h
 | true, y :: a, t, x, r, h => by
  rw [drp] at h
  rw [List.cons_append, drp]
  split at h
  ·rename_i e; rw [if_pos e]; exact J1 false a t h
  ·rename_i e; rw [if_neg e]; exact J1 true a t h
 | false, y :: a, t, x, r, h => by
  rw [drp] at h
  rw [List.cons_append, drp]
  split at h
  ·rename_i e; rw [if_pos e]; exact J1 true a t h
  ·rename_i e
   rw [if_neg e]
   split at h
   ·rename_i e2; rw [if_pos e2]; exact J1 false a t h
   ·rename_i e2; rw [if_neg e2, ← h]; rfl
def R0 (d : Nat) (t : Tk) : Tk := (t.1, t.2.1, t.2.2.1, t.2.2.2.1 + (d : Int), ())
theorem Au9 (d n : Nat) : ∀ (f : Nat) (s : List Int), s.length ≤ n → (lx n f s).1 = 0 → lx (d + n) f s = (0, 0, (lx n f s).2.2.map (R0 d))
 | 0, s, _, _ => rfl
 | f + 1, s, hs, h => by
  have hl := J3 false s
  rw [lx] at h ⊢
  rw [lx]
  cases hd : drp false s with
  | nil =>
   simp only [List.map_cons, List.map_nil, R0]
   rw [show ((d + n : Nat) : Int) = (n : Int) + (d : Int) by omega]
  | cons x r =>
   rw [hd] at h hl
   simp only [] at h ⊢
   by_cases h0 : (tok1 (x :: r)).1 = 0
   ·have hr := Jo h0
    rw [List.length_cons] at hl
    rw [if_pos h0] at h ⊢
    by_cases h1 : (lx n f (tok1 (x :: r)).2.2.2.2).1 = 0
    ·have IH := Au9 d n f _ (by omega) h1
     rw [if_pos h0, if_pos h1, if_pos (by rw [IH])]
     simp only [IH, List.map_cons, R0]
     rw [show ((d + n - (x :: r).length : Nat) : Int) = ((n - (x :: r).length : Nat) : Int) + (d : Int) by rw [List.length_cons]; omega]
    ·rw [if_neg h1] at h; exact absurd h h1
   ·rw [if_neg h0] at h; exact absurd h h0
theorem lx_join (na : Nat) (b : List Int) (g : Nat) (hg : b.length < g) (hb : (lx b.length g b).1 = 0) : ∀ (f : Nat) (s : List Int), s.length < f → s.length ≤ na → (lx na f s).1 = 0 →
  lx (na + 1 + b.length) (f + g) (s ++ 10 :: b) = (0, 0, (lx na f s).2.2.dropLast ++ (lx b.length g b).2.2.map (R0 (na + 1)))
 | 0, s, h, _, _ => by omega
 | f + 1, s, hs, hn, h => by
  have hl := J3 false s
  cases hd : drp false s with
  | nil =>
   have e : lx (na + 1 + b.length) (f + 1 + g) (s ++ 10 :: b) = lx (na + 1 + b.length) g b := by
    rw [Abd _ g (f + 1 + g) b hg (by omega), show f + 1 + g = (f + g) + 1 by omega, lx, lx, L4 false s b hd]
   rw [e, Au9 (na + 1) b.length g b (Nat.le_refl _) hb, lx, hd]
   rfl
  | cons x r =>
   rw [lx, hd] at h
   rw [hd] at hl
   simp only [] at h
   rw [show f + 1 + g = (f + g) + 1 by omega, lx, J1 false s (10 :: b) hd, lx, hd]
   rw [List.cons_append]
   simp only []
   rw [← List.cons_append]
   by_cases h0 : (tok1 (x :: r)).1 = 0
   ·have hr := Jo h0
    rw [List.length_cons] at hl
    have et := A03 (c := 10) (b := b) (by decide) h0
    rw [if_pos h0] at h
    by_cases h1 : (lx na f (tok1 (x :: r)).2.2.2.2).1 = 0
    ·have IH := lx_join na b g hg hb f _ (by omega) (by omega) h1
     simp only [et, if_true, if_pos h0, if_pos h1, IH]
     have hne : (lx na f (tok1 (x :: r)).2.2.2.2).2.2 ≠ [] := by
      cases f with
      | zero => omega
      | succ f =>
       rw [lx] at h1 ⊢
       cases hd2 : drp false (tok1 (x :: r)).2.2.2.2 with
       | nil => simp
       | cons y q =>
        rw [hd2] at h1
        simp only [] at h1 ⊢
        split at h1
        ·rename_i g0
         rw [if_pos g0]
         split at h1
         ·rename_i g1; rw [if_pos g1]; simp
         ·rename_i g1; exact absurd h1 g1
        ·rename_i g0; exact absurd h1 g0
     rw [List.dropLast_cons_of_ne_nil hne, List.cons_append]
     have ep : na + 1 + b.length - (x :: (r ++ 10 :: b)).length = na - (x :: r).length := by
      simp only [List.length_append, List.length_cons]
      omega
     rw [ep]
     rfl
    ·rw [if_neg h1] at h; exact absurd h h1
   ·rw [if_neg h0] at h; exact absurd h h0
theorem lx_ne (n : Nat) : ∀ (f : Nat) (s : List Int), s.length < f → (lx n f s).1 = 0 → 0 < (lx n f s).2.2.length
 | 0, s, h, _ => by omega
 | f + 1, s, hs, h1 => by
  rw [lx] at h1 ⊢
  cases hd2 : drp false s with
  | nil => simp
  | cons y q =>
   rw [hd2] at h1
   simp only [] at h1 ⊢
   split at h1
   ·rename_i g0
    rw [if_pos g0]
    split at h1
    ·rename_i g1; rw [if_pos g1]; simp
    ·rename_i g1; exact absurd h1 g1
   ·rename_i g0; exact absurd h1 g0
theorem lx_many (n : Nat) : ∀ (f : Nat) (s : List Int), (lx n f s).2.2.length ≤ f
 | 0, s => Nat.le_refl _
 | f + 1, s => by
  rw [lx]
  have IH := lx_many n f
  cases hd2 : drp false s with
  | nil => simp
  | cons y q =>
   simp only []
   split
   ·split
    ·rw [List.length_cons]; have := IH (tok1 (y :: q)).2.2.2.2; omega
    ·simp
   ·simp
def rgt (t : Tk) : Bool := Ge t.1 t.2.1 t.2.2.1
theorem rgt_kd {t : Tk} (h : rgt t = true) : t.1 ≠ 0 ∧ t.2.1.length ≤ 24 := by
 unfold rgt Ge at h
 rw [decide_eq_true_eq] at h
 obtain ⟨h1, h2, h3⟩ := h
 cases hx : t.2.1 with
 | nil => exact absurd hx h1
 | cons x r =>
  rw [hx] at h3
  have := Ng (x := x) (r := r) (by rw [h3])
  rw [h3] at this
  exact ⟨this.2.2.1, this.2.2.2⟩
def splT : List Tk → List Int
 | [] => []
 | t :: r => 32 :: t.2.1 ++ splT r
def spl : List Tk → List Int
 | [] => []
 | t :: r => t.2.1 ++ splT r
theorem A05 {p : Int → Bool} {l : List Int} : (l.takeWhile p).takeWhile p = l.takeWhile p ∧ (l.takeWhile p).dropWhile p = [] := by
 have := Lc (p := p) (l := l.takeWhile p) (fun y hy => Jd hy) (s := []) (fun c r h => by cases h)
 rw [List.append_nil] at this
 exact this
theorem Bkf {x : Int} {r : List Int} (h : (tok1 (x :: r)).1 = 0) : ∃ q, (tok1 (x :: r)).2.2.1 = x :: q ∧ tok1 (x :: q) = (0, (tok1 (x :: r)).2.1, x :: q, (tok1 (x :: r)).2.2.2.1, []) := by
 rw [tok1] at h ⊢
 split at h
 ·rename_i h1
  have hx : Bd x = true := by unfold Bd; rw [h1]; rfl
  have e : (x :: r).takeWhile Bd = x :: r.takeWhile Bd := by rw [List.takeWhile_cons, hx]; rfl
  obtain ⟨t1, t2⟩ := A05 (p := Bd) (l := x :: r)
  rw [if_pos h1]
  split at h
  ·cases h
  ·rename_i h2
   rw [if_neg h2]
   refine ⟨r.takeWhile Bd, e, ?_⟩
   rw [e] at t1 t2 h2
   rw [tok1, if_pos h1, t1, t2, if_neg h2]
   first | done | simp only [e]
 ·rename_i h1
  rw [if_neg h1]
  split at h
  ·rename_i h3
   have e : (x :: r).takeWhile A1 = x :: r.takeWhile A1 := by rw [List.takeWhile_cons, h3]; rfl
   obtain ⟨t1, t2⟩ := A05 (p := A1) (l := x :: r)
   rw [if_pos h3]
   split at h
   ·cases h
   ·rename_i h2
    rw [if_neg h2]
    refine ⟨r.takeWhile A1, e, ?_⟩
    rw [e] at t1 t2 h2
    rw [tok1, if_neg h1, if_pos h3, t1, t2, if_neg h2]
    first | done | simp only [e]
  ·rename_i h3
   rw [if_neg h3]
   split at h
   ·rename_i h4
    rw [if_pos h4]
    exact ⟨[], rfl, by rw [tok1, if_neg h1, if_neg h3, if_pos h4]⟩
   ·cases h
theorem lx_good (n : Nat) : ∀ (f : Nat) (s : List Int), s.length < f → (lx n f s).1 = 0 → ∃ g p, (lx n f s).2.2 = g ++ [(0, [], 0, p, ())] ∧ (∀ t ∈ g, rgt t = true) ∧ (splT g).length ≤ 2 * s.length
 | 0, s, h, _ => by omega
 | f + 1, s, hs, h => by
  have hl := J3 false s
  rw [lx] at h ⊢
  cases hd : drp false s with
  | nil => exact ⟨[], _, rfl, fun t ht => (by cases ht), Nat.zero_le _⟩
  | cons x r =>
   rw [hd] at h hl
   simp only [] at h ⊢
   by_cases h0 : (tok1 (x :: r)).1 = 0
   ·rw [if_pos h0] at h ⊢
    by_cases h1 : (lx n f (tok1 (x :: r)).2.2.2.2).1 = 0
    ·rw [if_pos h1]
     have hr := Jo h0
     rw [List.length_cons] at hl
     obtain ⟨g, p, e1, e2, e3⟩ := lx_good n f _ (by omega) h1
     have hh := J2 false s hd
     obtain ⟨q, q1, q2⟩ := Bkf h0
     have hs1 := Ng h0
     refine ⟨_ :: g, p, congrArg (List.cons _) e1, fun t ht => ?_, ?_⟩
     ·rcases List.mem_cons.1 ht with rfl | ht
      ·show Ge (tok1 (x :: r)).2.1 (tok1 (x :: r)).2.2.1 (tok1 (x :: r)).2.2.2.1 = true
       unfold Ge
       rw [decide_eq_true_eq, q1, q2]
       refine ⟨by simp, ?_, rfl⟩
       rw [drp, if_neg hh.1, if_neg (by rw [hh.2]; decide)]
      ·exact e2 t ht
     ·have e := congrArg List.length hs1.1
      rw [List.length_append, List.length_cons] at e
      show (32 :: (tok1 (x :: r)).2.2.1 ++ splT g).length ≤ _
      rw [List.length_append, List.length_cons]
      have : 1 ≤ (tok1 (x :: r)).2.2.1.length := by rw [q1]; simp
      omega
    ·rw [if_neg h1] at h; exact absurd h h1
   ·rw [if_neg h0] at h; exact absurd h h0
theorem lx_spl (n : Nat) : ∀ (l : List Tk), (∀ t ∈ l, rgt t = true) → ∀ (f : Nat), (spl l).length < f → (lx n f (spl l)).1 = 0 ∧ (lx n f (spl l)).2.2.map strip = l.map strip ++ [(0, [], 0)]
 | [], _, 0, h => by omega
 | [], _, f + 1, _ => by
  rw [show spl [] = [] from rfl, lx]
  exact ⟨rfl, rfl⟩
 | t :: r, hr, 0, h => by omega
 | t :: r, hr, f + 1, h => by
  have ht := hr t (by simp)
  unfold rgt Ge at ht
  rw [decide_eq_true_eq] at ht
  obtain ⟨h1, h2, h3⟩ := ht
  cases hx : t.2.1 with
  | nil => exact absurd hx h1
  | cons x q =>
   rw [hx] at h2 h3
   cases r with
   | nil =>
    have e : spl [t] = x :: q := by rw [spl, hx]; simp [splT]
    rw [e] at h ⊢
    rw [lx, h2]
    simp only [h3, if_true]
    have hf : ∃ g, f = g + 1 := ⟨f - 1, by simp at h; omega⟩
    obtain ⟨g, rfl⟩ := hf
    rw [lx]
    simp [drp, strip, hx]
   | cons u r =>
    have e : spl (t :: u :: r) = x :: q ++ 32 :: spl (u :: r) := by
     rw [spl, splT, spl, hx]
     simp
    rw [e, List.length_append, List.length_cons, List.length_cons] at h
    have et := A03 (c := 32) (by decide) (x := x) (r := q) (b := spl (u :: r)) (by rw [h3])
    rw [h3] at et
    simp only [List.nil_append] at et
    have IH := lx_spl n (u :: r) (fun v hv => hr v (by simp [hv])) f (by omega)
    have e32 : lx n f (32 :: spl (u :: r)) = lx n f (spl (u :: r)) := by
     cases f with
     | zero => rfl
     | succ f => rw [lx, lx, drp, if_neg (by decide), if_pos (by decide)]
    rw [e, lx, J1 false _ _ h2]
    rw [List.cons_append]
    simp only []
    rw [← List.cons_append]
    simp only [et, if_true, e32, IH.1]
    refine ⟨trivial, ?_⟩
    rw [List.map_cons, IH.2]
    simp [strip, hx]
theorem ex_lt {s : List Int} {k : Nat} (hk : 200000 ≤ k) (h : decide (s.length < 200000) = true) : s.length < k := Nat.lt_of_lt_of_le (of_decide_eq_true h) hk
theorem Ads (k : Nat) (hk : 200000 ≤ k) (u : Unit) : L1 k u = some true := by
 rw [Be4, At4]
 rw [Rf k hk ([99, 121, 99, 108, 101, 32, 54, 48, 48, 32, 116, 111, 32, 57, 48, 48, 32, 98, 121, 32, 49, 48, 59, 32, 112, 101, 97, 107, 32, 49, 47, 49, 59] : List Int) (ex_lt hk (by kernel_rfl)) (of_decide_eq_true (by kernel_rfl)), Rf k hk ([99, 121, 99, 108, 101, 32, 54, 48, 48, 59] : List Int) (ex_lt hk (by kernel_rfl)) (of_decide_eq_true (by kernel_rfl)),
  Rf k hk ([99, 121, 99, 108, 101, 32, 49, 32, 116, 111, 32, 50, 32, 98, 121, 32, 51, 59, 32, 112, 101, 97, 107, 32, 52, 47, 53, 59, 32, 110, 111, 100, 101, 32, 97, 32, 123, 32, 104, 101, 97, 100, 32, 104, 32, 118, 111, 108, 117, 109, 101, 32, 54, 32, 102, 108, 111, 119, 32, 55, 32, 117, 115, 101, 32, 56, 47, 57, 32, 115, 112, 101, 101, 100, 32, 49, 48, 32, 103, 114, 97, 100, 101, 32, 45, 49, 49, 32, 119, 105, 100, 116, 104, 32, 49, 50, 32, 108, 101, 110, 103, 116, 104, 32, 49, 51, 32, 103, 114, 101, 101, 110, 32, 49, 52, 59, 32, 112, 104, 97, 115, 101, 32, 112, 58, 32, 104, 59, 32, 103, 114, 111, 117, 112, 32, 123, 32, 114, 105, 110, 103, 32, 112, 59, 32, 125, 32, 125] : List Int) (ex_lt hk (by kernel_rfl)) (of_decide_eq_true (by kernel_rfl))]
 kernel_rfl
theorem rd_at {α : Type} {d : α} {l : List α} {i : Nat} {x : α} (h : l[i]? = some x) : inB (i : Int) l.length = true ∧ rdA d l (Int.toNat (i : Int)) = x := by
 have e := Bw (d := d) (K := fun y => some y) h
 unfold idx at e
 cases hb : inB (i : Int) l.length <;> rw [hb] at e
 ·cases e
 ·exact ⟨rfl, Option.some.inj e⟩
section
variable (k : Nat) (hk : 1000 ≤ k)
include hk
theorem Bi6 (g : List YT4) (hg : ∀ r ∈ g, 1 ≤ r.2.1.length ∧ r.2.1.length ≤ 4) (hl : g.length ≤ 2) (j9 j15 : Nat) (a0 a1 a3 a4 a5 a6 a7 a8 a9 : Int) (a10 : List Int) (a11 : List YT1) (a12 : List YT2) (a13 : List YT3) (a14 : List (List YT4 × Unit)) (a15 : List YT5) (a16 : Int) (a18 : List YT6) (a19 : List YT7) :
  (Bs k).L 21 [j9, j15] k (Kq (a0, a1, 0, a3, a4, a5, a6, a7, a8, a9, a10, a11, a12, a13, a14, a15, a16, g, a18, a19)) =
   (Bs k).L 15 [j9] j15 (Hr (a0, IntKind.wrap .i64 (a1 + 1), a3, a4, a5, a6, a7, a8, a9, a10, a11, a12, a13, a14, a15, a16, a18, a19)) := by
 have h := Nq g (fun _ => true) (fun j i => (Bs k).L 21 [j9, j15] j (Kq (a0, a1, i, a3, a4, a5, a6, a7, a8, a9, a10, a11, a12, a13, a14, a15, a16, g, a18, a19))) none
  ((Bs k).L 15 [j9] j15 (Hr (a0, IntKind.wrap .i64 (a1 + 1), a3, a4, a5, a6, a7, a8, a9, a10, a11, a12, a13, a14, a15, a16, a18, a19))) (fun j i x hx => ?_) (fun j => ?_) k (by omega)
 ·rw [if_pos (List.all_eq_true.2 fun _ _ => rfl)] at h
  exact h
 ·have := hg x (Hj hx)
  rw [Aty, Q2, Em hx, Bw hx, show decide (((List.length x.2.1 : Nat) : Int) < (1 : Int)) = false by simp; omega, cond_false, Bw hx, show decide (((List.length x.2.1 : Nat) : Int) > (4 : Int)) = false by simp; omega, cond_false, Eu hx (by omega), if_pos rfl]
 ·rw [Aty, Q2, En]
theorem Bfb (g : List (List YT4 × Unit)) (hg : ∀ r ∈ g, Gu r = true) (hl : g.length ≤ 4) (j9 : Nat) (a0 a2 a3 a4 a5 a6 a7 a8 : Int) (a9 : List Int) (a10 : List YT1) (a11 : List YT2) (a12 : List YT3) (a14 : List YT5) (a15 : Int) (a16 : List YT6) (a17 : List YT7) :
  (Bs k).L 15 [j9] k (Hr (a0, 0, a2, a3, a4, a5, a6, a7, a8, a9, a10, a11, a12, g, a14, a15, a16, a17)) =
   (Bs k).L 9 [] j9 (Hs (IntKind.wrap .i64 (a0 + 1), a2, a3, a4, a5, a6, a7, a8, a16, a17)) := by
 have h := Nq g (fun _ => true) (fun j i => (Bs k).L 15 [j9] j (Hr (a0, i, a2, a3, a4, a5, a6, a7, a8, a9, a10, a11, a12, g, a14, a15, a16, a17))) none
  ((Bs k).L 9 [] j9 (Hs (IntKind.wrap .i64 (a0 + 1), a2, a3, a4, a5, a6, a7, a8, a16, a17))) (fun j i x hx => ?_) (fun j => ?_) k (by omega)
 ·rw [if_pos (List.all_eq_true.2 fun _ _ => rfl)] at h
  exact h
 ·have hB := hg x (Hj hx)
  unfold Gu at hB
  simp only [Bool.and_eq_true, Bool.not_eq_true', decide_eq_false_iff_not, List.all_eq_true] at hB
  rw [Atx, Q1, Em hx, Bw hx, show decide (((List.length x.1 : Nat) : Int) < (1 : Int)) = false by simp; omega, cond_false, show decide (((List.length x.1 : Nat) : Int) > (2 : Int)) = false by simp; omega, cond_false,
   Bi6 k hk x.1 (fun r hr => (Rx (hB.2.2 r hr)).1) (by omega), Eu hx (by omega), if_pos rfl]
 ·rw [Atx, Q1, En]
theorem Bgl (hk2 : 200000 ≤ k) (g : List YT6) (hg : ∀ r ∈ g, Gz r = true) (hl : g.length ≤ 12) (a1 a2 a3 a4 a5 a6 a7 : Int) (a9 : List YT7) :
  (Bs k).L 9 [] k (Hs (0, a1, a2, a3, a4, a5, a6, a7, g, a9)) = some true := by
 have h := Nq g (fun _ => true) (fun j i => (Bs k).L 9 [] j (Hs (i, a1, a2, a3, a4, a5, a6, a7, g, a9))) none (some true) (fun j i x hx => ?_) (fun j => ?_) k (by omega)
 ·rw [if_pos (List.all_eq_true.2 fun _ _ => rfl)] at h
  exact h
 ·have hB := hg x (Hj hx)
  obtain ⟨i1, i2⟩ := rd_at (d := zt6) hx
  unfold Gz at hB
  simp only [Bool.and_eq_true, List.all_eq_true] at hB
  obtain ⟨h0, l1, l2, l3, l4, l5, -, -, -, p4, -⟩ := hB
  have l1 := Ja l1
  have l2 := Ja l2
  have l3 := Ja l3
  have l4 := Ja l4
  have l5 := Ja l5
  have hr : resB x.1 = false := by
   unfold Bq at h0
   simp only [Bool.and_eq_true, Bool.not_eq_true'] at h0
   exact h0.2
  rw [Atz, Q3, Em hx, i1, cond_true, i2, show decide (((List.length x.2.1 : Nat) : Int) > (16 : Int)) = false by simp; omega, cond_false, show decide (((List.length x.2.2.1 : Nat) : Int) > (8 : Int)) = false by simp; omega, cond_false,
   show decide (((List.length x.2.2.2.1 : Nat) : Int) > (16 : Int)) = false by simp; omega, cond_false, show decide (((List.length x.2.2.2.2.1 : Nat) : Int) > (4 : Int)) = false by simp; omega, cond_false, show decide (((List.length x.2.2.2.2.2.1 : Nat) : Int) > (64 : Int)) = false by simp; omega, cond_false,
   Bje k _ (by omega), Option.bind_some, hr, cond_false, Bfb k hk x.2.2.2.2.1 p4 (by omega), Eu hx (by omega), if_pos rfl]
 ·rw [Atz, Q3, En, Ads k hk2]
  rfl
end
theorem netBounds_pure (b : Be1) : ∃ k, U1 k b = some true := by
 obtain ⟨k, hk⟩ : ∃ k : Nat, k = 200000 := ⟨_, rfl⟩
 refine ⟨k, ?_⟩
 have hk : 200000 ≤ k := by omega
 rw [Be2, Aax]
 by_cases hb : (6000 : Nat) < b.length
 ·rw [show decide (((List.length b : Nat) : Int) > (6000 : Int)) = true by simp; omega]
  rfl
 rw [show decide (((List.length b : Nat) : Int) > (6000 : Int)) = false by simp; omega, cond_false, Rf k hk b (by omega) (by omega), Option.bind_some, Ads k hk]
 have hR := @Biz b
 generalize Cp b = o at hR ⊢
 obtain ⟨⟨a0, a1, a2, a3, a4, a5, a6, a7, a8⟩, e, p⟩ := o
 simp only at hR ⊢
 by_cases he : e = 0
 ·subst he
  have hB := hR rfl
  unfold netB at hB
  simp only [Bool.and_eq_true, List.all_eq_true] at hB
  obtain ⟨n0, n1, n2, -, -, -, l1, l2, p1, p2⟩ := hB
  have l1 := Ja l1
  have l2 := Ja l2
  have n0 := Rg n0
  have n1 := Rg n1
  have n2 := Rg n2
  rw [bne_self_eq_false, cond_false, show decide (((List.length a5 : Nat) : Int) > (12 : Int)) = false by simp; omega, cond_false, show decide (((List.length a6 : Nat) : Int) > (12 : Int)) = false by simp; omega, cond_false,
   show decide (a0 < (0 : Int)) = false by simp; omega, cond_false, show decide (a1 < (0 : Int)) = false by simp; omega, cond_false, show decide (a2 < (0 : Int)) = false by simp; omega, cond_false, Bgl k (by omega) hk a5 p1 (by omega)]
 ·have h2 : (e != 0) = true := by simpa using he
  rw [h2]
  rfl
end Go.Proofs.YtipcdjgcomclkaaGreatDoorV
