import Derived.Test.YtipcdjgcomclkaaGreatDoorF8
import Derived.Test.YtipcdjgcomclkaaGreatDoorF7
/-! Joined, names shortened: QG, QH, LJ, LK, NBo, NLo, NLp, NNo. -/
set_option linter.unusedVariables false
set_option linter.unusedSimpArgs false
set_option maxRecDepth 100000
namespace Go.Proofs.YtipcdjgcomclkaaGreatDoorV
open Go Go.RowKit
def TokG (t : Tk) : Prop := (t.1 = 1 → Ge 1 t.2.1 0 = true) ∧ (t.1 = 2 → numB t.2.2.1 = true)
def Gd (l : List Tk) : Prop := ∀ t ∈ l, TokG t
theorem Gd.suf {x y : RS} (g : Gd x.1) (h : Suf x y) : Gd y.1 := fun t ht => g t (h.subset ht)
theorem Gd.hd {l : List Tk} (g : Gd l) : TokG (hd l) := by
 cases l with
 | nil => exact ⟨fun h => (by cases h), fun h => (by cases h)⟩
 | cons t r => exact g t (by simp)
structure Rr (x y : RS) (P : Prop) : Prop where
 s : Suf x y
 p : Gd x.1 → y.2.1 = 0 → x.2.1 = 0 ∧ P
theorem Rr.imp {x y : RS} {P Q : Prop} (h : Rr x y P) (f : P → Q) : Rr x y Q := ⟨h.s, fun g e => ⟨(h.p g e).1, f (h.p g e).2⟩⟩
theorem Rr.then {x y z : RS} {P Q : Prop} (h : Rr x y P) (h2 : Rr y z Q) : Rr x z (P ∧ Q) :=
 ⟨h.s.trans h2.s, fun g e => ⟨(h.p g (h2.p (g.suf h.s) e).1).1, (h.p g (h2.p (g.suf h.s) e).1).2, (h2.p (g.suf h.s) e).2⟩⟩
theorem Gf (x : RS) : Rr x x True := ⟨Dl x, fun _ e => ⟨e, trivial⟩⟩
theorem Jn (c : Int) (hc : c ≠ 0) (x : RS) : Rr x (A5 c x) False := by
 refine ⟨Ii c x, fun _ e => ?_⟩
 unfold A5 at e
 cases h : x.2.1 == 0 <;> rw [h] at e
 ·simp only [cond_false] at e
  rw [e] at h
  cases h
 ·exact absurd e hc
theorem Ig (x : RS) : Rr x (A0 x) True := by
 refine ⟨D8 x, fun _ e => ⟨?_, trivial⟩⟩
 unfold A0 at e
 cases h : x.2.1 == 0 && (Go.Proofs.YtipcdjgcomclkaaGreatDoorV.hd x.1).1 != 0 <;> rw [h] at e <;> exact e
theorem Nc {x y z : RS} {c : Bool} {P : Prop} (h : c = true → Rr x y P) (h2 : c = false → Rr x z P) : Rr x (bif c then y else z) P := by
 cases c
 ·exact h2 rfl
 ·exact h rfl
theorem Cx (s : List Int) (x : RS) : Rr x (Aj s x) True :=
 ((Nc (c := Aw s x) (fun _ => Gf x) (fun _ => (Jn 50 (by decide) x).imp False.elim)).then (Ig _)).imp fun _ => trivial
theorem Ep (x : RS) : Rr x (Ai x).2 (Bq (Ai x).1 = true ∧ ((hd x.1).1 == 1 && !(resB (hd x.1).2.1)) = true) := by
 unfold Ai
 cases h : (Go.Proofs.YtipcdjgcomclkaaGreatDoorV.hd x.1).1 == 1 && !(resB (Go.Proofs.YtipcdjgcomclkaaGreatDoorV.hd x.1).2.1)
 ·exact (Jn 50 (by decide) x).imp False.elim
 ·refine ⟨D8 x, fun g e => ⟨((Ig x).p g e).1, ?_, rfl⟩⟩
  simp only [Bool.and_eq_true, beq_iff_eq] at h
  unfold Bq
  simp only [cond_true]
  rw [g.hd.1 h.1, h.2]
  rfl
theorem Bp9 (x : RS) : Rr x (numC x).2 (numB (numC x).1 = true) := by
 unfold numC
 cases h : (Go.Proofs.YtipcdjgcomclkaaGreatDoorV.hd x.1).1 == 2
 ·exact (Jn 50 (by decide) x).imp False.elim
 ·refine ⟨D8 x, fun g e => ⟨((Ig x).p g e).1, g.hd.2 (by simpa using h)⟩⟩
theorem C4 (w : List Int) (x : RS) : Rr x (numR w x).2 (numB (numR w x).1 = true) :=
 ((Nc (c := w == []) (fun _ => Gf x) (fun _ => Cx w x)).then (Bp9 _)).imp And.right
theorem Awu (w : List Int) (x : RS) : Rr x (C1 w x).2 (numB (C1 w x).1.1 = true ∧ numB (C1 w x).1.2 = true) := (C4 w x).then (C4 _ _)
theorem Bjb (w : List Int) (a m : Int) (x : RS) : Rr x (A3 w a m x).2 ((A3 w a m x).1 = true → a ≠ m) := by
 unfold A3
 cases Aw w x
 ·exact (Gf x).imp fun _ h => by cases h
 ·cases h : a == m
  ·exact (Ig x).imp fun _ _ h2 => by rw [h2] at h; simp at h
  ·exact (Jn 4 (by decide) x).imp False.elim
theorem Awv {α : Type} (w : List Int) (most : Int) (item : RS → α × RS) (p : α → Bool) (hi : ∀ x, Rr x (item x).2 (p (item x).1 = true)) : ∀ (f : Nat) (x : RS) (o : List α),
  Rr x (Bl w most item f x o).2 (o.all p = true → ((o.length : Nat) : Int) ≤ most → (Bl w most item f x o).1.all p = true ∧ (((Bl w most item f x o).1.length : Nat) : Int) ≤ most)
 | 0, x, o => ⟨Dl x, fun g e => ⟨e, fun h1 h2 => ⟨h1, h2⟩⟩⟩
 | f + 1, x, o => by
  have hb := Bjb w ((o.length : Nat) : Int) most x
  rw [Bl]
  generalize A3 w ((o.length : Nat) : Int) most x = b at hb ⊢
  obtain ⟨b, y⟩ := b
  cases b
  ·simp only [cond_false]
   exact hb.imp fun _ h1 h2 => ⟨h1, h2⟩
  ·simp only [cond_true]
   refine (hb.then ((hi y).then (Awv w most item p hi f _ _))).imp ?_
   rintro ⟨h1, h2, h3⟩ h4 h5
   have h1 := h1 rfl
   exact h3 (by rw [List.all_append, h4]; simp [h2]) (by rw [List.length_append]; simp; omega)
theorem If {α : Type} {w : List Int} {most : Int} (hm : 0 ≤ most) {item : RS → α × RS} {p : α → Bool} (hi : ∀ x, Rr x (item x).2 (p (item x).1 = true)) (x : RS) :
  Rr x (Ay w most item x).2 ((Ay w most item x).1.all p = true ∧ leB (Ay w most item x).1 most = true) :=
 (Awv w most item p hi _ x []).imp fun h => by
  obtain ⟨a, b⟩ := h rfl hm
  refine ⟨a, ?_⟩
  unfold leB
  simp only [Bool.not_eq_true', decide_eq_false_iff_not]
  unfold Ay
  omega
theorem Awx (most : Nat) : ∀ (f : Nat) (x : RS) (o : List (List Int)),
  Rr x (Bt (most : Int) f x o).2 (o.all Bq = true → 1 ≤ o.length → o.length ≤ most → rowB most (Bt (most : Int) f x o).1 = true)
 | 0, x, o => ⟨Dl x, fun g e => ⟨e, fun h1 h2 h3 => by
   unfold rowB
   rw [Bt]
   simp [h2, h3]
   simpa using h1⟩⟩
 | f + 1, x, o => by
  rw [Bt]
  cases Aw ([44] : List Int) x
  ·simp only [cond_false]
   refine (Cx ([59] : List Int) x).imp fun _ h1 h2 h3 => ?_
   unfold rowB
   simp [h2, h3]
   simpa using h1
  ·simp only [cond_true]
   generalize hy : A0 x = y
   have n0 := Ig x
   rw [hy] at n0
   have hz : Rr y (bif (((o.length : Nat) : Int) == (most : Int)) && ((hd y.1).1 == 1 && !(resB (hd y.1).2.1)) then A5 4 y else y) (o.length = most → (bif (((o.length : Nat) : Int) == (most : Int)) && ((hd y.1).1 == 1 && !(resB (hd y.1).2.1)) then A5 4 y else y) = y ∧ ((hd y.1).1 == 1 && !(resB (hd y.1).2.1)) = false) := by
    cases hc : ((hd y.1).1 == 1 && !(resB (hd y.1).2.1))
    ·rw [Bool.and_false]
     exact (Gf y).imp fun _ _ => ⟨rfl, rfl⟩
    ·rw [Bool.and_true]
     cases hm : ((o.length : Nat) : Int) == (most : Int)
     ·exact (Gf y).imp fun _ h => by
       rw [h] at hm
       simp at hm
     ·exact (Jn 4 (by decide) y).imp False.elim
   generalize (bif (((o.length : Nat) : Int) == (most : Int)) && ((hd y.1).1 == 1 && !(resB (hd y.1).2.1)) then A5 4 y else y) = z at hz ⊢
   refine (n0.then (hz.then ((Ep z).then (Awx most f _ _)))).imp ?_
   rintro ⟨-, h1, ⟨h2, h3⟩, h4⟩ h5 h6 h7
   have hne : o.length ≠ most := fun h => by
    obtain ⟨e1, e2⟩ := h1 h
    rw [e1, e2] at h3
    cases h3
   exact h4 (by rw [List.all_append, h5]; simp [h2]) (by rw [List.length_append]; omega) (by rw [List.length_append]; simp; omega)
theorem Aww (most : Nat) (hm : 1 ≤ most) (x : RS) : Rr x (B3 (most : Int) x).2 (rowB most (B3 (most : Int) x).1 = true) :=
 ((Ep x).then (Awx most _ _ _)).imp fun ⟨h1, h2⟩ => h2 (by simp [h1.1]) (by simp) (by simpa using hm)
theorem numB_i {n : Int} (h : numB n = true) : 0 ≤ n ∧ n ≤ 999999999999999999 := by
 unfold numB at h
 simpa using h
theorem rr_head (x : RS) : Rr x (Cf x).2 (Hu (Cf x).1 = true) :=
 ((Ep x).then ((C4 _ _).then ((C4 _ _).then ((Awu _ _).then ((C4 _ _).then ((Cx _ _).then ((Nc (fun _ => Ig _) (fun _ => Gf _)).then ((C4 _ _).then ((C4 _ _).then ((C4 _ _).then ((C4 _ _).then (Cx _ _)))))))))))).imp
  fun ⟨h1, h2, h3, h4, h5, _, _, h6, h7, h8, h9, _⟩ => by
   have h6 := numB_i h6
   unfold Hu
   simp only [Bool.and_eq_true, Bool.not_eq_true', decide_eq_false_iff_not, and_true]
   refine ⟨h1.1, h2, h3, h4, h5, ?_, ?_, h7, h8, h9⟩
   ·show ¬ (bif _ then negI .i64 _ else _) < _
    generalize (numR [] _).1 = g at h6 ⊢
    cases Aw ([45] : List Int) _
    ·simp only [cond_false]; omega
    ·simp only [cond_true, negI]
     rw [w64 (by omega)]; omega
   ·show ¬ (bif _ then negI .i64 _ else _) > _
    generalize (numR [] _).1 = g at h6 ⊢
    cases Aw ([45] : List Int) _
    ·simp only [cond_false]; omega
    ·simp only [cond_true, negI]
     rw [w64 (by omega)]; omega
theorem rr_walk (x : RS) : Rr x (Ci x).2 (pedB (Ci x).1 = true) :=
 ((Ep x).then ((Cx _ _).then ((Ep _).then ((C4 _ _).then ((C4 _ _).then ((C4 _ _).then (Cx _ _))))))).imp
  fun ⟨h1, _, h2, h3, h4, h5, _⟩ => by
   unfold pedB
   simp only [Bool.and_eq_true, and_true]
   exact ⟨h1.1, h2.1, h3, h4, h5⟩
theorem Bjd (x : RS) : Rr x (Cq x).2 (Jl (Cq x).1 = true) :=
 ((Ep x).then ((Cx _ _).then (Aww 16 (by omega) _))).imp
  fun ⟨h1, _, h2⟩ => by
   unfold Jl
   simp only [Bool.and_eq_true, and_true]
   exact ⟨h1.1, h2⟩
theorem rr_ring (x : RS) : Rr x (B0 x).2 (K8 (B0 x).1 = true) :=
 ((Nc (fun _ => Ig _) (fun _ => Gf _)).then (Aww 4 (by omega) _)).imp And.right
theorem rr_foe (x : RS) : Rr x (foeR x).2 (foeB (foeR x).1 = true) :=
 ((Ep x).then ((Ep _).then (Cx _ _))).imp
  fun ⟨h1, h2, _⟩ => by
   unfold foeB
   simp only [Bool.and_eq_true, and_true]
   exact ⟨h1.1, h2.1⟩
theorem rr_stop (x : RS) : Rr x (Cg x).2 (Gh (Cg x).1 = true) :=
 ((Ep x).then ((Cx _ _).then ((Ep _).then ((Cx _ _).then ((Ep _).then ((C4 _ _).then ((C4 _ _).then (Cx _ _)))))))).imp
  fun ⟨h1, _, h2, _, h3, h4, h5, _⟩ => by
   unfold Gh
   simp only [Bool.and_eq_true, and_true]
   exact ⟨h1.1, h2.1, h3.1, h4, h5⟩
theorem Au5 {α : Type} (w : List Int) (most : Int) (item : RS → α × RS) : ∀ (f : Nat) (x : RS) (o : List α), o.length ≤ (Bl w most item f x o).1.length
 | 0, x, o => Nat.le_refl _
 | f + 1, x, o => by
  rw [Bl]
  cases (A3 w ((o.length : Nat) : Int) most x).1
  ·exact Nat.le_refl _
  ·simp only [cond_true]
   refine Nat.le_trans ?_ (Au5 w most item f _ _)
   simp
theorem Bf5 {α : Type} {w : List Int} {most : Int} (hm : 0 < most) (item : RS → α × RS) {x : RS} (h : Aw w x = true) : 1 ≤ (Ay w most item x).1.length := by
 unfold Ay
 have e : A3 w (((([] : List α).length : Nat) : Int)) most x = (true, A0 x) := by
  unfold A3
  have : ((((([] : List α).length : Nat) : Int)) == most) = false := by simp; omega
  rw [h, this]
  rfl
 rw [Bl, e]
 simp only [cond_true]
 exact Nat.le_trans (by simp) (Au5 w most item _ _ _)
theorem Bjc (x : RS) : Rr x (Ce x).2 (Gu (Ce x).1 = true) := by
 have hb : ∀ a : RS, Rr a (bif Aw ([114, 105, 110, 103] : List Int) a then a else A5 50 a) (Aw ([114, 105, 110, 103] : List Int) (bif Aw ([114, 105, 110, 103] : List Int) a then a else A5 50 a) = true) := fun a => by
  cases h : Aw ([114, 105, 110, 103] : List Int) a
  ·exact (Jn 50 (by decide) a).imp False.elim
  ·exact (Gf a).imp fun _ => h
 refine ((Cx ([123] : List Int) x).then ((hb _).then ((If (by decide) rr_ring _).then (Cx _ _)))).imp ?_
 rintro ⟨-, h1, ⟨h2, h3⟩, -⟩
 have h4 := Bf5 (most := 2) (by decide) B0 h1
 unfold Gu
 unfold leB at h3
 simp only [Bool.and_eq_true, Bool.not_eq_true', decide_eq_false_iff_not] at h3 ⊢
 refine ⟨?_, h3, h2⟩
 show ¬ (((Ay ([114, 105, 110, 103] : List Int) 2 B0 _).1.length : Nat) : Int) < 1
 have h4 : 1 ≤ (Ay ([114, 105, 110, 103] : List Int) 2 B0 (bif Aw ([114, 105, 110, 103] : List Int) (Aj ([123] : List Int) x) then Aj ([123] : List Int) x else A5 50 (Aj ([123] : List Int) x))).1.length := h4
 omega
theorem Bp8 (x : RS) : Rr x (Bu x).2 (Gz (Bu x).1 = true) :=
 ((Ep x).then ((Cx _ _).then ((If (by decide) rr_head _).then ((If (by decide) rr_walk _).then ((If (by decide) Bjd _).then ((If (by decide) Bjc _).then ((If (by decide) rr_foe _).then (Cx _ _)))))))).imp
  fun ⟨h1, _, h2, h3, h4, h5, h6, _⟩ => by
   unfold Gz
   simp only [Bool.and_eq_true]
   exact ⟨h1.1, h2.2, h3.2, h4.2, h5.2, h6.2, h2.1, h3.1, h4.1, h5.1, h6.1⟩
theorem Bja (x : RS) : Rr x (Bf x).2 ((Bf x).1.1.all Gh = true ∧ leB (Bf x).1.1 12 = true ∧ numB (Bf x).1.2.1 = true ∧ numB (Bf x).1.2.2 = true) :=
 ((Cx _ x).then ((If (by decide) rr_stop _).then ((C4 _ _).then ((C4 _ _).then ((Cx _ _).then (Cx _ _)))))).imp
  fun ⟨_, h1, h2, h3, _⟩ => ⟨h1.1, h1.2, h2, h3⟩
theorem Bp7 (x : RS) : Rr x (bif Aw ([97, 114, 116, 101, 114, 121] : List Int) x then Bf (A0 x) else (([], 0, 0), x)).2
  ((bif Aw ([97, 114, 116, 101, 114, 121] : List Int) x then Bf (A0 x) else (([], 0, 0), x)).1.1.all Gh = true ∧ leB (bif Aw ([97, 114, 116, 101, 114, 121] : List Int) x then Bf (A0 x) else (([], 0, 0), x)).1.1 12 = true ∧
   numB (bif Aw ([97, 114, 116, 101, 114, 121] : List Int) x then Bf (A0 x) else (([], 0, 0), x)).1.2.1 = true ∧ numB (bif Aw ([97, 114, 116, 101, 114, 121] : List Int) x then Bf (A0 x) else (([], 0, 0), x)).1.2.2 = true) := by
 cases Aw ([97, 114, 116, 101, 114, 121] : List Int) x
 ·exact (Gf x).imp fun _ => ⟨rfl, rfl, rfl, rfl⟩
 ·exact ((Ig x).then (Bja _)).imp And.right
theorem rr_net (x : RS) : Rr x (netR x).2 (netB (netR x).1 = true) :=
 ((C4 _ x).then ((C4 _ _).then ((C4 _ _).then ((Cx _ _).then ((Awu _ _).then ((Cx _ _).then ((If (by decide) Bp8 _).then ((Bp7 _).then (Nc (fun _ => (Jn 50 (by decide) _).imp fun _ => trivial) (fun _ => Gf _)))))))))).imp
  fun ⟨h1, h2, h3, _, h4, _, h5, h6, _⟩ => by
   unfold netB
   simp only [Bool.and_eq_true]
   exact ⟨h1, h2, h3, h4, h6.2.2.1, h6.2.2.2, h5.2, h6.2.1, h5.1, h6.1⟩
theorem Bkq {w : List Int} {c : Int} {r : List Int} (e : w = c :: r) (hc : Bot c = true) (hl : ¬ 24 < w.length) (hall : ∀ y ∈ w, Bd y = true) : Ge 1 w 0 = true := by
 obtain ⟨t1, t2⟩ := Lc (s := []) hall (fun c r h => by cases h)
 rw [List.append_nil] at t1 t2
 subst e
 have e : c ≠ 35 ∧ Bz c = false := by
  unfold Bot at hc
  unfold Bz
  simp at hc ⊢
  omega
 unfold Ge
 rw [decide_eq_true_eq]
 refine ⟨by simp, ?_, ?_⟩
 ·rw [drp, if_neg e.1, e.2]; rfl
 ·rw [tok1, hc, t1, t2, if_pos rfl, if_neg hl]
theorem tok1_g (s : List Int) : TokG ((tok1 s).2.1, (tok1 s).2.2.1, (tok1 s).2.2.2.1, 0, ()) := by
 cases s with
 | nil => exact ⟨fun h => (by cases h), fun h => (by cases h)⟩
 | cons x r =>
  rw [tok1]
  split
  ·rename_i hs
   split
   ·exact ⟨fun h => (by cases h), fun h => (by cases h)⟩
   ·rename_i hl
    refine ⟨fun _ => ?_, fun h => (by cases h)⟩
    have hx : Bd x = true := by unfold Bd; rw [hs]; rfl
    have e : (x :: r).takeWhile Bd = x :: r.takeWhile Bd := by rw [List.takeWhile_cons, hx]; rfl
    exact Bkq e hs hl fun y hy => Jd hy
  ·split
   ·split
    ·exact ⟨fun h => (by cases h), fun h => (by cases h)⟩
    ·rename_i hl
     refine ⟨fun h => (by cases h), fun _ => ?_⟩
     have := A1b ((x :: r).takeWhile A1) 0 0 (by decide) (by decide) fun c hc => Jd hc
     have hp : (10 : Int) ^ (0 + ((x :: r).takeWhile A1).length) ≤ 10 ^ 18 := by
      rw [Nat.zero_add]
      exact_mod_cast Nat.pow_le_pow_right (by decide) (by omega)
     show numB (valD ((x :: r).takeWhile A1)) = true
     unfold numB valD
     simp only [Bool.and_eq_true, decide_eq_true_eq]
     have h18 : (10 : Int) ^ 18 = 1000000000000000000 := by decide
     omega
   ·split
    ·exact ⟨fun h => (by cases h), fun h => (by cases h)⟩
    ·exact ⟨fun h => (by cases h), fun h => (by cases h)⟩
theorem lx_g (n : Nat) : ∀ (f : Nat) (s : List Int), ∀ t ∈ (lx n f s).2.2, TokG t
 | 0, s, t, h => by cases h
 | f + 1, s, t, h => by
  rw [lx] at h
  cases hd : drp false s with
  | nil =>
   rw [hd] at h
   rcases List.mem_cons.1 h with rfl | h
   ·exact ⟨fun h => (by cases h), fun h => (by cases h)⟩
   ·cases h
  | cons x r =>
   rw [hd] at h
   simp only [] at h
   split at h
   ·split at h
    ·rcases List.mem_cons.1 h with rfl | h
     ·exact tok1_g (x :: r)
     ·exact lx_g n f _ t h
    ·cases h
   ·cases h
theorem Bpk (b : List Int) : Gd (toks b).2.2 := by
 intro t h
 unfold toks at h
 split at h
 ·cases h
 ·exact lx_g _ _ _ t h
theorem Biz {b : List Int} (h : (Cp b).2.1 = 0) : netB (Cp b).1 = true := by
 have hn := (rr_net ((toks b).2.2, 0, 0)).p (Bpk b)
 unfold Cp at h ⊢
 cases h0 : (toks b).1 != 0 <;> rw [h0] at h
 ·simp only [cond_false] at h ⊢
  cases h1 : (netR ((toks b).2.2, 0, 0)).2.2.1 != 0 <;> rw [h1] at h
  ·exact (hn (by simpa using h1)).2
  ·simp only [cond_true] at h
   rw [h] at h1
   cases h1
 ·simp only [cond_true] at h
  rw [h] at h0
  cases h0
theorem Ja {α : Type} {l : List α} {m : Int} (h : leB l m = true) : ((l.length : Nat) : Int) ≤ m := by
 unfold leB at h
 simp only [Bool.not_eq_true', decide_eq_false_iff_not] at h
 omega
theorem L4 : ∀ (m : Bool) (a b : List Int), drp m a = [] → drp m (a ++ 10 :: b) = drp false b
 | true, [], b, _ => by simp [drp]
 | false, [], b, _ => by simp [drp, Bz]
 | true, x :: a, b, h => by
  rw [drp] at h
  rw [List.cons_append, drp]
  split at h
  ·rename_i e; rw [if_pos e]; exact L4 false a b h
  ·rename_i e; rw [if_neg e]; exact L4 true a b h
 | false, x :: a, b, h => by
  rw [drp] at h
  rw [List.cons_append, drp]
  split at h
  ·rename_i e; rw [if_pos e]; exact L4 true a b h
  ·rename_i e
   rw [if_neg e]
   split at h
   ·rename_i e2; rw [if_pos e2]; exact L4 false a b h
   ·cases h
theorem J1 : ∀ (m : Bool) (a t : List Int) {x : Int} {r : List Int}, drp m a = x :: r → drp m (a ++ t) = x :: r ++ t
 | true, [], t, x, r, h => by simp [drp] at h
 | false, [], t, x, r, h => by simp [drp] at h
 | true, y :: a, t, x, r, h => by
  rw [drp] at h
  rw [List.cons_append, drp]
  split at h
  ·rename_i e; rw [if_pos e]; exact J1 false a t h
  ·rename_i e; rw [if_neg e]; exact J1 true a t h
 | false, y :: a, t, x, r, h => by
  rw [drp] at h
  rw [List.cons_append, drp]
  split at h
  ·rename_i e; rw [if_pos e]; exact J1 true a t h
  ·rename_i e
   rw [if_neg e]
   split at h
   ·rename_i e2; rw [if_pos e2]; exact J1 false a t h
   ·rename_i e2; rw [if_neg e2, ← h]; rfl
def R0 (d : Nat) (t : Tk) : Tk := (t.1, t.2.1, t.2.2.1, t.2.2.2.1 + (d : Int), ())
theorem Au9 (d n : Nat) : ∀ (f : Nat) (s : List Int), s.length ≤ n → (lx n f s).1 = 0 → lx (d + n) f s = (0, 0, (lx n f s).2.2.map (R0 d))
 | 0, s, _, _ => rfl
 | f + 1, s, hs, h => by
  have hl := J3 false s
  rw [lx] at h ⊢
  rw [lx]
  cases hd : drp false s with
  | nil =>
   simp only [List.map_cons, List.map_nil, R0]
   rw [show ((d + n : Nat) : Int) = (n : Int) + (d : Int) by omega]
  | cons x r =>
   rw [hd] at h hl
   simp only [] at h ⊢
   by_cases h0 : (tok1 (x :: r)).1 = 0
   ·have hr := Jo h0
    rw [List.length_cons] at hl
    rw [if_pos h0] at h ⊢
    by_cases h1 : (lx n f (tok1 (x :: r)).2.2.2.2).1 = 0
    ·have IH := Au9 d n f _ (by omega) h1
     rw [if_pos h0, if_pos h1, if_pos (by rw [IH])]
     simp only [IH, List.map_cons, R0]
     rw [show ((d + n - (x :: r).length : Nat) : Int) = ((n - (x :: r).length : Nat) : Int) + (d : Int) by rw [List.length_cons]; omega]
    ·rw [if_neg h1] at h; exact absurd h h1
   ·rw [if_neg h0] at h; exact absurd h h0
theorem Bpg (na : Nat) (b : List Int) (g : Nat) (hg : b.length < g) (hb : (lx b.length g b).1 = 0) : ∀ (f : Nat) (s : List Int), s.length < f → s.length ≤ na → (lx na f s).1 = 0 →
  lx (na + 1 + b.length) (f + g) (s ++ 10 :: b) = (0, 0, (lx na f s).2.2.dropLast ++ (lx b.length g b).2.2.map (R0 (na + 1)))
 | 0, s, h, _, _ => by omega
 | f + 1, s, hs, hn, h => by
  have hl := J3 false s
  cases hd : drp false s with
  | nil =>
   have e : lx (na + 1 + b.length) (f + 1 + g) (s ++ 10 :: b) = lx (na + 1 + b.length) g b := by
    rw [Abd _ g (f + 1 + g) b hg (by omega), show f + 1 + g = (f + g) + 1 by omega, lx, lx, L4 false s b hd]
   rw [e, Au9 (na + 1) b.length g b (Nat.le_refl _) hb, lx, hd]
   rfl
  | cons x r =>
   rw [lx, hd] at h
   rw [hd] at hl
   simp only [] at h
   rw [show f + 1 + g = (f + g) + 1 by omega, lx, J1 false s (10 :: b) hd, lx, hd]
   rw [List.cons_append]
   simp only []
   rw [← List.cons_append]
   by_cases h0 : (tok1 (x :: r)).1 = 0
   ·have hr := Jo h0
    rw [List.length_cons] at hl
    have et := A03 (c := 10) (b := b) (by decide) h0
    rw [if_pos h0] at h
    by_cases h1 : (lx na f (tok1 (x :: r)).2.2.2.2).1 = 0
    ·have IH := Bpg na b g hg hb f _ (by omega) (by omega) h1
     simp only [et, if_true, if_pos h0, if_pos h1, IH]
     have hne : (lx na f (tok1 (x :: r)).2.2.2.2).2.2 ≠ [] := by
      cases f with
      | zero => omega
      | succ f =>
       rw [lx] at h1 ⊢
       cases hd2 : drp false (tok1 (x :: r)).2.2.2.2 with
       | nil => simp
       | cons y q =>
        rw [hd2] at h1
        simp only [] at h1 ⊢
        split at h1
        ·rename_i g0
         rw [if_pos g0]
         split at h1
         ·rename_i g1; rw [if_pos g1]; simp
         ·rename_i g1; exact absurd h1 g1
        ·rename_i g0; exact absurd h1 g0
     rw [List.dropLast_cons_of_ne_nil hne, List.cons_append]
     have ep : na + 1 + b.length - (x :: (r ++ 10 :: b)).length = na - (x :: r).length := by
      simp only [List.length_append, List.length_cons]
      omega
     rw [ep]
     rfl
    ·rw [if_neg h1] at h; exact absurd h h1
   ·rw [if_neg h0] at h; exact absurd h h0
theorem Bm2 (n : Nat) : ∀ (f : Nat) (s : List Int), (lx n f s).2.2.length ≤ f
 | 0, s => Nat.le_refl _
 | f + 1, s => by
  rw [lx]
  have IH := Bm2 n f
  cases hd2 : drp false s with
  | nil => simp
  | cons y q =>
   simp only []
   split
   ·split
    ·rw [List.length_cons]; have := IH (tok1 (y :: q)).2.2.2.2; omega
    ·simp
   ·simp
def rgt (t : Tk) : Bool := Ge t.1 t.2.1 t.2.2.1
theorem rgt_kd {t : Tk} (h : rgt t = true) : t.1 ≠ 0 ∧ t.2.1.length ≤ 24 := by
 unfold rgt Ge at h
 rw [decide_eq_true_eq] at h
 obtain ⟨h1, h2, h3⟩ := h
 cases hx : t.2.1 with
 | nil => exact absurd hx h1
 | cons x r =>
  rw [hx] at h3
  have := Ng (x := x) (r := r) (by rw [h3])
  rw [h3] at this
  exact ⟨this.2.2.1, this.2.2.2⟩
def splT : List Tk → List Int
 | [] => []
 | t :: r => 32 :: t.2.1 ++ splT r
theorem A05 {p : Int → Bool} {l : List Int} : (l.takeWhile p).takeWhile p = l.takeWhile p ∧ (l.takeWhile p).dropWhile p = [] := by
 have := Lc (p := p) (l := l.takeWhile p) (fun y hy => Jd hy) (s := []) (fun c r h => by cases h)
 rw [List.append_nil] at this
 exact this
theorem Bkf {x : Int} {r : List Int} (h : (tok1 (x :: r)).1 = 0) : ∃ q, (tok1 (x :: r)).2.2.1 = x :: q ∧ tok1 (x :: q) = (0, (tok1 (x :: r)).2.1, x :: q, (tok1 (x :: r)).2.2.2.1, []) := by
 rw [tok1] at h ⊢
 split at h
 ·rename_i h1
  have hx : Bd x = true := by unfold Bd; rw [h1]; rfl
  have e : (x :: r).takeWhile Bd = x :: r.takeWhile Bd := by rw [List.takeWhile_cons, hx]; rfl
  obtain ⟨t1, t2⟩ := A05 (p := Bd) (l := x :: r)
  rw [if_pos h1]
  split at h
  ·cases h
  ·rename_i h2
   rw [if_neg h2]
   refine ⟨r.takeWhile Bd, e, ?_⟩
   rw [e] at t1 t2 h2
   rw [tok1, if_pos h1, t1, t2, if_neg h2]
   first | done | simp only [e]
 ·rename_i h1
  rw [if_neg h1]
  split at h
  ·rename_i h3
   have e : (x :: r).takeWhile A1 = x :: r.takeWhile A1 := by rw [List.takeWhile_cons, h3]; rfl
   obtain ⟨t1, t2⟩ := A05 (p := A1) (l := x :: r)
   rw [if_pos h3]
   split at h
   ·cases h
   ·rename_i h2
    rw [if_neg h2]
    refine ⟨r.takeWhile A1, e, ?_⟩
    rw [e] at t1 t2 h2
    rw [tok1, if_neg h1, if_pos h3, t1, t2, if_neg h2]
    first | done | simp only [e]
  ·rename_i h3
   rw [if_neg h3]
   split at h
   ·rename_i h4
    rw [if_pos h4]
    exact ⟨[], rfl, by rw [tok1, if_neg h1, if_neg h3, if_pos h4]⟩
   ·cases h
theorem Bm1 (n : Nat) : ∀ (f : Nat) (s : List Int), s.length < f → (lx n f s).1 = 0 → ∃ g p, (lx n f s).2.2 = g ++ [(0, [], 0, p, ())] ∧ (∀ t ∈ g, rgt t = true) ∧ (splT g).length ≤ 2 * s.length
 | 0, s, h, _ => by omega
 | f + 1, s, hs, h => by
  have hl := J3 false s
  rw [lx] at h ⊢
  cases hd : drp false s with
  | nil => exact ⟨[], _, rfl, fun t ht => (by cases ht), Nat.zero_le _⟩
  | cons x r =>
   rw [hd] at h hl
   simp only [] at h ⊢
   by_cases h0 : (tok1 (x :: r)).1 = 0
   ·rw [if_pos h0] at h ⊢
    by_cases h1 : (lx n f (tok1 (x :: r)).2.2.2.2).1 = 0
    ·rw [if_pos h1]
     have hr := Jo h0
     rw [List.length_cons] at hl
     obtain ⟨g, p, e1, e2, e3⟩ := Bm1 n f _ (by omega) h1
     have hh := J2 false s hd
     obtain ⟨q, q1, q2⟩ := Bkf h0
     have hs1 := Ng h0
     refine ⟨_ :: g, p, congrArg (List.cons _) e1, fun t ht => ?_, ?_⟩
     ·rcases List.mem_cons.1 ht with rfl | ht
      ·show Ge (tok1 (x :: r)).2.1 (tok1 (x :: r)).2.2.1 (tok1 (x :: r)).2.2.2.1 = true
       unfold Ge
       rw [decide_eq_true_eq, q1, q2]
       refine ⟨by simp, ?_, rfl⟩
       rw [drp, if_neg hh.1, if_neg (by rw [hh.2]; decide)]
      ·exact e2 t ht
     ·have e := congrArg List.length hs1.1
      rw [List.length_append, List.length_cons] at e
      show (32 :: (tok1 (x :: r)).2.2.1 ++ splT g).length ≤ _
      rw [List.length_append, List.length_cons]
      have : 1 ≤ (tok1 (x :: r)).2.2.1.length := by rw [q1]; simp
      omega
    ·rw [if_neg h1] at h; exact absurd h h1
   ·rw [if_neg h0] at h; exact absurd h h0
theorem ex_lt {s : List Int} {k : Nat} (hk : 200000 ≤ k) (h : decide (s.length < 200000) = true) : s.length < k := Nat.lt_of_lt_of_le (of_decide_eq_true h) hk
theorem Ads (k : Nat) (hk : 200000 ≤ k) (u : Unit) : L1 k u = some true := by
 rw [Be4, At4]
 rw [Rf k hk ([99, 121, 99, 108, 101, 32, 54, 48, 48, 32, 116, 111, 32, 57, 48, 48, 32, 98, 121, 32, 49, 48, 59, 32, 112, 101, 97, 107, 32, 49, 47, 49, 59] : List Int) (ex_lt hk (by kernel_rfl)) (of_decide_eq_true (by kernel_rfl)), Rf k hk ([99, 121, 99, 108, 101, 32, 54, 48, 48, 59] : List Int) (ex_lt hk (by kernel_rfl)) (of_decide_eq_true (by kernel_rfl)),
  Rf k hk ([99, 121, 99, 108, 101, 32, 49, 32, 116, 111, 32, 50, 32, 98, 121, 32, 51, 59, 32, 112, 101, 97, 107, 32, 52, 47, 53, 59, 32, 110, 111, 100, 101, 32, 97, 32, 123, 32, 104, 101, 97, 100, 32, 104, 32, 118, 111, 108, 117, 109, 101, 32, 54, 32, 102, 108, 111, 119, 32, 55, 32, 117, 115, 101, 32, 56, 47, 57, 32, 115, 112, 101, 101, 100, 32, 49, 48, 32, 103, 114, 97, 100, 101, 32, 45, 49, 49, 32, 119, 105, 100, 116, 104, 32, 49, 50, 32, 108, 101, 110, 103, 116, 104, 32, 49, 51, 32, 103, 114, 101, 101, 110, 32, 49, 52, 59, 32, 112, 104, 97, 115, 101, 32, 112, 58, 32, 104, 59, 32, 103, 114, 111, 117, 112, 32, 123, 32, 114, 105, 110, 103, 32, 112, 59, 32, 125, 32, 125] : List Int) (ex_lt hk (by kernel_rfl)) (of_decide_eq_true (by kernel_rfl))]
 kernel_rfl
theorem rd_at {α : Type} {d : α} {l : List α} {i : Nat} {x : α} (h : l[i]? = some x) : inB (i : Int) l.length = true ∧ rdA d l (Int.toNat (i : Int)) = x := by
 have e := Bw (d := d) (K := fun y => some y) h
 unfold idx at e
 cases hb : inB (i : Int) l.length <;> rw [hb] at e
 ·cases e
 ·exact ⟨rfl, Option.some.inj e⟩
section
variable (k : Nat) (hk : 1000 ≤ k)
include hk
end
section
variable (e : Tk) (r : List Tk)
structure Par (x x' : RS) : Prop where
 c : x'.2 = x.2
 z : x.2.1 = 0
 l : ∃ l, x.1 = l ++ [e] ∧ x'.1 = l ++ r
def Fin2 (y : RS) : Prop := y.2.1 = 0 ∧ 2 ≤ y.1.length
structure PP (x y x' y' : RS) (Q : Prop) : Prop where
 rr : Rr x y True
 ad : Adv x y
 pp : Par e r x x' → Gd x.1 → Fin2 y → Par e r y y' ∧ Q
end
section
variable {e : Tk} {r : List Tk} {x y z x' y' z' : RS} {P Q : Prop}
theorem Bo4 (h : Rr x y P) (ha : Adv x y) (g : Gd x.1) (hf : Fin2 y) : Fin2 x := ⟨(h.p g hf.1).1, Nat.le_trans hf.2 ha.l⟩
theorem Par.two (h : Par e r x x') (h2 : 2 ≤ x.1.length) : ∃ t l, x.1 = t :: (l ++ [e]) ∧ x'.1 = t :: (l ++ r) := by
 obtain ⟨l, h3, h4⟩ := h.l
 cases l with
 | nil => rw [h3] at h2; simp at h2
 | cons t l => exact ⟨t, l, by rw [h3]; rfl, by rw [h4]; rfl⟩
theorem Par.hd (h : Par e r x x') (h2 : 2 ≤ x.1.length) : hd x'.1 = hd x.1 := by
 obtain ⟨t, l, h3, h4⟩ := h.two h2
 rw [h3, h4]; rfl
theorem Par.sees (h : Par e r x x') (h2 : 2 ≤ x.1.length) (s : List Int) : Aw s x' = Aw s x := by
 unfold Aw
 rw [h.hd h2, h.c]
theorem Par.next (h : Par e r x x') (h2 : 2 ≤ x.1.length) : Par e r (A0 x) (A0 x') := by
 unfold A0
 rw [h.hd h2, h.c]
 obtain ⟨t, l, h3, h4⟩ := h.two h2
 cases x.2.1 == 0 && (Go.Proofs.YtipcdjgcomclkaaGreatDoorV.hd x.1).1 != 0
 ·exact h
 ·exact ⟨rfl, h.z, l, by rw [h3]; rfl, by rw [h4]; rfl⟩
theorem PP.imp (h : PP e r x y x' y' P) (f : P → Q) : PP e r x y x' y' Q := ⟨h.rr, h.ad, fun a b c => ⟨(h.pp a b c).1, f (h.pp a b c).2⟩⟩
theorem PP.then (h : PP e r x y x' y' P) (h2 : PP e r y z y' z' Q) : PP e r x z x' z' (P ∧ Q) := by
 refine ⟨(h.rr.then h2.rr).imp fun _ => trivial, h.ad.trans h2.ad, fun a g f => ?_⟩
 have gy := g.suf h.rr.s
 obtain ⟨a2, q⟩ := h.pp a g (Bo4 h2.rr h2.ad gy f)
 obtain ⟨a3, q2⟩ := h2.pp a2 gy f
 exact ⟨a3, q, q2⟩
theorem PP.hd (h : PP e r x y x' y' P) : PP e r x y x' y' (hd x'.1 = hd x.1 ∧ P) :=
 ⟨h.rr, h.ad, fun a g f => ⟨(h.pp a g f).1, a.hd (Nat.le_trans f.2 h.ad.l), (h.pp a g f).2⟩⟩
theorem Bo1 {c : Int} (hc : c ≠ 0) (h : x.2.1 = 0) : (A5 c x).2.1 ≠ 0 := by
 unfold A5
 rw [h]
 exact hc
theorem pp_refl (x x' : RS) : PP e r x x x' x' True := ⟨Gf x, .refl x, fun a _ _ => ⟨a, trivial⟩⟩
theorem Bp5 (x x' : RS) : PP e r x (A0 x) x' (A0 x') True := ⟨Ig x, Ew x, fun a g f => ⟨a.next (Nat.le_trans f.2 (Ew x).l), trivial⟩⟩
theorem Bp6 (s : List Int) (x x' : RS) : PP e r x (bif Aw s x then A0 x else x) x' (bif Aw s x' then A0 x' else x') (Aw s x' = Aw s x) := by
 have ad : Adv x (bif Aw s x then A0 x else x) := Gp (Ew x) (.refl x)
 refine ⟨Nc (fun _ => Ig x) (fun _ => Gf x), ad, fun a g f => ?_⟩
 have h2 := Nat.le_trans f.2 ad.l
 rw [a.sees h2]
 cases Aw s x
 ·exact ⟨a, rfl⟩
 ·exact ⟨a.next h2, rfl⟩
theorem Bp3 (s : List Int) (x x' : RS) : PP e r x (bif Aw s x then x else A5 50 x) x' (bif Aw s x' then x' else A5 50 x') True := by
 have ad : Adv x (bif Aw s x then x else A5 50 x) := Gp (.refl x) (Hf 50 x)
 refine ⟨Nc (fun _ => Gf x) (fun _ => (Jn 50 (by decide) x).imp False.elim), ad, fun a g f => ?_⟩
 have h2 := Nat.le_trans f.2 ad.l
 rw [a.sees h2]
 cases hs : Aw s x
 ·rw [hs] at f
  exact absurd f.1 (Bo1 (by decide) a.z)
 ·exact ⟨a, trivial⟩
theorem Boy (s : List Int) (x x' : RS) : PP e r x (Aj s x) x' (Aj s x') True := ((Bp3 s x x').then (Bp5 _ _)).imp fun _ => trivial
theorem Bo0 (x x' : RS) : PP e r x (Ai x).2 x' (Ai x').2 ((Ai x').1 = (Ai x).1) := by
 refine ⟨(Ep x).imp fun _ => trivial, Du x, fun a g f => ?_⟩
 have h2 := Nat.le_trans f.2 (Du x).l
 unfold Ai at f ⊢
 rw [a.hd h2]
 cases hc : (Go.Proofs.YtipcdjgcomclkaaGreatDoorV.hd x.1).1 == 1 && !(resB (Go.Proofs.YtipcdjgcomclkaaGreatDoorV.hd x.1).2.1) <;> rw [hc] at f
 ·exact absurd f.1 (Bo1 (by decide) a.z)
 ·exact ⟨a.next h2, rfl⟩
theorem pp_numC (x x' : RS) : PP e r x (numC x).2 x' (numC x').2 ((numC x').1 = (numC x).1) := by
 have ad : Adv x (numC x).2 := by
  unfold numC
  cases (Go.Proofs.YtipcdjgcomclkaaGreatDoorV.hd x.1).1 == 2
  ·exact Hf 50 x
  ·exact Ew x
 refine ⟨(Bp9 x).imp fun _ => trivial, ad, fun a g f => ?_⟩
 have h2 := Nat.le_trans f.2 ad.l
 unfold numC at f ⊢
 rw [a.hd h2]
 cases hc : (Go.Proofs.YtipcdjgcomclkaaGreatDoorV.hd x.1).1 == 2 <;> rw [hc] at f
 ·exact absurd f.1 (Bo1 (by decide) a.z)
 ·exact ⟨a.next h2, rfl⟩
theorem Bow (w : List Int) (x x' : RS) : PP e r x (numR w x).2 x' (numR w x').2 ((numR w x').1 = (numR w x).1) := by
 have h : PP e r x (bif w == [] then x else Aj w x) x' (bif w == [] then x' else Aj w x') True := by
  cases w == []
  ·exact Boy w x x'
  ·exact pp_refl x x'
 exact (h.then (pp_numC _ _)).imp fun h => h.2
theorem pp_frac (w : List Int) (x x' : RS) : PP e r x (C1 w x).2 x' (C1 w x').2 ((C1 w x').1 = (C1 w x).1) :=
 ((Bow w x x').then (Bow _ _ _)).imp fun h => Prod.ext h.1 h.2
theorem Bqp (w : List Int) (a b : Int) (x x' : RS) : PP e r x (A3 w a b x).2 x' (A3 w a b x').2 ((A3 w a b x').1 = (A3 w a b x).1) := by
 refine ⟨(Bjb w a b x).imp fun _ => trivial, Ac9 w a b x, fun p g f => ?_⟩
 have h2 := Nat.le_trans f.2 (Ac9 w a b x).l
 unfold A3 at f ⊢
 rw [p.sees h2]
 cases hs : Aw w x <;> rw [hs] at f
 ·exact ⟨p, rfl⟩
 ·cases hb : a == b <;> rw [hb] at f
  ·exact ⟨p.next h2, rfl⟩
  ·exact absurd f.1 (Bo1 (by decide) p.z)
theorem Par.endT (he : e.1 = 0) (h : Par e r x x') : EndT x.1 := by
 obtain ⟨l, h1, _⟩ := h.l
 exact ⟨l, e, h1, he⟩
theorem Bo7 {α : Type} (w : List Int) (most : Int) (item : RS → α × RS) (hi : ∀ x, Rr x (item x).2 True) (f : Nat) (x : RS) (o : List α) : Rr x (Bl w most item f x o).2 True :=
 (Awv w most item (fun _ => true) (fun x => (hi x).imp fun _ => rfl) f x o).imp fun _ => trivial
theorem Bp2 (he : e.1 = 0) {α : Type} (w : List Int) (most : Int) (item : RS → α × RS) (hi : ∀ x x', PP e r x (item x).2 x' (item x').2 ((item x').1 = (item x).1)) : ∀ (f f' : Nat) (x x' : RS) (o : List α),
  x.1.length ≤ f → x.1.length ≤ f' → PP e r x (Bl w most item f x o).2 x' (Bl w most item f' x' o).2 ((Bl w most item f' x' o).1 = (Bl w most item f x o).1)
 | f, f', x, x', o, h1, h2 => by
  refine ⟨Bo7 w most item (fun x => (hi x x).rr) f x o, Adb w most item (fun x => (hi x x).ad) f x o, fun p g hf => ?_⟩
  have hE := p.endT he
  have hne := List.length_pos_iff.2 hE.ne
  cases f with
  | zero => omega
  | succ f =>
   cases f' with
   | zero => omega
   | succ f' =>
    have hb := Bqp (e := e) (r := r) w ((o.length : Nat) : Int) most x x'
    rw [Bl] at hf ⊢
    rw [Bl]
    cases hc : (A3 w ((o.length : Nat) : Int) most x).1 <;> rw [hc] at hf
    ·obtain ⟨p2, q⟩ := hb.pp p g hf
     rw [q, hc]
     exact ⟨p2, rfl⟩
    ·have lt := A1u hc hE
     have gb := g.suf hb.rr.s
     generalize hy : (A3 w ((o.length : Nat) : Int) most x).2 = y at hf gb lt
     have hit := hi y
     have gi := gb.suf (hit y).rr.s
     have hl := (hit y).ad.l
     have fi : Fin2 (item y).2 := Bo4 (Bo7 w most item (fun x => (hi x x).rr) f _ _) (Adb w most item (fun x => (hi x x).ad) f _ _) gi hf
     have fb : Fin2 y := Bo4 (hit y).rr (hit y).ad gb fi
     have fb2 := fb
     rw [← hy] at fb2
     obtain ⟨p2, q⟩ := hb.pp p g fb2
     rw [q, hc]
     rw [hy] at p2
     generalize (A3 w ((o.length : Nat) : Int) most x').2 = y' at p2
     obtain ⟨p3, q3⟩ := (hit y').pp p2 gb fi
     have IH := Bp2 he w most item hi f f' (item y).2 (item y').2 (o ++ [(item y).1]) (by omega) (by omega)
     simp only [cond_true]
     rw [q3]
     exact IH.pp p3 gi hf
theorem Bo2 (he : e.1 = 0) {α : Type} {w : List Int} {most : Int} {item : RS → α × RS} (hi : ∀ x x', PP e r x (item x).2 x' (item x').2 ((item x').1 = (item x).1)) (hr : 1 ≤ r.length) (x x' : RS) :
  PP e r x (Ay w most item x).2 x' (Ay w most item x').2 ((Ay w most item x').1 = (Ay w most item x).1) := by
 refine ⟨Bo7 w most item (fun x => (hi x x).rr) _ x [], Adb w most item (fun x => (hi x x).ad) _ x [], fun p g hf => ?_⟩
 obtain ⟨l, h1, h2⟩ := p.l
 exact (Bp2 he w most item hi (x.1.length + 1) (x'.1.length + 1) x x' [] (by omega) (by simp only [h1, h2, List.length_append, List.length_singleton]; omega)).pp p g hf
theorem Bpa (he : e.1 = 0) (most : Int) : ∀ (f f' : Nat) (x x' : RS) (o : List (List Int)), x.1.length ≤ f → x.1.length ≤ f' →
  PP e r x (Bt most f x o).2 x' (Bt most f' x' o).2 ((Bt most f' x' o).1 = (Bt most f x o).1)
 | f, f', x, x', o, h1, h2 => by
  refine ⟨?_, Adc most f x o, fun p g hf => ?_⟩
  ·have : ∀ (f : Nat) (x : RS) (o : List (List Int)), Rr x (Bt most f x o).2 True := by
    intro f
    induction f with
    | zero => intro x o; exact Gf x
    | succ f ih =>
     intro x o
     rw [Bt]
     cases Aw ([44] : List Int) x
     ·exact Cx _ _
     ·exact ((Ig x).then ((Nc (fun _ => (Jn 4 (by decide) _).imp fun _ => trivial) (fun _ => Gf _)).then ((Ep _).then (ih _ _)))).imp fun _ => trivial
   exact this f x o
  have hE := p.endT he
  have hne := List.length_pos_iff.2 hE.ne
  cases f with
  | zero => omega
  | succ f =>
   cases f' with
   | zero => omega
   | succ f' =>
    have h2x := Nat.le_trans hf.2 (Adc most (f + 1) x o).l
    rw [Bt] at hf ⊢
    rw [Bt, p.sees h2x]
    cases hs : Aw ([44] : List Int) x <;> rw [hs] at hf
    ·exact (Boy _ x x').imp (fun _ => rfl) |>.pp p g hf
    ·simp only [cond_true] at hf ⊢
     have hlt : (A0 x).1.length < x.1.length := by
      have h3 : (x.2.1 == 0 && (Go.Proofs.YtipcdjgcomclkaaGreatDoorV.hd x.1).1 != 0) = true := by
       unfold Aw at hs
       simp only [Bool.and_eq_true] at hs ⊢
       exact ⟨hs.1, hs.2.2.1⟩
      unfold A0
      rw [h3, cond_true]
      simp only [List.length_tail]
      omega
     have hm : ∀ y y' : RS, PP e r y (bif (((o.length : Nat) : Int) == most) && ((Go.Proofs.YtipcdjgcomclkaaGreatDoorV.hd y.1).1 == 1 && !(resB (Go.Proofs.YtipcdjgcomclkaaGreatDoorV.hd y.1).2.1)) then A5 4 y else y) y'
       (bif (((o.length : Nat) : Int) == most) && ((Go.Proofs.YtipcdjgcomclkaaGreatDoorV.hd y'.1).1 == 1 && !(resB (Go.Proofs.YtipcdjgcomclkaaGreatDoorV.hd y'.1).2.1)) then A5 4 y' else y') True := by
      intro y y'
      have ad : Adv y (bif (((o.length : Nat) : Int) == most) && ((Go.Proofs.YtipcdjgcomclkaaGreatDoorV.hd y.1).1 == 1 && !(resB (Go.Proofs.YtipcdjgcomclkaaGreatDoorV.hd y.1).2.1)) then A5 4 y else y) := Gp (Hf 4 y) (.refl y)
      refine ⟨Nc (fun _ => (Jn 4 (by decide) y).imp fun _ => trivial) (fun _ => Gf y), ad, fun p g f => ?_⟩
      have h2 := Nat.le_trans f.2 ad.l
      rw [p.hd h2]
      cases hc : (((o.length : Nat) : Int) == most) && ((Go.Proofs.YtipcdjgcomclkaaGreatDoorV.hd y.1).1 == 1 && !(resB (Go.Proofs.YtipcdjgcomclkaaGreatDoorV.hd y.1).2.1)) <;> rw [hc] at f
      ·exact ⟨p, trivial⟩
      ·exact absurd f.1 (Bo1 (by decide) p.z)
     have step := (Bp5 (e := e) (r := r) x x').then ((hm _ _).then (Bo0 _ _))
     have gi := g.suf step.rr.s
     have hl := ((hm (A0 x) (A0 x')).ad.trans (Du _)).l
     have IH := fun y' => Bpa he most f f' (Ai (bif (((o.length : Nat) : Int) == most) && ((Go.Proofs.YtipcdjgcomclkaaGreatDoorV.hd (A0 x).1).1 == 1 && !(resB (Go.Proofs.YtipcdjgcomclkaaGreatDoorV.hd (A0 x).1).2.1)) then A5 4 (A0 x) else (A0 x))).2 y'
      (o ++ [(Ai (bif (((o.length : Nat) : Int) == most) && ((Go.Proofs.YtipcdjgcomclkaaGreatDoorV.hd (A0 x).1).1 == 1 && !(resB (Go.Proofs.YtipcdjgcomclkaaGreatDoorV.hd (A0 x).1).2.1)) then A5 4 (A0 x) else (A0 x))).1]) (by omega) (by omega)
     obtain ⟨p3, q3⟩ := step.pp p g (Bo4 (IH x).rr (IH x).ad gi hf)
     rw [q3.2.2]
     exact (IH _).pp p3 gi hf
theorem Bp4 (he : e.1 = 0) (hr : 1 ≤ r.length) (most : Int) (x x' : RS) : PP e r x (B3 most x).2 x' (B3 most x').2 ((B3 most x').1 = (B3 most x).1) := by
 have h1 := Bo0 (e := e) (r := r) x x'
 refine ⟨(h1.rr.then (Bpa (e := e) (r := r) he most ((Ai x).2.1.length + 1) ((Ai x).2.1.length + 1) (Ai x).2 (Ai x).2 [(Ai x).1] (by omega) (by omega)).rr).imp fun _ => trivial, Se most x, fun p g hf => ?_⟩
 have gn := g.suf h1.rr.s
 unfold B3 at hf ⊢
 have h2 := Bpa (e := e) (r := r) he most ((Ai x).2.1.length + 1) ((Ai x).2.1.length + 1) (Ai x).2 (Ai x).2 [(Ai x).1] (by omega) (by omega)
 obtain ⟨p2, q2⟩ := h1.pp p g (Bo4 h2.rr h2.ad gn hf)
 obtain ⟨l, e1, e2⟩ := p2.l
 have h3 := Bpa (e := e) (r := r) he most ((Ai x).2.1.length + 1) ((Ai x').2.1.length + 1) (Ai x).2 (Ai x').2 [(Ai x).1] (by omega) (by simp only [e1, e2, List.length_append, List.length_singleton]; omega)
 rw [q2]
 exact h3.pp p2 gn hf
theorem neg_eq {c d : Bool} {a b : Int} (h : c = d) (h2 : a = b) : (bif c then negI .i64 a else a) = (bif d then negI .i64 b else b) := by rw [h, h2]
theorem pp_head (x x' : RS) : PP e r x (Cf x).2 x' (Cf x').2 ((Cf x').1 = (Cf x).1) := by
 have h := ((Bo0 (e := e) (r := r) x x').then ((Bow ([118, 111, 108, 117, 109, 101] : List Int) _ _).then ((Bow ([102, 108, 111, 119] : List Int) _ _).then ((pp_frac ([117, 115, 101] : List Int) _ _).then ((Bow ([115, 112, 101, 101, 100] : List Int) _ _).then ((Boy ([103, 114, 97, 100, 101] : List Int) _ _).then ((Bp6 ([45] : List Int) _ _).then ((Bow [] _ _).then
  ((Bow ([119, 105, 100, 116, 104] : List Int) _ _).then ((Bow ([108, 101, 110, 103, 116, 104] : List Int) _ _).then ((Bow ([103, 114, 101, 101, 110] : List Int) _ _).then (Boy ([59] : List Int) _ _)))))))))))).hd
 refine PP.imp (P := _) h fun ⟨q0, q1, q2, q3, q4, q5, _, q6, q7, q8, q9, q10, _⟩ => ?_
 unfold Cf
 simp only [Prod.mk.injEq, and_true]
 exact ⟨q1, q2, q3, ⟨by rw [q4], by rw [q4]⟩, q5, neg_eq q6 q7, q8, q9, q10, by rw [q0]⟩
theorem pp_walk (x x' : RS) : PP e r x (Ci x).2 x' (Ci x').2 ((Ci x').1 = (Ci x).1) := by
 have h := ((Bo0 (e := e) (r := r) x x').then ((Boy ([119, 105, 116, 104] : List Int) _ _).then ((Bo0 _ _).then ((Bow ([108, 111, 110, 103] : List Int) _ _).then ((Bow ([112, 97, 99, 101] : List Int) _ _).then ((Bow ([108, 101, 97, 115, 116] : List Int) _ _).then (Boy ([59] : List Int) _ _))))))).hd
 refine PP.imp (P := _) h fun ⟨q0, q1, _, q2, q3, q4, q5, _⟩ => ?_
 unfold Ci
 simp only [Prod.mk.injEq, and_true]
 exact ⟨q1, q2, q3, q4, q5, by rw [q0]⟩
theorem Bqr (he : e.1 = 0) (hr : 1 ≤ r.length) (x x' : RS) : PP e r x (Cq x).2 x' (Cq x').2 ((Cq x').1 = (Cq x).1) := by
 have h := ((Bo0 (e := e) (r := r) x x').then ((Boy ([58] : List Int) _ _).then (Bp4 he hr 16 _ _))).hd
 refine PP.imp (P := _) h fun ⟨q0, q1, _, q2⟩ => ?_
 unfold Cq
 simp only [Prod.mk.injEq, and_true]
 exact ⟨q1, q2, by rw [q0]⟩
theorem pp_ring (he : e.1 = 0) (hr : 1 ≤ r.length) (x x' : RS) : PP e r x (B0 x).2 x' (B0 x').2 ((B0 x').1 = (B0 x).1) := by
 have h := (Bp6 (e := e) (r := r) ([102, 114, 101, 101] : List Int) x x').then (Bp4 he hr 4 _ _)
 refine PP.imp (P := _) h fun ⟨q1, q2⟩ => ?_
 unfold B0
 simp only [Prod.mk.injEq, and_true]
 exact ⟨q1, q2⟩
theorem Bqq (he : e.1 = 0) (hr : 1 ≤ r.length) (x x' : RS) : PP e r x (Ce x).2 x' (Ce x').2 ((Ce x').1 = (Ce x).1) := by
 have h := (Boy (e := e) (r := r) ([123] : List Int) x x').then ((Bp3 ([114, 105, 110, 103] : List Int) _ _).then ((Bo2 (w := ([114, 105, 110, 103] : List Int)) (most := 2) he (pp_ring he hr) hr _ _).then (Boy ([125] : List Int) _ _)))
 refine PP.imp (P := _) h fun ⟨_, _, q2, _⟩ => ?_
 unfold Ce
 simp only [Prod.mk.injEq, and_true]
 exact q2
theorem pp_foe (x x' : RS) : PP e r x (foeR x).2 x' (foeR x').2 ((foeR x').1 = (foeR x).1) := by
 have h := ((Bo0 (e := e) (r := r) x x').then ((Bo0 _ _).then (Boy ([59] : List Int) _ _))).hd
 refine PP.imp (P := _) h fun ⟨q0, q1, q2, _⟩ => ?_
 unfold foeR
 simp only [Prod.mk.injEq, and_true]
 exact ⟨q1, q2, by rw [q0]⟩
theorem Bqy {s : List Int} (hz : x.2.1 = 0) (hE : EndT x.1) (h : (Aj s x).2.1 = 0) : 2 ≤ x.1.length := by
 have hs : Aw s x = true := by
  cases hs : Aw s x
  ·exfalso
   unfold Aj at h
   rw [hs, cond_false] at h
   have h5 := Bo1 (c := 50) (by decide) hz
   unfold A0 at h
   cases hq : (A5 50 x).2.1 == 0 && (hd (A5 50 x).1).1 != 0 <;> rw [hq] at h <;> exact h5 h
  ·rfl
 unfold Aw at hs
 simp only [Bool.and_eq_true, bne_iff_ne, ne_eq] at hs
 obtain ⟨l, t, e1, ht⟩ := hE
 cases l with
 | nil => rw [e1] at hs; exact absurd ht hs.2.2.1
 | cons a l => rw [e1]; simp
theorem Bqo (he : e.1 = 0) (hr : 1 ≤ r.length) (p : Par e r x x') (g : Gd x.1) (h0 : (Bu x).2.2.1 = 0) : (Bu x').1 = (Bu x).1 ∧ Par e r (Bu x).2 (Bu x').2 := by
 have h := ((Bo0 (e := e) (r := r) x x').then ((Boy ([123] : List Int) _ _).then ((Bo2 (w := ([104, 101, 97, 100] : List Int)) (most := 16) he pp_head hr _ _).then ((Bo2 (w := ([119, 97, 108, 107] : List Int)) (most := 8) he pp_walk hr _ _).then ((Bo2 (w := ([112, 104, 97, 115, 101] : List Int)) (most := 16) he (Bqr he hr) hr _ _).then
  ((Bo2 (w := ([103, 114, 111, 117, 112] : List Int)) (most := 4) he (Bqq he hr) hr _ _).then (Bo2 (w := ([102, 111, 101] : List Int)) (most := 64) he pp_foe hr _ _))))))).hd
 unfold Bu at h0 ⊢
 simp only at h0 ⊢
 generalize hz : (Ay ([102, 111, 101] : List Int) 64 foeR (Ay ([103, 114, 111, 117, 112] : List Int) 4 Ce (Ay ([112, 104, 97, 115, 101] : List Int) 16 Cq (Ay ([119, 97, 108, 107] : List Int) 8 Ci (Ay ([104, 101, 97, 100] : List Int) 16 Cf (Aj ([123] : List Int) (Ai x).2)).2).2).2).2).2 = z at h h0 ⊢
 generalize (Ay ([102, 111, 101] : List Int) 64 foeR (Ay ([103, 114, 111, 117, 112] : List Int) 4 Ce (Ay ([112, 104, 97, 115, 101] : List Int) 16 Cq (Ay ([119, 97, 108, 107] : List Int) 8 Ci (Ay ([104, 101, 97, 100] : List Int) 16 Cf (Aj ([123] : List Int) (Ai x').2)).2).2).2).2).2 = z' at h ⊢
 have gz := g.suf h.rr.s
 have z0 := ((Cx ([125] : List Int) z).p gz h0).1
 have z2 := Bqy z0 (h.ad.g (p.endT he)) h0
 obtain ⟨pz, q0, q1, _, q2, q3, q4, q5, q6⟩ := h.pp p g ⟨z0, z2⟩
 refine ⟨?_, ?_⟩
 ·simp only [Prod.mk.injEq, and_true]
  exact ⟨q1, q2, q3, q4, q5, q6, by rw [q0]⟩
 ·have hs := pz.sees z2 ([125] : List Int)
  unfold Aj
  rw [hs]
  cases hq : Aw ([125] : List Int) z
  ·exfalso
   unfold Aj at h0
   rw [hq, cond_false] at h0
   have h5 := Bo1 (c := 50) (by decide) z0
   unfold A0 at h0
   cases hq2 : (A5 50 z).2.1 == 0 && (Go.Proofs.YtipcdjgcomclkaaGreatDoorV.hd (A5 50 z).1).1 != 0 <;> rw [hq2] at h0 <;> exact h5 h0
  ·exact pz.next z2
end
theorem Bpz (na : Nat) (b : List Int) (g : Nat) (hg : b.length < g) (hb : (lx b.length g b).1 ≠ 0) (m : Nat) : ∀ (f : Nat) (s : List Int), s.length < f → (lx na f s).1 = 0 → (lx m (f + g) (s ++ 10 :: b)).1 ≠ 0
 | 0, s, h, _ => by omega
 | f + 1, s, hs, h => by
  have hl := J3 false s
  have hm : ∀ (n : Nat) (f : Nat) (s : List Int), ((lx n f s).1 = 0 ↔ (lx m f s).1 = 0) := by
   intro n f
   induction f with
   | zero => intro s; exact Iff.rfl
   | succ f ih =>
    intro s
    rw [lx, lx]
    cases drp false s with
    | nil => exact Iff.rfl
    | cons x r =>
     simp only []
     by_cases h0 : (tok1 (x :: r)).1 = 0
     ·rw [if_pos h0, if_pos h0]
      have := ih (tok1 (x :: r)).2.2.2.2
      by_cases h1 : (lx n f (tok1 (x :: r)).2.2.2.2).1 = 0
      ·rw [if_pos h1, if_pos (this.1 h1)]
      ·rw [if_neg h1, if_neg fun c => h1 (this.2 c)]
       exact this
     ·rw [if_neg h0, if_neg h0]
  cases hd : drp false s with
  | nil =>
   have e : lx m (f + 1 + g) (s ++ 10 :: b) = lx m g b := by
    rw [Abd _ g (f + 1 + g) b hg (by omega), show f + 1 + g = (f + g) + 1 by omega, lx, lx, L4 false s b hd]
   rw [e]
   exact fun c => hb ((hm _ _ _).2 c)
  | cons x r =>
   rw [lx, hd] at h
   rw [hd] at hl
   simp only [] at h
   rw [show f + 1 + g = (f + g) + 1 by omega, lx, J1 false s (10 :: b) hd]
   rw [List.cons_append]
   simp only []
   rw [← List.cons_append]
   by_cases h0 : (tok1 (x :: r)).1 = 0
   ·have hr := Jo h0
    rw [List.length_cons] at hl
    have et := A03 (c := 10) (b := b) (by decide) h0
    rw [if_pos h0] at h
    by_cases h1 : (lx na f (tok1 (x :: r)).2.2.2.2).1 = 0
    ·have IH := Bpz na b g hg hb m f _ (by omega) h1
     simp only [et, if_true, if_neg IH]
     exact IH
    ·rw [if_neg h1] at h; exact absurd h h1
   ·rw [if_neg h0] at h; exact absurd h h0
theorem Bqu {x : RS} {s : List Int} (hE : EndT x.1) (hs : Aw s x = true) : 2 ≤ x.1.length := by
 unfold Aw at hs
 simp only [Bool.and_eq_true, bne_iff_ne, ne_eq] at hs
 obtain ⟨l, t, e1, ht⟩ := hE
 cases l with
 | nil => rw [e1] at hs; exact absurd ht hs.2.2.1
 | cons a l => rw [e1]; simp
theorem Bpn {w : List Int} {a m : Int} {x : RS} (hz : x.2.1 = 0) (h : (A3 w a m x).1 = false) (h2 : (A3 w a m x).2.2.1 = 0) : Aw w x = false ∧ (A3 w a m x).2 = x := by
 unfold A3 at h h2 ⊢
 cases hs : Aw w x <;> rw [hs] at h h2
 ·exact ⟨rfl, rfl⟩
 ·cases hb : a == m <;> rw [hb] at h h2
  ·cases h
  ·exact absurd h2 (Bo1 (by decide) hz)
theorem Bpo {w : List Int} {a m : Int} {x : RS} (h : (A3 w a m x).1 = true) : Aw w x = true ∧ (a == m) = false ∧ (A3 w a m x).2 = A0 x := by
 unfold A3 at h ⊢
 cases hs : Aw w x <;> rw [hs] at h
 ·cases h
 ·cases hb : a == m <;> rw [hb] at h
  ·exact ⟨rfl, rfl, rfl⟩
  ·cases h
theorem Bpp {w : List Int} {a m : Int} {x : RS} (h : Aw w x = true) (h2 : (a == m) = false) : A3 w a m x = (true, A0 x) := by
 unfold A3
 rw [h, h2]; rfl
theorem Bqe {w : List Int} {a m : Int} {x : RS} (h : Aw w x = false) : A3 w a m x = (false, x) := by
 unfold A3
 rw [h]; rfl
theorem Bpi (x : RS) : Rr x (Bu x).2 True := (Bp8 x).imp fun _ => trivial
theorem Bp1 {e : Tk} {r : List Tk} (he : e.1 = 0) (hr : 1 ≤ r.length) : ∀ (f f' : Nat) (x x' : RS) (o : List YT6), Par e r x x' → Gd x.1 → x.1.length ≤ f → x'.1.length < f' →
  (Bl ([110, 111, 100, 101] : List Int) 12 Bu f x o).2.2.1 = 0 → (Bl ([110, 111, 100, 101] : List Int) 12 Bu f x o).2.1 = [e] →
  ∃ f'' p, Bl ([110, 111, 100, 101] : List Int) 12 Bu f' x' o = Bl ([110, 111, 100, 101] : List Int) 12 Bu f'' (r, 0, p) (Bl ([110, 111, 100, 101] : List Int) 12 Bu f x o).1 ∧ r.length < f''
 | 0, f', x, x', o, p, g, h1, h2, h3, h4 => by
  have := List.length_pos_iff.2 (p.endT he).ne
  omega
 | f + 1, f', x, x', o, p, g, h1, h2, h3, h4 => by
  have hE := p.endT he
  rw [Bl] at h3 h4 ⊢
  cases hc : (A3 ([110, 111, 100, 101] : List Int) ((o.length : Nat) : Int) 12 x).1 <;> rw [hc] at h3 h4
  ·obtain ⟨hs, hx⟩ := Bpn p.z hc h3
   simp only [cond_false] at h4 ⊢
   rw [hx] at h4
   obtain ⟨l, e1, e2⟩ := p.l
   have hl : l = [] := by
    rw [e1] at h4
    cases l with
    | nil => rfl
    | cons a l => have := congrArg List.length h4; simp at this
   subst hl
   refine ⟨f', x.2.2, ?_, ?_⟩
   ·rw [show x' = (r, 0, x.2.2) from Prod.ext e2 (by rw [p.c, ← p.z])]
   ·rw [e2] at h2; exact h2
  ·obtain ⟨hs, hab, hx⟩ := Bpo hc
   have h2x := Bqu hE hs
   cases f' with
   | zero => omega
   | succ f' =>
    have lt := A1u hc hE
    rw [Bl, Bpp (by rw [p.sees h2x, hs]) hab]
    rw [hx] at h3 h4 lt ⊢
    simp only [cond_true] at h3 h4 ⊢
    have pn := p.next h2x
    have gn := g.suf (D8 x)
    have h5 := ((Bo7 ([110, 111, 100, 101] : List Int) 12 Bu Bpi f _ _).p (gn.suf (Acl _)) h3).1
    obtain ⟨q, p3⟩ := Bqo he hr pn gn h5
    have l1 := (Sf (A0 x)).l
    have l2 := (Sf (A0 x')).l
    have lt' : (A0 x').1.length < x'.1.length := by
     obtain ⟨t, l, e1, e2⟩ := p.two h2x
     have hs' : Aw ([110, 111, 100, 101] : List Int) x' = true := by rw [p.sees h2x, hs]
     unfold Aw at hs'
     simp only [Bool.and_eq_true] at hs'
     have : (x'.2.1 == 0 && (hd x'.1).1 != 0) = true := by simp only [Bool.and_eq_true]; exact ⟨hs'.1, hs'.2.2.1⟩
     unfold A0
     rw [this, cond_true, e2]
     simp
    rw [q]
    exact Bp1 he hr f f' _ _ _ p3 (gn.suf (Acl _)) (by omega) (by omega) h3 h4
theorem Bp0 : ∀ (f f' : Nat) (u v : RS) (o q : List YT6), Eqp u v → EndT u.1 → u.2.1 = 0 → Gd u.1 → u.1.length < f → v.1.length < f' → o.length ≤ q.length → q.length ≤ 12 → (Bl ([110, 111, 100, 101] : List Int) 12 Bu f u o).2.2.1 = 0 →
  o.length ≤ (Bl ([110, 111, 100, 101] : List Int) 12 Bu f u o).1.length ∧
  if q.length + (Bl ([110, 111, 100, 101] : List Int) 12 Bu f u o).1.length ≤ 12 + o.length then (Bl ([110, 111, 100, 101] : List Int) 12 Bu f' v q).1.length + o.length = q.length + (Bl ([110, 111, 100, 101] : List Int) 12 Bu f u o).1.length ∧ Eqp (Bl ([110, 111, 100, 101] : List Int) 12 Bu f u o).2 (Bl ([110, 111, 100, 101] : List Int) 12 Bu f' v q).2
  else (Bl ([110, 111, 100, 101] : List Int) 12 Bu f' v q).2.2.1 = 4
 | 0, f', u, v, o, q, h, hE, hz, g, h1, h2, h3, h4, h5 => by omega
 | f + 1, 0, u, v, o, q, h, hE, hz, g, h1, h2, h3, h4, h5 => by omega
 | f + 1, f' + 1, u, v, o, q, h, hE, hz, g, h1, h2, h3, h4, h5 => by
  have hl := h.len
  rw [Bl] at h5 ⊢
  rw [Bl]
  cases hc : (A3 ([110, 111, 100, 101] : List Int) ((o.length : Nat) : Int) 12 u).1 <;> rw [hc] at h5
  ·obtain ⟨hs, hx⟩ := Bpn hz hc h5
   simp only [cond_false]
   rw [hx, Bqe (by rw [← Ix _ h]; exact hs)]
   simp only [cond_false]
   refine ⟨Nat.le_refl _, ?_⟩
   rw [if_pos (by omega)]
   exact ⟨by first | trivial | rfl, h⟩
  ·obtain ⟨hs, hab, hx⟩ := Bpo hc
   have lt := A1u hc hE
   rw [hx] at h5 lt ⊢
   simp only [cond_true] at h5 ⊢
   have hn := Ho h
   have gn := g.suf (D8 u)
   have h6 := ((Bo7 ([110, 111, 100, 101] : List Int) 12 Bu Bpi f _ _).p (gn.suf (Acl _)) h5).1
   have l1 := (Sf (A0 u)).l
   have hln := hn.len
   have lo := Au5 ([110, 111, 100, 101] : List Int) 12 Bu f (Bu (A0 u)).2 (o ++ [(Bu (A0 u)).1])
   rw [List.length_append, List.length_singleton] at lo
   refine ⟨by omega, ?_⟩
   have hs' : Aw ([110, 111, 100, 101] : List Int) v = true := by rw [← Ix _ h]; exact hs
   by_cases hq : q.length = 12
   ·have : A3 ([110, 111, 100, 101] : List Int) ((q.length : Nat) : Int) 12 v = (false, A5 4 v) := by
     unfold A3
     rw [hs', hq]; rfl
    rw [this, if_neg (by omega)]
    show (A5 4 v).2.1 = 4
    unfold A5
    rw [show (v.2.1 == 0) = true by rw [← h.e, hz]; rfl]
    rfl
   ·rw [Bpp hs' (by simp; omega)]
    simp only [cond_true]
    have en := eq_node hn
    obtain ⟨_, IH⟩ := Bp0 f f' (Bu (A0 u)).2 (Bu (A0 v)).2 (o ++ [(Bu (A0 u)).1]) (q ++ [(Bu (A0 v)).1]) en.2 ((Sf _).g ((Ew u).g hE)) h6 (gn.suf (Acl _)) (by omega)
     (by have := en.2.len; omega) (by simp; omega) (by simp; omega) h5
    simp only [List.length_append, List.length_singleton] at IH
    by_cases hk : q.length + (Bl ([110, 111, 100, 101] : List Int) 12 Bu f (Bu (A0 u)).2 (o ++ [(Bu (A0 u)).1])).1.length ≤ 12 + o.length
    ·rw [if_pos hk]
     rw [if_pos (by omega)] at IH
     exact ⟨by omega, IH.2⟩
    ·rw [if_neg hk]
     rw [if_neg (by omega)] at IH
     exact IH
def artR (x : RS) : (List YT7 × Int × Int) × RS := bif Aw ([97, 114, 116, 101, 114, 121] : List Int) x then Bf (A0 x) else (([], 0, 0), x)
def Bov (x : RS) : NetT × RS :=
 ((1, 2, 3, 4, 5, (Ay ([110, 111, 100, 101] : List Int) 12 Bu x).1, (artR (Ay ([110, 111, 100, 101] : List Int) 12 Bu x).2).1.1, (artR (Ay ([110, 111, 100, 101] : List Int) 12 Bu x).2).1.2.1, (artR (Ay ([110, 111, 100, 101] : List Int) 12 Bu x).2).1.2.2),
  bif (hd (artR (Ay ([110, 111, 100, 101] : List Int) 12 Bu x).2).2.1).1 != 0 then A5 50 (artR (Ay ([110, 111, 100, 101] : List Int) 12 Bu x).2).2 else (artR (Ay ([110, 111, 100, 101] : List Int) 12 Bu x).2).2)
def Bos : List Int := ([99, 121, 99, 108, 101, 32, 49, 32, 116, 111, 32, 50, 32, 98, 121, 32, 51, 59, 32, 112, 101, 97, 107, 32, 52, 47, 53, 59] : List Int)
def hdTk : List Tk := (lx 28 29 Bos).2.2.dropLast
theorem Bpx : (lx 28 29 Bos).1 = 0 := by kernel_rfl
theorem Bqn (T : List Tk) : netR (hdTk ++ T, 0, 0) = Bov (T, 0, 0) := by kernel_rfl
theorem Bpq {x : RS} (h : (bif (hd x.1).1 != 0 then A5 50 x else x).2.1 = 0) : (hd x.1).1 = 0 ∧ x.2.1 = 0 := by
 cases hc : (hd x.1).1 != 0 <;> rw [hc] at h
 ·exact ⟨by simpa using hc, h⟩
 ·exfalso
  have h2 : (A5 50 x).2.1 = 0 := h
  unfold A5 at h2
  cases h3 : x.2.1 == 0 <;> rw [h3] at h2
  ·have h4 : x.2.1 = 0 := h2
   rw [h4] at h3
   cases h3
  ·exact absurd (show (50 : Int) = 0 from h2) (by decide)
theorem Bpm {x : RS} (h : Aw ([97, 114, 116, 101, 114, 121] : List Int) x = false) : artR x = (([], 0, 0), x) := by
 unfold artR
 rw [h]; rfl
theorem Bqt {x : RS} {s : List Int} (hE : EndT x.1) (h : Aw s x = true) : ∃ t ∈ x.1, t.1 ≠ 0 ∧ t.2.1 = s := by
 unfold Aw at h
 simp only [Bool.and_eq_true, bne_iff_ne, ne_eq, beq_iff_eq] at h
 cases hx : x.1 with
 | nil => exact absurd hx hE.ne
 | cons t l =>
  rw [hx] at h
  exact ⟨t, by simp, h.2.2.1, h.2.2.2⟩
theorem suf_end {l : List Tk} {e : Tk} {x : List Tk} (h : x <:+ l ++ [e]) (hl : ∀ t ∈ l, t.1 ≠ 0) (hx : x ≠ []) (h0 : (hd x).1 = 0) : x = [e] := by
 obtain ⟨p, hp⟩ := h
 cases x with
 | nil => exact absurd rfl hx
 | cons t q =>
  cases q with
  | nil =>
   have := congrArg List.getLast? hp
   simp at this
   rw [this]
  | cons u q =>
   exfalso
   obtain ⟨z, zs, hz⟩ : ∃ z zs, u :: q = zs ++ [z] := ⟨(u :: q).getLast (by simp), (u :: q).dropLast, (List.dropLast_concat_getLast (by simp)).symm⟩
   rw [hz] at hp
   have hp2 : (p ++ t :: zs) ++ [z] = l ++ [e] := by rw [← hp]; simp
   have h3 := (List.append_inj' hp2 rfl).1
   exact hl t (by rw [← h3]; simp) h0
theorem Bqs {A B B2 : List Tk} {e : Tk} (he : e.1 = 0) (hA : ∀ t ∈ A, t.1 ≠ 0 ∧ t.2.1 ≠ ([97, 114, 116, 101, 114, 121] : List Int)) (gA : Gd (A ++ [e])) (gB : Gd B) (hE : EndT B) (hB : B.map strip = B2.map strip)
  (h1 : (Bov (A ++ [e], 0, 0)).2.2.1 = 0) (h2 : (Bov (B, 0, 0)).2.2.1 = 0) :
  if (Bov (A ++ [e], 0, 0)).1.2.2.2.2.2.1.length + (Bov (B, 0, 0)).1.2.2.2.2.2.1.length ≤ 12 then (Bov (A ++ B2, 0, 0)).2.2.1 = 0 ∧
   (Bov (A ++ B2, 0, 0)).1.2.2.2.2.2.1.length = (Bov (A ++ [e], 0, 0)).1.2.2.2.2.2.1.length + (Bov (B, 0, 0)).1.2.2.2.2.2.1.length ∧ (Bov (A ++ B2, 0, 0)).1.2.2.2.2.2.2.1.length = (Bov (B, 0, 0)).1.2.2.2.2.2.2.1.length
  else (Bov (A ++ B2, 0, 0)).2.2.1 = 4 := by
 have hBl : B.length = B2.length := by have := congrArg List.length hB; simpa using this
 have hB1 := List.length_pos_iff.2 hE.ne
 have hEA : EndT (A ++ [e]) := ⟨A, e, rfl, he⟩
 unfold Bov at h1 h2 ⊢
 simp only at h1 h2 ⊢
 obtain ⟨k1, k2⟩ := Bpq h1
 obtain ⟨k3, k4⟩ := Bpq h2
 have sA := G9 (w := ([110, 111, 100, 101] : List Int)) (most := 12) Acl (A ++ [e], 0, 0)
 have eA := (Gq (w := ([110, 111, 100, 101] : List Int)) (most := 12) Sf (A ++ [e], 0, 0)).g hEA
 have noA : Aw ([97, 114, 116, 101, 114, 121] : List Int) (Ay ([110, 111, 100, 101] : List Int) 12 Bu (A ++ [e], 0, 0)).2 = false := by
  cases hs : Aw ([97, 114, 116, 101, 114, 121] : List Int) (Ay ([110, 111, 100, 101] : List Int) 12 Bu (A ++ [e], 0, 0)).2
  ·rfl
  ·exfalso
   obtain ⟨t, ht, t0, t1⟩ := Bqt eA hs
   have := sA.subset ht
   rcases List.mem_append.1 this with h | h
   ·exact (hA t h).2 t1
   ·rw [List.mem_singleton.1 h] at t0; exact t0 he
 rw [Bpm noA] at k1 k2
 simp only at k1 k2
 have hend := suf_end sA (fun t ht => (hA t ht).1) eA.ne k1
 have par : Par e B2 (A ++ [e], 0, 0) (A ++ B2, 0, 0) := ⟨rfl, rfl, A, rfl, rfl⟩
 obtain ⟨f2, p, hj, hf2⟩ := Bp1 he (r := B2) (by omega) _ ((A ++ B2).length + 1) _ _ [] par gA (Nat.le_succ _) (by simp) k2 hend
 have b0 := ((Bp7 (Ay ([110, 111, 100, 101] : List Int) 12 Bu (B, 0, 0)).2).p (gB.suf (G9 (w := ([110, 111, 100, 101] : List Int)) (most := 12) Acl (B, 0, 0))) k4).1
 have hm12 : (Ay ([110, 111, 100, 101] : List Int) 12 Bu (A ++ [e], 0, 0)).1.length ≤ 12 := by
  have := ((Awv ([110, 111, 100, 101] : List Int) 12 Bu (fun _ => true) (fun x => (Bpi x).imp fun _ => rfl) _ (A ++ [e], 0, 0) []).p gA k2).2 (by simp) (by simp)
  have h := this.2
  show (Bl ([110, 111, 100, 101] : List Int) 12 Bu _ (A ++ [e], 0, 0) []).1.length ≤ 12
  simp only at h
  omega
 have ha := Bp0 ((B, (0 : Int), (0 : Int)).1.length + 1) f2 (B, 0, 0) (B2, 0, p) [] (Ay ([110, 111, 100, 101] : List Int) 12 Bu (A ++ [e], 0, 0)).1 ⟨rfl, hB⟩ hE rfl gB (Nat.lt_succ_self _) hf2 (Nat.zero_le _) hm12 b0
 have hR : Ay ([110, 111, 100, 101] : List Int) 12 Bu (A ++ B2, 0, 0) = Bl ([110, 111, 100, 101] : List Int) 12 Bu f2 (B2, 0, p) (Ay ([110, 111, 100, 101] : List Int) 12 Bu (A ++ [e], 0, 0)).1 := hj
 have hL : Ay ([110, 111, 100, 101] : List Int) 12 Bu (B, 0, 0) = Bl ([110, 111, 100, 101] : List Int) 12 Bu ((B, (0 : Int), (0 : Int)).1.length + 1) (B, 0, 0) [] := rfl
 rw [hR]
 rw [← hL] at ha
 obtain ⟨_, ha⟩ := ha
 simp only [List.length_nil, Nat.add_zero] at ha
 by_cases hk : (Ay ([110, 111, 100, 101] : List Int) 12 Bu (A ++ [e], 0, 0)).1.length + (Ay ([110, 111, 100, 101] : List Int) 12 Bu (B, 0, 0)).1.length ≤ 12
 ·rw [if_pos hk] at ha ⊢
  obtain ⟨a1, a2⟩ := ha
  have ea := eq_art a2
  have e2 : Eqp (artR (Ay ([110, 111, 100, 101] : List Int) 12 Bu (B, 0, 0)).2).2 (artR (Bl ([110, 111, 100, 101] : List Int) 12 Bu f2 (B2, 0, p) (Ay ([110, 111, 100, 101] : List Int) 12 Bu (A ++ [e], 0, 0)).1).2).2 := ea.2.2
  have e1 : (artR (Ay ([110, 111, 100, 101] : List Int) 12 Bu (B, 0, 0)).2).1.1.map erS = (artR (Bl ([110, 111, 100, 101] : List Int) 12 Bu f2 (B2, 0, p) (Ay ([110, 111, 100, 101] : List Int) 12 Bu (A ++ [e], 0, 0)).1).2).1.1.map erS := ea.1
  refine ⟨?_, a1, ?_⟩
  ·rw [show ((hd (artR (Bl ([110, 111, 100, 101] : List Int) 12 Bu f2 (B2, 0, p) (Ay ([110, 111, 100, 101] : List Int) 12 Bu (A ++ [e], 0, 0)).1).2).2.1).1 != 0) = false by rw [← e2.hd.1, k3]; rfl, cond_false, ← e2.e]
   exact k4
  ·have := congrArg List.length e1
   simpa using this.symm
 ·rw [if_neg hk] at ha ⊢
  have no4 : Aw ([97, 114, 116, 101, 114, 121] : List Int) (Bl ([110, 111, 100, 101] : List Int) 12 Bu f2 (B2, 0, p) (Ay ([110, 111, 100, 101] : List Int) 12 Bu (A ++ [e], 0, 0)).1).2 = false := by
   unfold Aw
   rw [ha]; rfl
  rw [Bpm no4]
  simp only
  cases (hd (Bl ([110, 111, 100, 101] : List Int) 12 Bu f2 (B2, 0, p) (Ay ([110, 111, 100, 101] : List Int) 12 Bu (A ++ [e], 0, 0)).1).2.1).1 != 0
  ·exact ha
  ·simp only [cond_true]
   unfold A5
   rw [show ((Bl ([110, 111, 100, 101] : List Int) 12 Bu f2 (B2, 0, p) (Ay ([110, 111, 100, 101] : List Int) 12 Bu (A ++ [e], 0, 0)).1).2.2.1 == 0) = false by rw [ha]; rfl, cond_false]
   exact ha
theorem Boz {b : List Int} (h : b.length ≤ 65536) : toks b = lx b.length (b.length + 1) b := by unfold toks; rw [if_neg (by omega)]
theorem Bqd (k : Nat) (a : List Int) (hk : 200000 ≤ k) (ha : a.length ≤ 2000) : Bo8 k a = some (!((toks a).2.2.all fun t => !(t.2.1 == ([97, 114, 116, 101, 114, 121] : List Int)))) := by
 rw [Bql, Bpd, Bom k a (by omega) (by omega), Option.bind_some]
 have hl := Bm2 a.length (a.length + 1) a
 rw [← Boz (by omega)] at hl
 have h := Nq (toks a).2.2 (fun t => !(t.2.1 == ([97, 114, 116, 101, 114, 121] : List Int))) (fun j i => (Box k).L 3 [] j (Bo5 (i, (toks a).2.2))) (some true) (some false) (fun j i x hx => ?_) (fun j => ?_) k (by omega)
 ·rw [h]
  cases ((toks a).2.2.all fun t => !(t.2.1 == ([97, 114, 116, 101, 114, 121] : List Int))) <;> rfl
 ·obtain ⟨i1, i2⟩ := rd_at (d := zt8) hx
  rw [Bpv, Bo9, Em hx, i1, cond_true, i2, Eu hx (by omega)]
  cases x.2.1 == ([97, 114, 116, 101, 114, 121] : List Int) <;> rfl
 ·rw [Bpv, Bo9, En]
theorem Bo6 : Bos.length = 28 := by decide
theorem Bpl {b : List Int} (hb : b.length ≤ 60000) (h : (toks b).1 = 0) : (toks (Bos ++ 10 :: b)).1 = 0 ∧ (toks (Bos ++ 10 :: b)).2.2 = hdTk ++ (toks b).2.2.map (R0 29) := by
 rw [Boz (b := b) (by omega)] at h ⊢
 rw [Boz (b := Bos ++ 10 :: b) (by rw [List.length_append, Bo6, List.length_cons]; omega)]
 have := Bpg 28 b (b.length + 1) (by omega) h 29 Bos (by decide) (by decide) Bpx
 rw [show (Bos ++ 10 :: b).length = 28 + 1 + b.length by rw [List.length_append, Bo6, List.length_cons]; omega, show 28 + 1 + b.length + 1 = 29 + (b.length + 1) by omega, this]
 exact ⟨rfl, rfl⟩
theorem Bqc {b : List Int} (hb : b.length ≤ 60000) (h : (toks (Bos ++ 10 :: b)).1 = 0) : (toks b).1 = 0 := by
 rw [Boz (b := b) (by omega)]
 rw [Boz (b := Bos ++ 10 :: b) (by rw [List.length_append, Bo6, List.length_cons]; omega)] at h
 refine Classical.byContradiction fun hc => ?_
 have := Bpz 28 b (b.length + 1) (by omega) hc (Bos ++ 10 :: b).length 29 Bos (by decide) Bpx
 rw [show (Bos ++ 10 :: b).length + 1 = 29 + (b.length + 1) by rw [List.length_append, Bo6, List.length_cons]; omega] at h
 exact this h
theorem Bqx {a b : List Int} (ha : a.length ≤ 2000) (hb : b.length ≤ 2000) (h1 : (toks a).1 = 0) (h2 : (toks b).1 = 0) : (toks (a ++ 10 :: b)).1 = 0 ∧ (toks (a ++ 10 :: b)).2.2 = (toks a).2.2.dropLast ++ (toks b).2.2.map (R0 (a.length + 1)) := by
 rw [Boz (b := a) (by omega)] at h1 ⊢
 rw [Boz (b := b) (by omega)] at h2
 rw [Boz (b := b) (by omega), Boz (b := a ++ 10 :: b) (by rw [List.length_append, List.length_cons]; omega)]
 have := Bpg a.length b (b.length + 1) (by omega) h2 (a.length + 1) a (by omega) (by omega) h1
 rw [show (a ++ 10 :: b).length = a.length + 1 + b.length by rw [List.length_append, List.length_cons]; omega, show a.length + 1 + b.length + 1 = (a.length + 1) + (b.length + 1) by omega, this]
 exact ⟨rfl, rfl⟩
theorem Bph {b : List Int} {T : List Tk} (h : (toks b).1 = 0) (e : (toks b).2.2 = hdTk ++ T) : (Cp b).2.1 = (Bov (T, 0, 0)).2.2.1 ∧ ((Bov (T, 0, 0)).2.2.1 = 0 → (Cp b).1 = (Bov (T, 0, 0)).1) := by
 unfold Cp
 rw [h, e, Bqn]
 cases h1 : (Bov (T, 0, 0)).2.2.1 != 0
 ·have h2 : (Bov (T, 0, 0)).2.2.1 = 0 := by simpa using h1
  exact ⟨h2.symm, fun _ => rfl⟩
 ·have h2 : ¬ (Bov (T, 0, 0)).2.2.1 = 0 := by simpa using h1
  exact ⟨rfl, fun h => absurd h h2⟩
theorem Bpj (d : Nat) (l : List Tk) : (l.map (R0 d)).map strip = l.map strip := by
 rw [List.map_map]
 rfl
theorem Bqb {l : List Tk} (d : Nat) (g : Gd l) : Gd (l.map (R0 d)) := by
 intro t ht
 obtain ⟨u, hu, rfl⟩ := List.mem_map.1 ht
 exact g u hu
theorem Bqw {l : List Tk} (d : Nat) (h : EndT l) : EndT (l.map (R0 d)) := by
 obtain ⟨r, t, rfl, ht⟩ := h
 exact ⟨r.map (R0 d), R0 d t, by simp, ht⟩
theorem Bqm {a b : List Int} (ha : a.length ≤ 2000) (hb : b.length ≤ 2000) (h1 : (Cp (Bos ++ 10 :: a)).2.1 = 0) (h2 : (Cp (Bos ++ 10 :: b)).2.1 = 0) (hA : ((toks a).2.2.all fun t => !(t.2.1 == ([97, 114, 116, 101, 114, 121] : List Int))) = true) :
  if (Cp (Bos ++ 10 :: a)).1.2.2.2.2.2.1.length + (Cp (Bos ++ 10 :: b)).1.2.2.2.2.2.1.length ≤ 12 then (Cp (Bos ++ 10 :: (a ++ 10 :: b))).2.1 = 0 ∧
   (Cp (Bos ++ 10 :: (a ++ 10 :: b))).1.2.2.2.2.2.1.length = (Cp (Bos ++ 10 :: a)).1.2.2.2.2.2.1.length + (Cp (Bos ++ 10 :: b)).1.2.2.2.2.2.1.length ∧ (Cp (Bos ++ 10 :: (a ++ 10 :: b))).1.2.2.2.2.2.2.1.length = (Cp (Bos ++ 10 :: b)).1.2.2.2.2.2.2.1.length
  else (Cp (Bos ++ 10 :: (a ++ 10 :: b))).2.1 = 4 := by
 have tk : ∀ {b : List Int}, (Cp b).2.1 = 0 → (toks b).1 = 0 := by
  intro b h
  unfold Cp at h
  cases h0 : (toks b).1 != 0 <;> rw [h0] at h
  ·simpa using h0
  ·exact h
 have ta := Bqc (by omega) (tk h1)
 have tb := Bqc (by omega) (tk h2)
 obtain ⟨sa, ea⟩ := Bpl (by omega) ta
 obtain ⟨sb, eb⟩ := Bpl (by omega) tb
 obtain ⟨s2, e2⟩ := Bqx ha hb ta tb
 obtain ⟨s3, e3⟩ := Bpl (b := a ++ 10 :: b) (by rw [List.length_append, List.length_cons]; omega) s2
 obtain ⟨g, p, ga, gr, -⟩ := Bm1 a.length (a.length + 1) a (by omega) (by rw [← Boz (by omega)]; exact ta)
 rw [← Boz (by omega)] at ga
 rw [ga] at ea e2 hA
 rw [List.dropLast_concat] at e2
 rw [List.map_append, List.map_cons, List.map_nil] at ea
 rw [e2, List.map_append] at e3
 obtain ⟨p1, q1⟩ := Bph sa ea
 obtain ⟨p2, q2⟩ := Bph sb eb
 obtain ⟨p3, q3⟩ := Bph s3 e3
 have hE := (Bki tb).1
 have key := Bqs (A := g.map (R0 29)) (B := (toks b).2.2.map (R0 29)) (B2 := ((toks b).2.2.map (R0 (a.length + 1))).map (R0 29)) (e := R0 29 (0, [], 0, p, ())) rfl (fun t ht => by
   obtain ⟨u, hu, rfl⟩ := List.mem_map.1 ht
   refine ⟨(rgt_kd (gr u hu)).1, ?_⟩
   have := List.all_eq_true.1 hA u (by simp [hu])
   have h9 : ¬ u.2.1 = ([97, 114, 116, 101, 114, 121] : List Int) := by simpa using this
   exact h9) (by
   have := Bqb 29 (Bpk a)
   rw [ga] at this
   simpa using this) (Bqb 29 (Bpk b)) (Bqw 29 hE) (by rw [Bpj, Bpj, Bpj]) (by rw [← p1]; exact h1) (by rw [← p2]; exact h2)
 rw [q1 (by rw [← p1]; exact h1), q2 (by rw [← p2]; exact h2), p3]
 by_cases hk : (Bov (g.map (R0 29) ++ [R0 29 (0, [], 0, p, ())], 0, 0)).1.2.2.2.2.2.1.length + (Bov ((toks b).2.2.map (R0 29), 0, 0)).1.2.2.2.2.2.1.length ≤ 12
 ·rw [if_pos hk] at key ⊢
  rw [q3 key.1]
  exact key
 ·rw [if_neg hk] at key ⊢
  exact key
theorem netNodes_pure (x : Bqi) : ∃ k, Bpb k x = some true := by
 obtain ⟨a, b⟩ := x
 obtain ⟨k, hk⟩ : ∃ k : Nat, k = 200000 := ⟨_, rfl⟩
 refine ⟨k, ?_⟩
 have hk : 200000 ≤ k := by omega
 rw [Bqj, Bps]
 by_cases ha : (2000 : Nat) < a.length
 ·rw [show decide (((List.length a : Nat) : Int) > (2000 : Int)) = true by simp; omega]
  rfl
 by_cases hb : (2000 : Nat) < b.length
 ·rw [show decide (((List.length a : Nat) : Int) > (2000 : Int)) = false by simp; omega, show decide (((List.length b : Nat) : Int) > (2000 : Int)) = true by simp; omega]
  rfl
 have e0 : ∀ c : List Int, ([99, 121, 99, 108, 101, 32, 49, 32, 116, 111, 32, 50, 32, 98, 121, 32, 51, 59, 32, 112, 101, 97, 107, 32, 52, 47, 53, 59, 10] : List Int) ++ c = Bos ++ 10 :: c := fun c => rfl
 have l0 : ∀ c : List Int, (Bos ++ 10 :: c).length = 29 + c.length := fun c => by rw [List.length_append, Bo6, List.length_cons]; omega
 rw [show decide (((List.length a : Nat) : Int) > (2000 : Int)) = false by simp; omega, cond_false, show decide (((List.length b : Nat) : Int) > (2000 : Int)) = false by simp; omega, cond_false]
 rw [Bo3 (by simp; omega), e0, Rf k hk _ (by rw [l0]; omega) (by rw [l0]; omega), Option.bind_some, Bo3 (by simp; omega), e0, Rf k hk _ (by rw [l0]; omega) (by rw [l0]; omega), Option.bind_some, Ads k hk, Bqd k a hk (by omega)]
 rw [Bo3 (by simp; omega), e0, Bo3 (by rw [l0]; simp; omega), Bo3 (by rw [List.length_append, l0]; simp; omega), show (Bos ++ 10 :: a) ++ [10] ++ b = Bos ++ 10 :: (a ++ 10 :: b) by simp]
 rw [Rf k hk _ (by rw [l0, List.length_append, List.length_cons]; omega) (by rw [l0, List.length_append, List.length_cons]; omega)]
 have J := @Bqm a b (by omega) (by omega)
 have b1 := @Biz (Bos ++ 10 :: a)
 have b2 := @Biz (Bos ++ 10 :: b)
 generalize Cp (Bos ++ 10 :: a) = o1 at J b1 ⊢
 generalize Cp (Bos ++ 10 :: b) = o2 at J b2 ⊢
 generalize Cp (Bos ++ 10 :: (a ++ 10 :: b)) = o3 at J ⊢
 simp only [Option.bind_some]
 by_cases h1 : o1.2.1 = 0
 ·by_cases h2 : o2.2.1 = 0
  ·have B1 := b1 h1
   have B2 := b2 h2
   unfold netB at B1 B2
   simp only [Bool.and_eq_true] at B1 B2
   obtain ⟨-, -, -, -, -, -, l1, -⟩ := B1
   obtain ⟨-, -, -, -, -, -, l2, -⟩ := B2
   have l1 := Ja l1
   have l2 := Ja l2
   cases hA : ((toks a).2.2.all fun t => !(t.2.1 == ([97, 114, 116, 101, 114, 121] : List Int)))
   ·rw [h1, h2]
    cases decide (((List.length o1.1.2.2.2.2.2.2.1 : Nat) : Int) > (0 : Int)) <;> cases o1.1.2.2.2.2.2.2.2.1 != (0 : Int) <;> cases o1.1.2.2.2.2.2.2.2.2 != (0 : Int) <;> rfl
   ·have K := J h1 h2 hA
    have w : IntKind.wrap .i64 (((List.length o1.1.2.2.2.2.2.1 : Nat) : Int) + ((List.length o2.1.2.2.2.2.2.1 : Nat) : Int)) = ((o1.1.2.2.2.2.2.1.length + o2.1.2.2.2.2.2.1.length : Nat) : Int) := by
     rw [w64 (by omega)]; omega
    rw [h1, h2, w]
    by_cases hk2 : o1.1.2.2.2.2.2.1.length + o2.1.2.2.2.2.2.1.length ≤ 12
    ·rw [if_pos hk2] at K
     obtain ⟨k1, k2, k3⟩ := K
     rw [k1, k2, k3, show decide (((o1.1.2.2.2.2.2.1.length + o2.1.2.2.2.2.2.1.length : Nat) : Int) > (12 : Int)) = false by simp; omega]
     simp only [beq_self_eq_true, cond_true, cond_false]
     cases decide (((List.length o1.1.2.2.2.2.2.2.1 : Nat) : Int) > (0 : Int)) <;> cases o1.1.2.2.2.2.2.2.2.1 != (0 : Int) <;> cases o1.1.2.2.2.2.2.2.2.2 != (0 : Int) <;> rfl
    ·rw [if_neg hk2] at K
     rw [K, show decide (((o1.1.2.2.2.2.2.1.length + o2.1.2.2.2.2.2.1.length : Nat) : Int) > (12 : Int)) = true by simp; omega]
     simp only [beq_self_eq_true, cond_true, cond_false]
     cases decide (((List.length o1.1.2.2.2.2.2.2.1 : Nat) : Int) > (0 : Int)) <;> cases o1.1.2.2.2.2.2.2.2.1 != (0 : Int) <;> cases o1.1.2.2.2.2.2.2.2.2 != (0 : Int) <;> rfl
  ·have : (o2.2.1 != 0) = true := by simpa using h2
   rw [h1, this]
   rfl
 ·have : (o1.2.1 != 0) = true := by simpa using h1
  rw [this]
  rfl
end Go.Proofs.YtipcdjgcomclkaaGreatDoorV
