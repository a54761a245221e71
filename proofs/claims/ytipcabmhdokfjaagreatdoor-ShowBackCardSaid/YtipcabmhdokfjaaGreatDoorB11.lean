import Derived.Test.YtipcabmhdokfjaaGreatDoorB10
import Derived.Test.YtipcabmhdokfjaaGreatDoorB9
/-! Joined, names shortened: SA, PL, PM, PN, PQ, PR, PS, PT, PU, PV, PW, QF. -/
set_option linter.unusedVariables false
set_option linter.unusedSimpArgs false
namespace Go.Proofs.YtipcabmhdokfjaaGreatDoorV
open Go Go.RowKit
def K1 : List Int := ([99, 121, 99, 108, 101, 32, 54, 48, 48, 32, 116, 111, 32, 57, 48, 48, 32, 98, 121, 32, 49, 48, 59, 10, 112, 101, 97, 107, 32, 49, 47, 49, 59, 10, 110, 111, 100, 101, 32, 97, 32, 123, 10, 32, 32, 104, 101, 97, 100, 32, 110, 32, 118, 111, 108, 117, 109, 101, 32, 52, 48, 48, 32, 102, 108, 111, 119, 32, 49, 56, 48, 48, 32, 117, 115, 101, 32, 49, 47, 49, 32, 115, 112, 101, 101, 100, 32, 49, 53, 48, 48, 32, 103, 114, 97, 100, 101, 32, 45, 50, 48, 32, 119, 105, 100, 116, 104, 32, 49, 56, 48, 48, 32, 108, 101, 110, 103, 116, 104, 32, 54, 48, 48, 32, 103, 114, 101, 101, 110, 32, 55, 48, 59, 10, 32, 32, 119, 97, 108, 107, 32, 119, 32, 119, 105, 116, 104, 32, 112, 32, 108, 111, 110, 103, 32, 49, 53, 48, 48, 32, 112, 97, 99, 101, 32, 49, 50, 48, 32, 108, 101, 97, 115, 116, 32, 55, 48, 59, 10, 32, 32, 112, 104, 97, 115, 101, 32, 112, 58, 32, 110, 44, 32, 101, 59, 10, 32, 32, 103, 114, 111, 117, 112, 32, 123, 10, 32, 32, 32, 32, 114, 105, 110, 103, 32, 102, 114, 101, 101, 32, 112, 44, 32, 113, 59, 10, 32, 32, 125, 10, 32, 32, 102, 111, 101, 32, 110, 32, 101, 59, 10, 125, 10, 97, 114, 116, 101, 114, 121, 32, 123, 10, 32, 32, 115, 116, 111, 112, 32, 97, 32, 111, 117, 116, 32, 110, 32, 105, 110, 32, 101, 32, 97, 104, 101, 97, 100, 32, 48, 32, 98, 97, 99, 107, 32, 48, 59, 10, 32, 32, 119, 101, 105, 103, 104, 116, 115, 32, 50, 32, 49, 59, 10, 125, 10] : List Int)
theorem Cf2 (k : Nat) (u : Unit) : Qo k u = some K1 := by
 rw [Ca1]
 rfl
def shB (s : List Int) : Bool := decide (s.length ≤ 100)
def Anl (n : YT6) : Bool := shB n.1 && (decide (n.2.1.length ≤ 50) && (n.2.1.all (fun h => shB h.1) && (decide (n.2.2.1.length ≤ 50) && (n.2.2.1.all (fun p => shB p.1 && shB p.2.1) && (decide (n.2.2.2.1.length ≤ 50) &&
 (n.2.2.2.1.all (fun x => shB x.1 && (decide (x.2.1.length ≤ 50) && x.2.1.all shB)) && (decide (n.2.2.2.2.1.length ≤ 50) && (n.2.2.2.2.1.all (fun g => decide (g.1.length ≤ 5) && g.1.all (fun r => decide (r.2.1.length ≤ 50) && r.2.1.all shB)) &&
  (decide (n.2.2.2.2.2.1.length ≤ 80) && n.2.2.2.2.2.1.all (fun f => shB f.1 && shB f.2.1))))))))))
theorem Cco {n : YT6} (h : Anl n = true) : NodeS n := by
 unfold Anl shB at h
 simp only [Bool.and_eq_true, List.all_eq_true, decide_eq_true_eq] at h
 obtain ⟨h0, h1, h2, h3, h4, h5, h6, h7, h8, h9, h10⟩ := h
 exact ⟨h0, h1, fun _ => h2, h3, h4, h5, fun x hx => ⟨(h6 x hx).1, (h6 x hx).2.1, fun _ => (h6 x hx).2.2⟩, h7, fun g hg => ⟨(h8 g hg).1, fun r hr => ⟨((h8 g hg).2 r hr).1, fun _ => ((h8 g hg).2 r hr).2⟩⟩, h9, h10⟩
def netSB (n : NetT) : Bool := decide (n.2.2.2.2.2.1.length ≤ 15) && (n.2.2.2.2.2.1.all Anl && (decide (n.2.2.2.2.2.2.1.length ≤ 15) && n.2.2.2.2.2.2.1.all (fun s => shB s.1 && (shB s.2.1 && shB s.2.2.1))))
theorem netS_of {n : NetT} (h : netSB n = true) : NetS n := by
 unfold netSB shB at h
 simp only [Bool.and_eq_true, List.all_eq_true, decide_eq_true_eq] at h
 exact ⟨h.1, fun x hx => Cco (h.2.1 x hx), h.2.2.1, h.2.2.2⟩
def awChk : Bool := (Bt K1).2.1 == 0 && (netSB (Bt K1).1 && (netB (Bt K1).1 && netT (Bt K1).1 == K1))
set_option maxRecDepth 100000 in
theorem Bo6 : awChk = true := by kernel_rfl
theorem noNet_S (a : Int) : NetS (a, 0, 0, 0, 0, [], [], 0, 0) := ⟨by simp, by simp, by simp, by simp⟩
theorem Ap1 (k : Nat) (hk : 200000 ≤ k) : Mz k () = some true := by
 have h := Bo6
 unfold awChk at h
 simp only [Bool.and_eq_true, beq_iff_eq] at h
 obtain ⟨h1, h2, h3, h4⟩ := h
 have hS := netS_of h2
 have s1 := Bn9 k (by omega) _ hS h3
 have s2 := Sr k (by omega) _ hS
 rw [h4] at s1
 rw [h3] at s2
 have s3 := Sr k (by omega) _ (noNet_S (-1))
 have e3 : netB (-1, 0, 0, 0, 0, [], [], 0, 0) = false := rfl
 rw [e3] at s3
 rw [Cax, Beq, Cf2, Option.bind_some, Cdb k hk K1 (of_decide_eq_true (by kernel_rfl)), Option.bind_some]
 simp only
 generalize Bt K1 = o at *
 rw [s1, s2, s3, h1]
 simp only [Option.bind_some, beq_self_eq_true, cond_true, Bool.not_false]
abbrev T3 := Int × List Int × Int
def strip (t : Tk) : T3 := (t.1, t.2.1, t.2.2.1)
def Lexes (s : List Int) (A : List T3) : Prop := ∀ n f, s.length < f → (lx n f s).1 = 0 ∧ (lx n f s).2.2.map strip = A
theorem Cb0 : Lexes [] [(0, [], 0)] := by
 intro n f hf
 obtain ⟨f, rfl⟩ : ∃ g, f = g + 1 := ⟨f - 1, by simp at hf; omega⟩
 rw [lx]
 exact ⟨rfl, rfl⟩
theorem Cq {c : Int} {s : List Int} {A : List T3} (hc : Ck c = true) (h : Lexes s A) : Lexes (c :: s) A := by
 intro n f hf
 obtain ⟨g, rfl⟩ : ∃ g, f = g + 1 := ⟨f - 1, by simp at hf; omega⟩
 rw [List.length_cons] at hf
 have hd : drp false (c :: s) = drp false s := by
  rw [drp]
  have h35 : c ≠ 35 := by
   intro e
   rw [e] at hc
   simp [Ck] at hc
  rw [if_neg h35, if_pos hc]
 have := h n (g + 1) (by omega)
 rw [lx] at this ⊢
 rw [hd]
 exact this
theorem Yd {x : Int} {r s : List Int} {kd v : Int} {tx : List Int} {A : List T3} (h1 : drp false (x :: r) = x :: r) (h2 : tok1 (x :: r) = (0, kd, tx, v, s)) (h : Lexes s A) : Lexes (x :: r) ((kd, tx, v) :: A) := by
 intro n f hf
 obtain ⟨g, rfl⟩ : ∃ g, f = g + 1 := ⟨f - 1, by simp at hf; omega⟩
 have hr := Ov (x := x) (r := r) (by rw [h2])
 rw [h2] at hr
 simp only [] at hr
 rw [List.length_cons] at hf
 have hs := h n g (by omega)
 rw [lx, h1]
 simp only []
 rw [h2]
 simp only [if_true]
 rw [if_pos hs.1]
 refine ⟨rfl, ?_⟩
 rw [List.map_cons, hs.2]
 rfl
theorem F7 {c : Int} {s : List Int} {A : List T3} (hc : D7 c = true) (h : Lexes s A) : Lexes (c :: s) ((3, [c], 0) :: A) := by
 have e1 : B7 c = false ∧ A0 c = false ∧ Ck c = false ∧ c ≠ 35 := by
  unfold D7 at hc
  simp only [decide_eq_true_eq] at hc
  unfold B7 A0 Ck
  simp
  omega
 refine Yd ?_ ?_ h
 ·rw [drp, if_neg e1.2.2.2, e1.2.2.1]; rfl
 ·rw [tok1, e1.1, e1.2.1, hc]; rfl
def Cuts : List Int → Prop
 | [] => True
 | c :: _ => Bh c = false
theorem Y9 {p : Int → Bool} : ∀ {l : List Int}, (∀ x ∈ l, p x = true) → ∀ {s : List Int}, (∀ c r, s = c :: r → p c = false) → (l ++ s).takeWhile p = l ∧ (l ++ s).dropWhile p = s
 | [], _, [], _ => ⟨rfl, rfl⟩
 | [], _, c :: s, hs => by
  have := hs c s rfl
  simp [List.takeWhile_cons, List.dropWhile_cons, this]
 | x :: l, hl, s, hs => by
  have IH := Y9 (fun y hy => hl y (List.mem_cons_of_mem _ hy)) hs
  have := hl x (by simp)
  simp [List.takeWhile_cons, List.dropWhile_cons, this, IH.1, IH.2]
theorem Cby {w s : List Int} {A : List T3} (hw : Bw w = true) (hs : Cuts s) (h : Lexes s A) : Lexes (w ++ s) ((1, w, 0) :: A) := by
 obtain ⟨-, hl, hne, hall, c, r, rfl, hc⟩ := Ex hw
 have hcut : ∀ d q, s = d :: q → Bh d = false := by rintro d q rfl; exact hs
 obtain ⟨t1, t2⟩ := Y9 hall hcut
 have e : c ≠ 35 ∧ Ck c = false := by
  unfold B7 at hc
  unfold Ck
  simp at hc ⊢
  omega
 refine Yd (x := c) (r := r ++ s) ?_ ?_ h
 ·rw [drp, if_neg e.1, e.2]; rfl
 ·rw [List.cons_append] at t1 t2
  rw [tok1, hc, if_pos rfl, t1, t2, if_neg (by omega)]
theorem Cb2 {d s : List Int} {A : List T3} (hd : ∀ x ∈ d, A0 x = true) (hne : d ≠ []) (hl : d.length ≤ 18) (hs : Cuts s) (h : Lexes s A) : Lexes (d ++ s) ((2, d, valD d) :: A) := by
 cases d with
 | nil => exact absurd rfl hne
 | cons c r =>
  have hcut : ∀ e q, s = e :: q → A0 e = false := by rintro e q rfl; exact Cg4 hs
  obtain ⟨t1, t2⟩ := Y9 hd hcut
  have hc := hd c (by simp)
  have e : c ≠ 35 ∧ Ck c = false ∧ B7 c = false := by
   unfold A0 at hc
   unfold Ck B7
   simp at hc ⊢
   omega
  refine Yd (x := c) (r := r ++ s) ?_ ?_ h
  ·rw [drp, if_neg e.1, e.2.1]; rfl
  ·rw [List.cons_append] at t1 t2
   rw [tok1, e.2.2, hc]
   simp only [Bool.false_eq_true, if_false, if_true]
   rw [t1, t2, if_neg (by omega)]
theorem Cg1 (l : List Int) (c : Int) : valD (l ++ [c]) = 10 * valD l + (c - 48) := by
 unfold valD
 rw [List.foldl_append]
 rfl
theorem Boq : ∀ (f n : Nat), n < 10 ^ f → 1 ≤ f → valD (digN f n) = n
 | 0, n, _, h => by omega
 | f + 1, n, h, _ => by
  rw [digN]
  by_cases h10 : n < 10
  ·rw [if_pos h10]
   simp [valD]
   omega
  ·rw [if_neg h10, Cg1, Boq f (n / 10) (by rw [Nat.pow_succ] at h; omega) (by
    rcases f with _ | f
    ·simp at h; omega
    ·omega)]
   omega
def numK (n : Int) : List T3 := bif decide (n < 0) then [(3, ([45] : List Int), 0), (2, digN 18 n.natAbs, -n)] else [(2, digN 18 n.natAbs, n)]
theorem Cb3 {n : Int} (hn : inM n) {s : List Int} {A : List T3} (hs : Cuts s) (h : Lexes s A) : Lexes (numT n ++ s) (numK n ++ A) := by
 unfold inM at hn
 have L := Cb2 (d := digN 18 n.natAbs) (Wo _ _) (digN_ne 17 _) (Acl _ _) hs h
 rw [Boq 18 _ (by omega) (by omega)] at L
 unfold numT numK
 by_cases h0 : n < 0
 ·rw [if_pos h0, show decide (n < 0) = true by simpa using h0]
  have e : ((n.natAbs : Nat) : Int) = -n := by omega
  rw [e] at L
  exact F7 (by decide) L
 ·rw [if_neg h0, show decide (n < 0) = false by simpa using h0]
  have e : ((n.natAbs : Nat) : Int) = n := by omega
  rw [e] at L
  exact L
def wd (s : List Int) : T3 := (1, s, 0)
def sg (s : List Int) : T3 := (3, s, 0)
def Nr (a b : Int) : List T3 := numK a ++ (sg ([47] : List Int) :: numK b)
def F8 : List (List Int) → List T3
 | [] => []
 | [x] => [wd x]
 | x :: y :: r => wd x :: sg ([44] : List Int) :: F8 (y :: r)
def N7 (h : YT1) : List T3 :=
 wd ([104, 101, 97, 100] : List Int) :: wd h.1 :: wd ([118, 111, 108, 117, 109, 101] : List Int) :: (numK h.2.1 ++ (wd ([102, 108, 111, 119] : List Int) :: (numK h.2.2.1 ++ (wd ([117, 115, 101] : List Int) :: (Nr h.2.2.2.1.1 h.2.2.2.1.2.1 ++ (wd ([115, 112, 101, 101, 100] : List Int) :: (numK h.2.2.2.2.1 ++ (wd ([103, 114, 97, 100, 101] : List Int) :: (numK h.2.2.2.2.2.1 ++
  (wd ([119, 105, 100, 116, 104] : List Int) :: (numK h.2.2.2.2.2.2.1 ++ (wd ([108, 101, 110, 103, 116, 104] : List Int) :: (numK h.2.2.2.2.2.2.2.1 ++ (wd ([103, 114, 101, 101, 110] : List Int) :: (numK h.2.2.2.2.2.2.2.2.1 ++ [sg ([59] : List Int)])))))))))))))))
def pedK (p : YT2) : List T3 := wd ([119, 97, 108, 107] : List Int) :: wd p.1 :: wd ([119, 105, 116, 104] : List Int) :: wd p.2.1 :: wd ([108, 111, 110, 103] : List Int) :: (numK p.2.2.1 ++ (wd ([112, 97, 99, 101] : List Int) :: (numK p.2.2.2.1 ++ (wd ([108, 101, 97, 115, 116] : List Int) :: (numK p.2.2.2.2.1 ++ [sg ([59] : List Int)])))))
def Oi (x : YT3) : List T3 := wd ([112, 104, 97, 115, 101] : List Int) :: wd x.1 :: sg ([58] : List Int) :: (F8 x.2.1 ++ [sg ([59] : List Int)])
def Yx (r : YT4) : List T3 := wd ([114, 105, 110, 103] : List Int) :: ((bif r.1 then [wd ([102, 114, 101, 101] : List Int)] else []) ++ (F8 r.2.1 ++ [sg ([59] : List Int)]))
def Ly (g : List YT4 × Unit) : List T3 := wd ([103, 114, 111, 117, 112] : List Int) :: sg ([123] : List Int) :: (g.1.flatMap Yx ++ [sg ([125] : List Int)])
def foeK (f : YT5) : List T3 := [wd ([102, 111, 101] : List Int), wd f.1, wd f.2.1, sg ([59] : List Int)]
def Og (n : YT6) : List T3 := wd ([110, 111, 100, 101] : List Int) :: wd n.1 :: sg ([123] : List Int) :: (n.2.1.flatMap N7 ++ (n.2.2.1.flatMap pedK ++ (n.2.2.2.1.flatMap Oi ++ (n.2.2.2.2.1.flatMap Ly ++ (n.2.2.2.2.2.1.flatMap foeK ++ [sg ([125] : List Int)])))))
def Y5 (s : YT7) : List T3 := wd ([115, 116, 111, 112] : List Int) :: wd s.1 :: wd ([111, 117, 116] : List Int) :: wd s.2.1 :: wd ([105, 110] : List Int) :: wd s.2.2.1 :: wd ([97, 104, 101, 97, 100] : List Int) :: (numK s.2.2.2.1 ++ (wd ([98, 97, 99, 107] : List Int) :: (numK s.2.2.2.2.1 ++ [sg ([59] : List Int)])))
def artK (n : NetT) : List T3 := bif artB n then wd ([97, 114, 116, 101, 114, 121] : List Int) :: sg ([123] : List Int) :: (n.2.2.2.2.2.2.1.flatMap Y5 ++ (wd ([119, 101, 105, 103, 104, 116, 115] : List Int) :: (numK n.2.2.2.2.2.2.2.1 ++ (numK n.2.2.2.2.2.2.2.2 ++ [sg ([59] : List Int), sg ([125] : List Int)])))) else []
def netK (n : NetT) : List T3 :=
 wd ([99, 121, 99, 108, 101] : List Int) :: (numK n.1 ++ (wd ([116, 111] : List Int) :: (numK n.2.1 ++ (wd ([98, 121] : List Int) :: (numK n.2.2.1 ++ (sg ([59] : List Int) :: wd ([112, 101, 97, 107] : List Int) :: (Nr n.2.2.2.1 n.2.2.2.2.1 ++ (sg ([59] : List Int) :: (n.2.2.2.2.2.1.flatMap Og ++ (artK n ++ [(0, [], 0)]))))))))))
def S1 : List Int → Bool
 | [] => false
 | c :: r => B7 c && (r.all Bh && decide (r.length < 24))
theorem Bf0 {w s : List Int} {A : List T3} (hw : S1 w = true) (hs : Cuts s) (h : Lexes s A) : Lexes (w ++ s) (wd w :: A) := by
 cases w with
 | nil => cases hw
 | cons c r =>
  unfold S1 at hw
  simp only [Bool.and_eq_true, List.all_eq_true, decide_eq_true_eq] at hw
  obtain ⟨hc, hr, hl⟩ := hw
  have hall : ∀ x ∈ c :: r, Bh x = true := by
   intro x hx
   rcases List.mem_cons.1 hx with rfl | hx
   ·simp [Bh, hc]
   ·exact hr x hx
  have hcut : ∀ d q, s = d :: q → Bh d = false := by rintro d q rfl; exact hs
  obtain ⟨t1, t2⟩ := Y9 hall hcut
  have e : c ≠ 35 ∧ Ck c = false := by
   unfold B7 at hc
   unfold Ck
   simp at hc ⊢
   omega
  refine Yd (x := c) (r := r ++ s) ?_ ?_ h
  ·rw [drp, if_neg e.1, e.2]; rfl
  ·rw [List.cons_append] at t1 t2
   rw [tok1, hc, if_pos rfl, t1, t2, if_neg (by rw [List.length_cons]; omega)]
theorem kw (w : List Int) (hw : S1 w = true) {s : List Int} {A : List T3} (h : Lexes s A) : Lexes (32 :: (w ++ 32 :: s)) (wd w :: A) :=
 Cq (by decide) (Bf0 hw (show Bh 32 = false by decide) (Cq (by decide) h))
theorem kw2 (w : List Int) (hw : S1 w = true) {s : List Int} {A : List T3} (h : Lexes s A) : Lexes (32 :: 32 :: (w ++ 32 :: s)) (wd w :: A) := Cq (by decide) (kw w hw h)
theorem kw0 (w : List Int) (hw : S1 w = true) {s : List Int} {A : List T3} (h : Lexes s A) : Lexes (w ++ 32 :: s) (wd w :: A) := Bf0 hw (show Bh 32 = false by decide) (Cq (by decide) h)
theorem semi {s : List Int} {A : List T3} (h : Lexes s A) : Lexes (59 :: 10 :: s) (sg ([59] : List Int) :: A) := F7 (by decide) (Cq (by decide) h)
theorem nm {w s : List Int} {A : List T3} (hw : Bw w = true) {c : Int} (hc : Bh c = false) (h : Lexes (c :: s) A) : Lexes (w ++ c :: s) (wd w :: A) := Cby hw hc h
theorem nu {n : Int} (hn : inM n) {c : Int} {s : List Int} {A : List T3} (hc : Bh c = false) (h : Lexes (c :: s) A) : Lexes (numT n ++ c :: s) (numK n ++ A) := Cb3 hn hc h
theorem Bfy {a b : Int} (ha : inM a) (hb : inM b) {c : Int} {s : List Int} {A : List T3} (hc : Bh c = false) (h : Lexes (c :: s) A) : Lexes (Em a b ++ c :: s) (Nr a b ++ A) := by
 unfold Em Nr
 simp only [List.append_assoc, List.cons_append, List.nil_append]
 exact nu ha (by decide) (F7 (by decide) (nu hb hc h))
theorem Cbx {h : YT1} (hb : Eo h = true) {s : List Int} {A : List T3} (hs : Lexes s A) : Lexes (Dc h ++ s) (N7 h ++ A) := by
 obtain ⟨q0, q1, q2, q3, q4, q5, q6, q7, q8, q9⟩ := Am0 hb
 unfold Dc Fj N7
 simp only [List.flatten_cons, List.flatten_nil, List.append_nil, List.append_assoc, List.cons_append, List.nil_append]
 exact kw2 ([104, 101, 97, 100] : List Int) (by decide) (nm q0 (by decide) (kw ([118, 111, 108, 117, 109, 101] : List Int) (by decide) (nu q1 (by decide) (kw ([102, 108, 111, 119] : List Int) (by decide) (nu q2 (by decide) (kw ([117, 115, 101] : List Int) (by decide) (Bfy q3 q4 (by decide) (kw ([115, 112, 101, 101, 100] : List Int) (by decide) (nu q5 (by decide) (kw ([103, 114, 97, 100, 101] : List Int) (by decide) (nu q6 (by decide)
  (kw ([119, 105, 100, 116, 104] : List Int) (by decide) (nu q7 (by decide) (kw ([108, 101, 110, 103, 116, 104] : List Int) (by decide) (nu q8 (by decide) (kw ([103, 114, 101, 101, 110] : List Int) (by decide) (nu q9 (by decide) (semi hs))))))))))))))))))
theorem Cb4 {p : YT2} (hb : pedB p = true) {s : List Int} {A : List T3} (hs : Lexes s A) : Lexes (pedT p ++ s) (pedK p ++ A) := by
 obtain ⟨q0, q1, q2, q3, q4⟩ := Bhf hb
 unfold pedT pedP pedK
 simp only [List.flatten_cons, List.flatten_nil, List.append_nil, List.append_assoc, List.cons_append, List.nil_append]
 exact kw2 ([119, 97, 108, 107] : List Int) (by decide) (nm q0 (by decide) (kw ([119, 105, 116, 104] : List Int) (by decide) (nm q1 (by decide) (kw ([108, 111, 110, 103] : List Int) (by decide) (nu q2 (by decide) (kw ([112, 97, 99, 101] : List Int) (by decide) (nu q3 (by decide) (kw ([108, 101, 97, 115, 116] : List Int) (by decide) (nu q4 (by decide) (semi hs))))))))))
theorem Bfz : ∀ (l : List (List Int)), l ≠ [] → (∀ w ∈ l, Bw w = true) → ∀ {c : Int} {s : List Int} {A : List T3}, Bh c = false → Lexes (c :: s) A → Lexes (B8 l ++ c :: s) (F8 l ++ A)
 | [], h, _, _, _, _, _, _ => absurd rfl h
 | [x], _, hw, c, s, A, hc, h => nm (hw x (by simp)) hc h
 | x :: y :: r, _, hw, c, s, A, hc, h => by
  have IH := Bfz (y :: r) (by simp) (fun w hw2 => hw w (List.mem_cons_of_mem _ hw2)) hc h
  unfold B8 at IH ⊢
  rw [Ci]
  simp only [List.append_assoc, List.cons_append, List.nil_append, F8]
  exact nm (hw x (by simp)) (by decide) (F7 (by decide) (Cq (by decide) IH))
theorem Am8 {m : Nat} {l : List (List Int)} (hb : rowB m l = true) {s : List Int} {A : List T3} (hs : Lexes s A) : Lexes (B8 l ++ 59 :: 10 :: s) (F8 l ++ sg ([59] : List Int) :: A) := by
 obtain ⟨⟨h1, _⟩, h2⟩ := On hb
 exact Bfz l (by rintro rfl; simp at h1) h2 (by decide) (semi hs)
theorem Cb5 {x : YT3} (hb : Ey x = true) {s : List Int} {A : List T3} (hs : Lexes s A) : Lexes (Dr x ++ s) (Oi x ++ A) := by
 unfold Ey at hb
 simp only [Bool.and_eq_true] at hb
 unfold Dr Ez Oi
 simp only [List.flatten_cons, List.flatten_nil, List.append_nil, List.append_assoc, List.cons_append, List.nil_append]
 exact kw2 ([112, 104, 97, 115, 101] : List Int) (by decide) (nm hb.1 (by decide) (F7 (by decide) (Cq (by decide) (Am8 hb.2.1 hs))))
theorem Cb6 {r : YT4} (hb : Jp r = true) {s : List Int} {A : List T3} (hs : Lexes s A) : Lexes (E6 r ++ s) (Yx r ++ A) := by
 unfold Jp at hb
 unfold E6 Yx
 cases r.1
 ·simp only [cond_false, List.append_assoc, List.cons_append, List.nil_append]
  exact Cq (by decide) (Cq (by decide) (kw2 ([114, 105, 110, 103] : List Int) (by decide) (Am8 hb hs)))
 ·simp only [cond_true, List.append_assoc, List.cons_append, List.nil_append]
  exact Cq (by decide) (Cq (by decide) (kw2 ([114, 105, 110, 103] : List Int) (by decide) (kw0 ([102, 114, 101, 101] : List Int) (by decide) (Am8 hb hs))))
theorem Ji {α : Type} {f : α → List Int} {g : α → List T3} : ∀ {l : List α}, (∀ x ∈ l, ∀ {s A}, Lexes s A → Lexes (f x ++ s) (g x ++ A)) → ∀ {s A}, Lexes s A → Lexes (l.flatMap f ++ s) (l.flatMap g ++ A)
 | [], _, _, _, h => h
 | x :: r, hx, s, A, h => by
  rw [List.flatMap_cons, List.flatMap_cons, List.append_assoc, List.append_assoc]
  exact hx x (by simp) (Ji (fun y hy => hx y (List.mem_cons_of_mem _ hy)) h)
theorem Cbw {g : List YT4 × Unit} (hb : En g = true) {s : List Int} {A : List T3} (hs : Lexes s A) : Lexes (It g ++ s) (Ly g ++ A) := by
 unfold En at hb
 simp only [Bool.and_eq_true, Bool.not_eq_true', decide_eq_false_iff_not, List.all_eq_true] at hb
 unfold It Ly
 simp only [List.append_assoc, List.cons_append, List.nil_append]
 refine kw2 ([103, 114, 111, 117, 112] : List Int) (by decide) (F7 (by decide) (Cq (by decide) (Ji (fun r hr => Cb6 (hb.2.2 r hr)) ?_)))
 exact Cq (by decide) (Cq (by decide) (F7 (by decide) (Cq (by decide) hs)))
theorem Cbv {f : YT5} (hb : foeB f = true) {s : List Int} {A : List T3} (hs : Lexes s A) : Lexes (foeT f ++ s) (foeK f ++ A) := by
 unfold foeB at hb
 simp only [Bool.and_eq_true] at hb
 unfold foeT foeP foeK
 simp only [List.flatten_cons, List.flatten_nil, List.append_nil, List.append_assoc, List.cons_append, List.nil_append]
 exact kw2 ([102, 111, 101] : List Int) (by decide) (nm hb.1 (by decide) (Cq (by decide) (nm hb.2.1 (by decide) (semi hs))))
theorem Cb1 {n : YT6} (hb : Dn n = true) {s : List Int} {A : List T3} (hs : Lexes s A) : Lexes (Ix n ++ s) (Og n ++ A) := by
 unfold Dn at hb
 simp only [Bool.and_eq_true, List.all_eq_true] at hb
 obtain ⟨h0, h1, h2, h3, h4, h5, p1, p2, p3, p4, p5⟩ := hb
 unfold Ix Jl Og
 simp only [List.append_assoc, List.cons_append, List.nil_append]
 refine kw0 ([110, 111, 100, 101] : List Int) (by decide) (nm h0 (by decide) (Cq (by decide) (F7 (by decide) (Cq (by decide) ?_))))
 exact Ji (fun x hx => Cbx (p1 x hx)) (Ji (fun x hx => Cb4 (p2 x hx)) (Ji (fun x hx => Cb5 (p3 x hx)) (Ji (fun x hx => Cbw (p4 x hx)) (Ji (fun x hx => Cbv (p5 x hx))
  (F7 (by decide) (Cq (by decide) hs))))))
theorem Cb7 {p : YT7} (hb : E8 p = true) {s : List Int} {A : List T3} (hs : Lexes s A) : Lexes (Cu p ++ s) (Y5 p ++ A) := by
 obtain ⟨q0, q1, q2, q3, q4⟩ := Boc hb
 unfold Cu Fn Y5
 simp only [List.flatten_cons, List.flatten_nil, List.append_nil, List.append_assoc, List.cons_append, List.nil_append]
 exact kw2 ([115, 116, 111, 112] : List Int) (by decide) (nm q0 (by decide) (kw ([111, 117, 116] : List Int) (by decide) (nm q1 (by decide) (kw ([105, 110] : List Int) (by decide) (nm q2 (by decide) (kw ([97, 104, 101, 97, 100] : List Int) (by decide) (nu q3 (by decide) (kw ([98, 97, 99, 107] : List Int) (by decide) (nu q4 (by decide) (semi hs))))))))))
theorem Cbu {n : NetT} (hb : netB n = true) {s : List Int} {A : List T3} (hs : Lexes s A) : Lexes (artT n ++ s) (artK n ++ A) := by
 unfold netB at hb
 simp only [Bool.and_eq_true, List.all_eq_true] at hb
 obtain ⟨q0, q1, q2, ⟨q3, q4⟩, q7, q8, h1, h2, p1, p2⟩ := hb
 unfold artT artK
 cases artB n
 ·exact hs
 ·unfold Cz
  simp only [cond_true, List.flatten_cons, List.flatten_nil, List.append_nil, List.append_assoc, List.cons_append, List.nil_append]
  refine kw0 ([97, 114, 116, 101, 114, 121] : List Int) (by decide) (F7 (by decide) (Cq (by decide) (Ji (fun x hx => Cb7 (p2 x hx)) ?_)))
  exact kw2 ([119, 101, 105, 103, 104, 116, 115] : List Int) (by decide) (nu (Cc q7) (by decide) (Cq (by decide) (nu (Cc q8) (by decide) (semi (F7 (by decide) (Cq (by decide) hs))))))
theorem Cbz {n : NetT} (hb : netB n = true) : Lexes (netT n) (netK n) := by
 have ha := Cbu hb Cb0
 have hb0 := hb
 unfold netB at hb
 simp only [Bool.and_eq_true, List.all_eq_true] at hb
 obtain ⟨q0, q1, q2, ⟨q3, q4⟩, q7, q8, h1, h2, p1, p2⟩ := hb
 have hn := Ji (l := n.2.2.2.2.2.1) (fun x hx => Cb1 (p1 x hx)) ha
 rw [List.append_nil] at hn
 unfold netT Di netK
 simp only [List.flatten_cons, List.flatten_nil, List.append_nil, List.append_assoc, List.cons_append, List.nil_append]
 exact kw0 ([99, 121, 99, 108, 101] : List Int) (by decide) (nu (Cc q0) (by decide) (kw ([116, 111] : List Int) (by decide) (nu (Cc q1) (by decide) (kw ([98, 121] : List Int) (by decide) (nu (Cc q2) (by decide) (F7 (by decide) (Cq (by decide) (kw0 ([112, 101, 97, 107] : List Int) (by decide) (Bfy (Cc q3) (Cc q4) (by decide) (semi hn))))))))))
structure At (x : RS) (A : List T3) : Prop where
 e : x.2.1 = 0
 t : x.1.map strip = A
theorem O5 {x : RS} {t : T3} {A : List T3} (h : At x (t :: A)) : (hd x.1).1 = t.1 ∧ (hd x.1).2.1 = t.2.1 ∧ (hd x.1).2.2.1 = t.2.2 ∧ x.1.tail.map strip = A := by
 have := h.t
 cases hx : x.1 with
 | nil => rw [hx] at this; cases this
 | cons y r =>
  rw [hx, List.map_cons] at this
  injection this with h1 h2
  subst h1
  exact ⟨rfl, rfl, rfl, h2⟩
theorem Gb {x : RS} {t : T3} {A : List T3} (h : At x (t :: A)) (s : List Int) : Ay s x = (t.1 != 2 && (t.1 != 0 && t.2.1 == s)) := by
 obtain ⟨h1, h2, _, _⟩ := O5 h
 unfold Ay
 rw [h.e, h1, h2]
 rfl
theorem Ko {x : RS} {t : T3} {A : List T3} (h : At x (t :: A)) (h0 : (t.1 != 0) = true) : At (A1 x) A := by
 obtain ⟨h1, _, _, h4⟩ := O5 h
 unfold A1
 rw [h.e, h1, h0]
 exact ⟨rfl, h4⟩
theorem C8 {x : RS} {t : T3} {A : List T3} (s : List Int) (h : At x (t :: A)) (hs : (t.1 != 2 && (t.1 != 0 && t.2.1 == s)) = true) : At (Aj s x) A := by
 unfold Aj
 rw [Gb h, hs]
 simp only [Bool.and_eq_true] at hs
 exact Ko h hs.2.1
theorem F9 {x : RS} {s : List Int} {A : List T3} (hs : Bw s = true) (h : At x (wd s :: A)) : (Ah x).1 = s ∧ At (Ah x).2 A := by
 obtain ⟨h1, h2, _, _⟩ := O5 h
 have h1 : (hd x.1).1 = 1 := h1
 have h2 : (hd x.1).2.1 = s := h2
 have hr : resB s = false := by
  unfold Bw at hs
  simp only [Bool.and_eq_true, Bool.not_eq_true'] at hs
  exact hs.2
 unfold Ah
 rw [h1, h2, hr]
 exact ⟨rfl, Ko h rfl⟩
theorem Sm {x : RS} {d : List Int} {v : Int} {A : List T3} (h : At x ((2, d, v) :: A)) : (numC x).1 = v ∧ At (numC x).2 A := by
 obtain ⟨h1, _, h3, _⟩ := O5 h
 have h1 : (hd x.1).1 = 2 := h1
 have h3 : (hd x.1).2.2.1 = v := h3
 unfold numC
 rw [h1, h3]
 exact ⟨rfl, Ko h rfl⟩
theorem Yi {n : Int} (h : 0 ≤ n) : numK n = [(2, digN 18 n.natAbs, n)] := by
 unfold numK
 rw [show decide (n < 0) = false by simpa using h]
 rfl
theorem Ee {w : List Int} {x : RS} {n : Int} {A : List T3} (hw : (w == []) = false) (hn : 0 ≤ n) (h : At x (wd w :: (numK n ++ A))) : (numR w x).1 = n ∧ At (numR w x).2 A := by
 unfold numR
 rw [hw, cond_false]
 rw [Yi hn] at h
 exact Sm (C8 w h (by simp [wd]))
theorem num_at0 {x : RS} {n : Int} {A : List T3} (hn : 0 ≤ n) (h : At x (numK n ++ A)) : (numR [] x).1 = n ∧ At (numR [] x).2 A := by
 unfold numR
 rw [Yi hn] at h
 exact Sm h
theorem A9v {w : List Int} {x : RS} {a b : Int} {A : List T3} (hw : (w == []) = false) (ha : 0 ≤ a) (hb : 0 ≤ b) (h : At x (wd w :: (Nr a b ++ A))) : (Dk w x).1 = (a, b) ∧ At (Dk w x).2 A := by
 unfold Nr at h
 rw [List.append_assoc] at h
 obtain ⟨e1, h1⟩ := Ee hw ha h
 have h2 : At (Aj ([47] : List Int) (numR w x).2) (numK b ++ A) := C8 ([47] : List Int) h1 (by decide)
 rw [Yi hb] at h2
 obtain ⟨e2, h3⟩ := Sm h2
 unfold Dk
 refine ⟨?_, h3⟩
 rw [e1]
 exact congrArg (fun z => (a, z)) e2
theorem Bpk {w : List Int} {a b : Int} {x : RS} {A : List T3} (hab : (a == b) = false) (h : At x (wd w :: A)) : (A6 w a b x).1 = true ∧ At (A6 w a b x).2 A := by
 unfold A6
 rw [Gb h, hab, show ((wd w).1 != 2 && ((wd w).1 != 0 && (wd w).2.1 == w)) = true by simp [wd]]
 exact ⟨rfl, Ko h (by simp [wd])⟩
theorem Bpj {w : List Int} {a b : Int} {x : RS} {t : T3} {A : List T3} (h : At x (t :: A)) (ht : (t.1 != 2 && (t.1 != 0 && t.2.1 == w)) = false) : A6 w a b x = (false, x) := by
 unfold A6
 rw [Gb h, ht]
 rfl
theorem Bf6 {α β : Type} (er : α → β) (w : List Int) (most : Nat) (item : RS → α × RS) (g : α → List T3) {t : T3} {A : List T3} (ht : (t.1 != 2 && (t.1 != 0 && t.2.1 == w)) = false) :
  ∀ (l : List α) (f : Nat) (x : RS) (o : List α), (∀ a ∈ l, ∀ {x A}, At x (g a ++ A) → er (item x).1 = er a ∧ At (item x).2 A) → l.length < f → o.length + l.length ≤ most → At x (l.flatMap (fun a => wd w :: g a) ++ t :: A) →
   (Cs w (most : Int) item f x o).1.map er = o.map er ++ l.map er ∧ At (Cs w (most : Int) item f x o).2 (t :: A)
 | _, 0, _, _, _, h, _, _ => by omega
 | [], f + 1, x, o, hi, hf, hm, h => by
  rw [Cs, Bpj (w := w) (a := ((o.length : Nat) : Int)) (b := (most : Int)) h ht]
  exact ⟨by simp, h⟩
 | a :: l, f + 1, x, o, hi, hf, hm, h => by
  rw [List.length_cons] at hf hm
  rw [List.flatMap_cons, List.append_assoc, List.cons_append] at h
  obtain ⟨e1, h1⟩ := Bpk (w := w) (a := ((o.length : Nat) : Int)) (b := (most : Int)) (by simp; omega) h
  obtain ⟨e2, h2⟩ := hi a (by simp) h1
  rw [Cs, e1, cond_true]
  obtain ⟨e3, h3⟩ := Bf6 er w most item g ht l f _ (o ++ [(item (A6 w ((o.length : Nat) : Int) (most : Int) x).2).1]) (fun b hb => hi b (List.mem_cons_of_mem _ hb)) (by omega) (by rw [List.length_append, List.length_singleton]; omega) h2
  refine ⟨?_, h3⟩
  rw [e3, List.map_append, List.map_cons, List.map_nil, e2, List.append_assoc]
  rfl
theorem Bgb {α β : Type} (er : α → β) {w : List Int} {most : Nat} {item : RS → α × RS} {g : α → List T3} {t : T3} {A : List T3} {l : List α} {x : RS} (ht : (t.1 != 2 && (t.1 != 0 && t.2.1 == w)) = false)
  (hi : ∀ a ∈ l, ∀ {x A}, At x (g a ++ A) → er (item x).1 = er a ∧ At (item x).2 A) (hm : l.length ≤ most) (h : At x (l.flatMap (fun a => wd w :: g a) ++ t :: A)) :
  (Aw w (most : Int) item x).1.map er = l.map er ∧ At (Aw w (most : Int) item x).2 (t :: A) := by
 have hlen : l.length < x.1.length + 1 := by
  have e := congrArg List.length h.t
  rw [List.length_map, List.length_append] at e
  have : ∀ m : List α, m.length ≤ (m.flatMap (fun a => wd w :: g a)).length := by
   intro m
   induction m with
   | nil => simp
   | cons y r ih => rw [List.flatMap_cons, List.length_append, List.length_cons, List.length_cons]; omega
  have := this l
  omega
 exact Bf6 er w most item g ht l _ x [] hi hlen (by simpa using hm) h
def erH (h : YT1) : YT1 := (h.1, h.2.1, h.2.2.1, h.2.2.2.1, h.2.2.2.2.1, h.2.2.2.2.2.1, h.2.2.2.2.2.2.1, h.2.2.2.2.2.2.2.1, h.2.2.2.2.2.2.2.2.1, 0, ())
def erP (p : YT2) : YT2 := (p.1, p.2.1, p.2.2.1, p.2.2.2.1, p.2.2.2.2.1, 0, ())
def erX (x : YT3) : YT3 := (x.1, x.2.1, 0, ())
def erF (f : YT5) : YT5 := (f.1, f.2.1, 0, ())
def erS (s : YT7) : YT7 := (s.1, s.2.1, s.2.2.1, s.2.2.2.1, s.2.2.2.2.1, 0, ())
def erN (n : YT6) : YT6 := (n.1, n.2.1.map erH, n.2.2.1.map erP, n.2.2.2.1.map erX, n.2.2.2.2.1, n.2.2.2.2.2.1.map erF, 0, ())
def Fe (n : NetT) : NetT := (n.1, n.2.1, n.2.2.1, n.2.2.2.1, n.2.2.2.2.1, n.2.2.2.2.2.1.map erN, n.2.2.2.2.2.2.1.map erS, n.2.2.2.2.2.2.2.1, n.2.2.2.2.2.2.2.2)
theorem De {n : Int} (h : numB n = true) : 0 ≤ n := by
 unfold numB at h; simp at h; omega
theorem Am9 (x : List Int) : ∀ r : List (List Int), F8 (x :: r) = wd x :: r.flatMap (fun y => [sg ([44] : List Int), wd y])
 | [] => rfl
 | y :: r => by
  rw [F8, Am9 y r, List.flatMap_cons]
  rfl
theorem Bgi (most : Nat) : ∀ (r : List (List Int)) (f : Nat) (x : RS) (o : List (List Int)) {A : List T3}, (∀ w ∈ r, Bw w = true) → r.length < f → o.length + r.length ≤ most → At x (r.flatMap (fun y => [sg ([44] : List Int), wd y]) ++ sg ([59] : List Int) :: A) →
  (Cb (most : Int) f x o).1 = o ++ r ∧ At (Cb (most : Int) f x o).2 A
 | _, 0, _, _, _, _, h, _, _ => by omega
 | [], f + 1, x, o, A, hw, hf, hm, h => by
  have h : At x (sg ([59] : List Int) :: A) := h
  rw [Cb, Gb h, show ((sg ([59] : List Int)).1 != 2 && ((sg ([59] : List Int)).1 != 0 && (sg ([59] : List Int)).2.1 == ([44] : List Int))) = false by decide]
  exact ⟨by simp, C8 ([59] : List Int) h (by decide)⟩
 | y :: r, f + 1, x, o, A, hw, hf, hm, h => by
  rw [List.length_cons] at hf hm
  have h : At x (sg ([44] : List Int) :: wd y :: (r.flatMap (fun y => [sg ([44] : List Int), wd y]) ++ sg ([59] : List Int) :: A)) := h
  have h1 := Ko h (by decide)
  obtain ⟨e2, h2⟩ := F9 (hw y (by simp)) h1
  rw [Cb, Gb h, show ((sg ([44] : List Int)).1 != 2 && ((sg ([44] : List Int)).1 != 0 && (sg ([44] : List Int)).2.1 == ([44] : List Int))) = true by decide, cond_true]
  have hne : (((o.length : Nat) : Int) == (most : Int)) = false := by simp; omega
  simp only [hne, Bool.false_and, cond_false]
  rw [e2]
  obtain ⟨e3, h3⟩ := Bgi most r f (Ah (A1 x)).2 (o ++ [y]) (fun w hw2 => hw w (List.mem_cons_of_mem _ hw2)) (by omega) (by rw [List.length_append, List.length_singleton]; omega) h2
  exact ⟨by rw [e3, List.append_assoc]; rfl, h3⟩
theorem Ang {most : Nat} {l : List (List Int)} {x : RS} {A : List T3} (hb : rowB most l = true) (h : At x (F8 l ++ sg ([59] : List Int) :: A)) : (Cg (most : Int) x).1 = l ∧ At (Cg (most : Int) x).2 A := by
 obtain ⟨⟨h1, h2⟩, hw⟩ := On hb
 cases l with
 | nil => simp at h1
 | cons y r =>
  rw [Am9] at h
  obtain ⟨e1, g1⟩ := F9 (hw y (by simp)) h
  have g1 : At (Ah x).2 (r.flatMap (fun y => [sg ([44] : List Int), wd y]) ++ sg ([59] : List Int) :: A) := g1
  unfold Cg
  rw [e1]
  refine Bgi most r _ (Ah x).2 [y] (fun w hw2 => hw w (List.mem_cons_of_mem _ hw2)) ?_ (by rw [List.length_singleton]; rw [List.length_cons] at h2; omega) g1
  have e := congrArg List.length g1.t
  rw [List.length_map, List.length_append] at e
  have : ∀ m : List (List Int), m.length ≤ (m.flatMap (fun y => [sg ([44] : List Int), wd y])).length := by
   intro m
   induction m with
   | nil => simp
   | cons y r ih => rw [List.flatMap_cons, List.length_append, List.length_cons, List.length_cons]; omega
  have := this r
  omega
theorem Cdt {a : YT3} (hb : Ey a = true) {x : RS} {A : List T3} (h : At x (wd a.1 :: sg ([58] : List Int) :: (F8 a.2.1 ++ [sg ([59] : List Int)]) ++ A)) : erX (Dq x).1 = erX a ∧ At (Dq x).2 A := by
 unfold Ey at hb
 simp only [Bool.and_eq_true] at hb
 simp only [List.append_assoc, List.cons_append, List.nil_append] at h
 obtain ⟨e1, h1⟩ := F9 hb.1 h
 have h2 := C8 ([58] : List Int) h1 (by decide)
 obtain ⟨e3, h3⟩ := Ang (most := 16) hb.2.1 h2
 refine ⟨?_, h3⟩
 show ((Ah x).1, (Cg 16 (Aj ([58] : List Int) (Ah x).2)).1, (0 : Int), ()) = _
 rw [e1]
 exact congrArg (fun z => (a.1, z, (0 : Int), ())) e3
theorem foe_at {a : YT5} (hb : foeB a = true) {x : RS} {A : List T3} (h : At x ([wd a.1, wd a.2.1, sg ([59] : List Int)] ++ A)) : erF (foeR x).1 = erF a ∧ At (foeR x).2 A := by
 unfold foeB at hb
 simp only [Bool.and_eq_true] at hb
 simp only [List.cons_append, List.nil_append] at h
 obtain ⟨e1, h1⟩ := F9 hb.1 h
 obtain ⟨e2, h2⟩ := F9 hb.2.1 h1
 refine ⟨?_, C8 ([59] : List Int) h2 (by decide)⟩
 show ((Ah x).1, (Ah (Ah x).2).1, (0 : Int), ()) = _
 rw [e1, e2]
 rfl
theorem ped_at {a : YT2} (hb : pedB a = true) {x : RS} {A : List T3} (h : At x (wd a.1 :: wd ([119, 105, 116, 104] : List Int) :: wd a.2.1 :: wd ([108, 111, 110, 103] : List Int) :: (numK a.2.2.1 ++ (wd ([112, 97, 99, 101] : List Int) :: (numK a.2.2.2.1 ++ (wd ([108, 101, 97, 115, 116] : List Int) :: (numK a.2.2.2.2.1 ++ [sg ([59] : List Int)])))))  ++ A)) :
  erP (Bx x).1 = erP a ∧ At (Bx x).2 A := by
 unfold pedB at hb
 simp only [Bool.and_eq_true] at hb
 obtain ⟨n1, n2, q1, q2, q3, -⟩ := hb
 simp only [List.append_assoc, List.cons_append, List.nil_append] at h
 obtain ⟨e1, h1⟩ := F9 n1 h
 have h2 := C8 ([119, 105, 116, 104] : List Int) h1 (by decide)
 obtain ⟨e3, h3⟩ := F9 n2 h2
 obtain ⟨e4, h4⟩ := Ee (by decide) (De q1) h3
 obtain ⟨e5, h5⟩ := Ee (by decide) (De q2) h4
 obtain ⟨e6, h6⟩ := Ee (by decide) (De q3) h5
 refine ⟨?_, C8 ([59] : List Int) h6 (by decide)⟩
 unfold Bx erP
 simp only
 rw [e1, e3, e4, e5, e6]
theorem stop_at {a : YT7} (hb : E8 a = true) {x : RS} {A : List T3} (h : At x (wd a.1 :: wd ([111, 117, 116] : List Int) :: wd a.2.1 :: wd ([105, 110] : List Int) :: wd a.2.2.1 :: wd ([97, 104, 101, 97, 100] : List Int) :: (numK a.2.2.2.1 ++ (wd ([98, 97, 99, 107] : List Int) :: (numK a.2.2.2.2.1 ++ [sg ([59] : List Int)]))) ++ A)) :
  erS (Ef x).1 = erS a ∧ At (Ef x).2 A := by
 unfold E8 at hb
 simp only [Bool.and_eq_true] at hb
 obtain ⟨n1, n2, n3, q1, q2, -⟩ := hb
 simp only [List.append_assoc, List.cons_append, List.nil_append] at h
 obtain ⟨e1, h1⟩ := F9 n1 h
 have h2 := C8 ([111, 117, 116] : List Int) h1 (by decide)
 obtain ⟨e3, h3⟩ := F9 n2 h2
 have h4 := C8 ([105, 110] : List Int) h3 (by decide)
 obtain ⟨e5, h5⟩ := F9 n3 h4
 obtain ⟨e6, h6⟩ := Ee (by decide) (De q1) h5
 obtain ⟨e7, h7⟩ := Ee (by decide) (De q2) h6
 refine ⟨?_, C8 ([59] : List Int) h7 (by decide)⟩
 unfold Ef erS
 simp only
 rw [e1, e3, e5, e6, e7]
theorem ring_at {a : YT4} (hb : Jp a = true) {x : RS} {A : List T3} (h : At x ((bif a.1 then [wd ([102, 114, 101, 101] : List Int)] else []) ++ (F8 a.2.1 ++ [sg ([59] : List Int)]) ++ A)) : id (Dz x).1 = id a ∧ At (Dz x).2 A := by
 unfold Jp at hb
 obtain ⟨a0, a1, ⟨⟩⟩ := a
 obtain ⟨⟨h1, h2⟩, hw⟩ := On hb
 cases a0
 ·simp only [cond_false, List.append_assoc, List.cons_append, List.nil_append] at h
  have hs : Ay ([102, 114, 101, 101] : List Int) x = false := by
   cases a1 with
   | nil => simp at h1
   | cons y r =>
    rw [Am9] at h
    rw [Gb h]
    have hy := hw y (by simp)
    have : (y == ([102, 114, 101, 101] : List Int)) = false := by
     cases hyf : y == ([102, 114, 101, 101] : List Int)
     ·rfl
     ·have : y = ([102, 114, 101, 101] : List Int) := by simpa using hyf
      subst this
      have : Bw ([102, 114, 101, 101] : List Int) = false := by rfl
      rw [this] at hy
      cases hy
    simp only [wd]
    rw [this]
    simp
  obtain ⟨e3, h3⟩ := Ang (most := 4) hb h
  unfold Dz
  rw [hs]
  simp only [cond_false]
  exact ⟨congrArg (fun z => (false, z, ())) e3, h3⟩
 ·simp only [cond_true, List.append_assoc, List.cons_append, List.nil_append] at h
  have hs : Ay ([102, 114, 101, 101] : List Int) x = true := by rw [Gb h]; decide
  obtain ⟨e3, h3⟩ := Ang (most := 4) hb (Ko h (by decide))
  unfold Dz
  rw [hs]
  simp only [cond_true]
  exact ⟨congrArg (fun z => (true, z, ())) e3, h3⟩
theorem head_at {a : YT1} (hb : Eo a = true) {x : RS} {A : List T3} (h : At x ((N7 a).tail ++ A)) : erH (Bf x).1 = erH a ∧ At (Bf x).2 A := by
 have sp := Am0 hb
 unfold Eo at hb
 simp only [Bool.and_eq_true] at hb
 obtain ⟨n0, q1, q2, ⟨q3, q4⟩, q5, -, -, q8, q9, q10, -⟩ := hb
 have hg := sp.2.2.2.2.2.2.1
 unfold N7 at h
 simp only [List.tail_cons, List.append_assoc, List.cons_append, List.nil_append] at h
 obtain ⟨e1, h1⟩ := F9 n0 h
 obtain ⟨e2, h2⟩ := Ee (by decide) (De q1) h1
 obtain ⟨e3, h3⟩ := Ee (by decide) (De q2) h2
 obtain ⟨e4, h4⟩ := A9v (by decide) (De q3) (De q4) h3
 obtain ⟨e5, h5⟩ := Ee (by decide) (De q5) h4
 have h6 := C8 ([103, 114, 97, 100, 101] : List Int) h5 (by decide)
 unfold Bf erH
 simp only
 generalize Ah x = n at *
 generalize numR ([118, 111, 108, 117, 109, 101] : List Int) n.2 = v at *
 generalize numR ([102, 108, 111, 119] : List Int) v.2 = s at *
 generalize Dk ([117, 115, 101] : List Int) s.2 = u at *
 generalize numR ([115, 112, 101, 101, 100] : List Int) u.2 = p at *
 generalize Aj ([103, 114, 97, 100, 101] : List Int) p.2 = q at *
 have rest : ∀ {g : Int × RS}, At g.2 (wd ([119, 105, 100, 116, 104] : List Int) :: (numK a.2.2.2.2.2.2.1 ++ (wd ([108, 101, 110, 103, 116, 104] : List Int) :: (numK a.2.2.2.2.2.2.2.1 ++ (wd ([103, 114, 101, 101, 110] : List Int) :: (numK a.2.2.2.2.2.2.2.2.1 ++ sg ([59] : List Int) :: A)))))) →
   (numR ([119, 105, 100, 116, 104] : List Int) g.2).1 = a.2.2.2.2.2.2.1 ∧ (numR ([108, 101, 110, 103, 116, 104] : List Int) (numR ([119, 105, 100, 116, 104] : List Int) g.2).2).1 = a.2.2.2.2.2.2.2.1 ∧ (numR ([103, 114, 101, 101, 110] : List Int) (numR ([108, 101, 110, 103, 116, 104] : List Int) (numR ([119, 105, 100, 116, 104] : List Int) g.2).2).2).1 = a.2.2.2.2.2.2.2.2.1 ∧ At (Aj ([59] : List Int) (numR ([103, 114, 101, 101, 110] : List Int) (numR ([108, 101, 110, 103, 116, 104] : List Int) (numR ([119, 105, 100, 116, 104] : List Int) g.2).2).2).2) A := by
  intro g hg
  obtain ⟨f1, g1⟩ := Ee (by decide) (De q8) hg
  obtain ⟨f2, g2⟩ := Ee (by decide) (De q9) g1
  obtain ⟨f3, g3⟩ := Ee (by decide) (De q10) g2
  exact ⟨f1, f2, f3, C8 ([59] : List Int) g3 (by decide)⟩
 by_cases hneg : a.2.2.2.2.2.1 < 0
 ·have hk : numK a.2.2.2.2.2.1 = [(3, ([45] : List Int), 0), (2, digN 18 (a.2.2.2.2.2.1).natAbs, -a.2.2.2.2.2.1)] := by
   unfold numK
   rw [show decide (a.2.2.2.2.2.1 < 0) = true by simpa using hneg]
   rfl
  rw [hk] at h6
  have h6 : At q ((3, ([45] : List Int), 0) :: (2, digN 18 (a.2.2.2.2.2.1).natAbs, -a.2.2.2.2.2.1) :: _) := h6
  have hs : Ay ([45] : List Int) q = true := by rw [Gb h6]; decide
  have h7 := Ko h6 (by decide)
  obtain ⟨e7, h8⟩ := Sm h7
  have e7 : (numR [] (A1 q)).1 = -a.2.2.2.2.2.1 := e7
  have h8 : At (numR [] (A1 q)).2 _ := h8
  obtain ⟨f1, f2, f3, h9⟩ := rest h8
  rw [hs]
  simp only [cond_true]
  refine ⟨?_, h9⟩
  have en : negI .i64 (numR [] (A1 q)).1 = a.2.2.2.2.2.1 := by
   rw [e7]
   unfold negI
   rw [w64 (by unfold inM at hg; omega)]
   omega
  rw [e1, e2, e3, e5, en, f1, f2, f3, e4]
 ·rw [Yi (by omega)] at h6
  have h6 : At q ((2, digN 18 (a.2.2.2.2.2.1).natAbs, a.2.2.2.2.2.1) :: _) := h6
  have hs : Ay ([45] : List Int) q = false := by rw [Gb h6]; rfl
  obtain ⟨e7, h8⟩ := Sm h6
  have e7 : (numR [] q).1 = a.2.2.2.2.2.1 := e7
  have h8 : At (numR [] q).2 _ := h8
  obtain ⟨f1, f2, f3, h9⟩ := rest h8
  rw [hs]
  simp only [cond_false]
  refine ⟨?_, h9⟩
  rw [e1, e2, e3, e5, e7, f1, f2, f3, e4]
theorem Cba {a : List YT4 × Unit} (hb : En a = true) {x : RS} {A : List T3} (h : At x (sg ([123] : List Int) :: (a.1.flatMap Yx ++ [sg ([125] : List Int)]) ++ A)) : id (Cx x).1 = id a ∧ At (Cx x).2 A := by
 unfold En at hb
 simp only [Bool.and_eq_true, Bool.not_eq_true', decide_eq_false_iff_not, List.all_eq_true] at hb
 simp only [List.append_assoc, List.cons_append, List.nil_append] at h
 have h1 := C8 ([123] : List Int) h (by decide)
 obtain ⟨l, ⟨⟩⟩ := a
 have hs : Ay ([114, 105, 110, 103] : List Int) (Aj ([123] : List Int) x) = true := by
  cases l with
  | nil => simp at hb
  | cons r l =>
   have h1 : At (Aj ([123] : List Int) x) (wd ([114, 105, 110, 103] : List Int) :: _) := h1
   rw [Gb h1]
   decide
 unfold Cx
 simp only
 rw [hs]
 simp only [cond_true]
 obtain ⟨e2, h2⟩ := Bgb id (w := ([114, 105, 110, 103] : List Int)) (most := 2) (item := Dz) (g := fun r => (bif r.1 then [wd ([102, 114, 101, 101] : List Int)] else []) ++ (F8 r.2.1 ++ [sg ([59] : List Int)])) (t := sg ([125] : List Int)) (l := l) (by decide) (fun r hr {x A} hx => ring_at (hb.2.2 r hr) hx) (by have := hb.2.1; simp only at this; omega) h1
 rw [List.map_id, List.map_id] at e2
 refine ⟨congrArg (fun z => (z, ())) e2, C8 ([125] : List Int) h2 (by decide)⟩
def Stops (w : List Int) (A : List T3) : Prop := ∃ t B, A = t :: B ∧ (t.1 != 2 && (t.1 != 0 && t.2.1 == w)) = false
theorem I6 {α : Type} {w v : List Int} {g : α → List T3} {A : List T3} (hv : (v == w) = false) (h : Stops w A) : ∀ l : List α, Stops w (l.flatMap (fun a => wd v :: g a) ++ A)
 | [] => h
 | a :: l => ⟨wd v, _, rfl, by simp [wd, hv]⟩
theorem L6 {α β : Type} (er : α → β) {w : List Int} {most : Nat} {item : RS → α × RS} {g : α → List T3} {A : List T3} {l : List α} {x : RS} (ht : Stops w A)
  (hi : ∀ a ∈ l, ∀ {x A}, At x (g a ++ A) → er (item x).1 = er a ∧ At (item x).2 A) (hm : l.length ≤ most) (h : At x (l.flatMap (fun a => wd w :: g a) ++ A)) :
  (Aw w (most : Int) item x).1.map er = l.map er ∧ At (Aw w (most : Int) item x).2 A := by
 obtain ⟨t, B, rfl, hc⟩ := ht
 exact Bgb er hc hi hm h
theorem node_at {a : YT6} (hb : Dn a = true) {x : RS} {A : List T3} (h : At x ((Og a).tail ++ A)) : erN (Bv x).1 = erN a ∧ At (Bv x).2 A := by
 unfold Dn at hb
 simp only [Bool.and_eq_true, List.all_eq_true] at hb
 obtain ⟨n0, h1, h2, h3, h4, h5, p1, p2, p3, p4, p5⟩ := hb
 have h1 := C3 h1
 have h2 := C3 h2
 have h3 := C3 h3
 have h4 := C3 h4
 have h5 := C3 h5
 unfold Og at h
 simp only [List.tail_cons, List.append_assoc, List.cons_append, List.nil_append] at h
 obtain ⟨e0, g0⟩ := F9 n0 h
 have g1 := C8 ([123] : List Int) g0 (by decide)
 have sE : ∀ w, ((([125] : List Int) : List Int) == w) = false → Stops w (sg ([125] : List Int) :: A) := fun w hw => ⟨_, _, rfl, by simp [sg, hw]⟩
 obtain ⟨r1, g2⟩ := L6 erH (w := ([104, 101, 97, 100] : List Int)) (most := 16) (item := Bf) (g := fun a => (N7 a).tail) (l := a.2.1) (I6 (v := ([119, 97, 108, 107] : List Int)) (g := fun a => (pedK a).tail) (by decide) (I6 (v := ([112, 104, 97, 115, 101] : List Int)) (g := fun a => (Oi a).tail) (by decide) (I6 (v := ([103, 114, 111, 117, 112] : List Int)) (g := fun a => (Ly a).tail) (by decide) (I6 (v := ([102, 111, 101] : List Int)) (g := fun a => (foeK a).tail) (by decide) (sE _ (by decide)) a.2.2.2.2.2.1) a.2.2.2.2.1) a.2.2.2.1) a.2.2.1) (fun y hy {x A} hx => head_at (p1 y hy) hx) (by omega) g1
 obtain ⟨r2, g3⟩ := L6 erP (w := ([119, 97, 108, 107] : List Int)) (most := 8) (item := Bx) (g := fun a => (pedK a).tail) (l := a.2.2.1) (I6 (v := ([112, 104, 97, 115, 101] : List Int)) (g := fun a => (Oi a).tail) (by decide) (I6 (v := ([103, 114, 111, 117, 112] : List Int)) (g := fun a => (Ly a).tail) (by decide) (I6 (v := ([102, 111, 101] : List Int)) (g := fun a => (foeK a).tail) (by decide) (sE _ (by decide)) a.2.2.2.2.2.1) a.2.2.2.2.1) a.2.2.2.1) (fun y hy {x A} hx => ped_at (p2 y hy) hx) (by omega) g2
 obtain ⟨r3, g4⟩ := L6 erX (w := ([112, 104, 97, 115, 101] : List Int)) (most := 16) (item := Dq) (g := fun a => (Oi a).tail) (l := a.2.2.2.1) (I6 (v := ([103, 114, 111, 117, 112] : List Int)) (g := fun a => (Ly a).tail) (by decide) (I6 (v := ([102, 111, 101] : List Int)) (g := fun a => (foeK a).tail) (by decide) (sE _ (by decide)) a.2.2.2.2.2.1) a.2.2.2.2.1) (fun y hy {x A} hx => Cdt (p3 y hy) hx) (by omega) g3
 obtain ⟨r4, g5⟩ := L6 id (w := ([103, 114, 111, 117, 112] : List Int)) (most := 4) (item := Cx) (g := fun a => (Ly a).tail) (l := a.2.2.2.2.1) (I6 (v := ([102, 111, 101] : List Int)) (g := fun a => (foeK a).tail) (by decide) (sE _ (by decide)) a.2.2.2.2.2.1) (fun y hy {x A} hx => Cba (p4 y hy) hx) (by omega) g4
 obtain ⟨r5, g6⟩ := L6 erF (w := ([102, 111, 101] : List Int)) (most := 64) (item := foeR) (g := fun a => (foeK a).tail) (l := a.2.2.2.2.2.1) (sE _ (by decide)) (fun y hy {x A} hx => foe_at (p5 y hy) hx) (by omega) g5
 rw [List.map_id, List.map_id] at r4
 refine ⟨?_, C8 ([125] : List Int) g6 (by decide)⟩
 unfold Bv erN
 simp only
 exact Prod.ext e0 (Prod.ext r1 (Prod.ext r2 (Prod.ext r3 (Prod.ext r4 (Prod.ext r5 rfl)))))
theorem net_at {n : NetT} (hb : netB n = true) {x : RS} (h : At x (netK n)) : Fe (netR x).1 = Fe n ∧ At (netR x).2 [(0, [], 0)] := by
 unfold netB at hb
 simp only [Bool.and_eq_true, List.all_eq_true] at hb
 obtain ⟨q0, q1, q2, ⟨q3, q4⟩, q7, q8, h1, h2, p1, p2⟩ := hb
 have h1 := C3 h1
 have h2 := C3 h2
 unfold netK at h
 obtain ⟨e1, g1⟩ := Ee (by decide) (De q0) h
 obtain ⟨e2, g2⟩ := Ee (by decide) (De q1) g1
 obtain ⟨e3, g3⟩ := Ee (by decide) (De q2) g2
 have g4 := C8 ([59] : List Int) g3 (by decide)
 obtain ⟨e5, g5⟩ := A9v (by decide) (De q3) (De q4) g4
 have g6 := C8 ([59] : List Int) g5 (by decide)
 have sA : Stops ([110, 111, 100, 101] : List Int) (artK n ++ [(0, [], 0)]) := by
  unfold artK
  cases artB n
  ·exact ⟨_, _, rfl, by decide⟩
  ·exact ⟨_, _, rfl, by decide⟩
 obtain ⟨r1, g7⟩ := L6 erN (w := ([110, 111, 100, 101] : List Int)) (most := 12) (item := Bv) (g := fun a => (Og a).tail) (l := n.2.2.2.2.2.1) sA (fun y hy {x A} hx => node_at (p1 y hy) hx) (by omega) g6
 unfold netR
 simp only
 generalize numR ([99, 121, 99, 108, 101] : List Int) x = c1 at *
 generalize numR ([116, 111] : List Int) c1.2 = c2 at *
 generalize numR ([98, 121] : List Int) c2.2 = c3 at *
 generalize Dk ([112, 101, 97, 107] : List Int) (Aj ([59] : List Int) c3.2) = c4 at *
 have r1 : (Aw ([110, 111, 100, 101] : List Int) 12 Bv (Aj ([59] : List Int) c4.2)).1.map erN = _ := r1
 have g7 : At (Aw ([110, 111, 100, 101] : List Int) 12 Bv (Aj ([59] : List Int) c4.2)).2 _ := g7
 generalize Aw ([110, 111, 100, 101] : List Int) 12 Bv (Aj ([59] : List Int) c4.2) = m at *
 have fin : ∀ {t : (List YT7 × Int × Int) × RS}, t.1.1.map erS = n.2.2.2.2.2.2.1.map erS → t.1.2.1 = n.2.2.2.2.2.2.2.1 → t.1.2.2 = n.2.2.2.2.2.2.2.2 → At t.2 [(0, [], 0)] →
   Fe (c1.1, c2.1, c3.1, c4.1.1, c4.1.2, m.1, t.1.1, t.1.2.1, t.1.2.2) = Fe n ∧ At (bif (hd t.2.1).1 != 0 then A2 50 t.2 else t.2) [(0, [], 0)] := by
  intro t f1 f2 f3 f4
  have hk : (hd t.2.1).1 = 0 := (O5 f4).1
  rw [hk]
  refine ⟨?_, f4⟩
  unfold Fe
  simp only
  rw [e1, e2, e3, e5, r1, f1, f2, f3]
 cases hA : artB n
 ·have hK : artK n = [] := by unfold artK; rw [hA]; rfl
  rw [hK] at g7
  have g7 : At m.2 [(0, [], 0)] := g7
  rw [show Ay ([97, 114, 116, 101, 114, 121] : List Int) m.2 = false by rw [Gb g7]; decide]
  unfold artB at hA
  simp only [Bool.or_eq_false_iff, decide_eq_false_iff_not, bne_eq_false_iff_eq] at hA
  have h0 : n.2.2.2.2.2.2.1 = [] := List.eq_nil_of_length_eq_zero (by omega)
  exact fin (t := (([], 0, 0), m.2)) (by rw [h0]) hA.1.2.symm hA.2.symm g7
 ·unfold artK at g7
  rw [hA] at g7
  simp only [cond_true, List.append_assoc, List.cons_append, List.nil_append] at g7
  rw [show Ay ([97, 114, 116, 101, 114, 121] : List Int) m.2 = true by rw [Gb g7]; rfl]
  have k1 := Ko g7 (by decide)
  have k2 := C8 ([123] : List Int) k1 (by decide)
  obtain ⟨s1, k3⟩ := L6 erS (w := ([115, 116, 111, 112] : List Int)) (most := 12) (item := Ef) (g := fun a => (Y5 a).tail) (l := n.2.2.2.2.2.2.1) ⟨_, _, rfl, by decide⟩ (fun y hy {x A} hx => stop_at (p2 y hy) hx) (by omega) k2
  obtain ⟨s2, k4⟩ := Ee (by decide) (De q7) k3
  obtain ⟨s3, k5⟩ := num_at0 (De q8) k4
  have k6 := C8 ([59] : List Int) k5 (by decide)
  have k7 := C8 ([125] : List Int) k6 (by decide)
  exact fin (t := B5 (A1 m.2)) s1 s2 s3 k7
end Go.Proofs.YtipcabmhdokfjaaGreatDoorV
namespace Go.Proofs.YtipcabmhdokfjaaGreatDoorV
open Go Go.RowKit
end Go.Proofs.YtipcabmhdokfjaaGreatDoorV
namespace Go.Proofs.YtipcabmhdokfjaaGreatDoorV
open Go Go.RowKit
noncomputable instance dec1 : DecidableEq YT1 := fun _ _ => Classical.propDecidable _
noncomputable instance dec2 : DecidableEq YT2 := fun _ _ => Classical.propDecidable _
noncomputable instance dec7 : DecidableEq YT7 := fun _ _ => Classical.propDecidable _
noncomputable instance decG : DecidableEq (List YT4 × Unit) := fun _ _ => Classical.propDecidable _
noncomputable instance dec6 : DecidableEq YT6 := fun _ _ => Classical.propDecidable _
noncomputable instance decN : DecidableEq NetT := fun _ _ => Classical.propDecidable _
section
variable {α β R : Type} [DecidableEq β] (er : α → β) (a b : List α)
theorem Bot : ∀ (a b : List α), a.length = b.length → ((a.zip b).all (fun x => decide (er x.1 = er x.2)) = true ↔ a.map er = b.map er)
 | [], [], _ => by simp
 | x :: a, y :: b, h => by
  have := Bot a b (by simpa using h)
  rw [List.zip_cons_cons, List.all_cons, Bool.and_eq_true, this]
  simp
 | [], _ :: _, h => by simp at h
 | _ :: _, [], h => by simp at h
theorem Jy (F : Nat → Int → Option R) (hl : a.length = b.length) {r e : Option R}
  (h1 : ∀ j i x y, a[i]? = some x → b[i]? = some y → F (j + 1) ((i : Nat) : Int) = if er x = er y then F j ((i + 1 : Nat) : Int) else e) (h0 : ∀ j, F (j + 1) ((a.length : Nat) : Int) = r) (j : Nat) (hj : a.length < j) :
  F j 0 = if a.map er = b.map er then r else e := by
 have hz : (a.zip b).length = a.length := by rw [List.length_zip]; omega
 have L := Bo3 (a.zip b) (fun x => decide (er x.1 = er x.2)) F e r (fun j i x hx => ?_) (fun j => by rw [hz]; exact h0 j) j (by rw [hz]; exact hj)
 ·rw [L]
  have := Bot er a b hl
  by_cases hc : a.map er = b.map er
  ·rw [if_pos hc, if_pos (this.2 hc)]
  ·rw [if_neg hc, if_neg (fun h => hc (this.1 h))]
 ·obtain ⟨hx1, hx2⟩ := List.getElem?_zip_eq_some.1 hx
  rw [h1 j i x.1 x.2 hx1 hx2]
  simp
theorem K0 {c r e : Option R} (h : a.length = b.length → c = if a.map er = b.map er then r else e) : (bif (((List.length a : Nat) : Int) != ((List.length b : Nat) : Int)) then e else c) = if a.map er = b.map er then r else e := by
 by_cases hl : a.length = b.length
 ·rw [h hl, hl]
  simp
 ·have h2 : ¬ a.map er = b.map er := fun h => hl (by have := congrArg List.length h; simpa using this)
  rw [if_neg h2]
  have h3 : (((List.length a : Nat) : Int) != ((List.length b : Nat) : Int)) = true := by simp; omega
  rw [h3]
  rfl
end
theorem Jd {R : Type} {B : Bool} {p : Prop} [Decidable p] {X e : Option R} (h : B = true ↔ p) : (bif !B then e else X) = if p then X else e := by
 by_cases hp : p
 ·rw [if_pos hp, h.2 hp]; rfl
 ·rw [if_neg hp]
  cases B with
  | false => rfl
  | true => exact absurd (h.1 rfl) hp
theorem X6 {R : Type} {p q : Prop} [Decidable p] [Decidable q] {X e : R} : (if p then (if q then X else e) else e) = if p ∧ q then X else e := by
 by_cases hp : p <;> by_cases hq : q <;> simp [hp, hq]
theorem Tg {R : Type} {p : Prop} [Decidable p] {X e : Option R} : ((if p then some true else some false).bind fun o => bif !o then e else X) = if p then X else e := by
 by_cases hp : p <;> simp [hp]
section
variable (k : Nat) (hk : 1000 ≤ k)
include hk
theorem Cbi (a b : List YT1) (ha : a.length < 1000) : P0 k (a, b, false) = if a.map erH = b.map erH then some true else some false := by
 rw [B6r, Ajl]
 refine K0 erH a b fun hl => Jy erH a b (fun j i => (Hr k).L 4 [] j (Ni (a, b, false, i))) hl (fun j i x y hx hy => ?_) (fun j => ?_) k (by omega)
 ·rw [A74, Xa, B9 hx, A5 hx, A5 hy, Cd hx (by omega)]
  simp only [Bool.not_false, cond_true]
  refine Jd ?_
  simp [eqS, eqI, erH, Prod.ext_iff]
 ·rw [A74, Xa, Ca]
theorem Cdk (a b : List YT2) (ha : a.length < 1000) : P1 k (a, b, false) = if a.map erP = b.map erP then some true else some false := by
 rw [B6s, Ajp]
 refine K0 erP a b fun hl => Jy erP a b (fun j i => (Hs k).L 4 [] j (Nj (a, b, false, i))) hl (fun j i x y hx hy => ?_) (fun j => ?_) k (by omega)
 ·rw [A76, Xb, B9 hx, A5 hx, A5 hy, Cd hx (by omega)]
  simp only [Bool.not_false, cond_true]
  refine Jd ?_
  simp [eqS, eqI, erP, Prod.ext_iff]
 ·rw [A76, Xb, Ca]
theorem B04 (a b : List YT5) (ha : a.length < 1000) : Pz k (a, b, false) = if a.map erF = b.map erF then some true else some false := by
 rw [B6q, Ajh]
 refine K0 erF a b fun hl => Jy erF a b (fun j i => (Hq k).L 4 [] j (Nh (a, b, false, i))) hl (fun j i x y hx hy => ?_) (fun j => ?_) k (by omega)
 ·rw [A72, W9, B9 hx, A5 hx, A5 hy, Cd hx (by omega)]
  simp only [Bool.not_false, cond_true]
  refine Jd ?_
  simp [eqS, eqI, erF, Prod.ext_iff]
 ·rw [A72, W9, Ca]
theorem Cgg (a b : List YT7) (ha : a.length < 1000) : V3 k (a, b, false) = if a.map erS = b.map erS then some true else some false := by
 rw [B75, Ald]
 refine K0 erS a b fun hl => Jy erS a b (fun j i => (Hx k).L 4 [] j (Nq (a, b, false, i))) hl (fun j i x y hx hy => ?_) (fun j => ?_) k (by omega)
 ·rw [A9r, Xk, B9 hx, A5 hx, A5 hy, Cd hx (by omega)]
  simp only [Bool.not_false, cond_true]
  refine Jd ?_
  simp [eqS, eqI, erS, Prod.ext_iff]
 ·rw [A9r, Xk, Ca]
theorem Bgl (a b : List (List Int)) (ha : a.length < 1000) : Py k (a, b) = if a = b then some true else some false := by
 rw [B6j, Ai1]
 have h := K0 (c := (F0 k).L 4 [] k (Ng (a, b, (0 : Int)))) (r := some true) (e := some false) (id : List Int → List Int) a b fun hl => Jy id a b (fun j i => (F0 k).L 4 [] j (Ng (a, b, i))) hl (fun j i x y hx hy => ?_) (fun j => ?_) k (by omega)
 ·rw [List.map_id, List.map_id] at h
  exact h
 ·rw [A7u, W5, B9 hx, A5 hx, A5 hy, Cd hx (by omega)]
  refine Jd ?_
  simp
 ·rw [A7u, W5, Ca]
theorem Cdu (a b : List YT3) (ha : a.length < 1000) (hx : ∀ x ∈ a, x.2.1.length < 1000) : P2 k (a, b, false) = if a.map erX = b.map erX then some true else some false := by
 rw [B6u, Ajt]
 refine K0 erX a b fun hl => Jy erX a b (fun j i => (Ht k).L 4 [] j (Nk (a, b, false, i))) hl (fun j i x y hx' hy => ?_) (fun j => ?_) k (by omega)
 ·rw [A78, Xc, B9 hx']
  simp only [A5 hx', A5 hy]
  rw [Cd hx' (by omega), Bgl k hk _ _ (hx x (Ei hx'))]
  simp only [cond_false, Tg]
  rw [Jd (p := x.1 = y.1) (by simp), X6]
  simp [erX, Prod.ext_iff]
 ·rw [A78, Xc, Ca]
theorem Cfr (a b : List (List YT4 × Unit)) (i j : Nat) (x y : List YT4 × Unit) (hx : a[i]? = some x) (hy : b[i]? = some y) (hl : a.length < 1000) (h1 : x.1.length < 1000) (h2 : ∀ r ∈ x.1, r.2.1.length < 1000) (hlen : x.1.length = y.1.length) :
  (Dj k).L 9 [j] k (Nf (a, b, (i : Int), (0 : Int))) = if x.1.map id = y.1.map id then (Dj k).L 4 [] j (Lr (a, b, ((i + 1 : Nat) : Int))) else some false := by
 refine Jy id x.1 y.1 (fun j' i' => (Dj k).L 9 [j] j' (Nf (a, b, (i : Int), i'))) hlen (fun j' i' r s hr hs => ?_) (fun j' => ?_) k (by omega)
 ·rw [A7r, W4]
  simp only [A5 hx, A5 hy, A5 hr, A5 hs]
  rw [B9 hr, Cd hr (by omega), Bgl k hk _ _ (h2 r (Ei hr)), Tg, Jd (p := r.1 = s.1) (by simp), X6]
  simp [Prod.ext_iff]
 ·rw [A7r, W4]
  simp only [A5 hx, A5 hy]
  rw [Ca, Cd hx (by omega)]
theorem Cbc (a b : List (List YT4 × Unit)) (ha : a.length < 1000) (hx : ∀ x ∈ a, x.1.length < 1000 ∧ ∀ r ∈ x.1, r.2.1.length < 1000) : Px k (a, b) = if a = b then some true else some false := by
 rw [B6i, Aix]
 have h := K0 (c := (Dj k).L 4 [] k (Lr (a, b, (0 : Int)))) (r := some true) (e := some false) (id : (List YT4 × Unit) → (List YT4 × Unit)) a b fun hl => Jy id a b (fun j i => (Dj k).L 4 [] j (Lr (a, b, i))) hl (fun j i x y hx' hy => ?_) (fun j => ?_) k (by omega)
 ·rw [List.map_id, List.map_id] at h
  exact h
 ·rw [A7q, W3, B9 hx', A5 hx', A5 hy]
  rw [K0 id x.1 y.1 fun hl2 => Cfr k hk a b i j x y hx' hy ha (hx x (Ei hx')).1 (hx x (Ei hx')).2 hl2]
  simp only [List.map_id, id]
  obtain ⟨x, ⟨⟩⟩ := x
  obtain ⟨y, ⟨⟩⟩ := y
  simp
 ·rw [A7q, W3, Ca]
theorem Cf1 (m n : NetT) (hS : NetS m) : Vr k (m.1, m.2.1, m.2.2.1, m.2.2.2.1, m.2.2.2.2.1, m.2.2.2.2.2.1, m.2.2.2.2.2.2.1, m.2.2.2.2.2.2.2.1, m.2.2.2.2.2.2.2.2, n.1, n.2.1, n.2.2.1, n.2.2.2.1, n.2.2.2.2.1, n.2.2.2.2.2.1, n.2.2.2.2.2.2.1, n.2.2.2.2.2.2.2.1, n.2.2.2.2.2.2.2.2, false) = some (decide (Fe m = Fe n)) := by
 obtain ⟨a0, a1, a2, a3, a4, a5, a6, a7, a8⟩ := m
 obtain ⟨b0, b1, b2, b3, b4, b5, b6, b7, b8⟩ := n
 obtain ⟨s1, s2, s3, s4⟩ := hS
 simp only at s1 s2 s3 s4
 have hN : ∀ hl : a5.length = b5.length, (F3 k).L 4 [] k (Ls (false, (0 : Int), a0, a1, a2, a3, a4, a5, a6, a7, a8, b0, b1, b2, b3, b4, b5, b6, b7, b8)) = if a5.map erN = b5.map erN then some true else some false := by
  intro hl
  refine Jy erN a5 b5 (fun j i => (F3 k).L 4 [] j (Ls (false, i, a0, a1, a2, a3, a4, a5, a6, a7, a8, b0, b1, b2, b3, b4, b5, b6, b7, b8))) hl (fun j i x y hx hy => ?_) (fun j => ?_) k (by omega)
  ·have hS := s2 x (Ei hx)
   obtain ⟨-, h1, -, h3, -, h5, h6, h7, h8, h9, -⟩ := hS
   rw [A70, W8, B9 hx, A5 hx, A5 hy, Cd hx (by omega)]
   simp only [cond_false]
   rw [Cbi k hk _ _ (by omega), Cdk k hk _ _ (by omega), Cdu k hk _ _ (by omega) (fun z hz => by have := (h6 z hz).2.1; omega),
    Cbc k hk _ _ (by omega) (fun z hz => ⟨by have := (h8 z hz).1; omega, fun r hr => by have := ((h8 z hz).2 r hr).1; omega⟩), B04 k hk _ _ (by omega)]
   simp only [Tg]
   rw [Jd (p := x.1 = y.1) (by simp)]
   simp only [X6]
   simp [erN, Prod.ext_iff]
  ·rw [A70, W8, Ca]
 rw [B6p, Ajd]
 simp only
 rw [Cgg k hk _ _ (by omega), Tg]
 have hb : ∀ (x y : Int) (X e : Option Bool), (bif x != y then e else X) = if x = y then X else e := by
  intro x y X e
  by_cases h : x = y
  ·simp [h]
  ·have : (x != y) = true := by simpa using h
   rw [this, if_neg h]
   rfl
 rw [Jd (p := a3 = b3 ∧ a4 = b4) (by simp [eqI])]
 simp only [hb]
 by_cases hl : a5.length = b5.length
 ·rw [hN hl, hl]
  simp only [X6, Fe, Prod.ext_iff]
  by_cases h5 : a5.map erN = b5.map erN <;> by_cases h6 : a6.map erS = b6.map erS <;> simp [h5, h6] <;> (try (by_cases q0 : a0 = b0 <;> by_cases q1 : a1 = b1 <;> by_cases q2 : a2 = b2 <;> by_cases q3 : a3 = b3 <;> by_cases q4 : a4 = b4 <;> by_cases q7 : a7 = b7 <;> by_cases q8 : a8 = b8 <;> simp [q0, q1, q2, q3, q4, q7, q8]))
 ·have hd : decide (Fe (a0, a1, a2, a3, a4, a5, a6, a7, a8) = Fe (b0, b1, b2, b3, b4, b5, b6, b7, b8)) = false := by
   rw [decide_eq_false_iff_not]
   intro h
   simp only [Fe, Prod.mk.injEq] at h
   exact hl (by have := congrArg List.length h.2.2.2.2.2.1; simpa using this)
  rw [hd]
  have hl2 : ¬ ((a5.length : Nat) : Int) = ((b5.length : Nat) : Int) := by omega
  simp only [if_neg hl2, ite_self]
end
theorem show_no (k : Nat) (hk : 200000 ≤ k) (n : NetT) (hS : NetS n) (hB : netB n = false) : My k n = some ([], 1) := by
 have := Sr k (by omega) n hS
 rw [Bah]
 obtain ⟨a0, a1, a2, a3, a4, a5, a6, a7, a8⟩ := n
 rw [Xp, this, hB]
 rfl
theorem Cca {b : List Int} (h : 65536 < b.length) : (Bt b).2.1 = 4 := by
 have e : toks b = (4, 65536, []) := by unfold toks; rw [if_pos h]
 unfold Bt
 rw [e]
 rfl
theorem Cgq {n : NetT} (hB : netB n = true) (h : ¬ 65536 < (netT n).length) : (Bt (netT n)).2.1 = 0 ∧ Fe (Bt (netT n)).1 = Fe n := by
 have e : toks (netT n) = lx (netT n).length ((netT n).length + 1) (netT n) := by unfold toks; rw [if_neg h]
 obtain ⟨h1, h2⟩ := Cbz hB (netT n).length ((netT n).length + 1) (by omega)
 rw [← e] at h1 h2
 obtain ⟨g1, g2⟩ := net_at hB (x := ((toks (netT n)).2.2, 0, 0)) ⟨rfl, h2⟩
 unfold Bt
 rw [h1]
 have e0 : (netR ((toks (netT n)).2.2, 0, 0)).2.2.1 = 0 := g2.e
 simp only [bne_self_eq_false, cond_false]
 rw [e0]
 exact ⟨rfl, g1⟩
theorem showBack_pure (x : Cau) : ∃ k, Acg k x = some true := by
 obtain ⟨k, hk⟩ : ∃ k : Nat, k = 1000000 := ⟨_, rfl⟩
 refine ⟨k, ?_⟩
 have hk : 1000000 ≤ k := by omega
 obtain ⟨b, e, hb⟩ := Bx9 k (by omega) x
 have s1 := fun h => Bn9 k (by omega) x (hb h)
 have n1 := fun h => show_no k (by omega) x (hb h)
 have r1 := fun h => Sr k (by omega) x (hb h)
 have m1 := fun y h => Cf1 k (by omega) x y (hb h)
 rw [Cav]
 have hl := @Bgp x
 have hp := @Cca (netT x)
 have hq := @Cgq x
 have hnp := Ccs k (by omega) (netT x)
 obtain ⟨a0, a1, a2, a3, a4, a5, a6, a7, a8⟩ := x
 rw [Bem, e, Option.bind_some]
 cases b with
 | false => rfl
 | true =>
  simp only [Bool.not_true, cond_false]
  have r1 := r1 rfl
  cases hB : netB (a0, a1, a2, a3, a4, a5, a6, a7, a8)
  ·rw [hB] at r1
   rw [n1 rfl hB, Option.bind_some, r1, Ap1 k (by omega)]
   rfl
  ·have hl := hl hB
   rw [s1 rfl hB, Option.bind_some]
   generalize netT (a0, a1, a2, a3, a4, a5, a6, a7, a8) = T at *
   simp only [bne_self_eq_false, cond_false]
   rw [hnp (by omega) (by omega), Option.bind_some, Ap1 k (by omega)]
   by_cases hT : 65536 < T.length
   ·have h1 : decide (((List.length T : Nat) : Int) > (65536 : Int)) = true := by simp; omega
    rw [h1, hp hT]
    rfl
   ·have h1 : decide (((List.length T : Nat) : Int) > (65536 : Int)) = false := by simp; omega
    obtain ⟨g1, g2⟩ := hq hB hT
    rw [h1]
    simp only [cond_false]
    rw [g1]
    have h2 := m1 (Bt T).1 rfl
    simp only at h2
    simp only [beq_self_eq_true, cond_true]
    rw [h2, g2]
    simp only [Option.bind_some, decide_true, cond_true]
end Go.Proofs.YtipcabmhdokfjaaGreatDoorV
