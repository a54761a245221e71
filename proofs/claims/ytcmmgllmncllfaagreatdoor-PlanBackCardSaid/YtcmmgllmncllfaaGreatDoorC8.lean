import Derived.Test.YtcmmgllmncllfaaGreatDoorC7
import Derived.Test.YtcmmgllmncllfaaGreatDoorC6
/-! Joined, names shortened: FD, FS, FS2, LJ, FT, FE, FF, FW, FX, FY, FZ, FP, FQ. -/
set_option linter.unusedVariables false
set_option linter.unusedSimpArgs false
set_option maxRecDepth 100000
namespace Go.Proofs.YtcmmgllmncllfaaGreatDoorV
open Go Go.RowKit
def Rd {α : Type} (x : RE α) (v : α) (A : List T3) : Prop := ∃ l, x = .inl (v, l) ∧ l.map strip = A
theorem Aw {α β : Type} {x : RE α} {v : α} {A : List T3} {f : α → List Tk → RE β} {u : β} {B : List T3} (h : Rd x v A) (hf : ∀ l, l.map strip = A → Rd (f v l) u B) : Rd (Al x f) u B := by
 obtain ⟨l, rfl, h2⟩ := h
 exact hf l h2
theorem Fo {α : Type} {v : α} {l : List Tk} {A : List T3} (h : l.map strip = A) : Rd (.inl (v, l)) v A := ⟨l, rfl, h⟩
theorem I6 {l : List Tk} {t : T3} {A : List T3} (h : l.map strip = t :: A) : (hd l).1 = t.1 ∧ (hd l).2.1 = t.2.1 ∧ (hd l).2.2.1 = t.2.2 ∧ (t.1 ≠ 0 → (tk1 l).map strip = A) := by
 cases l with
 | nil => simp at h
 | cons u q =>
  simp only [List.map_cons, List.cons.injEq] at h
  obtain ⟨rfl, rfl⟩ := h
  refine ⟨rfl, rfl, rfl, fun h0 => ?_⟩
  unfold tk1
  rw [show ((Go.Proofs.YtcmmgllmncllfaaGreatDoorV.hd (u :: q)).1 != 0) = true by simpa [Go.Proofs.YtcmmgllmncllfaaGreatDoorV.hd, strip] using h0]
  rfl
theorem Adl {w : List Int} {ws : List (List Int)} {l : List Tk} {t : T3} {A B : List T3} (h : l.map strip = t :: A) (h0 : t.1 ≠ 0) (ht : t.2.1 = w) (hr : ∀ l, l.map strip = A → Rd (An ws l) () B) : Rd (An (w :: ws) l) () B := by
 obtain ⟨_, h2, _, h3⟩ := I6 h
 rw [An, h2, ht, beq_self_eq_true, cond_true]
 exact hr _ (h3 h0)
theorem rd_w {w : List Int} {l : List Tk} {t : T3} {A : List T3} (h : l.map strip = t :: A) (h0 : t.1 ≠ 0) (ht : t.2.1 = w) : Rd (An [w] l) () A := Adl h h0 ht fun l h => Fo h
theorem Adk {s : List Int} {l : List Tk} {A : List T3} (hs : Bf s = true) (h : l.map strip = wd s :: A) : Rd (F5 l) s A := by
 obtain ⟨h1, h2, _, h3⟩ := I6 h
 unfold Bf at hs
 simp only [Bool.and_eq_true, Bool.not_eq_true'] at hs
 unfold F5
 rw [h1, h2]
 refine ⟨tk1 l, ?_, h3 (show (1 : Int) ≠ 0 by decide)⟩
 show (bif (1 : Int) != 1 || resB s then _ else _) = _
 rw [hs.2]
 rfl
theorem A8j {n : Int} (h : 0 ≤ n) : numK n = [(2, digN 18 n.natAbs, n)] := by
 unfold numK
 rw [show decide (n < 0) = false by simp; omega]
 rfl
theorem T4 {n : Int} {l : List Tk} {A : List T3} (hn : 0 ≤ n) (h : l.map strip = numK n ++ A) : Rd (numC l) n A := by
 rw [A8j hn] at h
 obtain ⟨h1, h2, h4, h3⟩ := I6 h
 unfold numC
 rw [h1, h4]
 exact ⟨tk1 l, rfl, h3 (show (2 : Int) ≠ 0 by decide)⟩
theorem Ia {w : List Int} {l : List Tk} {t : T3} {n : Int} {A : List T3} (hn : 0 ≤ n) (h : l.map strip = t :: (numK n ++ A)) (h0 : t.1 ≠ 0) (ht : t.2.1 = w) : Rd (numP [w] l) n A := Aw (rd_w h h0 ht) fun l h => T4 hn h
theorem Asl {l : List Tk} {n : Int} {A : List T3} (hn : 0 ≤ n) (h : l.map strip = numK n ++ A) : Rd (numP [] l) n A := Aw (Fo h) fun l h => T4 hn h
theorem T5 {α : Type} {w : List Int} {least most : Nat} {read : List Tk → RE α} {g : α → List T3} {t : T3} {A : List T3} (ht : t.2.1 ≠ w) : ∀ (vs : List α) (f : Nat) (l : List Tk) (o : List α),
  (∀ v ∈ vs, ∀ (l : List Tk) (B : List T3), l.map strip = g v ++ B → Rd (read l) v B) → l.map strip = vs.flatMap (fun v => wd w :: g v) ++ t :: A → vs.length < f → o.length + vs.length ≤ most → least ≤ o.length + vs.length →
  Rd (By w least most read f l o) (o ++ vs) (t :: A)
 | _, 0, _, _, _, _, h, _, _ => by omega
 | [], f + 1, l, o, hr, h, hf, hm, hl => by
  have h1 := (I6 h).2.1
  rw [By, h1, show (t.2.1 == w) = false by simpa using ht, Bool.false_or, show decide (((o.length : Nat) : Int) < (least : Int)) = false by simp at hl; simp; omega, cond_false, List.append_nil]
  exact Fo h
 | v :: vs, f + 1, l, o, hr, h, hf, hm, hl => by
  rw [List.flatMap_cons, List.cons_append, List.cons_append, List.append_assoc] at h
  have h1 := (I6 h).2.1
  simp only [List.length_cons] at hf hm hl
  rw [By, h1, show ((wd w).2.1 == w) = true by simp [wd], Bool.true_or, cond_true, show (((o.length : Nat) : Int) == (most : Int)) = false by simp; omega, cond_false]
  refine Aw (rd_w h (show (1 : Int) ≠ 0 by decide) rfl) fun l1 h2 => Aw (hr v (by simp) l1 _ h2) fun l2 h3 => ?_
  have := T5 (least := least) (most := most) (w := w) (read := read) (g := g) (A := A) ht vs f l2 (o ++ [v]) (fun u hu => hr u (by simp [hu])) h3 (by omega) (by rw [List.length_append, List.length_singleton]; omega) (by rw [List.length_append, List.length_singleton]; omega)
  rwa [List.append_assoc] at this
theorem Dn {n : Int} (h : numB n = true) : 0 ≤ n := by
 unfold numB at h
 simp only [Bool.and_eq_true, decide_eq_true_eq] at h
 exact h.1
theorem rd_walk {v : Cr} (hb : wlkB v = true) (l : List Tk) (B : List T3) (h : l.map strip = (wd v.1 :: (numK v.2.1 ++ (wd ([102, 108, 97, 115, 104] : List Int) :: numK v.2.2.1))) ++ B) : Rd (Gb l) v B := by
 unfold wlkB at hb
 simp only [Bool.and_eq_true] at hb
 simp only [List.cons_append, List.append_assoc] at h
 exact Aw (Adk hb.1 h) fun l h => Aw (Asl (Dn hb.2.1) h) fun l h => Aw (Ia (Dn hb.2.2) h (by decide) rfl) fun l h => Fo h
theorem Xa {α : Type} {g : α → List T3} (hg : ∀ v, 1 ≤ (g v).length) (vs : List α) : vs.length ≤ (vs.flatMap g).length := by
 induction vs with
 | nil => simp
 | cons w ws ih => rw [List.flatMap_cons, List.length_append, List.length_cons]; have := hg w; omega
theorem rd_slot {v : Av} (hb : Cd v = true) (l : List Tk) (B : List T3) (h : l.map strip = (wd v.1 :: wd ([115, 112, 108, 105, 116] : List Int) :: (numK v.2.1 ++ (wd ([121, 101, 108, 108, 111, 119] : List Int) :: (numK v.2.2.1 ++ (wd ([114, 101, 100] : List Int) :: (numK v.2.2.2.1 ++ (v.2.2.2.2.1.flatMap Jl ++ [sg ([59] : List Int)]))))))) ++ B) : Rd (Fp l) v B := by
 have hb2 := La hb
 unfold Cd at hb
 simp only [Bool.and_eq_true] at hb
 simp only [List.cons_append, List.append_assoc, List.nil_append] at h
 refine Aw (Adk hb.1 h) fun l h => Aw (Ia (Dn hb.2.1) h (by decide) rfl) fun l h => Aw (Ia (Dn hb.2.2.1) h (by decide) rfl) fun l h => Aw (Ia (Dn hb.2.2.2.1) h (by decide) rfl) fun l h => ?_
 have hlen : v.2.2.2.2.1.length ≤ l.length := by
  have := congrArg List.length h
  rw [List.length_map, List.length_append] at this
  have h2 := Xa (g := Jl) (fun v => by unfold Jl; simp) v.2.2.2.2.1
  omega
 have := T5 (least := 0) (most := 8) (w := ([119, 97, 108, 107] : List Int)) (read := Gb) (g := fun v => wd v.1 :: (numK v.2.1 ++ (wd ([102, 108, 97, 115, 104] : List Int) :: numK v.2.2.1))) (t := sg ([59] : List Int)) (A := B) (by decide) v.2.2.2.2.1 (l.length + 1) l [] (fun u hu l B h => rd_walk (hb2.2.2.2.2.2 u hu) l B h) h (by omega) (by simpa using hb2.2.2.2.2.1) (Nat.zero_le _)
 exact Aw this fun l h => Aw (rd_w h (by decide) rfl) fun l h => Fo h
theorem Adj {α : Type} {w : List Int} {least most : Nat} {read : List Tk → RE α} {g : α → List T3} (hw : ([125] : List Int) ≠ w) {vs : List α} (hr : ∀ v ∈ vs, ∀ (l : List Tk) (B : List T3), l.map strip = g v ++ B → Rd (read l) v B) (h1 : least ≤ vs.length) (h2 : vs.length ≤ most)
  (l : List Tk) (B : List T3) (h : l.map strip = sg ([123] : List Int) :: (vs.flatMap (fun v => wd w :: g v) ++ [sg ([125] : List Int)]) ++ B) : Rd (Em w least most read l) vs B := by
 simp only [List.cons_append, List.append_assoc, List.nil_append] at h
 refine Aw (rd_w h (by decide) rfl) fun l h => ?_
 have hlen : vs.length ≤ l.length := by
  have := congrArg List.length h
  rw [List.length_map, List.length_append] at this
  have h2 := Xa (g := fun v => wd w :: g v) (fun v => by simp) vs
  omega
 have := T5 (least := least) (most := most) (w := w) (read := read) (g := g) (t := sg ([125] : List Int)) (A := B) hw vs (l.length + 1) l [] hr h (by omega) (by simpa using h2) (by simpa using h1)
 exact Aw this fun l h => Aw (rd_w h (by decide) rfl) fun l h => Fo h
theorem Je {v : List Av} (hb : Cb v = true) : (1 ≤ v.length ∧ v.length ≤ 4) ∧ ∀ s ∈ v, Cd s = true := by
 unfold Cb lenB at hb
 simp only [Bool.and_eq_true, decide_eq_true_eq, List.all_eq_true] at hb
 exact hb
theorem Ji {v : Cg} (hb : Cn v = true) : (1 ≤ v.1.length ∧ v.1.length ≤ 2) ∧ ∀ s ∈ v.1, Cb s = true := by
 unfold Cn lenB at hb
 simp only [Bool.and_eq_true, decide_eq_true_eq, List.all_eq_true] at hb
 exact hb
theorem rd_ring {v : List Av} (hb : Cb v = true) (l : List Tk) (B : List T3) (h : l.map strip = (sg ([123] : List Int) :: (v.flatMap Oq ++ [sg ([125] : List Int)])) ++ B) : Rd (Eg l) v B :=
 Adj (by decide) (fun u hu l B h => rd_slot ((Je hb).2 u hu) l B h) (Je hb).1.1 (Je hb).1.2 l B h
theorem rd_span {v : Cg} (hb : Cn v = true) (l : List Tk) (B : List T3) (h : l.map strip = (sg ([123] : List Int) :: (v.1.flatMap Ol ++ [sg ([125] : List Int)])) ++ B) : Rd (Fq l) v B :=
 Aw (Adj (vs := v.1) (g := fun v : List Av => sg ([123] : List Int) :: (v.flatMap Oq ++ [sg ([125] : List Int)])) (by decide) (fun u hu l B h => rd_ring ((Ji hb).2 u hu) l B h) (Ji hb).1.1 (Ji hb).1.2 l B h) fun l h => Fo h
theorem A9d {v : TimT} (hb : timB v = true) (l : List Tk) (B : List T3) (h : l.map strip = (wd v.1 :: wd ([111, 102, 102, 115, 101, 116] : List Int) :: (numK v.2.1 ++ (wd ([115, 117, 109] : List Int) :: (numK v.2.2.2.1.1 ++ (sg ([47] : List Int) :: (numK v.2.2.2.1.2.1 ++ (sg ([123] : List Int) :: (v.2.2.1.flatMap Ou ++ [sg ([125] : List Int)])))))))) ++ B) : Rd (Ga l) v B := by
 have hb2 := Jj hb
 unfold timB at hb
 simp only [Bool.and_eq_true] at hb
 simp only [List.cons_append, List.append_assoc, List.nil_append] at h
 exact Aw (Adk hb.1 h) fun l h => Aw (Ia (Dn hb.2.1) h (by decide) rfl) fun l h => Aw (Ia (Dn hb.2.2.1) h (by decide) rfl) fun l h => Aw (Ia (Dn hb.2.2.2.1) h (by decide) rfl) fun l h =>
  Aw (Adj (w := ([103, 114, 111, 117, 112] : List Int)) (least := 0) (most := 4) (vs := v.2.2.1) (g := fun v : Cg => sg ([123] : List Int) :: (v.1.flatMap Ol ++ [sg ([125] : List Int)])) (by decide) (fun u hu l B h => rd_span (hb2.2.2.2.2.2 u hu) l B h) (Nat.zero_le _) hb2.2.2.2.2.1 l B (by
   simp only [List.cons_append, List.append_assoc, List.nil_append]; exact h)) fun l h => Fo h
theorem Asm {w : List Int} {a b : Int} (ha : 0 ≤ a) (hb : 0 ≤ b) {l : List Tk} {t : T3} {A : List T3} (h : l.map strip = t :: (numK a ++ (numK b ++ (sg ([59] : List Int) :: A)))) (h0 : t.1 ≠ 0) (ht : t.2.1 = w) : Rd (Jm w l) (a, b) A :=
 by
 unfold Jm
 refine Aw (Ia ha h h0 ht) fun l h => ?_
 refine Aw (Asl hb h) fun l h => ?_
 exact Aw (rd_w h (by decide) rfl) fun l h => Fo h
theorem rd_best {b : Bool} {l : List Tk} {A : List T3} (h : l.map strip = wd (yesT b) :: A) : Rd (Ln l) b A := by
 unfold Ln
 obtain ⟨h1, h2, _, h3⟩ := I6 h
 rw [h2]
 cases b
 ·show Rd (Al (An [([110, 111] : List Int)] l) fun _ l => .inl (false, l)) false A
  exact Aw (rd_w (w := ([110, 111] : List Int)) h (by decide) rfl) fun l h => Fo h
 ·exact ⟨tk1 l, rfl, h3 (by decide)⟩
theorem rd_plan {p : A3} (hb : Cl p = true) {l : List Tk} (h : l.map strip = T2 p) : Rd (Oi l) p [(0, [], 0)] := by
 have hb2 := K3 hb
 unfold Cl at hb
 simp only [Bool.and_eq_true] at hb
 unfold T2 tailK at h
 refine Aw (Aw (Adl h (by decide) rfl fun l h => rd_w h (by decide) rfl) fun l h => T4 (Dn hb.1) h) fun l h => Aw (rd_w h (by decide) rfl) fun l h => ?_
 have hlen : p.2.1.length ≤ l.length := by
  have := congrArg List.length h
  rw [List.length_map, List.length_append] at this
  have h2 := Xa (g := timK) (fun v => by unfold timK; simp) p.2.1
  omega
 have := T5 (least := 0) (most := 12) (w := ([110, 111, 100, 101] : List Int)) (read := Ga) (g := fun v : TimT => wd v.1 :: wd ([111, 102, 102, 115, 101, 116] : List Int) :: (numK v.2.1 ++ (wd ([115, 117, 109] : List Int) :: (numK v.2.2.2.1.1 ++ (sg ([47] : List Int) :: (numK v.2.2.2.1.2.1 ++ (sg ([123] : List Int) :: (v.2.2.1.flatMap Ou ++ [sg ([125] : List Int)]))))))))
  (t := wd ([111, 117, 116] : List Int)) (by decide) p.2.1 (l.length + 1) l [] (fun u hu l B h => A9d (hb2.2.2.2.2.2.2.2 u hu) l B h) h (by omega) (by simpa using hb2.2.2.2.2.2.2.1) (Nat.zero_le _)
 refine Aw this fun l h => Aw (Asm (Dn hb.2.1) (Dn hb.2.2.1) h (by decide) rfl) fun l h => Aw (Asm (Dn hb.2.2.2.1) (Dn hb.2.2.2.2.1) h (by decide) rfl) fun l h => Aw (rd_w h (by decide) rfl) fun l h => Aw (rd_best h) fun l h => ?_
 unfold endP
 refine Aw (Aw (Adl h (by decide) rfl fun l h => rd_w h (by decide) rfl) fun l h => T4 (Dn hb.2.2.2.2.2.1) h) fun l h => Aw (rd_w h (by decide) rfl) fun l h => ?_
 obtain ⟨h1, _⟩ := I6 h
 rw [h1]
 exact Fo h
theorem Bax {p : A3} (hB : Cl p = true) (h : (Bh p).length ≤ 65536) : Dg (Bh p) = (p, 0, 0) := by
 obtain ⟨h1, h2⟩ := A75 hB (Bh p).length ((Bh p).length + 1) (Nat.lt_succ_self _)
 have e : toks (Bh p) = lx (Bh p).length ((Bh p).length + 1) (Bh p) := by unfold toks; rw [if_neg (by omega)]
 rw [← e] at h1 h2
 obtain ⟨l, h3, _⟩ := rd_plan hB h2
 unfold Dg
 rw [h1, h3]
 rfl
def outR (e : Int × List Tk) : Int × Int := (e.1, (hd e.2).2.2.2.1)
def res {α β : Type} (x : RE α) (f : α → List Tk → β) : β ⊕ (Int × Int) := match x with
 | .inl y => .inl (f y.1 y.2)
 | .inr e => .inr (outR e)
structure Rdy (l : List Tk) : Prop where
 e : EndT l
 g : Gd l
theorem Rdy.suf {l m : List Tk} (r : Rdy l) (h : m <:+ l) (e : EndT m) : Rdy m := ⟨e, r.g.suf h⟩
theorem Bs {α : Type} {P : α → Prop} {l : List Tk} {x : RE α} (r : Rdy l) (h : Rel P l l x x) {v : α} {m : List Tk} (e : x = .inl (v, m)) : Rdy m ∧ m.length ≤ l.length ∧ P v := by
 subst e
 exact ⟨r.suf h.2.2.1 h.2.2.2.2.1, h.2.2.1.length_le, h.2.2.2.2.2.2⟩
theorem Ax {α β γ δ : Type} {x : RE α} {h : α → List Tk → RE γ} {f : α → List Tk → β} {f' : γ → List Tk → δ} {G : β → Option (δ ⊕ (Int × Int))} (hG : ∀ v l, x = .inl (v, l) → G (f v l) = some (res (h v l) f')) :
  (some (res x f)).bind (orP G (fun o => some (.inr (o.1, o.2)))) = some (res (Al x h) f') := by
 cases x with
 | inr e => rfl
 | inl y => exact hG y.1 y.2 rfl
section
variable (k : Nat) {l : List Tk}
theorem I7 {R : Type} {l : List Tk} {K : Tk → Option R} (h : l ≠ []) : idx tkD l 0 K = K (hd l) := by
 cases l with
 | nil => exact absurd rfl h
 | cons x r => exact At (i := 0) rfl
theorem cutB_hd {R : Type} {l : List Tk} {a b : Option R} (h : l ≠ []) : (bif cutB (1 : Int) ((l.length : Nat) : Int) l.length then a else b) = a := by
 cases l with
 | nil => exact absurd rfl h
 | cons x r => rw [Hi, if_pos (by simp; omega)]
theorem cutL_hd {l : List Tk} : cutL l 1 ((l.length : Nat) : Int) = l.tail := by
 cases l <;> simp [cutL]
theorem cut_hd {R : Type} {l : List Tk} {K : List Tk → Option R} (h : l ≠ []) : cut l 1 ((l.length : Nat) : Int) K = K l.tail := by
 unfold cut
 rw [cutB_hd h, cutL_hd]
theorem Ht (w : List Int) (r : Rdy l) : D5 k (w, l) = some ((hd l).2.1 == w, l) := by
 rw [A3v, Ak5, I7 r.e.ne]
theorem Es (c : Int) (r : Rdy l) : B0 k (c, l) = some (.inr (c, (hd l).2.2.2.1)) := by
 rw [A3u, Ak2, I7 r.e.ne]
theorem Lc (r : Rdy l) : D6 k l = some ((hd l).1, (hd l).2.1, (hd l).2.2.1, (hd l).2.2.2.1, tk1 l) := by
 rw [A4h, Alk, I7 r.e.ne, cut_hd r.e.ne]
 unfold tk1
 cases (hd l).1 != 0 <;> rfl
theorem Rdy.tk1 (r : Rdy l) : Rdy (tk1 l) := r.suf (Ael l) r.e.tk1
theorem Awj (ws : List (List Int)) (hw : ws.length < 1000) : ∀ (r pre : List (List Int)) (j : Nat) (l : List Tk), ws = pre ++ r → r.length < j → Rdy l →
  (E6 k).L 1 [] j (J8 (ws, ((ws.length : Nat) : Int), ((pre.length : Nat) : Int), l)) = some (res (An r l) fun _ l => l)
 | _, _, 0, _, _, h, _ => by omega
 | [], pre, j + 1, l, e, h, q => by
  have e2 : ws = pre := by rw [e]; simp
  rw [Alv, R5, ← e2, Be]
  rfl
 | w :: r, pre, j + 1, l, e, h, q => by
  have hx : ws[pre.length]? = some w := by rw [e]; simp
  have IH := Awj ws hw r (pre ++ [w]) j (tk1 l) (by rw [e]; simp) (by simp at h; omega) q.tk1
  rw [List.length_append, List.length_singleton] at IH
  rw [Alv, R5, A9 hx, At hx, Ht k w q, Option.bind_some, An]
  cases hc : (hd l).2.1 == w
  ·rw [Bool.not_false, cond_true, Es k 50 q]
   rfl
  ·rw [Bool.not_true, cond_false, Lc k q, Option.bind_some, Bi hx (by omega), cond_true]
   exact IH
theorem Cq (ws : List (List Int)) (hw : ws.length < 1000) (hk : 1000 ≤ k) (q : Rdy l) : Bu k (ws, l) = some (res (An ws l) fun _ l => l) := by
 rw [A4p, Y6]
 exact Awj k ws hw ws [] k l rfl (by omega) q
theorem Awi (ws : List (List Int)) (hw : ws.length < 1000) : ∀ (r pre : List (List Int)) (j : Nat) (l : List Tk), ws = pre ++ r → r.length < j → Rdy l →
  (E5 k).L 1 [] j (J9 (ws, ((ws.length : Nat) : Int), ((pre.length : Nat) : Int), l)) = some (res (An r l) fun _ l => l)
 | _, _, 0, _, _, h, _ => by omega
 | [], pre, j + 1, l, e, h, q => by
  have e2 : ws = pre := by rw [e]; simp
  rw [Alx, R7, ← e2, Be]
  rfl
 | w :: r, pre, j + 1, l, e, h, q => by
  have hx : ws[pre.length]? = some w := by rw [e]; simp
  have IH := Awi ws hw r (pre ++ [w]) j (tk1 l) (by rw [e]; simp) (by simp at h; omega) q.tk1
  rw [List.length_append, List.length_singleton] at IH
  rw [Alx, R7, A9 hx, At hx, Ht k w q, Option.bind_some, An]
  cases hc : (hd l).2.1 == w
  ·rw [Bool.not_false, cond_true, Es k 50 q]
   rfl
  ·rw [Bool.not_true, cond_false, Lc k q, Option.bind_some, Bi hx (by omega), cond_true]
   exact IH
theorem Bbc (ws : List (List Int)) (hw : ws.length < 1000) (hk : 1000 ≤ k) (q : Rdy l) : Qg k (ws, l) = some (res (An ws l) fun _ l => l) := by
 rw [A4r, Y8]
 exact Awi k ws hw ws [] k l rfl (by omega) q
theorem Dh {ws : List (List Int)} (q : Rdy l) {v : Unit} {m : List Tk} (e : An ws l = .inl (v, m)) : Rdy m ∧ m.length ≤ l.length := by
 have := Bs q (Gz ws rfl q.e q.e) e
 exact ⟨this.1, this.2.1⟩
theorem Fk (ws : List (List Int)) (hw : ws.length < 1000) (hk : 1000 ≤ k) (q : Rdy l) : Dj k (ws, l) = some (res (numP ws l) fun n l => (n, l)) := by
 rw [A32, Yr, Cq k ws hw hk q]
 refine Ax fun v m e => ?_
 have r := (Dh q e).1
 rw [I7 r.e.ne, Es k 50 r, A33, Ys, Lc k r]
 unfold numC
 cases (hd m).1 != 2 <;> rfl
theorem A8h (ws : List (List Int)) (hw : ws.length < 1000) (hk : 1000 ≤ k) (q : Rdy l) : P9 k (ws, l) = some (res (numP ws l) fun n l => (n, l)) := by
 rw [A36, Yt, Bbc k ws hw hk q]
 refine Ax fun v m e => ?_
 have r := (Dh q e).1
 rw [I7 r.e.ne, Es k 50 r, A37, Yu, Lc k r]
 unfold numC
 cases (hd m).1 != 2 <;> rfl
theorem Ac3 (q : Rdy l) : Js k l = some (res (F5 l) fun n l => (n, l)) := by
 rw [A3y, Yp, I7 q.e.ne, Es k 50 q, Ass, A3z, Yq, Lc k q]
 unfold F5
 cases (hd l).1 != 1
 ·simp only [cond_false, Option.bind_some, Bool.false_or]
  cases resB (hd l).2.1 <;> rfl
 ·rfl
def Ef {α β : Type} (x : RE α) (K : List Tk → α → Option (β ⊕ (Int × Int))) : Option (β ⊕ (Int × Int)) := match x with
 | .inl y => K y.2 y.1
 | .inr e => some (.inr (outR e))
theorem K7 {α : Type} (F : Nat → List Tk → List α → Option ((List Tk × List α) ⊕ (Int × Int))) {w : List Int} (hw : w ≠ []) (least most : Nat) (read : List Tk → RE α) {P : α → Prop}
  (hr : ∀ {l m : List Tk}, l.map strip = m.map strip → EndT l → EndT m → Gd l → Rel P l m (read l) (read m))
  (hF : ∀ (j : Nat) (l : List Tk) (o : List α), Rdy l → l.length ≤ 100000 → o.length ≤ most → F (j + 1) l o = bif ((hd l).2.1 == w) || decide (((o.length : Nat) : Int) < (least : Int)) then
   (bif ((o.length : Nat) : Int) == (most : Int) then some (.inr (4, (hd l).2.2.2.1)) else Ef (Al (An [w] l) (fun _ l => read l)) fun l x => F j l (o ++ [x])) else some (.inl (l, o))) :
  ∀ (f j : Nat) (l : List Tk) (o : List α), l.length < f → l.length < j → Rdy l → l.length ≤ 100000 → o.length ≤ most → F j l o = some (res (By w least most read f l o) fun v l => (l, v))
 | 0, j, l, o, h, _, _, _, _ => by omega
 | f + 1, 0, l, o, _, h, _, _, _ => by omega
 | f + 1, j + 1, l, o, h1, h2, q, hl, ho => by
  rw [hF j l o q hl ho, By]
  cases ((hd l).2.1 == w) || decide (((o.length : Nat) : Int) < (least : Int))
  ·rfl
  ·cases hm : ((o.length : Nat) : Int) == (most : Int)
   ·have hm2 : ¬ ((o.length : Nat) : Int) = (most : Int) := by simpa using hm
    simp only [cond_true, cond_false]
    cases hwd : An [w] l with
    | inr e => rfl
    | inl a =>
     have hlt := Awh hw q.g q.e (l' := a.2) (u := a.1) hwd
     have r2 := (Dh q (m := a.2) (v := a.1) hwd).1
     show Ef (read a.2) (fun l x => F j l (o ++ [x])) = some (res (Al (read a.2) fun x l => By w least most read f l (o ++ [x])) _)
     cases hrd : read a.2 with
     | inr e => rfl
     | inl b =>
      obtain ⟨r3, h3, _⟩ := Bs r2 (hr rfl r2.e r2.e r2.g) (v := b.1) (m := b.2) hrd
      exact K7 F hw least most read hr hF f j b.2 (o ++ [b.1]) (by omega) (by omega) r3 (by omega) (by rw [List.length_append, List.length_singleton]; omega)
   ·rfl
end
section
variable (k : Nat) (hk : 100000 < k) {l : List Tk}
include hk
theorem Ba9 (q : Rdy l) : Qf k l = some (res (Gb l) fun w l => (w.1, w.2.1, w.2.2.1, l)) := by
 rw [A4l, Als, Ac3 k q]
 refine Ax fun n l1 e1 => ?_
 have r1 := (Bs q (K5 rfl q.e q.e q.g) e1).1
 rw [Fk k [] (by decide) (by omega) r1]
 refine Ax fun a l2 e2 => ?_
 have r2 := (Bs r1 (Bx [] rfl r1.e r1.e r1.g) e2).1
 rw [Fk k [([102, 108, 97, 115, 104] : List Int)] (by decide) (by omega) r2]
 exact Ax fun b l3 e3 => rfl
theorem A9w (q : Rdy l) (hl : l.length ≤ 100000) : Ql k (([119, 97, 108, 107] : List Int), 0, 8, l) = some (res (By ([119, 97, 108, 107] : List Int) 0 8 Gb (l.length + 1) l []) fun v l => (l, v)) := by
 rw [A49, Zv]
 refine K7 (fun j l o => (Cz k).L 2 [] j (Ke (([119, 97, 108, 107] : List Int), 0, 8, l, o))) (w := ([119, 97, 108, 107] : List Int)) (by decide) 0 8 Gb Ads (fun j l o r hl ho => ?_) (l.length + 1) k l [] (by omega) (by omega) q hl (Nat.zero_le _)
 have J : (Cz k).J 5 [j] (I2 (([119, 97, 108, 107] : List Int), 0, 8, l, o)) = Ef (Al (An [([119, 97, 108, 107] : List Int)] l) (fun _ l => Gb l)) fun l x => (Cz k).L 2 [] j (Ke (([119, 97, 108, 107] : List Int), 0, 8, l, o ++ [x])) := by
  rw [A5a, Zw, Cq k [([119, 97, 108, 107] : List Int)] (by decide) (by omega) r]
  cases hwd : An [([119, 97, 108, 107] : List Int)] l with
  | inr e => rfl
  | inl a =>
   obtain ⟨r2, h2⟩ := Dh r (m := a.2) (v := a.1) hwd
   simp only [res, Option.bind_some, orP, Al, Ef]
   rw [Ba9 k hk r2]
   cases Gb a.2 with
   | inr e => rfl
   | inl b =>
    simp only [res, Option.bind_some, orP]
    rw [Hf (by rw [List.length_singleton]; omega) (by rw [List.length_singleton]; omega)]
 rw [A5b, Zx, Ht k _ r, Option.bind_some, Es k 4 r, J]
 have e1 : decide (((o.length : Nat) : Int) < (0 : Int)) = decide (((o.length : Nat) : Int) < ((0 : Nat) : Int)) := rfl
 have e2 : (((o.length : Nat) : Int) == (8 : Int)) = (((o.length : Nat) : Int) == ((8 : Nat) : Int)) := rfl
 rw [e1, e2]
 cases (hd l).2.1 == ([119, 97, 108, 107] : List Int) <;> cases decide (((o.length : Nat) : Int) < ((0 : Nat) : Int)) <;> cases ((o.length : Nat) : Int) == ((8 : Nat) : Int) <;> rfl
theorem Baj (q : Rdy l) (hl : l.length ≤ 100000) : Qc k l = some (res (Fp l) fun s l => (s.1, s.2.1, s.2.2.1, s.2.2.2.1, l, s.2.2.2.2.1)) := by
 rw [A4e, Alg, Ac3 k q]
 refine Ax fun n l1 e1 => ?_
 obtain ⟨r1, h1, -⟩ := Bs q (K5 rfl q.e q.e q.g) e1
 rw [Fk k [([115, 112, 108, 105, 116] : List Int)] (by decide) (by omega) r1]
 refine Ax fun a l2 e2 => ?_
 obtain ⟨r2, h2, -⟩ := Bs r1 (Bx [([115, 112, 108, 105, 116] : List Int)] rfl r1.e r1.e r1.g) e2
 rw [Fk k [([121, 101, 108, 108, 111, 119] : List Int)] (by decide) (by omega) r2]
 refine Ax fun b l3 e3 => ?_
 obtain ⟨r3, h3, -⟩ := Bs r2 (Bx [([121, 101, 108, 108, 111, 119] : List Int)] rfl r2.e r2.e r2.g) e3
 rw [Fk k [([114, 101, 100] : List Int)] (by decide) (by omega) r3]
 refine Ax fun c l4 e4 => ?_
 obtain ⟨r4, h4, -⟩ := Bs r3 (Bx [([114, 101, 100] : List Int)] rfl r3.e r3.e r3.g) e4
 rw [A9w k hk r4 (by omega)]
 refine Ax fun ws l5 e5 => ?_
 have r5 := (Bs r4 (Ic (w := ([119, 97, 108, 107] : List Int)) (by decide) (least := 0) (most := 8) Ads (l4.length + 1) l4 l4 [] rfl r4.e r4.e r4.g (Nat.lt_succ_self _) (fun x hx => by cases hx) (Nat.zero_le _)) e5).1
 rw [Cq k [([59] : List Int)] (by decide) (by omega) r5]
 exact Ax fun _ l6 e6 => rfl
theorem A9t (q : Rdy l) (hl : l.length ≤ 100000) : Qi k (([112, 104, 97, 115, 101] : List Int), 1, 4, l) = some (res (By ([112, 104, 97, 115, 101] : List Int) 1 4 Fp (l.length + 1) l []) fun v l => (l, v)) := by
 rw [A4x, Zg]
 refine K7 (fun j l o => (Cw k).L 2 [] j (Kb (([112, 104, 97, 115, 101] : List Int), 1, 4, l, o))) (w := ([112, 104, 97, 115, 101] : List Int)) (by decide) 1 4 Fp Adp (fun j l o r hl ho => ?_) (l.length + 1) k l [] (by omega) (by omega) q hl (Nat.zero_le _)
 have J : (Cw k).J 5 [j] (Iz (([112, 104, 97, 115, 101] : List Int), 1, 4, l, o)) = Ef (Al (An [([112, 104, 97, 115, 101] : List Int)] l) (fun _ l => Fp l)) fun l x => (Cw k).L 2 [] j (Kb (([112, 104, 97, 115, 101] : List Int), 1, 4, l, o ++ [x])) := by
  rw [A4y, Zh, Cq k [([112, 104, 97, 115, 101] : List Int)] (by decide) (by omega) r]
  cases hwd : An [([112, 104, 97, 115, 101] : List Int)] l with
  | inr e => rfl
  | inl a =>
   obtain ⟨r2, h2⟩ := Dh r (m := a.2) (v := a.1) hwd
   simp only [res, Option.bind_some, orP, Al, Ef]
   rw [Baj k hk r2 (by omega)]
   cases Fp a.2 with
   | inr e => rfl
   | inl b =>
    simp only [res, Option.bind_some, orP]
    rw [Hf (by rw [List.length_singleton]; omega) (by rw [List.length_singleton]; omega)]
 rw [A4z, Zi, Ht k _ r, Option.bind_some, Es k 4 r, J]
 have e1 : decide (((o.length : Nat) : Int) < (1 : Int)) = decide (((o.length : Nat) : Int) < ((1 : Nat) : Int)) := rfl
 have e2 : (((o.length : Nat) : Int) == (4 : Int)) = (((o.length : Nat) : Int) == ((4 : Nat) : Int)) := rfl
 rw [e1, e2]
 cases (hd l).2.1 == ([112, 104, 97, 115, 101] : List Int) <;> cases decide (((o.length : Nat) : Int) < ((1 : Nat) : Int)) <;> cases ((o.length : Nat) : Int) == ((4 : Nat) : Int) <;> rfl
theorem Axb (q : Rdy l) (hl : l.length ≤ 100000) : P5 k (([112, 104, 97, 115, 101] : List Int), 1, 4, l) = some (res (Em ([112, 104, 97, 115, 101] : List Int) 1 4 Fp l) fun v l => (l, v)) := by
 rw [A3m, Akq, Cq k [([123] : List Int)] (by decide) (by omega) q]
 refine Ax fun _ l1 e1 => ?_
 obtain ⟨r1, h1⟩ := Dh q e1
 rw [A9t k hk r1 (by omega)]
 refine Ax fun v l2 e2 => ?_
 have r2 := (Bs r1 (Ic (w := ([112, 104, 97, 115, 101] : List Int)) (by decide) (least := 1) (most := 4) Adp (l1.length + 1) l1 l1 [] rfl r1.e r1.e r1.g (Nat.lt_succ_self _) (fun x hx => by cases hx) (Nat.zero_le _)) e2).1
 rw [Cq k [([125] : List Int)] (by decide) (by omega) r2]
 exact Ax fun _ l3 e3 => rfl
theorem A9o (q : Rdy l) (hl : l.length ≤ 100000) : Qb k l = some (res (Eg l) fun s l => (l, s)) := by
 rw [A4c, Ale, Axb k hk q hl]
 unfold Eg
 cases Em ([112, 104, 97, 115, 101] : List Int) 1 4 Fp l <;> rfl
theorem A9s (q : Rdy l) (hl : l.length ≤ 100000) : Qh k (([114, 105, 110, 103] : List Int), 1, 2, l) = some (res (By ([114, 105, 110, 103] : List Int) 1 2 Eg (l.length + 1) l []) fun v l => (l, v)) := by
 rw [A4t, Zb]
 refine K7 (fun j l o => (Cv k).L 2 [] j (Ka (([114, 105, 110, 103] : List Int), 1, 2, l, o))) (w := ([114, 105, 110, 103] : List Int)) (by decide) 1 2 Eg Ado (fun j l o r hl ho => ?_) (l.length + 1) k l [] (by omega) (by omega) q hl (Nat.zero_le _)
 have J : (Cv k).J 5 [j] (Iy (([114, 105, 110, 103] : List Int), 1, 2, l, o)) = Ef (Al (An [([114, 105, 110, 103] : List Int)] l) (fun _ l => Eg l)) fun l x => (Cv k).L 2 [] j (Ka (([114, 105, 110, 103] : List Int), 1, 2, l, o ++ [x])) := by
  rw [A4u, Zc, Cq k [([114, 105, 110, 103] : List Int)] (by decide) (by omega) r]
  cases hwd : An [([114, 105, 110, 103] : List Int)] l with
  | inr e => rfl
  | inl a =>
   obtain ⟨r2, h2⟩ := Dh r (m := a.2) (v := a.1) hwd
   simp only [res, Option.bind_some, orP, Al, Ef]
   rw [A9o k hk r2 (by omega)]
   cases Eg a.2 with
   | inr e => rfl
   | inl b =>
    simp only [res, Option.bind_some, orP]
    rw [Hf (by rw [List.length_singleton]; omega) (by rw [List.length_singleton]; omega)]
 rw [A4v, Zd, Ht k _ r, Option.bind_some, Es k 4 r, J]
 have e1 : decide (((o.length : Nat) : Int) < (1 : Int)) = decide (((o.length : Nat) : Int) < ((1 : Nat) : Int)) := rfl
 have e2 : (((o.length : Nat) : Int) == (2 : Int)) = (((o.length : Nat) : Int) == ((2 : Nat) : Int)) := rfl
 rw [e1, e2]
 cases (hd l).2.1 == ([114, 105, 110, 103] : List Int) <;> cases decide (((o.length : Nat) : Int) < ((1 : Nat) : Int)) <;> cases ((o.length : Nat) : Int) == ((2 : Nat) : Int) <;> rfl
theorem Axa (q : Rdy l) (hl : l.length ≤ 100000) : P4 k (([114, 105, 110, 103] : List Int), 1, 2, l) = some (res (Em ([114, 105, 110, 103] : List Int) 1 2 Eg l) fun v l => (l, v)) := by
 rw [A3k, Ako, Cq k [([123] : List Int)] (by decide) (by omega) q]
 refine Ax fun _ l1 e1 => ?_
 obtain ⟨r1, h1⟩ := Dh q e1
 rw [A9s k hk r1 (by omega)]
 refine Ax fun v l2 e2 => ?_
 have r2 := (Bs r1 (Ic (w := ([114, 105, 110, 103] : List Int)) (by decide) (least := 1) (most := 2) Ado (l1.length + 1) l1 l1 [] rfl r1.e r1.e r1.g (Nat.lt_succ_self _) (fun x hx => by cases hx) (Nat.zero_le _)) e2).1
 rw [Cq k [([125] : List Int)] (by decide) (by omega) r2]
 exact Ax fun _ l3 e3 => rfl
theorem Bao (q : Rdy l) (hl : l.length ≤ 100000) : Qd k l = some (res (Fq l) fun s l => (l, s.1)) := by
 rw [A4g, Ali, Axa k hk q hl]
 unfold Fq
 cases Em ([114, 105, 110, 103] : List Int) 1 2 Eg l <;> rfl
theorem A9u (q : Rdy l) (hl : l.length ≤ 100000) : Qj k (([103, 114, 111, 117, 112] : List Int), 0, 4, l) = some (res (By ([103, 114, 111, 117, 112] : List Int) 0 4 Fq (l.length + 1) l []) fun v l => (l, v)) := by
 rw [A41, Zl]
 refine K7 (fun j l o => (Cx k).L 2 [] j (Kc (([103, 114, 111, 117, 112] : List Int), 0, 4, l, o))) (w := ([103, 114, 111, 117, 112] : List Int)) (by decide) 0 4 Fq Adq (fun j l o r hl ho => ?_) (l.length + 1) k l [] (by omega) (by omega) q hl (Nat.zero_le _)
 have J : (Cx k).J 5 [j] (I0 (([103, 114, 111, 117, 112] : List Int), 0, 4, l, o)) = Ef (Al (An [([103, 114, 111, 117, 112] : List Int)] l) (fun _ l => Fq l)) fun l x => (Cx k).L 2 [] j (Kc (([103, 114, 111, 117, 112] : List Int), 0, 4, l, o ++ [x])) := by
  rw [A42, Zm, Cq k [([103, 114, 111, 117, 112] : List Int)] (by decide) (by omega) r]
  cases hwd : An [([103, 114, 111, 117, 112] : List Int)] l with
  | inr e => rfl
  | inl a =>
   obtain ⟨r2, h2⟩ := Dh r (m := a.2) (v := a.1) hwd
   simp only [res, Option.bind_some, orP, Al, Ef]
   rw [Bao k hk r2 (by omega)]
   cases Fq a.2 with
   | inr e => rfl
   | inl b =>
    simp only [res, Option.bind_some, orP]
    rw [Hf (by rw [List.length_singleton]; omega) (by rw [List.length_singleton]; omega)]
 rw [A43, Zn, Ht k _ r, Option.bind_some, Es k 4 r, J]
 have e1 : decide (((o.length : Nat) : Int) < (0 : Int)) = decide (((o.length : Nat) : Int) < ((0 : Nat) : Int)) := rfl
 have e2 : (((o.length : Nat) : Int) == (4 : Int)) = (((o.length : Nat) : Int) == ((4 : Nat) : Int)) := rfl
 rw [e1, e2]
 cases (hd l).2.1 == ([103, 114, 111, 117, 112] : List Int) <;> cases decide (((o.length : Nat) : Int) < ((0 : Nat) : Int)) <;> cases ((o.length : Nat) : Int) == ((4 : Nat) : Int) <;> rfl
theorem Axc (q : Rdy l) (hl : l.length ≤ 100000) : P6 k (([103, 114, 111, 117, 112] : List Int), 0, 4, l) = some (res (Em ([103, 114, 111, 117, 112] : List Int) 0 4 Fq l) fun v l => (l, v)) := by
 rw [A3o, Aks, Cq k [([123] : List Int)] (by decide) (by omega) q]
 refine Ax fun _ l1 e1 => ?_
 obtain ⟨r1, h1⟩ := Dh q e1
 rw [A9u k hk r1 (by omega)]
 refine Ax fun v l2 e2 => ?_
 have r2 := (Bs r1 (Ic (w := ([103, 114, 111, 117, 112] : List Int)) (by decide) (least := 0) (most := 4) Adq (l1.length + 1) l1 l1 [] rfl r1.e r1.e r1.g (Nat.lt_succ_self _) (fun x hx => by cases hx) (Nat.zero_le _)) e2).1
 rw [Cq k [([125] : List Int)] (by decide) (by omega) r2]
 exact Ax fun _ l3 e3 => rfl
theorem Bay (q : Rdy l) (hl : l.length ≤ 100000) : Qe k l = some (res (Ga l) fun t l => (t.1, t.2.1, t.2.2.2.1.1, t.2.2.2.1.2.1, l, t.2.2.1)) := by
 rw [A4j, Alq, Ac3 k q]
 refine Ax fun n l1 e1 => ?_
 obtain ⟨r1, h1, -⟩ := Bs q (K5 rfl q.e q.e q.g) e1
 rw [Fk k [([111, 102, 102, 115, 101, 116] : List Int)] (by decide) (by omega) r1]
 refine Ax fun a l2 e2 => ?_
 obtain ⟨r2, h2, -⟩ := Bs r1 (Bx [([111, 102, 102, 115, 101, 116] : List Int)] rfl r1.e r1.e r1.g) e2
 rw [Fk k [([115, 117, 109] : List Int)] (by decide) (by omega) r2]
 refine Ax fun b l3 e3 => ?_
 obtain ⟨r3, h3, -⟩ := Bs r2 (Bx [([115, 117, 109] : List Int)] rfl r2.e r2.e r2.g) e3
 rw [Fk k [([47] : List Int)] (by decide) (by omega) r3]
 refine Ax fun c l4 e4 => ?_
 obtain ⟨r4, h4, -⟩ := Bs r3 (Bx [([47] : List Int)] rfl r3.e r3.e r3.g) e4
 rw [Axc k hk r4 (by omega)]
 exact Ax fun g l5 e5 => rfl
theorem A9v (q : Rdy l) (hl : l.length ≤ 100000) : Qk k (([110, 111, 100, 101] : List Int), 0, 12, l) = some (res (By ([110, 111, 100, 101] : List Int) 0 12 Ga (l.length + 1) l []) fun v l => (l, v)) := by
 rw [A45, Zq]
 refine K7 (fun j l o => (Cy k).L 2 [] j (Kd (([110, 111, 100, 101] : List Int), 0, 12, l, o))) (w := ([110, 111, 100, 101] : List Int)) (by decide) 0 12 Ga Asn (fun j l o r hl ho => ?_) (l.length + 1) k l [] (by omega) (by omega) q hl (Nat.zero_le _)
 have J : (Cy k).J 5 [j] (I1 (([110, 111, 100, 101] : List Int), 0, 12, l, o)) = Ef (Al (An [([110, 111, 100, 101] : List Int)] l) (fun _ l => Ga l)) fun l x => (Cy k).L 2 [] j (Kd (([110, 111, 100, 101] : List Int), 0, 12, l, o ++ [x])) := by
  rw [A46, Zr, Cq k [([110, 111, 100, 101] : List Int)] (by decide) (by omega) r]
  cases hwd : An [([110, 111, 100, 101] : List Int)] l with
  | inr e => rfl
  | inl a =>
   obtain ⟨r2, h2⟩ := Dh r (m := a.2) (v := a.1) hwd
   simp only [res, Option.bind_some, orP, Al, Ef]
   rw [Bay k hk r2 (by omega)]
   cases Ga a.2 with
   | inr e => rfl
   | inl b =>
    simp only [res, Option.bind_some, orP]
    rw [Hf (by rw [List.length_singleton]; omega) (by rw [List.length_singleton]; omega)]
 rw [A47, Zs, Ht k _ r, Option.bind_some, Es k 4 r, J]
 have e1 : decide (((o.length : Nat) : Int) < (0 : Int)) = decide (((o.length : Nat) : Int) < ((0 : Nat) : Int)) := rfl
 have e2 : (((o.length : Nat) : Int) == (12 : Int)) = (((o.length : Nat) : Int) == ((12 : Nat) : Int)) := rfl
 rw [e1, e2]
 cases (hd l).2.1 == ([110, 111, 100, 101] : List Int) <;> cases decide (((o.length : Nat) : Int) < ((0 : Nat) : Int)) <;> cases ((o.length : Nat) : Int) == ((12 : Nat) : Int) <;> rfl
theorem Awg (w : List Int) (q : Rdy l) : Mi k (w, l) = some (res (Jm w l) fun s l => (s.1, s.2, l)) := by
 rw [A4n, Alu, Fk k [w] (by simp) (by omega) q]
 refine Ax fun a l1 e1 => ?_
 have r1 := (Bs q (Bx [w] rfl q.e q.e q.g) e1).1
 rw [Fk k [] (by decide) (by omega) r1]
 refine Ax fun b l2 e2 => ?_
 have r2 := (Bs r1 (Bx [] rfl r1.e r1.e r1.g) e2).1
 rw [Cq k [([59] : List Int)] (by decide) (by omega) r2]
 exact Ax fun _ l3 e3 => rfl
def outP (p : A3) (l : List Tk) := (p.1, p.2.2.1, p.2.2.2.1, p.2.2.2.2.1, p.2.2.2.2.2.1, p.2.2.2.2.2.2.1, p.2.2.2.2.2.2.2, l, p.2.1)
theorem end_run (c : Int) (t : List TimT) (o i : Int × Int) (b : Bool) (z : Bool) (q : Rdy l) : (D9 k).J 11 [] (J7 (l, (0 : Int), (0 : Int), (0 : Int), (0 : Int), (0 : Int), false, (0 : Int), c, o.1, o.2, i.1, i.2, b, (0 : Int), t)) = some (res (endP c t o i b l) outP) := by
 rw [A4a, Yx, Fk k [([59] : List Int), ([115, 112, 101, 110, 116] : List Int)] (by decide) (by omega) q]
 refine Ax fun s l8 e8 => ?_
 have r8 := (Bs q (Bx [([59] : List Int), ([115, 112, 101, 110, 116] : List Int)] rfl q.e q.e q.g) e8).1
 rw [Cq k [([59] : List Int)] (by decide) (by omega) r8]
 refine Ax fun _ l9 e9 => ?_
 have r9 := (Dh r8 e9).1
 rw [I7 r9.e.ne, Es k 50 r9]
 cases (hd l9).1 != 0 <;> simp only [cond_false, cond_true, Option.bind_some, orP, res, outR, outP]
theorem Aw3 {X Y : Type} (F : Bool → List Tk → Option (X ⊕ (Int × Int))) (E : Bool → List Tk → RE Y) (out : Y → List Tk → X) (hF : ∀ b m, Rdy m → F b m = some (res (E b m) out)) (q : Rdy l) : ((D5 k) (([121, 101, 115] : List Int), l)).bind (fun o13 => bif o13.1 then (((D6 k) (o13.2)).bind fun o14 => F o13.1 o14.2.2.2.2)
  else (((Bu k) (([([110, 111] : List Int)] : List (List Int)), o13.2)).bind (orP (fun o15 => F o13.1 o15) (fun o16 => some (.inr (o16.1, o16.2)))))) =
  some (res (Al (Ln l) E) out) := by
 rw [Ht k _ q, Option.bind_some]
 unfold Ln
 cases (hd l).2.1 == ([121, 101, 115] : List Int)
 ·simp only [cond_false]
  rw [Cq k [([110, 111] : List Int)] (by decide) (by omega) q]
  cases hw : An [([110, 111] : List Int)] l with
  | inr e => simp only [res, Option.bind_some, orP, Al]
  | inl a =>
   have r := (Dh q (m := a.2) (v := a.1) hw).1
   simp only [res, Option.bind_some, orP, Al]
   exact hF false _ r
 ·simp only [cond_true, Al]
  rw [Lc k q, Option.bind_some]
  exact hF true _ q.tk1
theorem A84 (q : Rdy l) (hl : l.length ≤ 100000) : Qa k l = some (res (Oi l) outP) := by
 rw [A39, Yw, A8h k _ (by decide) (by omega) q]
 unfold Oi
 refine Ax fun c l1 e1 => ?_
 obtain ⟨r1, h1, -⟩ := Bs q (Bx _ rfl q.e q.e q.g) e1
 rw [Cq k [([59] : List Int)] (by decide) (by omega) r1]
 refine Ax fun _ l2 e2 => ?_
 obtain ⟨r2, h2⟩ := Dh r1 e2
 rw [A9v k hk r2 (by omega)]
 refine Ax fun t l3 e3 => ?_
 obtain ⟨r3, h3, -⟩ := Bs r2 (Ic (w := ([110, 111, 100, 101] : List Int)) (by decide) (least := 0) (most := 12) Asn (l2.length + 1) l2 l2 [] rfl r2.e r2.e r2.g (Nat.lt_succ_self _) (fun x hx => by cases hx) (Nat.zero_le _)) e3
 rw [Awg k hk ([111, 117, 116] : List Int) r3]
 refine Ax fun o l4 e4 => ?_
 have r4 := (Bs r3 (Aso ([111, 117, 116] : List Int) rfl r3.e r3.e r3.g) e4).1
 rw [Awg k hk ([105, 110] : List Int) r4]
 refine Ax fun i l5 e5 => ?_
 have r5 := (Bs r4 (Aso ([105, 110] : List Int) rfl r4.e r4.e r4.g) e5).1
 rw [Cq k [([98, 101, 115, 116] : List Int)] (by decide) (by omega) r5]
 refine Ax fun _ l6 e6 => ?_
 exact Aw3 k hk (fun b m => (D9 k).J 11 [] (J7 (m, (0 : Int), (0 : Int), (0 : Int), (0 : Int), (0 : Int), false, (0 : Int), c, o.1, o.2, i.1, i.2, b, (0 : Int), t))) (fun b m => endP c t o i b m) outP (fun b m r => end_run k hk c t o i b false r) (Dh r5 e6).1
end
end Go.Proofs.YtcmmgllmncllfaaGreatDoorV
namespace Go.Proofs.YtcmmgllmncllfaaGreatDoorV
open Go Go.RowKit
end Go.Proofs.YtcmmgllmncllfaaGreatDoorV
namespace Go.Proofs.YtcmmgllmncllfaaGreatDoorV
open Go Go.RowKit
theorem Bbb {w : List Int} {c : Int} {r : List Int} (e : w = c :: r) (hc : A5 c = true) (hl : ¬ 24 < w.length) (hall : ∀ y ∈ w, Am y = true) : Dy 1 w 0 = true := by
 obtain ⟨t1, t2⟩ := Ow (s := []) hall (fun c r h => by cases h)
 rw [List.append_nil] at t1 t2
 subst e
 have e : c ≠ 35 ∧ Bc c = false := by
  unfold A5 at hc
  unfold Bc
  simp at hc ⊢
  omega
 unfold Dy
 rw [decide_eq_true_eq]
 refine ⟨by simp, ?_, ?_⟩
 ·rw [drp, if_neg e.1, e.2]; rfl
 ·rw [tok1, hc, t1, t2, if_pos rfl, if_neg hl]
theorem tok1_g (s : List Int) : TokG ((tok1 s).2.1, (tok1 s).2.2.1, (tok1 s).2.2.2.1, 0, ()) := by
 cases s with
 | nil => exact ⟨fun h => (by cases h), fun h => (by cases h), by intro h; first | rfl | cases h⟩
 | cons x r =>
  rw [tok1]
  split
  ·rename_i hs
   split
   ·exact ⟨fun h => (by cases h), fun h => (by cases h), by intro h; first | rfl | cases h⟩
   ·rename_i hl
    refine ⟨fun _ => ?_, fun h => (by cases h), by intro h; cases h⟩
    have hx : Am x = true := by unfold Am; rw [hs]; rfl
    have e : (x :: r).takeWhile Am = x :: r.takeWhile Am := by rw [List.takeWhile_cons, hx]; rfl
    exact Bbb e hs hl fun y hy => Od hy
  ·split
   ·split
    ·exact ⟨fun h => (by cases h), fun h => (by cases h), by intro h; first | rfl | cases h⟩
    ·rename_i hl
     refine ⟨fun h => (by cases h), fun _ => ?_, by intro h; cases h⟩
     have := Awd ((x :: r).takeWhile Ak) 0 0 (by decide) (by decide) fun c hc => Od hc
     have hp : (10 : Int) ^ (0 + ((x :: r).takeWhile Ak).length) ≤ 10 ^ 18 := by
      rw [Nat.zero_add]
      exact_mod_cast Nat.pow_le_pow_right (by decide) (by omega)
     show numB (valD ((x :: r).takeWhile Ak)) = true
     unfold numB valD
     simp only [Bool.and_eq_true, decide_eq_true_eq]
     have h18 : (10 : Int) ^ 18 = 1000000000000000000 := by decide
     omega
   ·split
    ·exact ⟨fun h => (by cases h), fun h => (by cases h), by intro h; first | rfl | cases h⟩
    ·exact ⟨fun h => (by cases h), fun h => (by cases h), by intro h; first | rfl | cases h⟩
theorem lx_g (n : Nat) : ∀ (f : Nat) (s : List Int), ∀ t ∈ (lx n f s).2.2, TokG t
 | 0, s, t, h => by cases h
 | f + 1, s, t, h => by
  rw [lx] at h
  cases hd : drp false s with
  | nil =>
   rw [hd] at h
   rcases List.mem_cons.1 h with rfl | h
   ·exact ⟨fun h => (by cases h), fun h => (by cases h), by intro h; first | rfl | cases h⟩
   ·cases h
  | cons x r =>
   rw [hd] at h
   simp only [] at h
   split at h
   ·split at h
    ·rcases List.mem_cons.1 h with rfl | h
     ·exact tok1_g (x :: r)
     ·exact lx_g n f _ t h
    ·cases h
   ·cases h
theorem toks_g (b : List Int) : Gd (toks b).2.2 := by
 intro t h
 unfold toks at h
 split at h
 ·cases h
 ·exact lx_g _ _ _ t h
theorem Aq8 (n : Nat) : ∀ (f : Nat) (s : List Int), s.length < f → (lx n f s).1 = 0 → EndT (lx n f s).2.2 ∧ (lx n f s).2.2.length ≤ s.length + 1
 | 0, s, hf, _ => by omega
 | f + 1, s, hf, h => by
  have hl := Jz false s
  rw [lx] at h ⊢
  cases hd : drp false s with
  | nil => exact ⟨⟨[], _, rfl, rfl⟩, by simp⟩
  | cons x r =>
   rw [hd, List.length_cons] at hl
   rw [hd] at h
   simp only [] at h ⊢
   split at h
   ·rename_i h0
    rw [if_pos h0]
    split at h
    ·rename_i h1
     rw [if_pos h1]
     have hr := Ld h0
     obtain ⟨⟨q, t, e, ht⟩, hlen⟩ := Aq8 n f _ (by omega) h1
     exact ⟨⟨_ :: q, t, by simp only; rw [e]; rfl, ht⟩, by simp only [List.length_cons]; omega⟩
    ·rename_i h1; exact absurd h h1
   ·rename_i h0; exact absurd h h0
theorem Av4 {b : List Int} (h : (toks b).1 = 0) : EndT (toks b).2.2 ∧ (toks b).2.2.length ≤ b.length + 1 := by
 unfold toks at h ⊢
 split at h
 ·simp at h
 ·rename_i hl
  rw [if_neg hl]
  exact Aq8 _ _ b (by omega) h
theorem Ba3 {b : List Int} (h : (toks b).1 = 0) : Rdy (toks b).2.2 ∧ (toks b).2.2.length ≤ b.length + 1 := ⟨⟨(Av4 h).1, toks_g b⟩, (Av4 h).2⟩
theorem Ba1 {b : List Int} (h : 65536 < b.length) : (toks b).1 = 4 := by
 unfold toks
 rw [if_pos h]
theorem A8w (k : Nat) (hk : 200000 ≤ k) (b : List Int) (hb : b.length < k) (hm : b.length < 1000000) :
  Hk k b = some ((Dg b).1.1, (Dg b).1.2.2.1, (Dg b).1.2.2.2.1, (Dg b).1.2.2.2.2.1, (Dg b).1.2.2.2.2.2.1, (Dg b).1.2.2.2.2.2.2.1, (Dg b).1.2.2.2.2.2.2.2, (Dg b).2.1, (Dg b).2.2, (Dg b).1.2.1) := by
 rw [A2r, Ai4, Av3 k b hb hm, Option.bind_some]
 unfold Dg
 by_cases h0 : (toks b).1 = 0
 ·have hb0 : ((toks b).1 != 0) = false := by simpa using h0
  obtain ⟨r, hl⟩ := Ba3 h0
  have hlen : b.length ≤ 65536 := by
   refine Classical.byContradiction fun h => ?_
   have := Ba1 (b := b) (by omega)
   omega
  rw [hb0, cond_false, cond_false, A84 k (by omega) r (by omega)]
  cases Oi (toks b).2.2 <;> rfl
 ·have hb0 : ((toks b).1 != 0) = true := by simpa using h0
  rw [hb0]
  rfl
theorem Bes {b : List Int} (h : 65536 < b.length) : (Dg b).2.1 = 4 := by
 unfold Dg
 rw [Ba1 h]
 rfl
def Lj (w : Cr) : Prop := w.1.length ≤ 100
def SlotS (s : Av) : Prop := s.1.length ≤ 100 ∧ s.2.2.2.2.1.length ≤ 12 ∧ ∀ w ∈ s.2.2.2.2.1, Lj w
def RingS (l : List Av) : Prop := l.length ≤ 8 ∧ ∀ s ∈ l, SlotS s
def SpanS (g : Cg) : Prop := g.1.length ≤ 6 ∧ ∀ l ∈ g.1, RingS l
def TimS (t : TimT) : Prop := t.1.length ≤ 100 ∧ t.2.2.1.length ≤ 6 ∧ ∀ g ∈ t.2.2.1, SpanS g
def Hb (p : A3) : Prop := p.2.1.length ≤ 15 ∧ ∀ t ∈ p.2.1, TimS t
theorem wlkS_of {w : Cr} (h : wlkB w = true) : Lj w := by
 unfold wlkB at h
 simp only [Bool.and_eq_true] at h
 exact Nat.le_trans (Gt h.1) (by decide)
theorem Bai {s : Av} (h : Cd s = true) : SlotS s := by
 have := La h
 exact ⟨Nat.le_trans (Gt this.1) (by decide), by omega, fun w hw => wlkS_of (this.2.2.2.2.2 w hw)⟩
theorem A9n {l : List Av} (h : Cb l = true) : RingS l := by
 have := Je h
 exact ⟨by omega, fun s hs => Bai (this.2 s hs)⟩
theorem Bam {g : Cg} (h : Cn g = true) : SpanS g := by
 have := Ji h
 exact ⟨by omega, fun s hs => A9n (this.2 s hs)⟩
theorem timS_of {t : TimT} (h : timB t = true) : TimS t := by
 have := Jj h
 exact ⟨Nat.le_trans (Gt this.1) (by decide), by omega, fun s hs => Bam (this.2.2.2.2.2 s hs)⟩
theorem A83 {p : A3} (h : Cl p = true) : Hb p := by
 have := K3 h
 exact ⟨by omega, fun s hs => timS_of (this.2.2.2.2.2.2.2 s hs)⟩
section
variable (k : Nat) (hk : 100000 < k)
include hk
theorem Ac4 (s : List Int) (hs : s.length ≤ 100) : cplannamed k s = some (Bf s) := by
 rw [A3q, Aku, A9m k 1 s 0 0 (by omega) (by omega), Option.bind_some, Ass, Option.bind_some]
 unfold Bf
 cases Dy 1 s 0 <;> cases resB s <;> rfl
omit hk in
theorem A8i (n : Int) : P7 k n = some (!numB n) := by
 rw [A3s, Akx]
 unfold numB
 by_cases h : n < 0
 ·have : ¬ 0 ≤ n := by omega
  simp [h, this]
 ·have : 0 ≤ n := by omega
  by_cases h2 : n ≤ 999999999999999999
  ·have : ¬ n > 999999999999999999 := by omega
   simp [h, *]
  ·have : n > 999999999999999999 := by omega
   simp [h, *]
theorem ctf_num (l : List Int) (hl : l.length < 1000) : L0 k l = some (!(l.all numB)) :=
 Jx l numB _ (fun j i => (Ez k).L 2 [] j (M1 (l, ((l.length : Nat) : Int), i))) k (by omega) (by omega) (fun j i => A1h k j (l, ((l.length : Nat) : Int), i)) (L0 k l) (by rw [A0x, Ag8, A1g, Wz]) (fun x _ => A8i k x)
theorem Tn (l : List Int) (hl : l.length < 1000) : cplannums k l = some (l.all numB) := by
 rw [A3t, Ak0, ctf_num k hk l hl]
 simp
theorem Az6 (l : List (Cr)) (p : Cr → Bool) (hl : l.length < 1000) (hg : ∀ x ∈ l, Mg k (x.1, x.2.1, x.2.2.1) = some (!p x)) : Lz k l = some (!(l.all p)) :=
 Jx l p _ (fun j i => (Ey k).L 2 [] j (M0 (l, ((l.length : Nat) : Int), i))) k (by omega) (by omega) (fun j i => A1e k j (l, ((l.length : Nat) : Int), i)) (Lz k l) (by rw [A0v, Ag4, A1d, Wv]) hg
theorem Az3 (l : List (Av)) (p : Av → Bool) (hl : l.length < 1000) (hg : ∀ x ∈ l, Md k (x.1, x.2.1, x.2.2.1, x.2.2.2.1, x.2.2.2.2.1) = some (!p x)) : Lw k l = some (!(l.all p)) :=
 Jx l p _ (fun j i => (Ev k).L 2 [] j (Mx (l, ((l.length : Nat) : Int), i))) k (by omega) (by omega) (fun j i => A05 k j (l, ((l.length : Nat) : Int), i)) (Lw k l) (by rw [A0p, Ags, A04, Wj]) hg
theorem Az2 (l : List (List Av)) (p : List Av → Bool) (hl : l.length < 1000) (hg : ∀ x ∈ l, Mc k x = some (!p x)) : Lv k l = some (!(l.all p)) :=
 Jx l p _ (fun j i => (Eu k).L 2 [] j (Mw (l, ((l.length : Nat) : Int), i))) k (by omega) (by omega) (fun j i => A02 k j (l, ((l.length : Nat) : Int), i)) (Lv k l) (by rw [A0n, Ago, A01, Wf]) hg
theorem Az4 (l : List (Cg)) (p : Cg → Bool) (hl : l.length < 1000) (hg : ∀ x ∈ l, Me k x.1 = some (!p x)) : Lx k l = some (!(l.all p)) :=
 Jx l p _ (fun j i => (Ew k).L 2 [] j (My (l, ((l.length : Nat) : Int), i))) k (by omega) (by omega) (fun j i => A08 k j (l, ((l.length : Nat) : Int), i)) (Lx k l) (by rw [A0r, Agw, A07, Wn]) hg
theorem Az5 (l : List (TimT)) (p : TimT → Bool) (hl : l.length < 1000) (hg : ∀ x ∈ l, Mf k (x.1, x.2.1, x.2.2.1, x.2.2.2.1.1, x.2.2.2.1.2.1) = some (!p x)) : Ly k l = some (!(l.all p)) :=
 Jx l p _ (fun j i => (Ex k).L 2 [] j (Mz (l, ((l.length : Nat) : Int), i))) k (by omega) (by omega) (fun j i => A1b k j (l, ((l.length : Nat) : Int), i)) (Ly k l) (by rw [A0t, Ag0, A1a, Wr]) hg
omit hk in
theorem Lm {α : Type} {l : List α} {a b : Nat} {p : α → Bool} {c : Option Bool} (hc : c = some (!(l.all p))) :
  (bif (decide (((List.length l : Nat) : Int) < (a : Int))) then (some true) else (bif (decide (((List.length l : Nat) : Int) > (b : Int))) then (some true) else (c.bind fun o1 => some o1))) = some (!(lenB l a b && l.all p)) := by
 rw [hc]
 unfold lenB
 by_cases h1 : l.length < a
 ·rw [show decide (((List.length l : Nat) : Int) < (a : Int)) = true by simp; omega, show decide (a ≤ l.length) = false by simp; omega]
  rfl
 ·rw [show decide (((List.length l : Nat) : Int) < (a : Int)) = false by simp; omega, show decide (a ≤ l.length) = true by simp; omega]
  by_cases h2 : b < l.length
  ·rw [show decide (((List.length l : Nat) : Int) > (b : Int)) = true by simp; omega, show decide (l.length ≤ b) = false by simp; omega]
   rfl
  ·rw [show decide (((List.length l : Nat) : Int) > (b : Int)) = false by simp; omega, show decide (l.length ≤ b) = true by simp; omega]
   rfl
theorem Aw0 (w : Cr) (hw : Lj w) : Mg k (w.1, w.2.1, w.2.2.1) = some (!wlkB w) := by
 unfold Lj at hw
 rw [A28, Aj0, Ac4 k hk _ hw, Option.bind_some, Tn k hk _ (by simp), Option.bind_some]
 unfold wlkB
 simp only [List.all_cons, List.all_nil, Bool.and_true]
 cases Bf w.1 <;> rfl
theorem Aw2 (l : List Cr) (hl : l.length < 1000) (h : ∀ w ∈ l, Lj w) : P3 k (l, 0, 8) = some (!(lenB l 0 8 && l.all wlkB)) := by
 rw [A3i, Akk]
 exact Lm (a := 0) (b := 8) (Az6 k hk l wlkB hl fun x hx => Aw0 k hk x (h x hx))
theorem Awx (s : Av) (hs : SlotS s) : Md k (s.1, s.2.1, s.2.2.1, s.2.2.2.1, s.2.2.2.2.1) = some (!Cd s) := by
 obtain ⟨h1, h2, h3⟩ := hs
 rw [A22, Ajo, Ac4 k hk _ h1, Option.bind_some, Tn k hk _ (by simp), Option.bind_some, Aw2 k hk _ (by omega) h3]
 unfold Cd
 simp only [List.all_cons, List.all_nil, Bool.and_true]
 cases Bf s.1 <;> cases numB s.2.1 <;> cases numB s.2.2.1 <;> cases numB s.2.2.2.1 <;> rfl
theorem Aww (l : List Av) (hl : RingS l) : Mc k l = some (!Cb l) := by
 rw [A20, Ajk, A3c, Aj8]
 have := Lm (a := 1) (b := 4) (Az3 k hk l Cd (by have := hl.1; omega) fun x hx => Awx k hk x (hl.2 x hx))
 rw [show ((1 : Nat) : Int) = 1 from rfl, show ((4 : Nat) : Int) = 4 from rfl] at this
 rw [this]
 rfl
theorem Awy (g : Cg) (hg : SpanS g) : Me k g.1 = some (!Cn g) := by
 rw [A24, Ajs, A3a, Aj4]
 have := Lm (a := 1) (b := 2) (Az2 k hk g.1 Cb (by have := hg.1; omega) fun x hx => Aww k hk x (hg.2 x hx))
 rw [show ((1 : Nat) : Int) = 1 from rfl, show ((2 : Nat) : Int) = 2 from rfl] at this
 rw [this]
 rfl
theorem Awz (t : TimT) (ht : TimS t) : Mf k (t.1, t.2.1, t.2.2.1, t.2.2.2.1.1, t.2.2.2.1.2.1) = some (!timB t) := by
 obtain ⟨h1, h2, h3⟩ := ht
 rw [A26, Ajw, Ac4 k hk _ h1, Option.bind_some, Tn k hk _ (by simp), Option.bind_some, A3e, Akc]
 have := Lm (a := 0) (b := 4) (Az4 k hk t.2.2.1 Cn (by omega) fun x hx => Awy k hk x (h3 x hx))
 rw [show ((0 : Nat) : Int) = 0 from rfl, show ((4 : Nat) : Int) = 4 from rfl] at this
 rw [this]
 unfold timB
 simp only [List.all_cons, List.all_nil, Bool.and_true]
 cases Bf t.1 <;> cases numB t.2.1 <;> cases numB t.2.2.2.1.1 <;> cases numB t.2.2.2.1.2.1 <;> rfl
theorem T9 (p : A3) (hp : Hb p) : Hm k p = some (Cl p) := by
 obtain ⟨a0, a1, a2, a3, a4, a5, a6, a7⟩ := p
 obtain ⟨h1, h2⟩ := hp
 rw [A2y, Ajg, Tn k hk _ (by simp), Option.bind_some, A3g, Akg]
 have := Lm (a := 0) (b := 12) (Az5 k hk a1 timB (by simp only at h1; omega) fun x hx => Awz k hk x (h2 x hx))
 rw [show ((0 : Nat) : Int) = 0 from rfl, show ((12 : Nat) : Int) = 12 from rfl] at this
 rw [this]
 unfold Cl
 simp only [List.all_cons, List.all_nil, Bool.and_true]
 cases numB a0 <;> cases numB a2 <;> cases numB a3 <;> cases numB a4 <;> cases numB a5 <;> cases numB a7 <;> simp
end
theorem gt_n {α : Type} (l : List α) (n : Nat) : decide (((l.length : Nat) : Int) > ((n : Nat) : Int)) = !(decide (l.length ≤ n)) := by
 by_cases h : l.length ≤ n
 ·rw [decide_eq_true h]; simp; omega
 ·rw [decide_eq_false h]; simp; omega
theorem Hr {β : Type} {a b : Bool} {y e : β} : (if a then (if b then y else e) else e) = if a && b then y else e := by cases a <;> cases b <;> rfl
section
variable (k : Nat) (hk : 100000 < k)
include hk
end
def wlkF (w : Cr) : Bool := decide (w.1.length ≤ 100)
def Oo (s : Av) : Bool := decide (s.1.length ≤ 100) && (decide (s.2.2.2.2.1.length ≤ 12) && s.2.2.2.2.1.all wlkF)
def Ua (l : List Av) : Bool := decide (l.length ≤ 8) && l.all Oo
def Uk (g : Cg) : Bool := decide (g.1.length ≤ 6) && g.1.all Ua
def timF (t : TimT) : Bool := decide (t.1.length ≤ 100) && (decide (t.2.2.1.length ≤ 6) && t.2.2.1.all Uk)
def Oh (p : A3) : Bool := decide (p.2.1.length ≤ 15) && p.2.1.all timF
theorem planF_S {p : A3} (h : Oh p = true) : Hb p := by
 unfold Oh at h
 simp only [Bool.and_eq_true, decide_eq_true_eq, List.all_eq_true] at h
 refine ⟨h.1, fun t ht => ?_⟩
 have h := h.2 t ht
 unfold timF at h
 simp only [Bool.and_eq_true, decide_eq_true_eq, List.all_eq_true] at h
 refine ⟨h.1, h.2.1, fun g hg => ?_⟩
 have h := h.2.2 g hg
 unfold Uk at h
 simp only [Bool.and_eq_true, decide_eq_true_eq, List.all_eq_true] at h
 refine ⟨h.1, fun l hl => ?_⟩
 have h := h.2 l hl
 unfold Ua at h
 simp only [Bool.and_eq_true, decide_eq_true_eq, List.all_eq_true] at h
 refine ⟨h.1, fun s hs => ?_⟩
 have h := h.2 s hs
 unfold Oo at h
 simp only [Bool.and_eq_true, decide_eq_true_eq, List.all_eq_true] at h
 refine ⟨h.1, h.2.1, fun w hw => ?_⟩
 have h := h.2.2 w hw
 unfold wlkF at h
 exact show w.1.length ≤ 100 from of_decide_eq_true h
theorem cif {β : Type} {b : Bool} {y e : β} : (bif !b then e else y) = if b then y else e := by cases b <;> rfl
theorem A0y (k : Nat) (hk : 100000 < k) (p : A3) : Q7 k p = some (Oh p) := by
 obtain ⟨a0, a1, a2, a3, a4, a5, a6, a7⟩ := p
 rw [A7c, Ach, show decide (((a1.length : Nat) : Int) > (15 : Int)) = !(decide (a1.length ≤ 15)) from gt_n _ 15]
 unfold Oh
 simp only
 by_cases h15 : a1.length ≤ 15
 rotate_left
 ·rw [decide_eq_false h15]; rfl
 rw [decide_eq_true h15, Bool.not_true, cond_false, Bool.true_and]
 have L := Ft a1 timF (fun j i => (Ay k).L 4 [] j (Kq (i, a0, a1, a2, a3, a4, a5, a6, a7))) (some false) (some true)
  (fun j i x hx => by
   rw [Apw, S8, A9 hx, At hx, show decide (((x.1.length : Nat) : Int) > (100 : Int)) = !(decide (x.1.length ≤ 100)) from gt_n _ 100, show decide (((x.2.2.1.length : Nat) : Int) > (6 : Int)) = !(decide (x.2.2.1.length ≤ 6)) from gt_n _ 6, cif, cif]
   by_cases h6 : x.2.2.1.length ≤ 6
   rotate_left
   ·unfold timF; rw [decide_eq_false h6]; simp
   have LI := Ft x.2.2.1 Uk (fun j' i' => (Ay k).L 10 [j] j' (Kn ((i : Int), i', a0, a1, a2, a3, a4, a5, a6, a7, x.1, x.2.1, x.2.2.1, x.2.2.2.1.1, x.2.2.2.1.2.1))) (some false) ((Ay k).L 4 [] j (Kq (((i + 1 : Nat) : Int), a0, a1, a2, a3, a4, a5, a6, a7)))
    (fun j' i' g hg => by
     rw [Aps, S4, A9 hg, At hg, show decide (((g.1.length : Nat) : Int) > (6 : Int)) = !(decide (g.1.length ≤ 6)) from gt_n _ 6, cif]
     by_cases hg6 : g.1.length ≤ 6
     rotate_left
     ·unfold Uk; rw [decide_eq_false hg6]; simp
     have LR := Ft g.1 Ua (fun j'' i'' => (Ay k).L 15 [j, j'] j'' (Ko ((i : Int), (i' : Int), i'', a0, a1, a2, a3, a4, a5, a6, a7, x.1, x.2.1, x.2.2.1, x.2.2.2.1.1, x.2.2.2.1.2.1))) (some false) ((Ay k).L 10 [j] j' (Kn ((i : Int), ((i' + 1 : Nat) : Int), a0, a1, a2, a3, a4, a5, a6, a7, x.1, x.2.1, x.2.2.1, x.2.2.2.1.1, x.2.2.2.1.2.1)))
      (fun j2 i2 l hl => by
       rw [Apt, S5, At hg, A9 hl, At hg, At hl, show decide (((l.length : Nat) : Int) > (8 : Int)) = !(decide (l.length ≤ 8)) from gt_n _ 8, cif]
       by_cases hl8 : l.length ≤ 8
       rotate_left
       ·unfold Ua; rw [decide_eq_false hl8]; simp
       have LS := Ft l Oo (fun j3 i3 => (Ay k).L 21 [j, j', j2] j3 (Kp ((i : Int), (i' : Int), (i2 : Int), l, i3, a0, a1, a2, a3, a4, a5, a6, a7, x.1, x.2.1, x.2.2.1, x.2.2.2.1.1, x.2.2.2.1.2.1))) (some false) ((Ay k).L 15 [j, j'] j2 (Ko ((i : Int), (i' : Int), ((i2 + 1 : Nat) : Int), a0, a1, a2, a3, a4, a5, a6, a7, x.1, x.2.1, x.2.2.1, x.2.2.2.1.1, x.2.2.2.1.2.1)))
        (fun j3 i3 s hs => by
         rw [Apu, S6, A9 hs, At hs, At hs, show decide (((s.1.length : Nat) : Int) > (100 : Int)) = !(decide (s.1.length ≤ 100)) from gt_n _ 100, show decide (((s.2.2.2.2.1.length : Nat) : Int) > (12 : Int)) = !(decide (s.2.2.2.2.1.length ≤ 12)) from gt_n _ 12, cif, cif]
         by_cases hs12 : s.2.2.2.2.1.length ≤ 12
         rotate_left
         ·unfold Oo; rw [decide_eq_false hs12]; simp
         have LW := Ft s.2.2.2.2.1 wlkF (fun j4 i4 => (Ay k).L 26 [j, j', j2, j3] j4 (N4 ((i : Int), (i' : Int), (i2 : Int), l, (i3 : Int), i4, a0, a1, a2, a3, a4, a5, a6, a7, x.1, x.2.1, x.2.2.1, x.2.2.2.1.1, x.2.2.2.1.2.1))) (some false) ((Ay k).L 21 [j, j', j2] j3 (Kp ((i : Int), (i' : Int), (i2 : Int), l, ((i3 + 1 : Nat) : Int), a0, a1, a2, a3, a4, a5, a6, a7, x.1, x.2.1, x.2.2.1, x.2.2.2.1.1, x.2.2.2.1.2.1)))
          (fun j4 i4 w hw => by
           rw [Apv, S7, At hs, A9 hw, At hs, At hw, show decide (((w.1.length : Nat) : Int) > (100 : Int)) = !(decide (w.1.length ≤ 100)) from gt_n _ 100, cif, Bi hw (by omega)]
           rfl)
          (fun j4 => by rw [Apv, S7, At hs, Be, Bi hs (by omega)]) k (by omega)
         rw [LW, Hr, Hr]
         unfold Oo
         rw [Bool.and_assoc])
        (fun j3 => by rw [Apu, S6, Be, Bi hl (by omega)]) k (by omega)
       rw [LS, Hr]
       rfl)
      (fun j2 => by rw [Apt, S5, At hg, Be, Bi hg (by omega)]) k (by omega)
     rw [LR, Hr]
     rfl)
    (fun j' => by rw [Aps, S4, Be, Bi hx (by omega)]) k (by omega)
   rw [LI, Hr, Hr]
   unfold timF
   rw [Bool.and_assoc])
  (fun j => by rw [Apw, S8, Be]) k (by omega)
 rw [L]
 cases a1.all timF <;> rfl
theorem Awe {w : Cr} (h : wlkB w = true) : (Ei w).flatten.length ≤ 80 := by
 obtain ⟨q0, q1, q2⟩ := Uo h
 have := Gt q0
 have := A6 w.2.1
 have := A6 w.2.2.1
 unfold Ei
 simp only [List.flatten_cons, List.flatten_nil, List.length_append, List.length_cons, List.length_nil]
 omega
theorem Avs {s : Av} (h : Cd s = true) : (Ce s).length ≤ 800 := by
 obtain ⟨q0, q1, q2, q3, q4, q5⟩ := La h
 have := Gt q0
 have := A6 s.2.1
 have := A6 s.2.2.1
 have := A6 s.2.2.2.1
 have hw := Gn (fun w => (Ei w).flatten) 80 s.2.2.2.2.1 fun w hw => Awe (q5 w hw)
 unfold Ce Ot
 simp only [List.flatten_cons, List.flatten_nil, List.length_append, List.length_cons, List.length_nil]
 omega
theorem Asu {l : List Av} (h : Cb l = true) : (Cc l).length ≤ 3300 := by
 have hb := Je h
 have hw := Gn Ce 800 l fun s hs => Avs (hb.2 s hs)
 unfold Cc
 simp only [List.length_append, List.length_cons, List.length_nil]
 omega
theorem Ban {g : Cg} (h : Cn g = true) : (Cf g).length ≤ 6700 := by
 have hb := Ji h
 have hw := Gn Cc 3300 g.1 fun s hs => Asu (hb.2 s hs)
 unfold Cf
 simp only [List.length_append, List.length_cons, List.length_nil]
 omega
theorem tim_len {t : TimT} (h : timB t = true) : (timT t).length ≤ 27000 := by
 obtain ⟨q0, q1, q2, q3, q4, q5⟩ := Jj h
 have := Gt q0
 have := A6 t.2.1
 have := A6 t.2.2.2.1.1
 have := A6 t.2.2.2.1.2.1
 have hw := Gn Cf 6700 t.2.2.1 fun s hs => Ban (q5 s hs)
 unfold timT timX
 simp only [List.flatten_cons, List.flatten_nil, List.length_append, List.length_cons, List.length_nil]
 omega
theorem yes_len (b : Bool) : (yesT b).length ≤ 3 := by cases b <;> decide
theorem Bav (p : A3) : (Ig p).flatten.length ≤ 320 := by
 have h := Gn id 20 (Ig p) (by
  intro x hx
  unfold Ig at hx
  simp only [List.mem_cons, List.not_mem_nil, or_false] at hx
  rcases hx with rfl | rfl | rfl | rfl | rfl | rfl | rfl | rfl | rfl | rfl | rfl | rfl | rfl | rfl | rfl | rfl
  all_goals first | exact Nat.le_trans (A6 _) (by decide) | exact Nat.le_trans (yes_len _) (by decide) | decide | (show List.length _ ≤ 20; decide))
 rw [List.flatMap_id] at h
 exact h
theorem Asd {p : A3} (h : Cl p = true) : (Bh p).length ≤ 330000 := by
 obtain ⟨q0, q1, q2, q3, q4, q5, q6, q7⟩ := K3 h
 have := A6 p.1
 have := Bav p
 have hw := Gn timT 27000 p.2.1 fun s hs => tim_len (q7 s hs)
 unfold Bh
 simp only [List.flatten_cons, List.flatten_nil, List.length_append, List.length_cons, List.length_nil]
 omega
def pw (s : List Int) : AnyV := .mk 9 false [.str s]
def pn (n : Int) : AnyV := .mk 2 false [.int .i64 n]
def pf (a b : Int) : AnyV := .mk 43 true [.int .i64 a, .int .i64 b]
def pcT : AnyV → List Int
 | .mk _ _ [.str s] => s
 | .mk _ _ [.int _ n] => numT n
 | .mk _ _ [.int _ a, .int _ b] => numT a ++ ([47] : List Int) ++ numT b
 | _ => []
def Pc (x : AnyV) : Prop := (∃ t, x = pw t) ∨ (∃ n, inM n ∧ x = pn n) ∨ ∃ a b, inM a ∧ inM b ∧ x = pf a b
theorem pc_w (t : List Int) : Pc (pw t) := .inl ⟨t, rfl⟩
theorem pc_n {n : Int} (h : inM n) : Pc (pn n) := .inr (.inl ⟨n, h, rfl⟩)
theorem pc_f {a b : Int} (h : inM a) (g : inM b) : Pc (pf a b) := .inr (.inr ⟨a, b, h, g, rfl⟩)
def ind : Nat → List Int
 | 0 => []
 | d + 1 => 32 :: 32 :: ind d
def C8 : List AnyV → List Int
 | [] => []
 | x :: r => pcT x ++ r.flatMap fun y => 32 :: pcT y
def Au (d : Nat) (l : List AnyV) (e : List Int) : List Int := ind d ++ (C8 l ++ (e ++ ([10] : List Int)))
theorem Asr (k d : Nat) (hd : d ≤ 3) : Q5 k (([32, 32] : List Int), (d : Int)) = some (ind d) := by
 rcases d with _ | _ | _ | _ | d
 ·rfl
 ·rfl
 ·rfl
 ·rfl
 ·omega
theorem Ge (k : Nat) (a buf : List Int) (b : Bool) (d : Int) (h : buf.length + a.length ≤ 1000000) : Du k (a, b, d, buf) = some ((a.length : Int), false, d, buf ++ a) := by
 rw [Apl, Acb]
 show (app 1 buf a fun o2 => some (((List.length a : Nat) : Int), false, d, o2)) = _
 rw [Hf (by omega) (by omega)]
theorem Awf (k : Nat) (a : Int) (buf : List Int) (b : Bool) (d : Int) (h : buf.length + 1 ≤ 1000000) : Mp k (a, b, d, buf) = some (false, d, buf ++ [a]) := by
 rw [A64, Aph]
 show (app 1 buf [a] fun o2 => some (false, d, o2)) = _
 rw [Hf (by simp; omega) (by simp; omega)]
theorem J6 (k : Nat) {n : Int} (h : inM n) : Gk k (n, 10) = some (numT n) := by
 have hl : (Lib.itoa n).length = (numT n).length := by
  rw [← Aqs h]; unfold bs; exact (List.length_map _).symm
 have := A6 n
 unfold Gk fmtI
 have hm : maxLen = 9223372036854775807 := rfl
 rw [if_pos ⟨rfl, by simp only; omega⟩, Aqs h]
theorem Ar7 (k j : Nat) (e : List Int) (x : AnyV) (hx : Pc x) (l : List AnyV) (n i d : Int) (buf : List Int) (hb : buf.length + (pcT x).length ≤ 1000000) :
  (B5 k).J 6 [j] (Nl (e, x, l, n, i, false, d, buf)) = (B5 k).L 2 [] j (E7 (e, l, n, IntKind.wrap .i64 (i + 1), false, d, buf ++ pcT x)) := by
 rw [A5k, Z2]
 rcases hx with ⟨t, rfl⟩ | ⟨m, hm, rfl⟩ | ⟨a, b, ha, hb', rfl⟩
 ·change buf.length + t.length ≤ 1000000 at hb
  rw [show Bm 9 (pw t) = true from rfl, show Da false [.str] (pw t) = true from rfl, show anyS 0 (pw t) = t from rfl, cond_true, cond_true, Ge k _ _ _ _ hb, Option.bind_some]
  rfl
 ·change buf.length + (numT m).length ≤ 1000000 at hb
  rw [show Bm 9 (pn m) = false from rfl, show Bm 2 (pn m) = true from rfl, show Da false [.int .i64] (pn m) = true from rfl, show anyI 0 (pn m) = m from rfl, cond_false, cond_true, cond_true, J6 k hm, Option.bind_some, Ge k _ _ _ _ hb, Option.bind_some]
  rfl
 ·change buf.length + (numT a ++ ([47] : List Int) ++ numT b).length ≤ 1000000 at hb
  have h1 := A6 a
  have h2 := A6 b
  have e1 : List.length ([47] : List Int) = 1 := rfl
  rw [show Bm 9 (pf a b) = false from rfl, show Bm 2 (pf a b) = false from rfl, show Bm 43 (pf a b) = true from rfl, show Da true [.int .i64, .int .i64] (pf a b) = true from rfl, show anyI 0 (pf a b) = a from rfl, show anyI 1 (pf a b) = b from rfl, cond_false, cond_false, cond_true, cond_true, J6 k ha, Option.bind_some, As (by omega), J6 k hb', Option.bind_some, As (by rw [List.length_append]; omega), Ge k _ _ _ _ hb, Option.bind_some]
  rfl
theorem core1 (k : Nat) (e : List Int) (l : List AnyV) (d : Int) (buf : List Int) (hl : ∀ x ∈ l, Pc x) (hn : l.length ≤ 1000) (hk : 1000 < k) (h : buf.length + (C8 l ++ (e ++ ([10] : List Int))).length ≤ 1000000) :
  (B5 k).L 2 [] k (E7 (e, l, ((l.length : Nat) : Int), 0, false, d, buf)) = some (false, d, buf ++ (C8 l ++ (e ++ ([10] : List Int)))) := by
 have e1 : List.length ([10] : List Int) = 1 := rfl
 rw [List.length_append, List.length_append] at h
 obtain ⟨J, rfl⟩ : ∃ j, k = j + 1 := ⟨k - 1, by omega⟩
 have fin : ∀ (j : Nat) (b : List Int), b.length + (e.length + 1) ≤ 1000000 → (B5 (J + 1)).L 2 [] (j + 1) (E7 (e, l, ((l.length : Nat) : Int), ((l.length : Nat) : Int), false, d, b)) = some (false, d, b ++ (e ++ ([10] : List Int))) := by
  intro j b hb
  rw [Z0, Nm, Be, As (by omega), Ge _ _ _ _ _ (by rw [List.length_append]; omega), Option.bind_some]
 cases l with
 | nil =>
  rw [show ((0 : Int)) = (((([] : List AnyV).length : Nat)) : Int) from rfl, fin J buf (by omega)]
  rfl
 | cons x r =>
  rw [C8, List.length_append] at h
  have hx := Ar7 (J + 1) J e x (hl x (by simp)) (x :: r) (((x :: r).length : Nat) : Int) 0 d buf (by omega)
  have hr0 : (x :: r)[0]? = some x := rfl
  rw [show (0 : Int) = ((0 : Nat) : Int) from rfl] at hx ⊢
  rw [Z0, Nm, A9 hr0, At hr0, show decide (((0 : Nat) : Int) > (0 : Int)) = false from rfl, cond_false, hx]
  have LL := D0 (1000000 - (e.length + 1)) r (fun y => 32 :: pcT y) (fun j' i b => (B5 (J + 1)).L 2 [] j' (E7 (e, x :: r, (((x :: r).length : Nat) : Int), i + 1, false, d, b))) (fun b => some (false, d, b ++ (e ++ ([10] : List Int))))
   (fun j' i y b hy hb => by
    have hy' : (x :: r)[i + 1]? = some y := by simpa using hy
    simp only [List.length_cons] at hb
    rw [show ((i : Nat) : Int) + 1 = ((i + 1 : Nat) : Int) from rfl, Z0, Nm, A9 hy', At hy', show decide (((i + 1 : Nat) : Int) > (0 : Int)) = true from decide_eq_true (by omega), cond_true, Awf _ _ _ _ _ (by omega), Option.bind_some,
     Ar7 _ _ e y (hl y (List.mem_cons_of_mem _ (B3 hy))) _ _ _ _ _ (by simp only [List.length_append, List.length_cons, List.length_nil]; omega), Bi hy' (by omega)]
    simp only [List.append_assoc, List.cons_append, List.nil_append]
    rfl)
   (fun j' b hb => by
    have := fin j' b (by omega)
    rw [List.length_cons] at this ⊢
    exact this)
   J (buf ++ pcT x) (by simp at hn; omega) (by rw [List.length_append]; omega)
  rw [show IntKind.wrap .i64 (((0 : Nat) : Int) + 1) = (0 : Int) + 1 from rfl, LL, C8]
  simp only [List.append_assoc]
theorem Ar6 (k j : Nat) (e : List Int) (x : AnyV) (hx : Pc x) (l : List AnyV) (n i d : Int) (buf : List Int) (hb : buf.length + (pcT x).length ≤ 1000000) :
  (B4 k).J 6 [j] (Nn (e, x, l, n, i, false, d, buf)) = (B4 k).L 2 [] j (E8 (e, l, n, IntKind.wrap .i64 (i + 1), false, d, buf ++ pcT x)) := by
 rw [A5n, Z9]
 rcases hx with ⟨t, rfl⟩ | ⟨m, hm, rfl⟩ | ⟨a, b, ha, hb', rfl⟩
 ·change buf.length + t.length ≤ 1000000 at hb
  rw [show Bm 9 (pw t) = true from rfl, show Da false [.str] (pw t) = true from rfl, show anyS 0 (pw t) = t from rfl, cond_true, cond_true, Ge k _ _ _ _ hb, Option.bind_some]
  rfl
 ·change buf.length + (numT m).length ≤ 1000000 at hb
  rw [show Bm 9 (pn m) = false from rfl, show Bm 2 (pn m) = true from rfl, show Da false [.int .i64] (pn m) = true from rfl, show anyI 0 (pn m) = m from rfl, cond_false, cond_true, cond_true, J6 k hm, Option.bind_some, Ge k _ _ _ _ hb, Option.bind_some]
  rfl
 ·change buf.length + (numT a ++ ([47] : List Int) ++ numT b).length ≤ 1000000 at hb
  have h1 := A6 a
  have h2 := A6 b
  have e1 : List.length ([47] : List Int) = 1 := rfl
  rw [show Bm 9 (pf a b) = false from rfl, show Bm 2 (pf a b) = false from rfl, show Bm 43 (pf a b) = true from rfl, show Da true [.int .i64, .int .i64] (pf a b) = true from rfl, show anyI 0 (pf a b) = a from rfl, show anyI 1 (pf a b) = b from rfl, cond_false, cond_false, cond_true, cond_true, J6 k ha, Option.bind_some, As (by omega), J6 k hb', Option.bind_some, As (by rw [List.length_append]; omega), Ge k _ _ _ _ hb, Option.bind_some]
  rfl
theorem core0 (k : Nat) (e : List Int) (l : List AnyV) (d : Int) (buf : List Int) (hl : ∀ x ∈ l, Pc x) (hn : l.length ≤ 1000) (hk : 1000 < k) (h : buf.length + (C8 l ++ (e ++ ([10] : List Int))).length ≤ 1000000) :
  (B4 k).L 2 [] k (E8 (e, l, ((l.length : Nat) : Int), 0, false, d, buf)) = some (false, d, buf ++ (C8 l ++ (e ++ ([10] : List Int)))) := by
 have e1 : List.length ([10] : List Int) = 1 := rfl
 rw [List.length_append, List.length_append] at h
 obtain ⟨J, rfl⟩ : ∃ j, k = j + 1 := ⟨k - 1, by omega⟩
 have fin : ∀ (j : Nat) (b : List Int), b.length + (e.length + 1) ≤ 1000000 → (B4 (J + 1)).L 2 [] (j + 1) (E8 (e, l, ((l.length : Nat) : Int), ((l.length : Nat) : Int), false, d, b)) = some (false, d, b ++ (e ++ ([10] : List Int))) := by
  intro j b hb
  rw [Z7, No, Be, As (by omega), Ge _ _ _ _ _ (by rw [List.length_append]; omega), Option.bind_some]
 cases l with
 | nil =>
  rw [show ((0 : Int)) = (((([] : List AnyV).length : Nat)) : Int) from rfl, fin J buf (by omega)]
  rfl
 | cons x r =>
  rw [C8, List.length_append] at h
  have hx := Ar6 (J + 1) J e x (hl x (by simp)) (x :: r) (((x :: r).length : Nat) : Int) 0 d buf (by omega)
  have hr0 : (x :: r)[0]? = some x := rfl
  rw [show (0 : Int) = ((0 : Nat) : Int) from rfl] at hx ⊢
  rw [Z7, No, A9 hr0, At hr0, show decide (((0 : Nat) : Int) > (0 : Int)) = false from rfl, cond_false, hx]
  have LL := D0 (1000000 - (e.length + 1)) r (fun y => 32 :: pcT y) (fun j' i b => (B4 (J + 1)).L 2 [] j' (E8 (e, x :: r, (((x :: r).length : Nat) : Int), i + 1, false, d, b))) (fun b => some (false, d, b ++ (e ++ ([10] : List Int))))
   (fun j' i y b hy hb => by
    have hy' : (x :: r)[i + 1]? = some y := by simpa using hy
    simp only [List.length_cons] at hb
    rw [show ((i : Nat) : Int) + 1 = ((i + 1 : Nat) : Int) from rfl, Z7, No, A9 hy', At hy', show decide (((i + 1 : Nat) : Int) > (0 : Int)) = true from decide_eq_true (by omega), cond_true, Awf _ _ _ _ _ (by omega), Option.bind_some,
     Ar6 _ _ e y (hl y (List.mem_cons_of_mem _ (B3 hy))) _ _ _ _ _ (by simp only [List.length_append, List.length_cons, List.length_nil]; omega), Bi hy' (by omega)]
    simp only [List.append_assoc, List.cons_append, List.nil_append]
    rfl)
   (fun j' b hb => by
    have := fin j' b (by omega)
    rw [List.length_cons] at this ⊢
    exact this)
   J (buf ++ pcT x) (by simp at hn; omega) (by rw [List.length_append]; omega)
  rw [show IntKind.wrap .i64 (((0 : Nat) : Int) + 1) = (0 : Int) + 1 from rfl, LL, C8]
  simp only [List.append_assoc]
theorem Fj (k : Nat) (hk : 1000 < k) (e : List Int) (l : List AnyV) (b : Bool) (d : Nat) (buf : List Int) (hd : d ≤ 3) (hl : ∀ x ∈ l, Pc x) (hn : l.length ≤ 1000) (h : buf.length + (Au d l e).length ≤ 1000000) :
  Cs k (e, l, b, (d : Int), buf) = some (false, (d : Int), buf ++ Au d l e) := by
 unfold Au at h
 rw [List.length_append] at h
 rw [A5j, Z1, Asr k d hd, Option.bind_some, Ge k _ _ _ _ (by omega), Option.bind_some]
 simp only
 rw [core1 k e l d _ hl hn hk (by rw [show (buf ++ ind d).length = _ from List.length_append]; omega)]
 unfold Au
 simp only [List.append_assoc]
theorem A8b (k : Nat) (hk : 1000 < k) (e : List Int) (l : List AnyV) (d : Nat) (hd : d ≤ 3) (hl : ∀ x ∈ l, Pc x) (hn : l.length ≤ 1000) (h : (Au d l e).length ≤ 1000000) :
  Mj k (e, l, true, (d : Int)) = some (false, (d : Int), Au d l e) := by
 unfold Au at h
 rw [List.length_append] at h
 have hw1 : Q3 k (ind d, true, (d : Int)) = Du k (ind d, true, (d : Int), []) := by
  rw [A67, App, Apl, Acb]
 rw [A5m, Z8, Asr k d hd, Option.bind_some, hw1, Ge k _ _ _ _ (by simp; omega), Option.bind_some]
 simp only [List.nil_append]
 rw [core0 k e l d _ hl hn hk (by omega)]
 rfl
section
variable (k : Nat) (hk : 100000 < k)
include hk
def Ii (w : Cr) : List AnyV := [pw ([119, 97, 108, 107] : List Int), pw w.1, pn w.2.1, pw ([102, 108, 97, 115, 104] : List Int), pn w.2.2.1]
def Jg (s : Av) : List AnyV := [pw ([112, 104, 97, 115, 101] : List Int), pw s.1, pw ([115, 112, 108, 105, 116] : List Int), pn s.2.1, pw ([121, 101, 108, 108, 111, 119] : List Int), pn s.2.2.1, pw ([114, 101, 100] : List Int), pn s.2.2.2.1]
omit hk in
theorem Avt (s : Av) : Au 3 (Jg s ++ s.2.2.2.2.1.flatMap Ii) ([59] : List Int) = Ce s := by
 unfold Au Jg Ce Ot
 rw [List.cons_append, C8]
 simp only [List.flatMap_append, List.flatMap_assoc, List.flatMap_cons, List.flatMap_nil, List.flatten_cons, List.flatten_nil, List.append_nil, List.append_assoc, List.cons_append, List.nil_append, Ii, Ei,
  show ∀ t, pcT (pw t) = t from fun _ => rfl, show ∀ n, pcT (pn n) = numT n from fun _ => rfl]
 rfl
theorem Bak (s : Av) (hb : Cd s = true) (buf : List Int) (b : Bool) (h : buf.length + (Ce s).length ≤ 1000000) :
  Qp k (s.1, s.2.1, s.2.2.1, s.2.2.2.1, s.2.2.2.2.1, b, 3, buf) = some (false, 3, buf ++ Ce s) := by
 obtain ⟨q0, q1, q2, q3, q4, q5⟩ := La hb
 have hw := Gn Ii 5 s.2.2.2.2.1 fun w _ => Nat.le_refl _
 have L := D0 1000 s.2.2.2.2.1 Ii (fun j i l => (E9 k).L 3 [] j (Np (s.2.2.2.2.1, ((s.2.2.2.2.1.length : Nat) : Int), i, b, 3, buf, l)))
  (fun l => ((Cs k) ((([59] : List Int) : List Int), l, b, 3, buf)).bind fun o3 => some (o3.1, o3.2.1, o3.2.2))
  (fun j i w l hw hl => by
   have e5 : (Ii w).length = 5 := rfl
   rw [Amp, Sf, A9 hw, At hw]
   refine (Hf (b := Ii w) (by omega) (by omega)).trans ?_
   rw [Bi hw (by omega)])
  (fun j l hl => by rw [Amp, Sf, Be]) k (Jg s) (by omega) (by
   have e8 : (Jg s).length = 8 := rfl
   omega)
 rw [A5p, Aad]
 refine L.trans ?_
 have LL := Fj k (by omega) ([59] : List Int) (Jg s ++ s.2.2.2.2.1.flatMap Ii) b 3 buf (by omega) (by
   intro x hx
   rcases List.mem_append.1 hx with hx | hx
   ·unfold Jg at hx
    simp only [List.mem_cons, List.not_mem_nil, or_false] at hx
    rcases hx with rfl | rfl | rfl | rfl | rfl | rfl | rfl | rfl
    ·exact pc_w _
    ·exact pc_w _
    ·exact pc_w _
    ·exact pc_n q1
    ·exact pc_w _
    ·exact pc_n q2
    ·exact pc_w _
    ·exact pc_n q3
   ·obtain ⟨w, hw, hx⟩ := List.mem_flatMap.1 hx
    obtain ⟨g0, g1, g2⟩ := Uo (q5 w hw)
    unfold Ii at hx
    simp only [List.mem_cons, List.not_mem_nil, or_false] at hx
    rcases hx with rfl | rfl | rfl | rfl | rfl
    ·exact pc_w _
    ·exact pc_w _
    ·exact pc_n g1
    ·exact pc_w _
    ·exact pc_n g2) (by
   have e8 : (Jg s).length = 8 := rfl
   rw [List.length_append]; omega) (by rw [Avt]; exact h)
 rw [Avt] at LL
 rw [show (3 : Int) = ((3 : Nat) : Int) from rfl, LL, Option.bind_some]
theorem Bal (l : List Av) (hb : Cb l = true) (buf : List Int) (h : buf.length + (l.flatMap Ce).length ≤ 1000000) :
  Qr k (l, false, 3, buf) = some (l, false, 3, buf ++ l.flatMap Ce) := by
 have hs := Je hb
 rw [A5s, Aah]
 exact D0 1000000 l Ce (fun j i b => (Fb k).L 1 [] j (Nq (l, ((l.length : Nat) : Int), i, l, false, 3, b))) (fun b => some (l, false, 3, b))
  (fun j i s b hs' hb' => by
   rw [Amr, Sg, A9 hs', At hs', Bak k hk s (hs.2 s (B3 hs')) b false hb', Option.bind_some, Bi hs' (by omega)])
  (fun j b _ => by rw [Amr, Sg, Be]) k buf (by omega) h
theorem A85 (l : List Av) (hb : Cb l = true) (buf : List Int) (h : buf.length + (Cc l).length ≤ 1000000) :
  Qo k ([pw ([114, 105, 110, 103] : List Int)], false, 2, l, buf) = some (false, 2, l, buf ++ Cc l) := by
 unfold Cc at h ⊢
 have e1 : List.length ([32, 32, 32, 32, 114, 105, 110, 103, 32, 123, 10] : List Int) = 11 := rfl
 have e2 : List.length ([32, 32, 32, 32, 125, 10] : List Int) = 6 := rfl
 simp only [List.length_append] at h
 have L1 := Fj k (by omega) ([32, 123] : List Int) [pw ([114, 105, 110, 103] : List Int)] false 2 buf (by omega) (by intro x hx; rw [List.mem_singleton.1 hx]; exact pc_w _) (by simp) (show buf.length + List.length ([32, 32, 32, 32, 114, 105, 110, 103, 32, 123, 10] : List Int) ≤ 1000000 by omega)
 have L2 := Fj k (by omega) ([125] : List Int) [] false 2 ((buf ++ ([32, 32, 32, 32, 114, 105, 110, 103, 32, 123, 10] : List Int)) ++ l.flatMap Ce) (by omega) (by intro x hx; cases hx) (by simp) (show _ + List.length ([32, 32, 32, 32, 125, 10] : List Int) ≤ 1000000 by rw [List.length_append, List.length_append]; omega)
 rw [A5f, Ame, show (2 : Int) = ((2 : Nat) : Int) from rfl, L1, Option.bind_some]
 simp only
 rw [show IntKind.wrap .i64 (((2 : Nat) : Int) + 1) = (3 : Int) from rfl, show Au 2 [pw ([114, 105, 110, 103] : List Int)] ([32, 123] : List Int) = ([32, 32, 32, 32, 114, 105, 110, 103, 32, 123, 10] : List Int) from rfl, Bal k hk l hb _ (by rw [List.length_append]; omega), Option.bind_some]
 simp only
 rw [show IntKind.wrap .i64 ((3 : Int) - 1) = ((2 : Nat) : Int) from rfl, L2, Option.bind_some, show Au 2 [] ([125] : List Int) = ([32, 32, 32, 32, 125, 10] : List Int) from rfl]
 simp only [List.append_assoc]
theorem A9p (g : Cg) (hb : Cn g = true) (buf : List Int) (h : buf.length + (g.1.flatMap Cc).length ≤ 1000000) :
  Qq k (g.1, false, 2, buf) = some (false, 2, buf ++ g.1.flatMap Cc) := by
 have hs := Ji hb
 rw [A5t, Aal]
 exact D0 1000000 g.1 Cc (fun j i b => (Fa k).L 2 [] j (Nr (g.1, ((g.1.length : Nat) : Int), i, false, 2, b))) (fun b => some (false, 2, b))
  (fun j i s b hs' hb' => by
   have := A85 k hk s (hs.2 s (B3 hs')) b hb'
   unfold pw at this
   rw [Amt, Sh, A9 hs', At hs', this, Option.bind_some, Bi hs' (by omega)])
  (fun j b _ => by rw [Amt, Sh, Be]) k buf (by omega) h
theorem A87 (g : Cg) (hb : Cn g = true) (buf : List Int) (h : buf.length + (Cf g).length ≤ 1000000) :
  Qn k ([pw ([103, 114, 111, 117, 112] : List Int)], false, 1, g.1, buf) = some (false, 1, g.1, buf ++ Cf g) := by
 unfold Cf at h ⊢
 have e1 : List.length ([32, 32, 103, 114, 111, 117, 112, 32, 123, 10] : List Int) = 10 := rfl
 have e2 : List.length ([32, 32, 125, 10] : List Int) = 4 := rfl
 simp only [List.length_append] at h
 have L1 := Fj k (by omega) ([32, 123] : List Int) [pw ([103, 114, 111, 117, 112] : List Int)] false 1 buf (by omega) (by intro x hx; rw [List.mem_singleton.1 hx]; exact pc_w _) (by simp) (show buf.length + List.length ([32, 32, 103, 114, 111, 117, 112, 32, 123, 10] : List Int) ≤ 1000000 by omega)
 have L2 := Fj k (by omega) ([125] : List Int) [] false 1 ((buf ++ ([32, 32, 103, 114, 111, 117, 112, 32, 123, 10] : List Int)) ++ g.1.flatMap Cc) (by omega) (by intro x hx; cases hx) (by simp) (show _ + List.length ([32, 32, 125, 10] : List Int) ≤ 1000000 by rw [List.length_append, List.length_append]; omega)
 rw [A5d, Ama, show (1 : Int) = ((1 : Nat) : Int) from rfl, L1, Option.bind_some]
 simp only
 rw [show IntKind.wrap .i64 (((1 : Nat) : Int) + ((1 : Nat) : Int)) = (2 : Int) from rfl, show Au 1 [pw ([103, 114, 111, 117, 112] : List Int)] ([32, 123] : List Int) = ([32, 32, 103, 114, 111, 117, 112, 32, 123, 10] : List Int) from rfl, A5w, Amw, A9p k hk g hb _ (by rw [List.length_append]; omega), Option.bind_some, Option.bind_some]
 simp only
 rw [show IntKind.wrap .i64 ((2 : Int) - ((1 : Nat) : Int)) = ((1 : Nat) : Int) from rfl, L2, Option.bind_some, show Au 1 [] ([125] : List Int) = ([32, 32, 125, 10] : List Int) from rfl]
 simp only [List.append_assoc]
theorem Bap (t : TimT) (hb : timB t = true) (buf : List Int) (h : buf.length + (t.2.2.1.flatMap Cf).length ≤ 1000000) (a b : Int) :
  Qs k (t.1, t.2.1, t.2.2.1, a, b, false, 1, buf) = some (false, 1, buf ++ t.2.2.1.flatMap Cf) := by
 have hs := Jj hb
 have hl := hs.2.2.2.2.1
 rw [A5x, Aap]
 exact D0 1000000 t.2.2.1 Cf (fun j i b => (Fc k).L 2 [] j (Ns (t.2.2.1, ((t.2.2.1.length : Nat) : Int), i, false, 1, b))) (fun b => some (false, 1, b))
  (fun j i s b hs' hb' => by
   have := A87 k hk s (hs.2.2.2.2.2 s (B3 hs')) b hb'
   unfold pw at this
   rw [Amz, Si, A9 hs', At hs', this, Option.bind_some, Bi hs' (by omega)])
  (fun j b _ => by rw [Amz, Si, Be]) k buf (by omega) h
def timL (t : TimT) : List AnyV := [pw ([110, 111, 100, 101] : List Int), pw t.1, pw ([111, 102, 102, 115, 101, 116] : List Int), pn t.2.1, pw ([115, 117, 109] : List Int), pf t.2.2.2.1.1 t.2.2.2.1.2.1]
omit hk in
theorem Av1 (t : TimT) : Au 0 (timL t) ([32, 123] : List Int) = (timX t).flatten := by
 unfold Au timL timX
 rw [C8]
 simp only [List.flatMap_cons, List.flatMap_nil, List.flatten_cons, List.flatten_nil, List.append_nil, List.append_assoc, List.cons_append, List.nil_append,
  show ∀ t, pcT (pw t) = t from fun _ => rfl, show ∀ n, pcT (pn n) = numT n from fun _ => rfl, show ∀ a b, pcT (pf a b) = numT a ++ ([47] : List Int) ++ numT b from fun _ _ => rfl]
 rfl
theorem A88 (t : TimT) (hb : timB t = true) (buf : List Int) (h : buf.length + (timT t).length ≤ 1000000) :
  Qm k (timL t, false, 0, t.1, t.2.1, t.2.2.1, t.2.2.2.1.1, t.2.2.2.1.2.1, buf) = some (false, 0, t.1, t.2.1, t.2.2.1, t.2.2.2.1.1, t.2.2.2.1.2.1, buf ++ timT t) := by
 obtain ⟨q0, q1, q2, q3, q4, q5⟩ := Jj hb
 unfold timT at h ⊢
 have e2 : List.length ([125, 10] : List Int) = 2 := rfl
 simp only [List.length_append] at h
 have L1 := Fj k (by omega) ([32, 123] : List Int) (timL t) false 0 buf (by omega) (by
  intro x hx
  unfold timL at hx
  simp only [List.mem_cons, List.not_mem_nil, or_false] at hx
  rcases hx with rfl | rfl | rfl | rfl | rfl | rfl
  ·exact pc_w _
  ·exact pc_w _
  ·exact pc_w _
  ·exact pc_n q1
  ·exact pc_w _
  ·exact pc_f q2 q3) (show 6 ≤ 1000 by omega) (by rw [Av1]; omega)
 have L2 := Fj k (by omega) ([125] : List Int) [] false 0 ((buf ++ (timX t).flatten) ++ t.2.2.1.flatMap Cf) (by omega) (by intro x hx; cases hx) (by simp) (show _ + List.length ([125, 10] : List Int) ≤ 1000000 by rw [List.length_append, List.length_append]; omega)
 rw [Av1] at L1
 rw [A5h, Ami, show (0 : Int) = ((0 : Nat) : Int) from rfl, L1, Option.bind_some]
 simp only
 rw [show IntKind.wrap .i64 (((0 : Nat) : Int) + 1) = (1 : Int) from rfl, A2v, Ai8, Bap k hk t hb _ (by rw [List.length_append]; omega), Option.bind_some, Option.bind_some]
 simp only
 rw [show IntKind.wrap .i64 ((1 : Int) - 1) = ((0 : Nat) : Int) from rfl, L2, Option.bind_some, show Au 0 [] ([125] : List Int) = ([125, 10] : List Int) from rfl]
 simp only [List.append_assoc]
theorem A7z (a3 : Int) (a4' : List TimT) (a5 a6 a7 a8 : Int) (y : Bool) (yt : List Int) (s : Int) (hs : inM s) (buf : List Int) (h : buf.length + (([98, 101, 115, 116, 32] : List Int) ++ (yt ++ (([59, 10] : List Int) ++ (([115, 112, 101, 110, 116, 32] : List Int) ++ (numT s ++ ([59, 10] : List Int)))))).length ≤ 1000000) :
  (C6 k).J 15 [] (M9 (yt, a3, a4', a5, a6, a7, a8, y, s, false, 0, buf)) = some (buf ++ (([98, 101, 115, 116, 32] : List Int) ++ (yt ++ (([59, 10] : List Int) ++ (([115, 112, 101, 110, 116, 32] : List Int) ++ (numT s ++ ([59, 10] : List Int)))))), 0) := by
 have e1 : Au 0 [pw ([98, 101, 115, 116] : List Int), pw yt] ([59] : List Int) = ([98, 101, 115, 116, 32] : List Int) ++ (yt ++ ([59, 10] : List Int)) := by
  unfold Au
  rw [C8]
  simp only [List.flatMap_cons, List.flatMap_nil, List.append_nil, List.append_assoc, List.cons_append, List.nil_append, show ∀ t, pcT (pw t) = t from fun _ => rfl]
  rfl
 have e2 : Au 0 [pw ([115, 112, 101, 110, 116] : List Int), pn s] ([59] : List Int) = ([115, 112, 101, 110, 116, 32] : List Int) ++ (numT s ++ ([59, 10] : List Int)) := by
  unfold Au
  rw [C8]
  simp only [List.flatMap_cons, List.flatMap_nil, List.append_nil, List.append_assoc, List.cons_append, List.nil_append, show ∀ t, pcT (pw t) = t from fun _ => rfl, show ∀ n, pcT (pn n) = numT n from fun _ => rfl]
  rfl
 rw [← List.append_assoc yt, ← List.append_assoc ([98, 101, 115, 116, 32] : List Int), ← e1, ← e2] at h ⊢
 rw [List.length_append] at h
 have L1 := Fj k (by omega) ([59] : List Int) [pw ([98, 101, 115, 116] : List Int), pw yt] false 0 buf (by omega) (by
  intro x hx
  simp only [List.mem_cons, List.not_mem_nil, or_false] at hx
  rcases hx with rfl | rfl <;> exact pc_w _) (by simp) (by omega)
 have L2 := Fj k (by omega) ([59] : List Int) [pw ([115, 112, 101, 110, 116] : List Int), pn s] false 0 (buf ++ Au 0 [pw ([98, 101, 115, 116] : List Int), pw yt] ([59] : List Int)) (by omega) (by
  intro x hx
  simp only [List.mem_cons, List.not_mem_nil, or_false] at hx
  rcases hx with rfl | rfl
  ·exact pc_w _
  ·exact pc_n hs) (by simp) (by rw [List.length_append]; omega)
 unfold pw pn at *
 rw [A2w, Yf, show (0 : Int) = ((0 : Nat) : Int) from rfl, L1, Option.bind_some, L2, Option.bind_some]
 unfold Vy strC
 simp only
 rw [if_neg (by
  intro e
  have e := congrArg List.length e
  rw [List.length_append] at e
  unfold Au at e
  simp only [List.length_append, List.length_cons, List.length_nil] at e
  omega), Option.bind_some, List.append_assoc]
end
section
variable (k : Nat) (hk : 100000 < k)
include hk
omit hk in
theorem A82 {p : A3} : Bh p = Au 0 [pw ([112, 108, 97, 110] : List Int), pw ([99, 121, 99, 108, 101] : List Int), pn p.1] ([59] : List Int) ++ (p.2.1.flatMap timT ++ (Au 0 [pw ([111, 117, 116] : List Int), pn p.2.2.1, pn p.2.2.2.1] ([59] : List Int) ++ (Au 0 [pw ([105, 110] : List Int), pn p.2.2.2.2.1, pn p.2.2.2.2.2.1] ([59] : List Int) ++ (([98, 101, 115, 116, 32] : List Int) ++ (yesT p.2.2.2.2.2.2.1 ++ (([59, 10] : List Int) ++ (([115, 112, 101, 110, 116, 32] : List Int) ++ (numT p.2.2.2.2.2.2.2 ++ ([59, 10] : List Int))))))))) := by
 unfold Bh Ig Au
 rw [C8, C8, C8]
 simp only [List.flatMap_cons, List.flatMap_nil, List.flatten_cons, List.flatten_nil, List.append_nil, List.append_assoc, List.cons_append, List.nil_append,
  show ∀ t, pcT (pw t) = t from fun _ => rfl, show ∀ n, pcT (pn n) = numT n from fun _ => rfl]
 rfl
attribute [local irreducible] numT Au timT in
theorem Asg (p : A3) (hp : Hb p) (hb : Cl p = true) : Hl k p = some (Bh p, 0) := by
 have hr := T9 k hk p hp
 have hT := Asd hb
 rw [A82] at hT ⊢
 rw [hb] at hr
 obtain ⟨a0, a1, a2, a3, a4, a5, a6, a7⟩ := p
 obtain ⟨q0, q1, q2, q3, q4, q5, q6, q7⟩ := K3 hb
 simp only at q0 q1 q2 q3 q4 q5 q6 q7 hT ⊢
 simp only [List.length_append] at hT
 have w1 : Mj k (([59] : List Int), [pw ([112, 108, 97, 110] : List Int), pw ([99, 121, 99, 108, 101] : List Int), pn a0], true, 0) = some (false, 0, Au 0 [pw ([112, 108, 97, 110] : List Int), pw ([99, 121, 99, 108, 101] : List Int), pn a0] ([59] : List Int)) := A8b k (by omega) ([59] : List Int) [pw ([112, 108, 97, 110] : List Int), pw ([99, 121, 99, 108, 101] : List Int), pn a0] 0 (by omega) (by
  intro x hx
  simp only [List.mem_cons, List.not_mem_nil, or_false] at hx
  rcases hx with rfl | rfl | rfl
  ·exact pc_w _
  ·exact pc_w _
  ·exact pc_n q0) (by simp) (by omega)
 have L := D0 600000 a1 timT (fun j i b => (C6 k).L 6 [] j (Na (a1, ((a1.length : Nat) : Int), i, a0, a1, a2, a3, a4, a5, a6, a7, false, 0, b)))
  (fun b => some (b ++ (Au 0 [pw ([111, 117, 116] : List Int), pn a2, pn a3] ([59] : List Int) ++ (Au 0 [pw ([105, 110] : List Int), pn a4, pn a5] ([59] : List Int) ++ (([98, 101, 115, 116, 32] : List Int) ++ (yesT a6 ++ (([59, 10] : List Int) ++ (([115, 112, 101, 110, 116, 32] : List Int) ++ (numT a7 ++ ([59, 10] : List Int)))))))), 0))
  (fun j i t b ht hb' => by
   have := A88 k hk t (q7 t (B3 ht)) b (by omega)
   unfold timL pw pn pf at this
   rw [Ajc, Rl, A9 ht, At ht, this, Option.bind_some, Bi ht (by omega)])
  (fun j b hb' => by
   have l1 : Cs k (([59] : List Int), [pw ([111, 117, 116] : List Int), pn a2, pn a3], false, 0, b) = some (false, 0, b ++ Au 0 [pw ([111, 117, 116] : List Int), pn a2, pn a3] ([59] : List Int)) := Fj k (by omega) ([59] : List Int) [pw ([111, 117, 116] : List Int), pn a2, pn a3] false 0 b (by omega) (by
    intro x hx
    simp only [List.mem_cons, List.not_mem_nil, or_false] at hx
    rcases hx with rfl | rfl | rfl
    ·exact pc_w _
    ·exact pc_n q1
    ·exact pc_n q2) (by simp) (by omega)
   have l2 : Cs k (([59] : List Int), [pw ([105, 110] : List Int), pn a4, pn a5], false, 0, b ++ Au 0 [pw ([111, 117, 116] : List Int), pn a2, pn a3] ([59] : List Int)) = some (false, 0, (b ++ Au 0 [pw ([111, 117, 116] : List Int), pn a2, pn a3] ([59] : List Int)) ++ Au 0 [pw ([105, 110] : List Int), pn a4, pn a5] ([59] : List Int)) := Fj k (by omega) ([59] : List Int) [pw ([105, 110] : List Int), pn a4, pn a5] false 0 (b ++ Au 0 [pw ([111, 117, 116] : List Int), pn a2, pn a3] ([59] : List Int)) (by omega) (by
    intro x hx
    simp only [List.mem_cons, List.not_mem_nil, or_false] at hx
    rcases hx with rfl | rfl | rfl
    ·exact pc_w _
    ·exact pc_n q3
    ·exact pc_n q4) (by simp) (by rw [List.length_append]; omega)
   have l3 := A7z k hk a0 a1 a2 a3 a4 a5 a6 (yesT a6) a7 q5 ((b ++ Au 0 [pw ([111, 117, 116] : List Int), pn a2, pn a3] ([59] : List Int)) ++ Au 0 [pw ([105, 110] : List Int), pn a4, pn a5] ([59] : List Int)) (by simp only [List.length_append]; omega)
   rw [← List.append_assoc b, ← List.append_assoc (b ++ _)]
   generalize hF : some ((b ++ Au 0 [pw ([111, 117, 116] : List Int), pn a2, pn a3] ([59] : List Int) ++ Au 0 [pw ([105, 110] : List Int), pn a4, pn a5] ([59] : List Int)) ++ (([98, 101, 115, 116, 32] : List Int) ++ (yesT a6 ++ (([59, 10] : List Int) ++ (([115, 112, 101, 110, 116, 32] : List Int) ++ (numT a7 ++ ([59, 10] : List Int)))))), (0 : Int)) = F at l3 ⊢
   unfold pw pn at l1 l2
   rw [Ajc, Rl, Be, l1, Option.bind_some, l2, Option.bind_some]
   simp only
   cases a6
   ·rw [cond_false]; exact l3
   ·rw [cond_true]; exact l3)
  k (Au 0 [pw ([112, 108, 97, 110] : List Int), pw ([99, 121, 99, 108, 101] : List Int), pn a0] ([59] : List Int)) (by omega) (by omega)
 rw [Ajb, Rk, hr, Option.bind_some, Bool.not_true, cond_false]
 unfold pw pn at w1
 rw [w1, Option.bind_some]
 refine L.trans ?_
 simp only [List.append_assoc]
theorem A86 (p : A3) (hp : Hb p) (hb : Cl p = false) : Hl k p = some ([], 1) := by
 have hr := T9 k hk p hp
 rw [hb] at hr
 obtain ⟨a0, a1, a2, a3, a4, a5, a6, a7⟩ := p
 rw [Ajb, Rk, hr]
 rfl
end
section
variable (k : Nat) (hk : 100000 < k)
include hk
attribute [local irreducible] numT Ce Cc Cf timT in
end
theorem Bbe (a : Int) : eqI a a = true := by unfold eqI; simp
theorem Bdt (a : List Int) : eqS a a = true := by unfold eqS; simp
theorem Bei {α : Type} [BEq α] [LawfulBEq α] (a : α) : (a != a) = false := by simp
theorem Bbi {α : Type} (l : List α) : l.all (fun _ => true) = true := by simp
section
variable (k : Nat) (hk : 100000 < k)
include hk
theorem Beg (l : List Cr) (hl : l.length ≤ 12) : Bbr k (l, l) = some true := by
 have L := Ft l (fun _ => true) (fun j i => (L3 k).L 4 [] j (Bbm (l, l, i))) (some false) (some true)
  (fun j i x hx => by
   rw [Bcv, Bbu, A9 hx, At hx, At hx, Bdt, Bbe, Bbe, Bi hx (by omega)]
   rfl)
  (fun j => by rw [Bcv, Bbu, Be]) k (by omega)
 rw [Bdw, Bb8, Bei, cond_false, L, Bbi]
 rfl
theorem Bec (t : TimT) (ht : TimS t) : Bbs k (t.1, t.2.1, t.2.2.1, t.2.2.2.1.1, t.2.2.2.1.2.1, t.1, t.2.1, t.2.2.1, t.2.2.2.1.1, t.2.2.2.1.2.1) = some true := by
 obtain ⟨h1, h2, h3⟩ := ht
 have L := Ft t.2.2.1 (fun _ => true) (fun j i => (Beh k).L 4 [] j (Bbh (i, t.1, t.2.1, t.2.2.1, t.2.2.2.1.1, t.2.2.2.1.2.1, t.1, t.2.1, t.2.2.1, t.2.2.2.1.1, t.2.2.2.1.2.1))) (some false) (some true)
  (fun j i g hg => by
   obtain ⟨g1, g2⟩ := h3 g (B3 hg)
   have LR := Ft g.1 (fun _ => true) (fun j' i' => (Beh k).L 11 [j] j' (Bbg ((i : Int), g.1, g.1, i', t.1, t.2.1, t.2.2.1, t.2.2.2.1.1, t.2.2.2.1.2.1, t.1, t.2.1, t.2.2.1, t.2.2.2.1.1, t.2.2.2.1.2.1))) (some false)
    ((Beh k).L 4 [] j (Bbh (((i + 1 : Nat) : Int), t.1, t.2.1, t.2.2.1, t.2.2.2.1.1, t.2.2.2.1.2.1, t.1, t.2.1, t.2.2.1, t.2.2.2.1.1, t.2.2.2.1.2.1)))
    (fun j' i' l hl => by
     obtain ⟨l1, l2⟩ := g2 l (B3 hl)
     have LS := Ft l (fun _ => true) (fun j2 i2 => (Beh k).L 16 [j, j'] j2 (Bbo ((i : Int), g.1, g.1, (i' : Int), i2, t.1, t.2.1, t.2.2.1, t.2.2.2.1.1, t.2.2.2.1.2.1, t.1, t.2.1, t.2.2.1, t.2.2.2.1.1, t.2.2.2.1.2.1))) (some false)
      ((Beh k).L 11 [j] j' (Bbg ((i : Int), g.1, g.1, ((i' + 1 : Nat) : Int), t.1, t.2.1, t.2.2.1, t.2.2.2.1.1, t.2.2.2.1.2.1, t.1, t.2.1, t.2.2.1, t.2.2.2.1.1, t.2.2.2.1.2.1)))
      (fun j2 i2 s hs => by
       obtain ⟨s1, s2, s3⟩ := l2 s (B3 hs)
       rw [Bc0, Bbx, At hl, A9 hs, At hl, At hs, At hl, At hs, beq_self_eq_true, Bei, Bei, Bei, Beg k hk _ s2, Option.bind_some, Bi hs (by omega)]
       rfl)
      (fun j2 => by rw [Bc0, Bbx, At hl, Be, Bi hl (by omega)]) k (by omega)
     rw [Bcz, Bbw, A9 hl, At hl, At hl, Bei, cond_false, LS, Bbi])
    (fun j' => by rw [Bcz, Bbw, Be, Bi hg (by omega)]) k (by omega)
   rw [Bc1, Bby, A9 hg, At hg, At hg, Bei, cond_false, LR, Bbi])
  (fun j => by rw [Bc1, Bby, Be]) k (by omega)
 rw [Bd0, Bci, beq_self_eq_true, Bei, Bbe, Bbe, Bei, L, Bbi]
 rfl
theorem Bdd (p : A3) (hp : Hb p) : Bbj k (p.1, p.2.1, p.2.2.1, p.2.2.2.1, p.2.2.2.2.1, p.2.2.2.2.2.1, p.2.2.2.2.2.2.1, p.2.2.2.2.2.2.2, p.1, p.2.1, p.2.2.1, p.2.2.2.1, p.2.2.2.2.1, p.2.2.2.2.2.1, p.2.2.2.2.2.2.1, p.2.2.2.2.2.2.2) = some true := by
 obtain ⟨a0, a1, a2, a3, a4, a5, a6, a7⟩ := p
 obtain ⟨h1, h2⟩ := hp
 simp only at h1 h2 ⊢
 have L := Ft a1 (fun _ => true) (fun j i => (L4 k).L 4 [] j (Bbn (i, a0, a1, a2, a3, a4, a5, a6, a7, a0, a1, a2, a3, a4, a5, a6, a7))) (some false) (some true)
  (fun j i t ht => by
   rw [Bcx, Bbv, A9 ht, At ht, At ht, Bec k hk t (h2 t (B3 ht)), Option.bind_some, Bi ht (by omega)]
   rfl)
  (fun j => by rw [Bcx, Bbv, Be]) k (by omega)
 rw [Bdy, Bcc, Bei, Bbe, Bbe, Bbe, Bbe, beq_self_eq_true, Bei, Bei, L, Bbi]
 rfl
end
def smpl : A3 := (600, [(([97] : List Int), 0, [([[(([112] : List Int), 300, 35, 16, [(([119] : List Int), 70, 125, ())], ()), (([113] : List Int), 300, 30, 20, [], ())]], ())], (11, 20, ()), ())], 0, 249, 10, 200, true, 17)
def bad : List Int := [112, 108, 97, 110, 32, 99, 121, 99, 108, 101, 32, 53, 59, 32, 110, 111, 100, 101]
theorem Uj : Cl smpl = true := by decide +kernel
theorem Avv : (Bh smpl).length ≤ 1000 := by decide +kernel
theorem Aw1 : (Dg bad).2 = (50, 18) := by decide +kernel
theorem Baa (k : Nat) : It k () = some (Bh smpl) := by
 rw [A7m, Aqb]
 exact congrArg some (by decide +kernel)
def outQ (x : A3 × Int × Int) := (x.1.1, x.1.2.2.1, x.1.2.2.2.1, x.1.2.2.2.2.1, x.1.2.2.2.2.2.1, x.1.2.2.2.2.2.2.1, x.1.2.2.2.2.2.2.2, x.2.1, x.2.2, x.1.2.1)
theorem Ar1 (k : Nat) (hk : 400000 ≤ k) (b : List Int) (hb : b.length ≤ 330000) : Hk k b = some (outQ (Dg b)) := A8w k (by omega) b (by omega) (by omega)
theorem Aws (k : Nat) (hk : 400000 ≤ k) : Q8 k () = some true ∧ Af8 k () = some true := by
 have hS := A83 Uj
 have hp := Ar1 k hk (Bh smpl) (Nat.le_trans Avv (by decide))
 have h2 := Ar1 k hk bad (by decide)
 rw [Bax Uj (Nat.le_trans Avv (by decide))] at hp
 unfold bad at h2
 have hb := Aw1
 unfold bad at hb
 have hpr := Asg k (by omega) smpl hS Uj
 have hr := T9 k (by omega) smpl hS
 rw [Uj] at hr
 rw [A7l, Ap7, A7h, Ap5, Baa, Option.bind_some, hp, Option.bind_some, h2]
 unfold outQ
 have hpr' : Hl k (smpl.1, smpl.2.1, smpl.2.2.1, smpl.2.2.2.1, smpl.2.2.2.2.1, smpl.2.2.2.2.2.1, smpl.2.2.2.2.2.2.1, smpl.2.2.2.2.2.2.2) = some (Bh smpl, 0) := hpr
 have hr' : Hm k (smpl.1, smpl.2.1, smpl.2.2.1, smpl.2.2.2.1, smpl.2.2.2.2.1, smpl.2.2.2.2.2.1, smpl.2.2.2.2.2.2.1, smpl.2.2.2.2.2.2.2) = some true := hr
 simp only [hpr', hr', Option.bind_some, hb]
 rw [show (Bh smpl == Bh smpl) = true from beq_self_eq_true _]
 exact ⟨rfl, rfl⟩
theorem planBack_pure (p : Ber) : ∃ k, Bel k p = some true := by
 obtain ⟨k, hk⟩ : ∃ k : Nat, k = 400000 := ⟨_, rfl⟩
 refine ⟨k, ?_⟩
 have hk : 400000 ≤ k := by omega
 have hf := A0y k (by omega) p
 cases hF : Oh p with
 | false =>
  rw [hF] at hf
  obtain ⟨a0, a1, a2, a3, a4, a5, a6, a7⟩ := p
  rw [Bek, Bej, hf]
  rfl
 | true =>
  rw [hF] at hf
  have hS := planF_S hF
  have h3 := T9 k (by omega) p hS
  have hA := (Aws k hk).2
  cases hB : Cl p with
  | false =>
   have h1 := A86 k (by omega) p hS hB
   rw [hB] at h3
   obtain ⟨a0, a1, a2, a3, a4, a5, a6, a7⟩ := p
   rw [Bek, Bej, hf, Option.bind_some, h1, Option.bind_some, h3, Option.bind_some, hA]
   rfl
  | true =>
   have h1 := Asg k (by omega) p hS hB
   have hl := Asd hB
   have hq := Ar1 k hk (Bh p) hl
   have hs := Bdd k (by omega) p hS
   by_cases hlong : 65536 < (Bh p).length
   ·have hL := Bes hlong
    generalize Dg (Bh p) = y at hq hL
    generalize Bh p = T at *
    obtain ⟨a0, a1, a2, a3, a4, a5, a6, a7⟩ := p
    rw [Bek, Bej, hf, Option.bind_some, h1, Option.bind_some]
    simp only [hq, Option.bind_some, hA]
    rw [show decide (((List.length T : Nat) : Int) > (65536 : Int)) = true by simp; omega]
    unfold outQ
    simp only [hL]
    rfl
   ·rw [Bax hB (by omega)] at hq
    generalize Bh p = T at *
    have hd : decide (((List.length T : Nat) : Int) > (65536 : Int)) = false := by simp; omega
    unfold outQ at hq
    obtain ⟨a0, a1, a2, a3, a4, a5, a6, a7⟩ := p
    rw [Bek, Bej, hf, Option.bind_some, h1, Option.bind_some]
    simp only at hs
    simp only [hq, Option.bind_some, hA, hs, hd]
    rfl
end Go.Proofs.YtcmmgllmncllfaaGreatDoorV
