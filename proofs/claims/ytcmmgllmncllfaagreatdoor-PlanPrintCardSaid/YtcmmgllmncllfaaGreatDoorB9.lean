import Derived.Test.YtcmmgllmncllfaaGreatDoorB8
import Derived.Test.YtcmmgllmncllfaaGreatDoorB6
/-! Joined, names shortened: FW, FX, FY, FZ, FP, FQ. -/
set_option linter.unusedVariables false
set_option linter.unusedSimpArgs false
set_option maxRecDepth 100000
namespace Go.Proofs.YtcmmgllmncllfaaGreatDoorV
open Go Go.RowKit
theorem Awe {w : Cr} (h : wlkB w = true) : (Ei w).flatten.length ≤ 80 := by
 obtain ⟨q0, q1, q2⟩ := Uo h
 have := Gt q0
 have := A6 w.2.1
 have := A6 w.2.2.1
 unfold Ei
 simp only [List.flatten_cons, List.flatten_nil, List.length_append, List.length_cons, List.length_nil]
 omega
theorem Avs {s : Av} (h : Cd s = true) : (Ce s).length ≤ 800 := by
 obtain ⟨q0, q1, q2, q3, q4, q5⟩ := La h
 have := Gt q0
 have := A6 s.2.1
 have := A6 s.2.2.1
 have := A6 s.2.2.2.1
 have hw := Gn (fun w => (Ei w).flatten) 80 s.2.2.2.2.1 fun w hw => Awe (q5 w hw)
 unfold Ce Ot
 simp only [List.flatten_cons, List.flatten_nil, List.length_append, List.length_cons, List.length_nil]
 omega
theorem Asu {l : List Av} (h : Cb l = true) : (Cc l).length ≤ 3300 := by
 have hb := Je h
 have hw := Gn Ce 800 l fun s hs => Avs (hb.2 s hs)
 unfold Cc
 simp only [List.length_append, List.length_cons, List.length_nil]
 omega
theorem Ban {g : Cg} (h : Cn g = true) : (Cf g).length ≤ 6700 := by
 have hb := Ji h
 have hw := Gn Cc 3300 g.1 fun s hs => Asu (hb.2 s hs)
 unfold Cf
 simp only [List.length_append, List.length_cons, List.length_nil]
 omega
theorem Av0 {t : TimT} (h : timB t = true) : (timT t).length ≤ 27000 := by
 obtain ⟨q0, q1, q2, q3, q4, q5⟩ := Jj h
 have := Gt q0
 have := A6 t.2.1
 have := A6 t.2.2.2.1.1
 have := A6 t.2.2.2.1.2.1
 have hw := Gn Cf 6700 t.2.2.1 fun s hs => Ban (q5 s hs)
 unfold timT timX
 simp only [List.flatten_cons, List.flatten_nil, List.length_append, List.length_cons, List.length_nil]
 omega
theorem Awk (b : Bool) : (yesT b).length ≤ 3 := by cases b <;> decide
theorem Bav (p : A3) : (Ig p).flatten.length ≤ 320 := by
 have h := Gn id 20 (Ig p) (by
  intro x hx
  unfold Ig at hx
  simp only [List.mem_cons, List.not_mem_nil, or_false] at hx
  rcases hx with rfl | rfl | rfl | rfl | rfl | rfl | rfl | rfl | rfl | rfl | rfl | rfl | rfl | rfl | rfl | rfl
  all_goals first | exact Nat.le_trans (A6 _) (by decide) | exact Nat.le_trans (Awk _) (by decide) | decide | (show List.length _ ≤ 20; decide))
 rw [List.flatMap_id] at h
 exact h
theorem Asd {p : A3} (h : Cl p = true) : (Bh p).length ≤ 330000 := by
 obtain ⟨q0, q1, q2, q3, q4, q5, q6, q7⟩ := K3 h
 have := A6 p.1
 have := Bav p
 have hw := Gn timT 27000 p.2.1 fun s hs => Av0 (q7 s hs)
 unfold Bh
 simp only [List.flatten_cons, List.flatten_nil, List.length_append, List.length_cons, List.length_nil]
 omega
def pw (s : List Int) : AnyV := .mk 9 false [.str s]
def pn (n : Int) : AnyV := .mk 2 false [.int .i64 n]
def pf (a b : Int) : AnyV := .mk 43 true [.int .i64 a, .int .i64 b]
def pcT : AnyV → List Int
 | .mk _ _ [.str s] => s
 | .mk _ _ [.int _ n] => numT n
 | .mk _ _ [.int _ a, .int _ b] => numT a ++ ([47] : List Int) ++ numT b
 | _ => []
def Pc (x : AnyV) : Prop := (∃ t, x = pw t) ∨ (∃ n, inM n ∧ x = pn n) ∨ ∃ a b, inM a ∧ inM b ∧ x = pf a b
theorem pc_w (t : List Int) : Pc (pw t) := .inl ⟨t, rfl⟩
theorem pc_n {n : Int} (h : inM n) : Pc (pn n) := .inr (.inl ⟨n, h, rfl⟩)
theorem pc_f {a b : Int} (h : inM a) (g : inM b) : Pc (pf a b) := .inr (.inr ⟨a, b, h, g, rfl⟩)
def ind : Nat → List Int
 | 0 => []
 | d + 1 => 32 :: 32 :: ind d
def C8 : List AnyV → List Int
 | [] => []
 | x :: r => pcT x ++ r.flatMap fun y => 32 :: pcT y
def Au (d : Nat) (l : List AnyV) (e : List Int) : List Int := ind d ++ (C8 l ++ (e ++ ([10] : List Int)))
theorem Asr (k d : Nat) (hd : d ≤ 3) : Q5 k (([32, 32] : List Int), (d : Int)) = some (ind d) := by
 rcases d with _ | _ | _ | _ | d
 ·rfl
 ·rfl
 ·rfl
 ·rfl
 ·omega
theorem Ge (k : Nat) (a buf : List Int) (b : Bool) (d : Int) (h : buf.length + a.length ≤ 1000000) : Du k (a, b, d, buf) = some ((a.length : Int), false, d, buf ++ a) := by
 rw [Apl, Acb]
 show (app 1 buf a fun o2 => some (((List.length a : Nat) : Int), false, d, o2)) = _
 rw [Hf (by omega) (by omega)]
theorem Awf (k : Nat) (a : Int) (buf : List Int) (b : Bool) (d : Int) (h : buf.length + 1 ≤ 1000000) : Mp k (a, b, d, buf) = some (false, d, buf ++ [a]) := by
 rw [A64, Aph]
 show (app 1 buf [a] fun o2 => some (false, d, o2)) = _
 rw [Hf (by simp; omega) (by simp; omega)]
theorem J6 (k : Nat) {n : Int} (h : inM n) : Gk k (n, 10) = some (numT n) := by
 have hl : (Lib.itoa n).length = (numT n).length := by
  rw [← Aqs h]; unfold bs; exact (List.length_map _).symm
 have := A6 n
 unfold Gk fmtI
 have hm : maxLen = 9223372036854775807 := rfl
 rw [if_pos ⟨rfl, by simp only; omega⟩, Aqs h]
theorem Ar7 (k j : Nat) (e : List Int) (x : AnyV) (hx : Pc x) (l : List AnyV) (n i d : Int) (buf : List Int) (hb : buf.length + (pcT x).length ≤ 1000000) :
  (B5 k).J 6 [j] (Nl (e, x, l, n, i, false, d, buf)) = (B5 k).L 2 [] j (E7 (e, l, n, IntKind.wrap .i64 (i + 1), false, d, buf ++ pcT x)) := by
 rw [A5k, Z2]
 rcases hx with ⟨t, rfl⟩ | ⟨m, hm, rfl⟩ | ⟨a, b, ha, hb', rfl⟩
 ·change buf.length + t.length ≤ 1000000 at hb
  rw [show Bm 9 (pw t) = true from rfl, show Da false [.str] (pw t) = true from rfl, show anyS 0 (pw t) = t from rfl, cond_true, cond_true, Ge k _ _ _ _ hb, Option.bind_some]
  rfl
 ·change buf.length + (numT m).length ≤ 1000000 at hb
  rw [show Bm 9 (pn m) = false from rfl, show Bm 2 (pn m) = true from rfl, show Da false [.int .i64] (pn m) = true from rfl, show anyI 0 (pn m) = m from rfl, cond_false, cond_true, cond_true, J6 k hm, Option.bind_some, Ge k _ _ _ _ hb, Option.bind_some]
  rfl
 ·change buf.length + (numT a ++ ([47] : List Int) ++ numT b).length ≤ 1000000 at hb
  have h1 := A6 a
  have h2 := A6 b
  have e1 : List.length ([47] : List Int) = 1 := rfl
  rw [show Bm 9 (pf a b) = false from rfl, show Bm 2 (pf a b) = false from rfl, show Bm 43 (pf a b) = true from rfl, show Da true [.int .i64, .int .i64] (pf a b) = true from rfl, show anyI 0 (pf a b) = a from rfl, show anyI 1 (pf a b) = b from rfl, cond_false, cond_false, cond_true, cond_true, J6 k ha, Option.bind_some, As (by omega), J6 k hb', Option.bind_some, As (by rw [List.length_append]; omega), Ge k _ _ _ _ hb, Option.bind_some]
  rfl
theorem core1 (k : Nat) (e : List Int) (l : List AnyV) (d : Int) (buf : List Int) (hl : ∀ x ∈ l, Pc x) (hn : l.length ≤ 1000) (hk : 1000 < k) (h : buf.length + (C8 l ++ (e ++ ([10] : List Int))).length ≤ 1000000) :
  (B5 k).L 2 [] k (E7 (e, l, ((l.length : Nat) : Int), 0, false, d, buf)) = some (false, d, buf ++ (C8 l ++ (e ++ ([10] : List Int)))) := by
 have e1 : List.length ([10] : List Int) = 1 := rfl
 rw [List.length_append, List.length_append] at h
 obtain ⟨J, rfl⟩ : ∃ j, k = j + 1 := ⟨k - 1, by omega⟩
 have fin : ∀ (j : Nat) (b : List Int), b.length + (e.length + 1) ≤ 1000000 → (B5 (J + 1)).L 2 [] (j + 1) (E7 (e, l, ((l.length : Nat) : Int), ((l.length : Nat) : Int), false, d, b)) = some (false, d, b ++ (e ++ ([10] : List Int))) := by
  intro j b hb
  rw [Z0, Nm, Be, As (by omega), Ge _ _ _ _ _ (by rw [List.length_append]; omega), Option.bind_some]
 cases l with
 | nil =>
  rw [show ((0 : Int)) = (((([] : List AnyV).length : Nat)) : Int) from rfl, fin J buf (by omega)]
  rfl
 | cons x r =>
  rw [C8, List.length_append] at h
  have hx := Ar7 (J + 1) J e x (hl x (by simp)) (x :: r) (((x :: r).length : Nat) : Int) 0 d buf (by omega)
  have hr0 : (x :: r)[0]? = some x := rfl
  rw [show (0 : Int) = ((0 : Nat) : Int) from rfl] at hx ⊢
  rw [Z0, Nm, A9 hr0, At hr0, show decide (((0 : Nat) : Int) > (0 : Int)) = false from rfl, cond_false, hx]
  have LL := D0 (1000000 - (e.length + 1)) r (fun y => 32 :: pcT y) (fun j' i b => (B5 (J + 1)).L 2 [] j' (E7 (e, x :: r, (((x :: r).length : Nat) : Int), i + 1, false, d, b))) (fun b => some (false, d, b ++ (e ++ ([10] : List Int))))
   (fun j' i y b hy hb => by
    have hy' : (x :: r)[i + 1]? = some y := by simpa using hy
    simp only [List.length_cons] at hb
    rw [show ((i : Nat) : Int) + 1 = ((i + 1 : Nat) : Int) from rfl, Z0, Nm, A9 hy', At hy', show decide (((i + 1 : Nat) : Int) > (0 : Int)) = true from decide_eq_true (by omega), cond_true, Awf _ _ _ _ _ (by omega), Option.bind_some,
     Ar7 _ _ e y (hl y (List.mem_cons_of_mem _ (B3 hy))) _ _ _ _ _ (by simp only [List.length_append, List.length_cons, List.length_nil]; omega), Bi hy' (by omega)]
    simp only [List.append_assoc, List.cons_append, List.nil_append]
    rfl)
   (fun j' b hb => by
    have := fin j' b (by omega)
    rw [List.length_cons] at this ⊢
    exact this)
   J (buf ++ pcT x) (by simp at hn; omega) (by rw [List.length_append]; omega)
  rw [show IntKind.wrap .i64 (((0 : Nat) : Int) + 1) = (0 : Int) + 1 from rfl, LL, C8]
  simp only [List.append_assoc]
theorem Ar6 (k j : Nat) (e : List Int) (x : AnyV) (hx : Pc x) (l : List AnyV) (n i d : Int) (buf : List Int) (hb : buf.length + (pcT x).length ≤ 1000000) :
  (B4 k).J 6 [j] (Nn (e, x, l, n, i, false, d, buf)) = (B4 k).L 2 [] j (E8 (e, l, n, IntKind.wrap .i64 (i + 1), false, d, buf ++ pcT x)) := by
 rw [A5n, Z9]
 rcases hx with ⟨t, rfl⟩ | ⟨m, hm, rfl⟩ | ⟨a, b, ha, hb', rfl⟩
 ·change buf.length + t.length ≤ 1000000 at hb
  rw [show Bm 9 (pw t) = true from rfl, show Da false [.str] (pw t) = true from rfl, show anyS 0 (pw t) = t from rfl, cond_true, cond_true, Ge k _ _ _ _ hb, Option.bind_some]
  rfl
 ·change buf.length + (numT m).length ≤ 1000000 at hb
  rw [show Bm 9 (pn m) = false from rfl, show Bm 2 (pn m) = true from rfl, show Da false [.int .i64] (pn m) = true from rfl, show anyI 0 (pn m) = m from rfl, cond_false, cond_true, cond_true, J6 k hm, Option.bind_some, Ge k _ _ _ _ hb, Option.bind_some]
  rfl
 ·change buf.length + (numT a ++ ([47] : List Int) ++ numT b).length ≤ 1000000 at hb
  have h1 := A6 a
  have h2 := A6 b
  have e1 : List.length ([47] : List Int) = 1 := rfl
  rw [show Bm 9 (pf a b) = false from rfl, show Bm 2 (pf a b) = false from rfl, show Bm 43 (pf a b) = true from rfl, show Da true [.int .i64, .int .i64] (pf a b) = true from rfl, show anyI 0 (pf a b) = a from rfl, show anyI 1 (pf a b) = b from rfl, cond_false, cond_false, cond_true, cond_true, J6 k ha, Option.bind_some, As (by omega), J6 k hb', Option.bind_some, As (by rw [List.length_append]; omega), Ge k _ _ _ _ hb, Option.bind_some]
  rfl
theorem core0 (k : Nat) (e : List Int) (l : List AnyV) (d : Int) (buf : List Int) (hl : ∀ x ∈ l, Pc x) (hn : l.length ≤ 1000) (hk : 1000 < k) (h : buf.length + (C8 l ++ (e ++ ([10] : List Int))).length ≤ 1000000) :
  (B4 k).L 2 [] k (E8 (e, l, ((l.length : Nat) : Int), 0, false, d, buf)) = some (false, d, buf ++ (C8 l ++ (e ++ ([10] : List Int)))) := by
 have e1 : List.length ([10] : List Int) = 1 := rfl
 rw [List.length_append, List.length_append] at h
 obtain ⟨J, rfl⟩ : ∃ j, k = j + 1 := ⟨k - 1, by omega⟩
 have fin : ∀ (j : Nat) (b : List Int), b.length + (e.length + 1) ≤ 1000000 → (B4 (J + 1)).L 2 [] (j + 1) (E8 (e, l, ((l.length : Nat) : Int), ((l.length : Nat) : Int), false, d, b)) = some (false, d, b ++ (e ++ ([10] : List Int))) := by
  intro j b hb
  rw [Z7, No, Be, As (by omega), Ge _ _ _ _ _ (by rw [List.length_append]; omega), Option.bind_some]
 cases l with
 | nil =>
  rw [show ((0 : Int)) = (((([] : List AnyV).length : Nat)) : Int) from rfl, fin J buf (by omega)]
  rfl
 | cons x r =>
  rw [C8, List.length_append] at h
  have hx := Ar6 (J + 1) J e x (hl x (by simp)) (x :: r) (((x :: r).length : Nat) : Int) 0 d buf (by omega)
  have hr0 : (x :: r)[0]? = some x := rfl
  rw [show (0 : Int) = ((0 : Nat) : Int) from rfl] at hx ⊢
  rw [Z7, No, A9 hr0, At hr0, show decide (((0 : Nat) : Int) > (0 : Int)) = false from rfl, cond_false, hx]
  have LL := D0 (1000000 - (e.length + 1)) r (fun y => 32 :: pcT y) (fun j' i b => (B4 (J + 1)).L 2 [] j' (E8 (e, x :: r, (((x :: r).length : Nat) : Int), i + 1, false, d, b))) (fun b => some (false, d, b ++ (e ++ ([10] : List Int))))
   (fun j' i y b hy hb => by
    have hy' : (x :: r)[i + 1]? = some y := by simpa using hy
    simp only [List.length_cons] at hb
    rw [show ((i : Nat) : Int) + 1 = ((i + 1 : Nat) : Int) from rfl, Z7, No, A9 hy', At hy', show decide (((i + 1 : Nat) : Int) > (0 : Int)) = true from decide_eq_true (by omega), cond_true, Awf _ _ _ _ _ (by omega), Option.bind_some,
     Ar6 _ _ e y (hl y (List.mem_cons_of_mem _ (B3 hy))) _ _ _ _ _ (by simp only [List.length_append, List.length_cons, List.length_nil]; omega), Bi hy' (by omega)]
    simp only [List.append_assoc, List.cons_append, List.nil_append]
    rfl)
   (fun j' b hb => by
    have := fin j' b (by omega)
    rw [List.length_cons] at this ⊢
    exact this)
   J (buf ++ pcT x) (by simp at hn; omega) (by rw [List.length_append]; omega)
  rw [show IntKind.wrap .i64 (((0 : Nat) : Int) + 1) = (0 : Int) + 1 from rfl, LL, C8]
  simp only [List.append_assoc]
theorem Fj (k : Nat) (hk : 1000 < k) (e : List Int) (l : List AnyV) (b : Bool) (d : Nat) (buf : List Int) (hd : d ≤ 3) (hl : ∀ x ∈ l, Pc x) (hn : l.length ≤ 1000) (h : buf.length + (Au d l e).length ≤ 1000000) :
  Cs k (e, l, b, (d : Int), buf) = some (false, (d : Int), buf ++ Au d l e) := by
 unfold Au at h
 rw [List.length_append] at h
 rw [A5j, Z1, Asr k d hd, Option.bind_some, Ge k _ _ _ _ (by omega), Option.bind_some]
 simp only
 rw [core1 k e l d _ hl hn hk (by rw [show (buf ++ ind d).length = _ from List.length_append]; omega)]
 unfold Au
 simp only [List.append_assoc]
theorem A8b (k : Nat) (hk : 1000 < k) (e : List Int) (l : List AnyV) (d : Nat) (hd : d ≤ 3) (hl : ∀ x ∈ l, Pc x) (hn : l.length ≤ 1000) (h : (Au d l e).length ≤ 1000000) :
  Mj k (e, l, true, (d : Int)) = some (false, (d : Int), Au d l e) := by
 unfold Au at h
 rw [List.length_append] at h
 have hw1 : Q3 k (ind d, true, (d : Int)) = Du k (ind d, true, (d : Int), []) := by
  rw [A67, App, Apl, Acb]
 rw [A5m, Z8, Asr k d hd, Option.bind_some, hw1, Ge k _ _ _ _ (by simp; omega), Option.bind_some]
 simp only [List.nil_append]
 rw [core0 k e l d _ hl hn hk (by omega)]
 rfl
section
variable (k : Nat) (hk : 100000 < k)
include hk
def Ii (w : Cr) : List AnyV := [pw ([119, 97, 108, 107] : List Int), pw w.1, pn w.2.1, pw ([102, 108, 97, 115, 104] : List Int), pn w.2.2.1]
def Jg (s : Av) : List AnyV := [pw ([112, 104, 97, 115, 101] : List Int), pw s.1, pw ([115, 112, 108, 105, 116] : List Int), pn s.2.1, pw ([121, 101, 108, 108, 111, 119] : List Int), pn s.2.2.1, pw ([114, 101, 100] : List Int), pn s.2.2.2.1]
omit hk in
theorem Avt (s : Av) : Au 3 (Jg s ++ s.2.2.2.2.1.flatMap Ii) ([59] : List Int) = Ce s := by
 unfold Au Jg Ce Ot
 rw [List.cons_append, C8]
 simp only [List.flatMap_append, List.flatMap_assoc, List.flatMap_cons, List.flatMap_nil, List.flatten_cons, List.flatten_nil, List.append_nil, List.append_assoc, List.cons_append, List.nil_append, Ii, Ei,
  show ∀ t, pcT (pw t) = t from fun _ => rfl, show ∀ n, pcT (pn n) = numT n from fun _ => rfl]
 rfl
theorem Bak (s : Av) (hb : Cd s = true) (buf : List Int) (b : Bool) (h : buf.length + (Ce s).length ≤ 1000000) :
  Qp k (s.1, s.2.1, s.2.2.1, s.2.2.2.1, s.2.2.2.2.1, b, 3, buf) = some (false, 3, buf ++ Ce s) := by
 obtain ⟨q0, q1, q2, q3, q4, q5⟩ := La hb
 have hw := Gn Ii 5 s.2.2.2.2.1 fun w _ => Nat.le_refl _
 have L := D0 1000 s.2.2.2.2.1 Ii (fun j i l => (E9 k).L 3 [] j (Np (s.2.2.2.2.1, ((s.2.2.2.2.1.length : Nat) : Int), i, b, 3, buf, l)))
  (fun l => ((Cs k) ((([59] : List Int) : List Int), l, b, 3, buf)).bind fun o3 => some (o3.1, o3.2.1, o3.2.2))
  (fun j i w l hw hl => by
   have e5 : (Ii w).length = 5 := rfl
   rw [Amp, Sf, A9 hw, At hw]
   refine (Hf (b := Ii w) (by omega) (by omega)).trans ?_
   rw [Bi hw (by omega)])
  (fun j l hl => by rw [Amp, Sf, Be]) k (Jg s) (by omega) (by
   have e8 : (Jg s).length = 8 := rfl
   omega)
 rw [A5p, Aad]
 refine L.trans ?_
 have LL := Fj k (by omega) ([59] : List Int) (Jg s ++ s.2.2.2.2.1.flatMap Ii) b 3 buf (by omega) (by
   intro x hx
   rcases List.mem_append.1 hx with hx | hx
   ·unfold Jg at hx
    simp only [List.mem_cons, List.not_mem_nil, or_false] at hx
    rcases hx with rfl | rfl | rfl | rfl | rfl | rfl | rfl | rfl
    ·exact pc_w _
    ·exact pc_w _
    ·exact pc_w _
    ·exact pc_n q1
    ·exact pc_w _
    ·exact pc_n q2
    ·exact pc_w _
    ·exact pc_n q3
   ·obtain ⟨w, hw, hx⟩ := List.mem_flatMap.1 hx
    obtain ⟨g0, g1, g2⟩ := Uo (q5 w hw)
    unfold Ii at hx
    simp only [List.mem_cons, List.not_mem_nil, or_false] at hx
    rcases hx with rfl | rfl | rfl | rfl | rfl
    ·exact pc_w _
    ·exact pc_w _
    ·exact pc_n g1
    ·exact pc_w _
    ·exact pc_n g2) (by
   have e8 : (Jg s).length = 8 := rfl
   rw [List.length_append]; omega) (by rw [Avt]; exact h)
 rw [Avt] at LL
 rw [show (3 : Int) = ((3 : Nat) : Int) from rfl, LL, Option.bind_some]
theorem Bal (l : List Av) (hb : Cb l = true) (buf : List Int) (h : buf.length + (l.flatMap Ce).length ≤ 1000000) :
  Qr k (l, false, 3, buf) = some (l, false, 3, buf ++ l.flatMap Ce) := by
 have hs := Je hb
 rw [A5s, Aah]
 exact D0 1000000 l Ce (fun j i b => (Fb k).L 1 [] j (Nq (l, ((l.length : Nat) : Int), i, l, false, 3, b))) (fun b => some (l, false, 3, b))
  (fun j i s b hs' hb' => by
   rw [Amr, Sg, A9 hs', At hs', Bak k hk s (hs.2 s (B3 hs')) b false hb', Option.bind_some, Bi hs' (by omega)])
  (fun j b _ => by rw [Amr, Sg, Be]) k buf (by omega) h
theorem A85 (l : List Av) (hb : Cb l = true) (buf : List Int) (h : buf.length + (Cc l).length ≤ 1000000) :
  Qo k ([pw ([114, 105, 110, 103] : List Int)], false, 2, l, buf) = some (false, 2, l, buf ++ Cc l) := by
 unfold Cc at h ⊢
 have e1 : List.length ([32, 32, 32, 32, 114, 105, 110, 103, 32, 123, 10] : List Int) = 11 := rfl
 have e2 : List.length ([32, 32, 32, 32, 125, 10] : List Int) = 6 := rfl
 simp only [List.length_append] at h
 have L1 := Fj k (by omega) ([32, 123] : List Int) [pw ([114, 105, 110, 103] : List Int)] false 2 buf (by omega) (by intro x hx; rw [List.mem_singleton.1 hx]; exact pc_w _) (by simp) (show buf.length + List.length ([32, 32, 32, 32, 114, 105, 110, 103, 32, 123, 10] : List Int) ≤ 1000000 by omega)
 have L2 := Fj k (by omega) ([125] : List Int) [] false 2 ((buf ++ ([32, 32, 32, 32, 114, 105, 110, 103, 32, 123, 10] : List Int)) ++ l.flatMap Ce) (by omega) (by intro x hx; cases hx) (by simp) (show _ + List.length ([32, 32, 32, 32, 125, 10] : List Int) ≤ 1000000 by rw [List.length_append, List.length_append]; omega)
 rw [A5f, Ame, show (2 : Int) = ((2 : Nat) : Int) from rfl, L1, Option.bind_some]
 simp only
 rw [show IntKind.wrap .i64 (((2 : Nat) : Int) + 1) = (3 : Int) from rfl, show Au 2 [pw ([114, 105, 110, 103] : List Int)] ([32, 123] : List Int) = ([32, 32, 32, 32, 114, 105, 110, 103, 32, 123, 10] : List Int) from rfl, Bal k hk l hb _ (by rw [List.length_append]; omega), Option.bind_some]
 simp only
 rw [show IntKind.wrap .i64 ((3 : Int) - 1) = ((2 : Nat) : Int) from rfl, L2, Option.bind_some, show Au 2 [] ([125] : List Int) = ([32, 32, 32, 32, 125, 10] : List Int) from rfl]
 simp only [List.append_assoc]
theorem A9p (g : Cg) (hb : Cn g = true) (buf : List Int) (h : buf.length + (g.1.flatMap Cc).length ≤ 1000000) :
  Qq k (g.1, false, 2, buf) = some (false, 2, buf ++ g.1.flatMap Cc) := by
 have hs := Ji hb
 rw [A5t, Aal]
 exact D0 1000000 g.1 Cc (fun j i b => (Fa k).L 2 [] j (Nr (g.1, ((g.1.length : Nat) : Int), i, false, 2, b))) (fun b => some (false, 2, b))
  (fun j i s b hs' hb' => by
   have := A85 k hk s (hs.2 s (B3 hs')) b hb'
   unfold pw at this
   rw [Amt, Sh, A9 hs', At hs', this, Option.bind_some, Bi hs' (by omega)])
  (fun j b _ => by rw [Amt, Sh, Be]) k buf (by omega) h
theorem A87 (g : Cg) (hb : Cn g = true) (buf : List Int) (h : buf.length + (Cf g).length ≤ 1000000) :
  Qn k ([pw ([103, 114, 111, 117, 112] : List Int)], false, 1, g.1, buf) = some (false, 1, g.1, buf ++ Cf g) := by
 unfold Cf at h ⊢
 have e1 : List.length ([32, 32, 103, 114, 111, 117, 112, 32, 123, 10] : List Int) = 10 := rfl
 have e2 : List.length ([32, 32, 125, 10] : List Int) = 4 := rfl
 simp only [List.length_append] at h
 have L1 := Fj k (by omega) ([32, 123] : List Int) [pw ([103, 114, 111, 117, 112] : List Int)] false 1 buf (by omega) (by intro x hx; rw [List.mem_singleton.1 hx]; exact pc_w _) (by simp) (show buf.length + List.length ([32, 32, 103, 114, 111, 117, 112, 32, 123, 10] : List Int) ≤ 1000000 by omega)
 have L2 := Fj k (by omega) ([125] : List Int) [] false 1 ((buf ++ ([32, 32, 103, 114, 111, 117, 112, 32, 123, 10] : List Int)) ++ g.1.flatMap Cc) (by omega) (by intro x hx; cases hx) (by simp) (show _ + List.length ([32, 32, 125, 10] : List Int) ≤ 1000000 by rw [List.length_append, List.length_append]; omega)
 rw [A5d, Ama, show (1 : Int) = ((1 : Nat) : Int) from rfl, L1, Option.bind_some]
 simp only
 rw [show IntKind.wrap .i64 (((1 : Nat) : Int) + ((1 : Nat) : Int)) = (2 : Int) from rfl, show Au 1 [pw ([103, 114, 111, 117, 112] : List Int)] ([32, 123] : List Int) = ([32, 32, 103, 114, 111, 117, 112, 32, 123, 10] : List Int) from rfl, A5w, Amw, A9p k hk g hb _ (by rw [List.length_append]; omega), Option.bind_some, Option.bind_some]
 simp only
 rw [show IntKind.wrap .i64 ((2 : Int) - ((1 : Nat) : Int)) = ((1 : Nat) : Int) from rfl, L2, Option.bind_some, show Au 1 [] ([125] : List Int) = ([32, 32, 125, 10] : List Int) from rfl]
 simp only [List.append_assoc]
theorem Bap (t : TimT) (hb : timB t = true) (buf : List Int) (h : buf.length + (t.2.2.1.flatMap Cf).length ≤ 1000000) (a b : Int) :
  Qs k (t.1, t.2.1, t.2.2.1, a, b, false, 1, buf) = some (false, 1, buf ++ t.2.2.1.flatMap Cf) := by
 have hs := Jj hb
 have hl := hs.2.2.2.2.1
 rw [A5x, Aap]
 exact D0 1000000 t.2.2.1 Cf (fun j i b => (Fc k).L 2 [] j (Ns (t.2.2.1, ((t.2.2.1.length : Nat) : Int), i, false, 1, b))) (fun b => some (false, 1, b))
  (fun j i s b hs' hb' => by
   have := A87 k hk s (hs.2.2.2.2.2 s (B3 hs')) b hb'
   unfold pw at this
   rw [Amz, Si, A9 hs', At hs', this, Option.bind_some, Bi hs' (by omega)])
  (fun j b _ => by rw [Amz, Si, Be]) k buf (by omega) h
def timL (t : TimT) : List AnyV := [pw ([110, 111, 100, 101] : List Int), pw t.1, pw ([111, 102, 102, 115, 101, 116] : List Int), pn t.2.1, pw ([115, 117, 109] : List Int), pf t.2.2.2.1.1 t.2.2.2.1.2.1]
omit hk in
theorem Av1 (t : TimT) : Au 0 (timL t) ([32, 123] : List Int) = (timX t).flatten := by
 unfold Au timL timX
 rw [C8]
 simp only [List.flatMap_cons, List.flatMap_nil, List.flatten_cons, List.flatten_nil, List.append_nil, List.append_assoc, List.cons_append, List.nil_append,
  show ∀ t, pcT (pw t) = t from fun _ => rfl, show ∀ n, pcT (pn n) = numT n from fun _ => rfl, show ∀ a b, pcT (pf a b) = numT a ++ ([47] : List Int) ++ numT b from fun _ _ => rfl]
 rfl
theorem A88 (t : TimT) (hb : timB t = true) (buf : List Int) (h : buf.length + (timT t).length ≤ 1000000) :
  Qm k (timL t, false, 0, t.1, t.2.1, t.2.2.1, t.2.2.2.1.1, t.2.2.2.1.2.1, buf) = some (false, 0, t.1, t.2.1, t.2.2.1, t.2.2.2.1.1, t.2.2.2.1.2.1, buf ++ timT t) := by
 obtain ⟨q0, q1, q2, q3, q4, q5⟩ := Jj hb
 unfold timT at h ⊢
 have e2 : List.length ([125, 10] : List Int) = 2 := rfl
 simp only [List.length_append] at h
 have L1 := Fj k (by omega) ([32, 123] : List Int) (timL t) false 0 buf (by omega) (by
  intro x hx
  unfold timL at hx
  simp only [List.mem_cons, List.not_mem_nil, or_false] at hx
  rcases hx with rfl | rfl | rfl | rfl | rfl | rfl
  ·exact pc_w _
  ·exact pc_w _
  ·exact pc_w _
  ·exact pc_n q1
  ·exact pc_w _
  ·exact pc_f q2 q3) (show 6 ≤ 1000 by omega) (by rw [Av1]; omega)
 have L2 := Fj k (by omega) ([125] : List Int) [] false 0 ((buf ++ (timX t).flatten) ++ t.2.2.1.flatMap Cf) (by omega) (by intro x hx; cases hx) (by simp) (show _ + List.length ([125, 10] : List Int) ≤ 1000000 by rw [List.length_append, List.length_append]; omega)
 rw [Av1] at L1
 rw [A5h, Ami, show (0 : Int) = ((0 : Nat) : Int) from rfl, L1, Option.bind_some]
 simp only
 rw [show IntKind.wrap .i64 (((0 : Nat) : Int) + 1) = (1 : Int) from rfl, A2v, Ai8, Bap k hk t hb _ (by rw [List.length_append]; omega), Option.bind_some, Option.bind_some]
 simp only
 rw [show IntKind.wrap .i64 ((1 : Int) - 1) = ((0 : Nat) : Int) from rfl, L2, Option.bind_some, show Au 0 [] ([125] : List Int) = ([125, 10] : List Int) from rfl]
 simp only [List.append_assoc]
theorem A7z (a3 : Int) (a4' : List TimT) (a5 a6 a7 a8 : Int) (y : Bool) (yt : List Int) (s : Int) (hs : inM s) (buf : List Int) (h : buf.length + (([98, 101, 115, 116, 32] : List Int) ++ (yt ++ (([59, 10] : List Int) ++ (([115, 112, 101, 110, 116, 32] : List Int) ++ (numT s ++ ([59, 10] : List Int)))))).length ≤ 1000000) :
  (C6 k).J 15 [] (M9 (yt, a3, a4', a5, a6, a7, a8, y, s, false, 0, buf)) = some (buf ++ (([98, 101, 115, 116, 32] : List Int) ++ (yt ++ (([59, 10] : List Int) ++ (([115, 112, 101, 110, 116, 32] : List Int) ++ (numT s ++ ([59, 10] : List Int)))))), 0) := by
 have e1 : Au 0 [pw ([98, 101, 115, 116] : List Int), pw yt] ([59] : List Int) = ([98, 101, 115, 116, 32] : List Int) ++ (yt ++ ([59, 10] : List Int)) := by
  unfold Au
  rw [C8]
  simp only [List.flatMap_cons, List.flatMap_nil, List.append_nil, List.append_assoc, List.cons_append, List.nil_append, show ∀ t, pcT (pw t) = t from fun _ => rfl]
  rfl
 have e2 : Au 0 [pw ([115, 112, 101, 110, 116] : List Int), pn s] ([59] : List Int) = ([115, 112, 101, 110, 116, 32] : List Int) ++ (numT s ++ ([59, 10] : List Int)) := by
  unfold Au
  rw [C8]
  simp only [List.flatMap_cons, List.flatMap_nil, List.append_nil, List.append_assoc, List.cons_append, List.nil_append, show ∀ t, pcT (pw t) = t from fun _ => rfl, show ∀ n, pcT (pn n) = numT n from fun _ => rfl]
  rfl
 rw [← List.append_assoc yt, ← List.append_assoc ([98, 101, 115, 116, 32] : List Int), ← e1, ← e2] at h ⊢
 rw [List.length_append] at h
 have L1 := Fj k (by omega) ([59] : List Int) [pw ([98, 101, 115, 116] : List Int), pw yt] false 0 buf (by omega) (by
  intro x hx
  simp only [List.mem_cons, List.not_mem_nil, or_false] at hx
  rcases hx with rfl | rfl <;> exact pc_w _) (by simp) (by omega)
 have L2 := Fj k (by omega) ([59] : List Int) [pw ([115, 112, 101, 110, 116] : List Int), pn s] false 0 (buf ++ Au 0 [pw ([98, 101, 115, 116] : List Int), pw yt] ([59] : List Int)) (by omega) (by
  intro x hx
  simp only [List.mem_cons, List.not_mem_nil, or_false] at hx
  rcases hx with rfl | rfl
  ·exact pc_w _
  ·exact pc_n hs) (by simp) (by rw [List.length_append]; omega)
 unfold pw pn at *
 rw [A2w, Yf, show (0 : Int) = ((0 : Nat) : Int) from rfl, L1, Option.bind_some, L2, Option.bind_some]
 unfold Vy strC
 simp only
 rw [if_neg (by
  intro e
  have e := congrArg List.length e
  rw [List.length_append] at e
  unfold Au at e
  simp only [List.length_append, List.length_cons, List.length_nil] at e
  omega), Option.bind_some, List.append_assoc]
end
theorem tmodN (n : Nat) : Int.tmod (n : Int) 10 = ((n % 10 : Nat) : Int) := rfl
theorem tdivN (n : Nat) : Int.tdiv (n : Int) 10 = ((n / 10 : Nat) : Int) := rfl
theorem wu64 {n : Int} (h : 0 ≤ n ∧ n < 18446744073709551616) : IntKind.wrap .u64 n = n := by
 have : IntKind.wrap .u64 n = n % 18446744073709551616 := rfl
 rw [this]
 omega
theorem Ask (k : Nat) (a0 : Int) : ∀ (f n j : Nat) (acc : List Int), n < 10 ^ f → 1 ≤ f → f + 2 ≤ j → acc.length + f ≤ 100 → (1 ≤ n ∨ acc = []) → f ≤ 19 →
  (Ea k).L 3 [] j (I3 (a0, (n : Int), acc)) = some (if a0 < 0 then 45 :: (digN f n ++ acc) else digN f n ++ acc)
 | 0, n, j, acc, _, h, _, _, _, _ => by omega
 | f + 1, n, 0, acc, _, _, h, _, _, _ => by omega
 | f + 1, n, j + 1, acc, hn, h1, hj, ha, hs, hf => by
  have hp : 10 ^ (f + 1) ≤ 10 ^ 19 := Nat.pow_le_pow_right (by omega) hf
  have hd : IntKind.wrap .u8 (IntKind.wrap .u64 (48 + Int.tmod (n : Int) 10)) = ((48 + n % 10 : Nat) : Int) := by
   rw [tmodN, wu64 (by omega), wu8 (by omega)]; omega
  have hq : IntKind.wrap .u64 (Int.tdiv (n : Int) 10) = ((n / 10 : Nat) : Int) := by
   rw [tdivN, wu64 (by omega)]
  have body : (cat [((48 + n % 10 : Nat) : Int)] acc fun o1 => (Ea k).L 3 [] j (I3 (a0, ((n / 10 : Nat) : Int), o1))) = some (if a0 < 0 then 45 :: (digN (f + 1) n ++ acc) else digN (f + 1) n ++ acc) := by
   rw [As (by rw [List.length_singleton]; omega), digN, List.singleton_append]
   by_cases h10 : n < 10
   ·obtain ⟨j', rfl⟩ : ∃ j', j = j' + 1 := ⟨j - 1, by omega⟩
    rw [if_pos h10, show n / 10 = 0 by omega, show n % 10 = n by omega, Am5, Sj, cbeq, if_neg (by simp), cd, if_neg (by simp), cd, As (by simp; omega)]
    split <;> rfl
   ·rw [if_neg h10, Ask k a0 f (n / 10) j _ (by rw [Nat.pow_succ] at hn; omega) (by
     rcases f with _ | f
     ·simp at hn; omega
     ·omega) (by omega) (by rw [List.length_cons]; omega) (.inl (by omega)) (by omega)]
    simp
  rw [Am5, Sj, hd, hq, body, cbeq]
  by_cases he : acc = []
  ·rw [if_pos he]
  ·rw [if_neg he, cd, if_pos (by rcases hs with h | h; omega; exact absurd h he)]
section
variable (k : Nat) (hk : 100000 < k)
include hk
theorem Dp {n : Int} (h : inM n) : Cu k n = some (numT n) := by
 unfold inM at h
 have hs : Qt k n = some ((n.natAbs : Nat) : Int) := by
  rw [A5y, Am2, cd]
  have e1 : ∀ z, IntKind.wrap .u64 z = z % 18446744073709551616 := fun _ => rfl
  by_cases hn : n < 0
  ·rw [if_pos hn]; unfold negI; rw [e1, e1]; refine congrArg some ?_; omega
  ·rw [if_neg hn, e1]; refine congrArg some ?_; omega
 rw [fr17d_e, Aoy, A50, Aat, hs, Option.bind_some, Ask k n 18 n.natAbs k [] (by omega) (by omega) (by omega) (by simp) (.inr rfl) (by omega), Option.bind_some]
 unfold numT
 rw [List.append_nil]
omit hk in
theorem A82 {p : A3} : Bh p = Au 0 [pw ([112, 108, 97, 110] : List Int), pw ([99, 121, 99, 108, 101] : List Int), pn p.1] ([59] : List Int) ++ (p.2.1.flatMap timT ++ (Au 0 [pw ([111, 117, 116] : List Int), pn p.2.2.1, pn p.2.2.2.1] ([59] : List Int) ++ (Au 0 [pw ([105, 110] : List Int), pn p.2.2.2.2.1, pn p.2.2.2.2.2.1] ([59] : List Int) ++ (([98, 101, 115, 116, 32] : List Int) ++ (yesT p.2.2.2.2.2.2.1 ++ (([59, 10] : List Int) ++ (([115, 112, 101, 110, 116, 32] : List Int) ++ (numT p.2.2.2.2.2.2.2 ++ ([59, 10] : List Int))))))))) := by
 unfold Bh Ig Au
 rw [C8, C8, C8]
 simp only [List.flatMap_cons, List.flatMap_nil, List.flatten_cons, List.flatten_nil, List.append_nil, List.append_assoc, List.cons_append, List.nil_append,
  show ∀ t, pcT (pw t) = t from fun _ => rfl, show ∀ n, pcT (pn n) = numT n from fun _ => rfl]
 rfl
attribute [local irreducible] numT Au timT in
theorem Asg (p : A3) (hp : Hb p) (hb : Cl p = true) : Hl k p = some (Bh p, 0) := by
 have hr := T9 k hk p hp
 have hT := Asd hb
 rw [A82] at hT ⊢
 rw [hb] at hr
 obtain ⟨a0, a1, a2, a3, a4, a5, a6, a7⟩ := p
 obtain ⟨q0, q1, q2, q3, q4, q5, q6, q7⟩ := K3 hb
 simp only at q0 q1 q2 q3 q4 q5 q6 q7 hT ⊢
 simp only [List.length_append] at hT
 have w1 : Mj k (([59] : List Int), [pw ([112, 108, 97, 110] : List Int), pw ([99, 121, 99, 108, 101] : List Int), pn a0], true, 0) = some (false, 0, Au 0 [pw ([112, 108, 97, 110] : List Int), pw ([99, 121, 99, 108, 101] : List Int), pn a0] ([59] : List Int)) := A8b k (by omega) ([59] : List Int) [pw ([112, 108, 97, 110] : List Int), pw ([99, 121, 99, 108, 101] : List Int), pn a0] 0 (by omega) (by
  intro x hx
  simp only [List.mem_cons, List.not_mem_nil, or_false] at hx
  rcases hx with rfl | rfl | rfl
  ·exact pc_w _
  ·exact pc_w _
  ·exact pc_n q0) (by simp) (by omega)
 have L := D0 600000 a1 timT (fun j i b => (C6 k).L 6 [] j (Na (a1, ((a1.length : Nat) : Int), i, a0, a1, a2, a3, a4, a5, a6, a7, false, 0, b)))
  (fun b => some (b ++ (Au 0 [pw ([111, 117, 116] : List Int), pn a2, pn a3] ([59] : List Int) ++ (Au 0 [pw ([105, 110] : List Int), pn a4, pn a5] ([59] : List Int) ++ (([98, 101, 115, 116, 32] : List Int) ++ (yesT a6 ++ (([59, 10] : List Int) ++ (([115, 112, 101, 110, 116, 32] : List Int) ++ (numT a7 ++ ([59, 10] : List Int)))))))), 0))
  (fun j i t b ht hb' => by
   have := A88 k hk t (q7 t (B3 ht)) b (by omega)
   unfold timL pw pn pf at this
   rw [Ajc, Rl, A9 ht, At ht, this, Option.bind_some, Bi ht (by omega)])
  (fun j b hb' => by
   have l1 : Cs k (([59] : List Int), [pw ([111, 117, 116] : List Int), pn a2, pn a3], false, 0, b) = some (false, 0, b ++ Au 0 [pw ([111, 117, 116] : List Int), pn a2, pn a3] ([59] : List Int)) := Fj k (by omega) ([59] : List Int) [pw ([111, 117, 116] : List Int), pn a2, pn a3] false 0 b (by omega) (by
    intro x hx
    simp only [List.mem_cons, List.not_mem_nil, or_false] at hx
    rcases hx with rfl | rfl | rfl
    ·exact pc_w _
    ·exact pc_n q1
    ·exact pc_n q2) (by simp) (by omega)
   have l2 : Cs k (([59] : List Int), [pw ([105, 110] : List Int), pn a4, pn a5], false, 0, b ++ Au 0 [pw ([111, 117, 116] : List Int), pn a2, pn a3] ([59] : List Int)) = some (false, 0, (b ++ Au 0 [pw ([111, 117, 116] : List Int), pn a2, pn a3] ([59] : List Int)) ++ Au 0 [pw ([105, 110] : List Int), pn a4, pn a5] ([59] : List Int)) := Fj k (by omega) ([59] : List Int) [pw ([105, 110] : List Int), pn a4, pn a5] false 0 (b ++ Au 0 [pw ([111, 117, 116] : List Int), pn a2, pn a3] ([59] : List Int)) (by omega) (by
    intro x hx
    simp only [List.mem_cons, List.not_mem_nil, or_false] at hx
    rcases hx with rfl | rfl | rfl
    ·exact pc_w _
    ·exact pc_n q3
    ·exact pc_n q4) (by simp) (by rw [List.length_append]; omega)
   have l3 := A7z k hk a0 a1 a2 a3 a4 a5 a6 (yesT a6) a7 q5 ((b ++ Au 0 [pw ([111, 117, 116] : List Int), pn a2, pn a3] ([59] : List Int)) ++ Au 0 [pw ([105, 110] : List Int), pn a4, pn a5] ([59] : List Int)) (by simp only [List.length_append]; omega)
   rw [← List.append_assoc b, ← List.append_assoc (b ++ _)]
   generalize hF : some ((b ++ Au 0 [pw ([111, 117, 116] : List Int), pn a2, pn a3] ([59] : List Int) ++ Au 0 [pw ([105, 110] : List Int), pn a4, pn a5] ([59] : List Int)) ++ (([98, 101, 115, 116, 32] : List Int) ++ (yesT a6 ++ (([59, 10] : List Int) ++ (([115, 112, 101, 110, 116, 32] : List Int) ++ (numT a7 ++ ([59, 10] : List Int)))))), (0 : Int)) = F at l3 ⊢
   unfold pw pn at l1 l2
   rw [Ajc, Rl, Be, l1, Option.bind_some, l2, Option.bind_some]
   simp only
   cases a6
   ·rw [cond_false]; exact l3
   ·rw [cond_true]; exact l3)
  k (Au 0 [pw ([112, 108, 97, 110] : List Int), pw ([99, 121, 99, 108, 101] : List Int), pn a0] ([59] : List Int)) (by omega) (by omega)
 rw [Ajb, Rk, hr, Option.bind_some, Bool.not_true, cond_false]
 unfold pw pn at w1
 rw [w1, Option.bind_some]
 refine L.trans ?_
 simp only [List.append_assoc]
theorem A86 (p : A3) (hp : Hb p) (hb : Cl p = false) : Hl k p = some ([], 1) := by
 have hr := T9 k hk p hp
 rw [hb] at hr
 obtain ⟨a0, a1, a2, a3, a4, a5, a6, a7⟩ := p
 rw [Ajb, Rk, hr]
 rfl
theorem A92 (s : Av) (hb : Cd s = true) : Q2 k (s.1, s.2.1, s.2.2.1, s.2.2.2.1, s.2.2.2.2.1) = some (Ce s) := by
 obtain ⟨q0, q1, q2, q3, q4, q5⟩ := La hb
 have hT := Avs hb
 unfold Ce Ot at hT ⊢
 have n0 := Gt q0
 have n1 := A6 s.2.1
 have n2 := A6 s.2.2.1
 have n3 := A6 s.2.2.2.1
 have hw := Gn (fun w => (Ei w).flatten) 80 s.2.2.2.2.1 fun w hw => Awe (q5 w hw)
 have L := D0 100000 s.2.2.2.2.1 (fun w => (Ei w).flatten) (fun j i b => (Fg k).L 3 [] j (N1 (b, i, s.1, s.2.1, s.2.2.1, s.2.2.2.1, s.2.2.2.2.1))) (fun b => some (([32, 32, 32, 32, 32, 32] : List Int) ++ (b ++ ([59, 10] : List Int))))
  (fun j i w b hw hb' => by
   obtain ⟨g0, g1, g2⟩ := Uo (q5 w (B3 hw))
   have := Gt g0
   have := A6 w.2.1
   have := A6 w.2.2.1
   have e1 : List.length ([32, 119, 97, 108, 107, 32] : List Int) = 6 := rfl
   have e2 : List.length ([32] : List Int) = 1 := rfl
   have e3 : List.length ([32, 102, 108, 97, 115, 104, 32] : List Int) = 7 := rfl
   simp only [Ao5, Sz, A9 hw, At hw, Dp k hk g1, Dp k hk g2, Option.bind_some, Bi hw (show s.2.2.2.2.1.length < 1000000 by omega)]
   rw [As (by omega), As (by simp only [List.length_append]; omega), As (by simp only [List.length_append]; omega), As (by simp only [List.length_append]; omega), As (by simp only [List.length_append]; omega), As (by simp only [List.length_append]; omega)]
   unfold Ei
   simp only [List.flatten_cons, List.flatten_nil, List.append_nil, List.append_assoc])
  (fun j b hb' => by
   have e1 : List.length ([32, 32, 32, 32, 32, 32] : List Int) = 6 := rfl
   have e2 : List.length ([59, 10] : List Int) = 2 := rfl
   rw [Ao5, Sz, Be, As (by omega), As (by simp only [List.length_append]; omega), List.append_assoc])
 have e1 : List.length ([112, 104, 97, 115, 101, 32] : List Int) = 6 := rfl
 have e2 : List.length ([32, 115, 112, 108, 105, 116, 32] : List Int) = 7 := rfl
 have e3 : List.length ([32, 121, 101, 108, 108, 111, 119, 32] : List Int) = 8 := rfl
 have e4 : List.length ([32, 114, 101, 100, 32] : List Int) = 5 := rfl
 rw [A6v, Ab2]
 simp only [Dp k hk q1, Dp k hk q2, Dp k hk q3, Option.bind_some]
 rw [As (by omega), As (by simp only [List.length_append]; omega), As (by simp only [List.length_append]; omega), As (by simp only [List.length_append]; omega), As (by simp only [List.length_append]; omega), As (by simp only [List.length_append]; omega), As (by simp only [List.length_append]; omega)]
 rw [L _ _ (by omega) (by simp only [List.length_append]; omega)]
 simp only [List.flatten_cons, List.flatten_nil, List.append_nil, List.append_assoc, List.cons_append, List.nil_append]
theorem A9x (p : A3) (hp : Hb p) (hb : Cl p = false) : Mn k p = some ([], 1) := by
 have hr := Adz k hk p hp
 rw [hb] at hr
 obtain ⟨a0, a1, a2, a3, a4, a5, a6, a7⟩ := p
 rw [Aoh, Sn, hr]
 rfl
theorem A9q (y : Bool) (a0 a2 a3 a4 a5 a7 : Int) (a1 : List TimT) (q1 : inM a2) (q2 : inM a3) (q3 : inM a4) (q4 : inM a5) (q5 : inM a7) (b : List Int) (h : b.length ≤ 700000) :
  (Az k).J 27 [] (Nx (b, yesT y, a0, a1, a2, a3, a4, a5, y, a7)) = some (b ++ ([([111, 117, 116, 32] : List Int), numT a2, ([32] : List Int), numT a3, ([59, 10] : List Int), ([105, 110, 32] : List Int), numT a4, ([32] : List Int), numT a5, ([59, 10] : List Int), ([98, 101, 115, 116, 32] : List Int), yesT y, ([59, 10] : List Int), ([115, 112, 101, 110, 116, 32] : List Int), numT a7, ([59, 10] : List Int)] : List (List Int)).flatten, 0) := by
 have h1 := A6 a2
 have h2 := A6 a3
 have h3 := A6 a4
 have h4 := A6 a5
 have h5 := A6 a7
 have h6 := Awk y
 rw [A6p, Abn]
 simp only [Dp k hk q1, Dp k hk q2, Dp k hk q3, Dp k hk q4, Dp k hk q5, Option.bind_some]
 generalize numT a2 = n2 at h1 ⊢
 generalize numT a3 = n3 at h2 ⊢
 generalize numT a4 = n4 at h3 ⊢
 generalize numT a5 = n5 at h4 ⊢
 generalize numT a7 = n7 at h5 ⊢
 generalize yesT y = yt at h6 ⊢
 have step : ∀ (m : Nat) (a c : List Int) (K : List Int → Option (List Int × Int)), a.length ≤ m → c.length ≤ 20 → m ≤ 800000 → cat a c K = K (a ++ c) := fun m a c K h1 h2 h3 => As (by omega)
 have grow : ∀ (m : Nat) (a c : List Int), a.length ≤ m → c.length ≤ 20 → (a ++ c).length ≤ m + 20 := fun m a c h1 h2 => by rw [List.length_append]; omega
 rw [step _ _ ([111, 117, 116, 32] : List Int) _ h (by decide) (by omega)]
 have g := grow _ _ ([111, 117, 116, 32] : List Int) h (by decide)
 rw [step _ _ n2 _ g (by omega) (by omega)]
 have g := grow _ _ n2 g (by omega)
 rw [step _ _ ([32] : List Int) _ g (by decide) (by omega)]
 have g := grow _ _ ([32] : List Int) g (by decide)
 rw [step _ _ n3 _ g (by omega) (by omega)]
 have g := grow _ _ n3 g (by omega)
 rw [step _ _ ([59, 10, 105, 110, 32] : List Int) _ g (by decide) (by omega)]
 have g := grow _ _ ([59, 10, 105, 110, 32] : List Int) g (by decide)
 rw [step _ _ n4 _ g (by omega) (by omega)]
 have g := grow _ _ n4 g (by omega)
 rw [step _ _ ([32] : List Int) _ g (by decide) (by omega)]
 have g := grow _ _ ([32] : List Int) g (by decide)
 rw [step _ _ n5 _ g (by omega) (by omega)]
 have g := grow _ _ n5 g (by omega)
 rw [step _ _ ([59, 10, 98, 101, 115, 116, 32] : List Int) _ g (by decide) (by omega)]
 have g := grow _ _ ([59, 10, 98, 101, 115, 116, 32] : List Int) g (by decide)
 rw [step _ _ yt _ g (by omega) (by omega)]
 have g := grow _ _ yt g (by omega)
 rw [step _ _ ([59, 10, 115, 112, 101, 110, 116, 32] : List Int) _ g (by decide) (by omega)]
 have g := grow _ _ ([59, 10, 115, 112, 101, 110, 116, 32] : List Int) g (by decide)
 rw [step _ _ n7 _ g (by omega) (by omega)]
 have g := grow _ _ n7 g (by omega)
 rw [step _ _ ([59, 10] : List Int) _ g (by decide) (by omega)]
 simp only [List.flatten_cons, List.flatten_nil, List.append_nil, List.append_assoc, List.cons_append, List.nil_append]
end
section
variable (k : Nat) (hk : 100000 < k)
include hk
attribute [local irreducible] numT Ce Cc Cf timT in
theorem A9y (p : A3) (hp : Hb p) (hb : Cl p = true) : Mn k p = some (Bh p, 0) := by
 have hr := Adz k hk p hp
 have hT := Asd hb
 rw [hb] at hr
 obtain ⟨a0, a1, a2, a3, a4, a5, a6, a7⟩ := p
 obtain ⟨q0, q1, q2, q3, q4, q5, q6, q7⟩ := K3 hb
 simp only at q0 q1 q2 q3 q4 q5 q6 q7
 have L1 := D0 600000 a1 timT (fun j i b => (Az k).L 5 [] j (Ki (b, i, a0, a1, a2, a3, a4, a5, a6, a7)))
  (fun b => some (b ++ (Ig (a0, a1, a2, a3, a4, a5, a6, a7)).flatten, 0))
  (fun j i t b ht hb1 => by
   have hlt := Av0 (q7 t (B3 ht))
   obtain ⟨t0, t1, t2, t3, t4, t5⟩ := Jj (q7 t (B3 ht))
   have n0 := Gt t0
   have n1 := A6 t.2.1
   have n2 := A6 t.2.2.2.1.1
   have n3 := A6 t.2.2.2.1.2.1
   have L2 := D0 640000 t.2.2.1 Cf (fun j' i' b => (Az k).L 10 [j] j' (Kg (b, (i : Int), i', a0, a1, a2, a3, a4, a5, a6, a7, t.1, t.2.1, t.2.2.1, t.2.2.2.1.1, t.2.2.2.1.2.1)))
    (fun b => (Az k).L 5 [] j (Ki (b ++ ([125, 10] : List Int), ((i + 1 : Nat) : Int), a0, a1, a2, a3, a4, a5, a6, a7)))
    (fun j' i' g b hg hb2 => by
     have hsp := Ji (t5 g (B3 hg))
     have e1 : List.length ([32, 32, 103, 114, 111, 117, 112, 32, 123, 10] : List Int) = 10 := rfl
     have L3 := D0 660000 g.1 Cc (fun j2 i2 b => (Az k).L 14 [j, j'] j2 (Kh (b, (i : Int), (i' : Int), i2, a0, a1, a2, a3, a4, a5, a6, a7, t.1, t.2.1, t.2.2.1, t.2.2.2.1.1, t.2.2.2.1.2.1)))
      (fun b => (Az k).L 10 [j] j' (Kg (b ++ ([32, 32, 125, 10] : List Int), (i : Int), ((i' + 1 : Nat) : Int), a0, a1, a2, a3, a4, a5, a6, a7, t.1, t.2.1, t.2.2.1, t.2.2.2.1.1, t.2.2.2.1.2.1)))
      (fun j2 i2 l b hl hb3 => by
       have hrg := Je (hsp.2 l (B3 hl))
       have e1 : List.length ([32, 32, 32, 32, 114, 105, 110, 103, 32, 123, 10] : List Int) = 11 := rfl
       have hrl := Asu (hsp.2 l (B3 hl))
       have L4 := D0 700000 l Ce (fun j3 i3 b => (Az k).L 18 [j, j', j2] j3 (Nw (b, (i : Int), (i' : Int), (i2 : Int), i3, a0, a1, a2, a3, a4, a5, a6, a7, t.1, t.2.1, t.2.2.1, t.2.2.2.1.1, t.2.2.2.1.2.1)))
        (fun b => (Az k).L 14 [j, j'] j2 (Kh (b ++ ([32, 32, 32, 32, 125, 10] : List Int), (i : Int), (i' : Int), ((i2 + 1 : Nat) : Int), a0, a1, a2, a3, a4, a5, a6, a7, t.1, t.2.1, t.2.2.1, t.2.2.2.1.1, t.2.2.2.1.2.1)))
        (fun j3 i3 s b hs hb4 => by
         rw [Aok, Sq, At hg, At hl, A9 hs, At hg, At hl, At hs, A92 k hk s (hrg.2 s (B3 hs)), Option.bind_some, As (by omega), Bi hs (by omega)])
        (fun j3 b hb4 => by
         have e2 : List.length ([32, 32, 32, 32, 125, 10] : List Int) = 6 := rfl
         rw [Aok, Sq, At hg, At hl, Be, As (by omega), Bi hl (by omega)]) k (b ++ ([32, 32, 32, 32, 114, 105, 110, 103, 32, 123, 10] : List Int)) (by omega) (by
         have : (Cc l).length = 11 + ((l.flatMap Ce).length + 6) := by
          rw [Cc, List.length_append, List.length_append]; rfl
         rw [List.length_append]; omega)
       rw [Aoj, Sp, At hg, A9 hl, As (by omega), L4, Cc]
       simp only [List.append_assoc])
      (fun j2 b hb3 => by
       have e2 : List.length ([32, 32, 125, 10] : List Int) = 4 := rfl
       rw [Aoj, Sp, At hg, Be, As (by omega), Bi hg (by omega)]) k (b ++ ([32, 32, 103, 114, 111, 117, 112, 32, 123, 10] : List Int)) (by omega) (by
       have : (Cf g).length = 10 + ((g.1.flatMap Cc).length + 4) := by
        rw [Cf, List.length_append, List.length_append]; rfl
       rw [List.length_append]; omega)
     rw [Aoi, So, A9 hg, As (by omega), L3, Cf]
     simp only [List.append_assoc])
    (fun j' b hb2 => by
     have e2 : List.length ([125, 10] : List Int) = 2 := rfl
     rw [Aoi, So, Be, As (by omega), Bi ht (by omega)]) k (b ++ (timX t).flatten) (by omega) (by
     have : (timT t).length = (timX t).flatten.length + ((t.2.2.1.flatMap Cf).length + 2) := by
      rw [timT, List.length_append, List.length_append]; rfl
     rw [List.length_append]; omega)
   have e1 : List.length ([110, 111, 100, 101, 32] : List Int) = 5 := rfl
   have e2 : List.length ([32, 111, 102, 102, 115, 101, 116, 32] : List Int) = 8 := rfl
   have e3 : List.length ([32, 115, 117, 109, 32] : List Int) = 5 := rfl
   have e4 : List.length ([47] : List Int) = 1 := rfl
   have e5 : List.length ([32, 123, 10] : List Int) = 3 := rfl
   have et : (timX t).flatten = ([110, 111, 100, 101, 32] : List Int) ++ (t.1 ++ (([32, 111, 102, 102, 115, 101, 116, 32] : List Int) ++ (numT t.2.1 ++ (([32, 115, 117, 109, 32] : List Int) ++ (numT t.2.2.2.1.1 ++ (([47] : List Int) ++ (numT t.2.2.2.1.2.1 ++ ([32, 123, 10] : List Int)))))))) := by
    unfold timX
    simp only [List.flatten_cons, List.flatten_nil, List.append_nil, List.append_assoc]
   rw [et] at L2
   simp only [Aol, Sr, A9 ht, At ht, Dp k hk t1, Dp k hk t2, Dp k hk t3, Option.bind_some]
   rw [As (by omega), As (by simp only [List.length_append]; omega), As (by simp only [List.length_append]; omega), As (by simp only [List.length_append]; omega), As (by simp only [List.length_append]; omega), As (by simp only [List.length_append]; omega), As (by simp only [List.length_append]; omega), As (by simp only [List.length_append]; omega), As (by simp only [List.length_append]; omega)]
   rw [timT, et]
   simp only [List.append_assoc] at L2 ⊢
   exact L2)
  (fun j b hb1 => by
   have := A9q k hk a6 a0 a2 a3 a4 a5 a7 a1 q1 q2 q3 q4 q5 b (by omega)
   unfold Ig
   simp only
   rw [← this, Aol, Sr, Be]
   cases a6
   ·rw [cond_false]; rfl
   ·rw [cond_true]; rfl)
  k ([([112, 108, 97, 110, 32, 99, 121, 99, 108, 101, 32] : List Int), numT a0, ([59, 10] : List Int)].flatten) (by omega) (by
   unfold Bh at hT
   simp only [List.length_append] at hT ⊢
   omega)
 have n0 := A6 a0
 have e1 : List.length ([112, 108, 97, 110, 32, 99, 121, 99, 108, 101, 32] : List Int) = 11 := rfl
 have e2 : List.length ([59, 10] : List Int) = 2 := rfl
 rw [Aoh, Sn, hr, Option.bind_some, Bool.not_true, cond_false, Dp k hk q0, Option.bind_some, As (by omega), As (by rw [List.length_append]; omega)]
 have e0 : ([([112, 108, 97, 110, 32, 99, 121, 99, 108, 101, 32] : List Int), numT a0, ([59, 10] : List Int)] : List (List Int)).flatten = ([112, 108, 97, 110, 32, 99, 121, 99, 108, 101, 32] : List Int) ++ numT a0 ++ ([59, 10] : List Int) := by
  simp only [List.flatten_cons, List.flatten_nil, List.append_nil, List.append_assoc]
 rw [e0] at L1
 rw [L1]
 unfold Bh
 simp only
 rw [e0]
 simp only [List.append_assoc]
end
section
variable (k : Nat) (hk : 100000 < k)
include hk
end
def smpl : A3 := (600, [(([97] : List Int), 0, [([[(([112] : List Int), 300, 35, 16, [(([119] : List Int), 70, 125, ())], ()), (([113] : List Int), 300, 30, 20, [], ())]], ())], (11, 20, ()), ())], 0, 249, 10, 200, true, 17)
def bad : List Int := [112, 108, 97, 110, 32, 99, 121, 99, 108, 101, 32, 53, 59, 32, 110, 111, 100, 101]
theorem Uj : Cl smpl = true := by decide +kernel
theorem Avv : (Bh smpl).length ≤ 1000 := by decide +kernel
theorem Aw1 : (Dg bad).2 = (50, 18) := by decide +kernel
theorem Baa (k : Nat) : It k () = some (Bh smpl) := by
 rw [A7m, Aqb]
 exact congrArg some (by decide +kernel)
def outQ (x : A3 × Int × Int) := (x.1.1, x.1.2.2.1, x.1.2.2.2.1, x.1.2.2.2.2.1, x.1.2.2.2.2.2.1, x.1.2.2.2.2.2.2.1, x.1.2.2.2.2.2.2.2, x.2.1, x.2.2, x.1.2.1)
theorem Ar1 (k : Nat) (hk : 400000 ≤ k) (b : List Int) (hb : b.length ≤ 330000) : Hk k b = some (outQ (Dg b)) := A8w k (by omega) b (by omega) (by omega)
theorem Aws (k : Nat) (hk : 400000 ≤ k) : Q8 k () = some true ∧ Af8 k () = some true := by
 have hS := A83 Uj
 have hp := Ar1 k hk (Bh smpl) (Nat.le_trans Avv (by decide))
 have h2 := Ar1 k hk bad (by decide)
 rw [Bax Uj (Nat.le_trans Avv (by decide))] at hp
 unfold bad at h2
 have hb := Aw1
 unfold bad at hb
 have hpr := Asg k (by omega) smpl hS Uj
 have hr := T9 k (by omega) smpl hS
 rw [Uj] at hr
 rw [A7l, Ap7, A7h, Ap5, Baa, Option.bind_some, hp, Option.bind_some, h2]
 unfold outQ
 have hpr' : Hl k (smpl.1, smpl.2.1, smpl.2.2.1, smpl.2.2.2.1, smpl.2.2.2.2.1, smpl.2.2.2.2.2.1, smpl.2.2.2.2.2.2.1, smpl.2.2.2.2.2.2.2) = some (Bh smpl, 0) := hpr
 have hr' : Hm k (smpl.1, smpl.2.1, smpl.2.2.1, smpl.2.2.2.1, smpl.2.2.2.2.1, smpl.2.2.2.2.2.1, smpl.2.2.2.2.2.2.1, smpl.2.2.2.2.2.2.2) = some true := hr
 simp only [hpr', hr', Option.bind_some, hb]
 rw [show (Bh smpl == Bh smpl) = true from beq_self_eq_true _]
 exact ⟨rfl, rfl⟩
theorem planPrint_pure (p : A7e) : ∃ k, V0 k p = some true := by
 obtain ⟨k, hk⟩ : ∃ k : Nat, k = 400000 := ⟨_, rfl⟩
 refine ⟨k, ?_⟩
 have hk : 400000 ≤ k := by omega
 have hf := A0y k (by omega) p
 cases hF : Oh p with
 | false =>
  rw [hF] at hf
  obtain ⟨a0, a1, a2, a3, a4, a5, a6, a7⟩ := p
  rw [Ack, S9, hf]
  rfl
 | true =>
  rw [hF] at hf
  have hS := planF_S hF
  have h3 := T9 k (by omega) p hS
  have h4 := Adz k (by omega) p hS
  have hA := (Aws k hk).1
  cases hB : Cl p with
  | false =>
   have h1 := A86 k (by omega) p hS hB
   have h2 := A9x k (by omega) p hS hB
   rw [hB] at h3 h4
   obtain ⟨a0, a1, a2, a3, a4, a5, a6, a7⟩ := p
   rw [Ack, S9, hf, Option.bind_some, h1, Option.bind_some, h2, Option.bind_some, h3, Option.bind_some, h4, Option.bind_some, hA]
   rfl
  | true =>
   have h1 := Asg k (by omega) p hS hB
   have h2 := A9y k (by omega) p hS hB
   rw [hB] at h3 h4
   generalize Bh p = T at h1 h2
   obtain ⟨a0, a1, a2, a3, a4, a5, a6, a7⟩ := p
   rw [Ack, S9, hf, Option.bind_some, h1, Option.bind_some, h2, Option.bind_some, h3, Option.bind_some, h4, Option.bind_some, hA]
   simp only
   rw [beq_self_eq_true]
   rfl
end Go.Proofs.YtcmmgllmncllfaaGreatDoorV
