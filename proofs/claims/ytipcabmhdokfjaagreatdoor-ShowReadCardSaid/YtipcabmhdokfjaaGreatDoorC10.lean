import Derived.Test.YtipcabmhdokfjaaGreatDoorC9
import Derived.Test.YtipcabmhdokfjaaGreatDoorC5
import Derived.Test.YtipcabmhdokfjaaGreatDoorC8
/-! Joined, names shortened: SZ, SW, NT, NU, SA, PL, PM, PN, PQ, PR, PS, PT, PU, PV, PW, QF, QG, QH, QJ. -/
set_option linter.unusedVariables false
set_option linter.unusedSimpArgs false
namespace Go.Proofs.YtipcabmhdokfjaaGreatDoorV
open Go Go.RowKit
def ind : Nat → List Int
 | 0 => []
 | d + 1 => 32 :: 32 :: ind d
def Bq (d : Nat) (ws : List (List Int)) (e : List Int) : List Int := ind d ++ (Ci ([32] : List Int) ws ++ (e ++ ([10] : List Int)))
theorem Du {l : List Int} (h : l.all (fun x => decide (0 ≤ x) && decide (x ≤ 255)) = true) : byB l := by
 intro x hx
 have := List.all_eq_true.1 h x hx
 simp at this
 omega
theorem Zt {a b : List Int} (ha : byB a) (hb : byB b) : byB (a ++ b) := fun x hx => by
 rcases List.mem_append.1 hx with h | h
 ·exact ha x h
 ·exact hb x h
theorem A9t (a b : Int) : byB (Em a b) := Zt (Zt (L9 a) (Du (by decide))) (L9 b)
theorem Bhv (k d : Nat) (hd : d ≤ 2) : Wi k (([32, 32] : List Int), (d : Int)) = some (ind d) := by
 rcases d with _ | _ | _ | d
 ·rfl
 ·rfl
 ·rfl
 ·omega
theorem Ao0 (k : Nat) (a buf : List Int) (b : Bool) (d : Int) (h : buf.length + a.length ≤ 1000000) : Fx k (a, b, d, buf) = some ((a.length : Int), false, d, buf ++ a) := by
 rw [Bea, Al9]
 show (app 1 buf a fun o2 => some (((List.length a : Nat) : Int), false, d, o2)) = _
 rw [Ce (by omega) (by omega)]
theorem Bf1 (k : Nat) (e : List Int) (ws : List (List Int)) (b : Bool) (d : Nat) (buf : List Int) (hd : d ≤ 2) (hw : ∀ w ∈ ws, byB w) (hn : ws.length ≤ 1000) (h : buf.length + (Bq d ws e).length ≤ 1000000) :
  (((Fx k) (ind d, b, (d : Int), buf)).bind fun o2 => ((Lf k) (ws, ([32] : List Int))).bind fun o3 => ((Fx k) (o3, o2.2.1, o2.2.2.1, o2.2.2.2)).bind fun o4 => ((Fx k) (e, o4.2.1, o4.2.2.1, o4.2.2.2)).bind fun o5 => ((Qn k) ((10 : Int), o5.2.1, o5.2.2.1, o5.2.2.2)).bind fun o6 => some (o6.1, o6.2.1, o6.2.2)) =
   some (false, (d : Int), buf ++ Bq d ws e) := by
 unfold Bq at h
 rw [List.length_append, List.length_append, List.length_append] at h
 have e1 : List.length ([10] : List Int) = 1 := rfl
 have hj : Lf k (ws, ([32] : List Int)) = some (Ci ([32] : List Int) ws) := Bfn _ _ (Du (by decide)) hw (by omega) (by omega)
 rw [Ao0 k _ _ _ _ (by omega), Option.bind_some, hj, Option.bind_some, Ao0 k _ _ _ _ (by simp only [List.length_append]; omega), Option.bind_some, Ao0 k _ _ _ _ (by simp only [List.length_append]; omega), Option.bind_some, Cah, Bd6]
 show ((app 1 (((buf ++ ind d) ++ Ci ([32] : List Int) ws) ++ e) ([10] : List Int) fun o2 => some (false, (d : Int), o2)).bind fun o6 => some (o6.1, o6.2.1, o6.2.2)) = _
 rw [Ce (by simp only [List.length_append]; omega) (by simp only [List.length_append]; omega), Option.bind_some]
 unfold Bq
 simp only [List.append_assoc]
theorem Ew (k : Nat) (e : List Int) (ws : List (List Int)) (b : Bool) (d : Nat) (buf : List Int) (hd : d ≤ 2) (hw : ∀ w ∈ ws, byB w) (hn : ws.length ≤ 1000) (h : buf.length + (Bq d ws e).length ≤ 1000000) :
  B0 k (e, ws, b, (d : Int), buf) = some (false, (d : Int), buf ++ Bq d ws e) := by
 rw [B91, Bdg]
 simp only [Bhv k d hd, Option.bind_some]
 exact Bf1 k e ws b d buf hd hw hn h
theorem Cb8 (k : Nat) (e : List Int) (ws : List (List Int)) (d : Nat) (hd : d ≤ 2) (hw : ∀ w ∈ ws, byB w) (hn : ws.length ≤ 1000) (h : (Bq d ws e).length ≤ 1000000) :
  Ql k (e, ws, true, (d : Int)) = some (false, (d : Int), Bq d ws e) := by
 rw [B93, Bdk]
 simp only [Bhv k d hd, Option.bind_some]
 have hw1 : Wf k (ind d, true, (d : Int)) = Fx k (ind d, true, (d : Int), []) := by
  rw [Cak, Bee, Bea, Al9]
 rw [hw1]
 exact Bf1 k e ws true d [] hd hw hn (by simpa using h)
section
variable (k : Nat)
theorem Cdw (h : YT1) (buf : List Int) (b : Bool) (hb : Eo h = true) (hl : buf.length + (Dc h).length ≤ 1000000) :
  We k (h.1, h.2.1, h.2.2.1, h.2.2.2.1.1, h.2.2.2.1.2.1, h.2.2.2.2.1, h.2.2.2.2.2.1, h.2.2.2.2.2.2.1, h.2.2.2.2.2.2.2.1, h.2.2.2.2.2.2.2.2.1, h.2.2.2.2.2.2.2.2.2.1, b, 1, buf) = some (false, 1, buf ++ Dc h) := by
 obtain ⟨q0, q1, q2, q3, q4, q5, q6, q7, q8, q9⟩ := Am0 hb
 rw [B9z, Bdc]
 simp only [Dp k q1, Dp k q2, A9x k q3 q4, Dp k q5, Dp k q6, Dp k q7, Dp k q8, Dp k q9, Option.bind_some]
 have e : Bq 1 [([104, 101, 97, 100] : List Int), h.1, ([118, 111, 108, 117, 109, 101] : List Int), numT h.2.1, ([102, 108, 111, 119] : List Int), numT h.2.2.1, ([117, 115, 101] : List Int), Em h.2.2.2.1.1 h.2.2.2.1.2.1, ([115, 112, 101, 101, 100] : List Int), numT h.2.2.2.2.1, ([103, 114, 97, 100, 101] : List Int), numT h.2.2.2.2.2.1, ([119, 105, 100, 116, 104] : List Int), numT h.2.2.2.2.2.2.1, ([108, 101, 110, 103, 116, 104] : List Int), numT h.2.2.2.2.2.2.2.1, ([103, 114, 101, 101, 110] : List Int), numT h.2.2.2.2.2.2.2.2.1] ([59] : List Int) = Dc h := by (simp only [Bq, ind, Ci, Dc, Fj, pedT, pedP, Dr, Ez, foeT, foeP, Cu, Fn, Cz, Di, B8, List.flatten_cons, List.flatten_nil, List.append_nil, List.append_assoc, List.cons_append, List.nil_append])
 have L := Ew k ([59] : List Int) [([104, 101, 97, 100] : List Int), h.1, ([118, 111, 108, 117, 109, 101] : List Int), numT h.2.1, ([102, 108, 111, 119] : List Int), numT h.2.2.1, ([117, 115, 101] : List Int), Em h.2.2.2.1.1 h.2.2.2.1.2.1, ([115, 112, 101, 101, 100] : List Int), numT h.2.2.2.2.1, ([103, 114, 97, 100, 101] : List Int), numT h.2.2.2.2.2.1, ([119, 105, 100, 116, 104] : List Int), numT h.2.2.2.2.2.2.1, ([108, 101, 110, 103, 116, 104] : List Int), numT h.2.2.2.2.2.2.2.1, ([103, 114, 101, 101, 110] : List Int), numT h.2.2.2.2.2.2.2.2.1] b 1 buf (by omega)
  (by
   have hn := (Ex q0).1
   intro w hw
   simp only [List.mem_cons, List.not_mem_nil, or_false] at hw
   rcases hw with rfl | rfl | rfl | rfl | rfl | rfl | rfl | rfl | rfl | rfl | rfl | rfl | rfl | rfl | rfl | rfl | rfl | rfl
   all_goals first | exact hn | exact L9 _ | exact A9t _ _ | exact Du (by decide))
  (by simp) (by rw [e]; exact hl)
 rw [e] at L
 show ((B0 k) (_, _, b, ((1 : Nat) : Int), buf)).bind _ = _
 unfold Em at L
 rw [L]
 rfl
theorem Cdr (hk : 1000 ≤ k) (g : List YT4 × Unit) (buf : List Int) (hb : En g = true) (hl : buf.length + (g.1.flatMap E6).length ≤ 1000000) :
  Qk k (g.1, false, 2, buf) = some (false, 2, buf ++ g.1.flatMap E6) := by
 unfold En at hb
 simp only [Bool.and_eq_true, Bool.not_eq_true', decide_eq_false_iff_not, List.all_eq_true] at hb
 rw [B9w, Alx]
 refine Jb 1000000 g.1 E6 (fun j i b => (D6 k).L 2 [] j (Nu (g.1, ((g.1.length : Nat) : Int), i, false, 2, b))) (fun b => some (false, 2, b))
  (fun j i r b hr hh => ?_) (fun j b hh => by rw [Bc8, Xs, Ca]) k buf (by omega) hl
 have hrow := On (hb.2.2 r (Ei hr))
 have hlst := Ye (hb.2.2 r (Ei hr))
 have hby : ∀ w ∈ r.2.1, byB w := fun w hw => (Ex (hrow.2 w hw)).1
 have hlb : byB (B8 r.2.1) := Am2 _ (Du (by decide)) _ hby
 have hls : Lc k r.2.1 = some (B8 r.2.1) := Bf2 k r.2.1 hby (by unfold B8 at hlst; omega) (by omega)
 rw [Bc8, Xs, B9 hr, A5 hr]
 have fin : ∀ ws : List (List Int), ws.length ≤ 10 → (∀ w ∈ ws, byB w) → Bq 2 (ws ++ [B8 r.2.1]) ([59] : List Int) = E6 r →
   (D6 k).J 7 [j] (R9 (g.1, ((g.1.length : Nat) : Int), (i : Int), false, 2, r.1, r.2.1, ws, b)) = (D6 k).L 2 [] j (Nu (g.1, ((g.1.length : Nat) : Int), ((i + 1 : Nat) : Int), false, 2, b ++ E6 r)) := by
  intro ws hw1 hw2 he
  rw [B9x, Aly, hls, Option.bind_some, Ce (by simp; omega) (by simp; omega)]
  have L := Ew k ([59] : List Int) (ws ++ [B8 r.2.1]) false 2 b (by omega) (by
    intro w hw
    rcases List.mem_append.1 hw with h | h
    ·exact hw2 w h
    ·rw [List.mem_singleton.1 h]; exact hlb) (by simp; omega) (by rw [he]; omega)
  rw [he] at L
  rw [show (2 : Int) = ((2 : Nat) : Int) from rfl, L, Option.bind_some, Cd hr (by omega)]
 cases hf : r.1
 ·rw [hf] at fin
  rw [cond_false]
  refine fin [([114, 105, 110, 103] : List Int)] (by simp) (by intro w hw; rw [List.mem_singleton.1 hw]; exact Du (by decide)) ?_
  unfold E6
  rw [hf]
  simp only [cond_false]
  (simp only [Bq, ind, Ci, Dc, Fj, pedT, pedP, Dr, Ez, foeT, foeP, Cu, Fn, Cz, Di, B8, List.flatten_cons, List.flatten_nil, List.append_nil, List.append_assoc, List.cons_append, List.nil_append])
 ·rw [hf] at fin
  rw [cond_true, Ce (by simp) (by simp)]
  refine fin [([114, 105, 110, 103] : List Int), ([102, 114, 101, 101] : List Int)] (by simp) (by
   intro w hw
   simp only [List.mem_cons, List.not_mem_nil, or_false] at hw
   rcases hw with rfl | rfl <;> exact Du (by decide)) ?_
  unfold E6
  rw [hf]
  simp only [cond_true]
  (simp only [Bq, ind, Ci, Dc, Fj, pedT, pedP, Dr, Ez, foeT, foeP, Cu, Fn, Cz, Di, B8, List.flatten_cons, List.flatten_nil, List.append_nil, List.append_assoc, List.cons_append, List.nil_append])
theorem Cdg (hk : 1000 ≤ k) (g : List YT4 × Unit) (buf : List Int) (hb : En g = true) (hl : buf.length + (It g).length ≤ 1000000) :
  Wd k ([([103, 114, 111, 117, 112] : List Int)], false, 1, g.1, buf) = some (false, 1, g.1, buf ++ It g) := by
 have e1 : Bq 1 [([103, 114, 111, 117, 112] : List Int)] ([32, 123] : List Int) = ([32, 32, 103, 114, 111, 117, 112, 32, 123, 10] : List Int) := rfl
 have e2 : Bq 1 [] ([125] : List Int) = ([32, 32, 125, 10] : List Int) := rfl
 unfold It at hl ⊢
 rw [List.length_append, List.length_append] at hl
 have L1 := Ew k ([32, 123] : List Int) [([103, 114, 111, 117, 112] : List Int)] false 1 buf (by omega) (by intro w hw; rw [List.mem_singleton.1 hw]; exact Du (by decide)) (by simp) (by rw [e1]; omega)
 rw [e1] at L1
 have LG := Cdr k hk g (buf ++ ([32, 32, 103, 114, 111, 117, 112, 32, 123, 10] : List Int)) hb (by rw [List.length_append]; omega)
 have L2 := Ew k ([125] : List Int) [] false 1 (buf ++ ([32, 32, 103, 114, 111, 117, 112, 32, 123, 10] : List Int) ++ g.1.flatMap E6) (by omega) (by simp) (by simp) (by rw [e2, List.length_append, List.length_append]; omega)
 rw [e2] at L2
 rw [B9q, Bcx]
 show (B0 k (_, _, _, ((1 : Nat) : Int), _)).bind _ = _
 rw [L1, Option.bind_some, B96, Bdo]
 show ((Qk k (g.1, false, 2, buf ++ ([32, 32, 103, 114, 111, 117, 112, 32, 123, 10] : List Int))).bind _).bind _ = _
 rw [LG, Option.bind_some, Option.bind_some]
 show (B0 k (_, _, _, ((1 : Nat) : Int), _)).bind _ = _
 rw [L2, Option.bind_some]
 simp only [List.append_assoc]
 rfl
end
theorem Aq1 (a b c d e : Int) (r : List Int) : Di a b c d e ++ r ≠ [] := by
 unfold Di
 rw [List.flatten_cons]
 simp
section
variable (k : Nat) (hk : 1000 ≤ k)
include hk
theorem Ceh (n : YT6) (buf : List Int) (hb : Dn n = true) (hl : buf.length + (Jl n).length ≤ 1000000) :
  Qm k (n.1, n.2.1, n.2.2.1, n.2.2.2.1, n.2.2.2.2.1, n.2.2.2.2.2.1, n.2.2.2.2.2.2.1, false, 1, buf) = some (false, 1, buf ++ Jl n) := by
 obtain ⟨a0, a1, a2, a3, a4, a5, a6, a7⟩ := n
 unfold Dn at hb
 simp only [Bool.and_eq_true, List.all_eq_true] at hb
 obtain ⟨h0, h1, h2, h3, h4, h5, p1, p2, p3, p4, p5⟩ := hb
 have h1 : ((a1.length : Nat) : Int) ≤ 16 := C3 h1
 have h2 : ((a2.length : Nat) : Int) ≤ 8 := C3 h2
 have h3 : ((a3.length : Nat) : Int) ≤ 16 := C3 h3
 have h4 : ((a4.length : Nat) : Int) ≤ 4 := C3 h4
 have h5 : ((a5.length : Nat) : Int) ≤ 64 := C3 h5
 have L5 := Jb 1000000 a5 foeT (fun j i b => (Bs k).L 22 [] j (Nx (a5, ((a5.length : Nat) : Int), i, false, 1, b))) (fun b => some (false, 1, b))
  (fun j i x b hx hb => by
   have hp := p5 x (Ei hx)
   unfold foeB at hp
   simp only [Bool.and_eq_true] at hp
   have e : Bq 1 [([102, 111, 101] : List Int), x.1, x.2.1] ([59] : List Int) = foeT x := by (simp only [Bq, ind, Ci, Dc, Fj, pedT, pedP, Dr, Ez, foeT, foeP, Cu, Fn, Cz, Di, B8, List.flatten_cons, List.flatten_nil, List.append_nil, List.append_assoc, List.cons_append, List.nil_append])
   have L := Ew k ([59] : List Int) [([102, 111, 101] : List Int), x.1, x.2.1] false 1 b (by omega) (by
    intro w hw
    simp only [List.mem_cons, List.not_mem_nil, or_false] at hw
    rcases hw with rfl | rfl | rfl
    ·exact Du (by decide)
    ·exact (Ex hp.1).1
    ·exact (Ex hp.2.1).1) (by simp) (by rw [e]; exact hb)
   rw [e] at L
   rw [Bdu, Xw, B9 hx, A5 hx]
   show (B0 k (_, _, _, ((1 : Nat) : Int), _)).bind _ = _
   rw [L, Option.bind_some, Cd hx (by omega)]
   rfl)
  (fun j b hb => by rw [Bdu, Xw, Ca]) k
 have L4 := Jb 1000000 a4 It (fun j i b => (Bs k).L 17 [] j (Nw (a4, ((a4.length : Nat) : Int), i, false, 1, a0, a1, a2, a3, a4, a5, a6, b))) (fun b => (Bs k).L 22 [] k (Nx (a5, ((a5.length : Nat) : Int), 0, false, 1, b)))
  (fun j i x b hx hb => by
   rw [Bds, Xu, B9 hx, A5 hx, Cdg k hk x b (p4 x (Ei hx)) hb, Option.bind_some, Cd hx (by omega)])
  (fun j b hb => by rw [Bds, Xu, Ca]) k
 have L3 := Jb 1000000 a3 Dr (fun j i b => (Bs k).L 12 [] j (Nv (a3, ((a3.length : Nat) : Int), i, false, 1, a0, a1, a2, a3, a4, a5, a6, b))) (fun b => (Bs k).L 17 [] k (Nw (a4, ((a4.length : Nat) : Int), 0, false, 1, a0, a1, a2, a3, a4, a5, a6, b)))
  (fun j i x b hx hb => by
   have hp := p3 x (Ei hx)
   unfold Ey at hp
   simp only [Bool.and_eq_true] at hp
   have hrow := On hp.2.1
   have hlst := Ye hp.2.1
   have hby : ∀ w ∈ x.2.1, byB w := fun w hw => (Ex (hrow.2 w hw)).1
   have hlb : byB (B8 x.2.1) := Am2 _ (Du (by decide)) _ hby
   have hls : Lc k x.2.1 = some (B8 x.2.1) := Bf2 k x.2.1 hby (by unfold B8 at hlst; omega) (by omega)
   have hnm := Ex hp.1
   have e : Bq 1 [([112, 104, 97, 115, 101] : List Int), x.1 ++ ([58] : List Int), B8 x.2.1] ([59] : List Int) = Dr x := by
    generalize hg : B8 x.2.1 = g
    simp only [Dr, Ez, hg]
    (simp only [Bq, ind, Ci, Dc, Fj, pedT, pedP, Dr, Ez, foeT, foeP, Cu, Fn, Cz, Di, B8, List.flatten_cons, List.flatten_nil, List.append_nil, List.append_assoc, List.cons_append, List.nil_append])
   have L := Ew k ([59] : List Int) [([112, 104, 97, 115, 101] : List Int), x.1 ++ ([58] : List Int), B8 x.2.1] false 1 b (by omega) (by
    intro w hw
    simp only [List.mem_cons, List.not_mem_nil, or_false] at hw
    rcases hw with rfl | rfl | rfl
    ·exact Du (by decide)
    ·exact Zt hnm.1 (Du (by decide))
    ·exact hlb) (by simp) (by rw [e]; exact hb)
   rw [e] at L
   rw [Bdr, Xt, B9 hx, A5 hx, Zx (by have := hnm.2.1; simp; omega), hls, Option.bind_some]
   show (B0 k (_, _, _, ((1 : Nat) : Int), _)).bind _ = _
   rw [L, Option.bind_some, Cd hx (by omega)]
   rfl)
  (fun j b hb => by rw [Bdr, Xt, Ca]) k
 have L2 := Jb 1000000 a2 pedT (fun j i b => (Bs k).L 7 [] j (Ny (a2, ((a2.length : Nat) : Int), i, false, 1, a0, a1, a2, a3, a4, a5, a6, b))) (fun b => (Bs k).L 12 [] k (Nv (a3, ((a3.length : Nat) : Int), 0, false, 1, a0, a1, a2, a3, a4, a5, a6, b)))
  (fun j i x b hx hb => by
   obtain ⟨n1, n2, q1, q2, q3⟩ := Bhf (p2 x (Ei hx))
   have e : Bq 1 [([119, 97, 108, 107] : List Int), x.1, ([119, 105, 116, 104] : List Int), x.2.1, ([108, 111, 110, 103] : List Int), numT x.2.2.1, ([112, 97, 99, 101] : List Int), numT x.2.2.2.1, ([108, 101, 97, 115, 116] : List Int), numT x.2.2.2.2.1] ([59] : List Int) = pedT x := by (simp only [Bq, ind, Ci, Dc, Fj, pedT, pedP, Dr, Ez, foeT, foeP, Cu, Fn, Cz, Di, B8, List.flatten_cons, List.flatten_nil, List.append_nil, List.append_assoc, List.cons_append, List.nil_append])
   have L := Ew k ([59] : List Int) [([119, 97, 108, 107] : List Int), x.1, ([119, 105, 116, 104] : List Int), x.2.1, ([108, 111, 110, 103] : List Int), numT x.2.2.1, ([112, 97, 99, 101] : List Int), numT x.2.2.2.1, ([108, 101, 97, 115, 116] : List Int), numT x.2.2.2.2.1] false 1 b (by omega) (by
    intro w hw
    simp only [List.mem_cons, List.not_mem_nil, or_false] at hw
    rcases hw with rfl | rfl | rfl | rfl | rfl | rfl | rfl | rfl | rfl | rfl
    all_goals first | exact (Ex n1).1 | exact (Ex n2).1 | exact L9 _ | exact Du (by decide)) (by simp) (by rw [e]; exact hb)
   rw [e] at L
   rw [Bdv, Xx, B9 hx, A5 hx, Dp k q1, Option.bind_some, Dp k q2, Option.bind_some, Dp k q3, Option.bind_some]
   show (B0 k (_, _, _, ((1 : Nat) : Int), _)).bind _ = _
   rw [L, Option.bind_some, Cd hx (by omega)]
   rfl)
  (fun j b hb => by rw [Bdv, Xx, Ca]) k
 have L1 := Jb 1000000 a1 Dc (fun j i b => (Bs k).L 2 [] j (Sa (a1, ((a1.length : Nat) : Int), i, false, 1, a0, a1, a2, a3, a4, a5, a6, b))) (fun b => (Bs k).L 7 [] k (Ny (a2, ((a2.length : Nat) : Int), 0, false, 1, a0, a1, a2, a3, a4, a5, a6, b)))
  (fun j i x b hx hb => by
   rw [Bdt, Xv, B9 hx, A5 hx, Cdw k x b false (p1 x (Ei hx)) hb, Option.bind_some, Cd hx (by omega)])
  (fun j b hb => by rw [Bdt, Xv, Ca]) k
 simp only [Jl, List.length_append, ← Nat.add_assoc] at hl
 rw [B97, Al6, L1 _ (by omega) (by omega), L2 _ (by omega) (by (simp only [List.flatten_cons, List.flatten_nil, List.append_nil, List.length_append, List.length_cons, List.length_nil, Nat.reduceAdd, ← Nat.add_assoc]; omega)), L3 _ (by omega) (by (simp only [List.flatten_cons, List.flatten_nil, List.append_nil, List.length_append, List.length_cons, List.length_nil, Nat.reduceAdd, ← Nat.add_assoc]; omega)), L4 _ (by omega) (by (simp only [List.flatten_cons, List.flatten_nil, List.append_nil, List.length_append, List.length_cons, List.length_nil, Nat.reduceAdd, ← Nat.add_assoc]; omega)), L5 _ (by omega) (by (simp only [List.flatten_cons, List.flatten_nil, List.append_nil, List.length_append, List.length_cons, List.length_nil, Nat.reduceAdd, ← Nat.add_assoc]; omega))]
 simp only [Jl, List.append_assoc]
theorem Cdi (n : YT6) (buf : List Int) (hb : Dn n = true) (hl : buf.length + (Ix n).length ≤ 1000000) :
  Wc k ([([110, 111, 100, 101] : List Int), n.1], false, 0, n.1, n.2.1, n.2.2.1, n.2.2.2.1, n.2.2.2.2.1, n.2.2.2.2.2.1, n.2.2.2.2.2.2.1, buf) =
   some (false, 0, n.1, n.2.1, n.2.2.1, n.2.2.2.1, n.2.2.2.2.1, n.2.2.2.2.2.1, n.2.2.2.2.2.2.1, buf ++ Ix n) := by
 have hnm : Bw n.1 = true := by
  unfold Dn at hb
  simp only [Bool.and_eq_true] at hb
  exact hb.1
 have e1 : Bq 0 [([110, 111, 100, 101] : List Int), n.1] ([32, 123] : List Int) = ([110, 111, 100, 101, 32] : List Int) ++ (n.1 ++ ([32, 123, 10] : List Int)) := by (simp only [Bq, ind, Ci, Dc, Fj, pedT, pedP, Dr, Ez, foeT, foeP, Cu, Fn, Cz, Di, B8, List.flatten_cons, List.flatten_nil, List.append_nil, List.append_assoc, List.cons_append, List.nil_append])
 have e2 : Bq 0 [] ([125] : List Int) = ([125, 10] : List Int) := rfl
 unfold Ix at hl ⊢
 simp only [List.length_append, ← Nat.add_assoc] at hl
 have L1 := Ew k ([32, 123] : List Int) [([110, 111, 100, 101] : List Int), n.1] false 0 buf (by omega) (by
  intro w hw
  simp only [List.mem_cons, List.not_mem_nil, or_false] at hw
  rcases hw with rfl | rfl
  ·exact Du (by decide)
  ·exact (Ex hnm).1) (by simp) (by rw [e1]; simp only [List.length_append, ← Nat.add_assoc]; omega)
 rw [e1] at L1
 have LG := Ceh k hk n (buf ++ (([110, 111, 100, 101, 32] : List Int) ++ (n.1 ++ ([32, 123, 10] : List Int)))) hb (by simp only [List.length_append, ← Nat.add_assoc]; omega)
 have L2 := Ew k ([125] : List Int) [] false 0 (buf ++ (([110, 111, 100, 101, 32] : List Int) ++ (n.1 ++ ([32, 123, 10] : List Int))) ++ Jl n) (by omega) (by simp) (by simp) (by rw [e2]; simp only [List.length_append, ← Nat.add_assoc]; omega)
 rw [e2] at L2
 rw [B9u, Bc5]
 show (B0 k (_, _, _, ((0 : Nat) : Int), _)).bind _ = _
 rw [L1, Option.bind_some, B8b, Baa]
 show ((Qm k (n.1, n.2.1, n.2.2.1, n.2.2.2.1, n.2.2.2.2.1, n.2.2.2.2.2.1, n.2.2.2.2.2.2.1, false, 1, buf ++ (([110, 111, 100, 101, 32] : List Int) ++ (n.1 ++ ([32, 123, 10] : List Int))))).bind _).bind _ = _
 rw [LG, Option.bind_some, Option.bind_some]
 show (B0 k (_, _, _, ((0 : Nat) : Int), _)).bind _ = _
 rw [L2, Option.bind_some]
 simp only [List.append_assoc]
 rfl
theorem Cdc (n : NetT) (buf : List Int) (hb : netB n = true) (hl : buf.length + (n.2.2.2.2.2.2.1.flatMap Cu).length + (Cz n.2.2.2.2.2.2.2.1 n.2.2.2.2.2.2.2.2).length ≤ 900000) :
  Qj k (n.1, n.2.1, n.2.2.1, n.2.2.2.1, n.2.2.2.2.1, n.2.2.2.2.2.1, n.2.2.2.2.2.2.1, n.2.2.2.2.2.2.2.1, n.2.2.2.2.2.2.2.2, false, 1, buf) =
   some (false, 1, buf ++ (n.2.2.2.2.2.2.1.flatMap Cu ++ Cz n.2.2.2.2.2.2.2.1 n.2.2.2.2.2.2.2.2)) := by
 obtain ⟨a0, a1, a2, a3, a4, a5, a6, a7, a8⟩ := n
 unfold netB at hb
 simp only [Bool.and_eq_true, List.all_eq_true] at hb
 obtain ⟨q0, q1, q2, ⟨q3, q4⟩, q7, q8, h1, h2, p1, p2⟩ := hb
 have h2 : ((a6.length : Nat) : Int) ≤ 12 := C3 h2
 simp only at hl ⊢
 have w1 := Cl a7
 have w2 := Cl a8
 have e2 : Bq 1 [([119, 101, 105, 103, 104, 116, 115] : List Int), numT a7, numT a8] ([59] : List Int) = Cz a7 a8 := by (simp only [Bq, ind, Ci, Dc, Fj, pedT, pedP, Dr, Ez, foeT, foeP, Cu, Fn, Cz, Di, B8, List.flatten_cons, List.flatten_nil, List.append_nil, List.append_assoc, List.cons_append, List.nil_append])
 have hw : (Cz a7 a8).length ≤ 100 := by unfold Cz; (simp only [List.flatten_cons, List.flatten_nil, List.append_nil, List.length_append, List.length_cons, List.length_nil, Nat.reduceAdd, ← Nat.add_assoc]; omega)
 rw [B9o, Als]
 refine (Jb 900000 a6 Cu (fun j i b => (Hy k).L 2 [] j (R8 (a6, ((a6.length : Nat) : Int), i, false, 1, a0, a1, a2, a3, a4, a5, a6, a7, a8, b))) (fun b => some (false, 1, b ++ Cz a7 a8))
  (fun j i x b hx hb => ?_) (fun j b hb => ?_) k buf (by omega) ?_).trans (by rw [List.append_assoc])
 ·obtain ⟨n1, n2, n3, q1, q2⟩ := Boc (p2 x (Ei hx))
  have e : Bq 1 [([115, 116, 111, 112] : List Int), x.1, ([111, 117, 116] : List Int), x.2.1, ([105, 110] : List Int), x.2.2.1, ([97, 104, 101, 97, 100] : List Int), numT x.2.2.2.1, ([98, 97, 99, 107] : List Int), numT x.2.2.2.2.1] ([59] : List Int) = Cu x := by (simp only [Bq, ind, Ci, Dc, Fj, pedT, pedP, Dr, Ez, foeT, foeP, Cu, Fn, Cz, Di, B8, List.flatten_cons, List.flatten_nil, List.append_nil, List.append_assoc, List.cons_append, List.nil_append])
  have L := Ew k ([59] : List Int) [([115, 116, 111, 112] : List Int), x.1, ([111, 117, 116] : List Int), x.2.1, ([105, 110] : List Int), x.2.2.1, ([97, 104, 101, 97, 100] : List Int), numT x.2.2.2.1, ([98, 97, 99, 107] : List Int), numT x.2.2.2.2.1] false 1 b (by omega) (by
   intro w hw
   simp only [List.mem_cons, List.not_mem_nil, or_false] at hw
   rcases hw with rfl | rfl | rfl | rfl | rfl | rfl | rfl | rfl | rfl | rfl
   all_goals first | exact (Ex n1).1 | exact (Ex n2).1 | exact (Ex n3).1 | exact L9 _ | exact Du (by decide)) (by simp) (by rw [e]; omega)
  rw [e] at L
  rw [Bcu, Xr, B9 hx, A5 hx, Dp k q1, Option.bind_some, Dp k q2, Option.bind_some]
  show (B0 k (_, _, _, ((1 : Nat) : Int), _)).bind _ = _
  rw [L, Option.bind_some, Cd hx (by omega)]
  rfl
 ·have L := Ew k ([59] : List Int) [([119, 101, 105, 103, 104, 116, 115] : List Int), numT a7, numT a8] false 1 b (by omega) (by
   intro w hw
   simp only [List.mem_cons, List.not_mem_nil, or_false] at hw
   rcases hw with rfl | rfl | rfl
   all_goals first | exact L9 _ | exact Du (by decide)) (by simp) (by rw [e2]; omega)
  rw [e2] at L
  rw [Bcu, Xr, Ca, Dp k (Cc q7), Option.bind_some, Dp k (Cc q8), Option.bind_some]
  show (B0 k (_, _, _, ((1 : Nat) : Int), _)).bind _ = _
  rw [L, Option.bind_some]
  rfl
 ·omega
theorem Cdh (n : NetT) (buf : List Int) (hb : netB n = true) (hl : buf.length + (([97, 114, 116, 101, 114, 121, 32, 123, 10] : List Int) ++ (n.2.2.2.2.2.2.1.flatMap Cu ++ (Cz n.2.2.2.2.2.2.2.1 n.2.2.2.2.2.2.2.2 ++ ([125, 10] : List Int)))).length ≤ 900000) :
  Le k ([([97, 114, 116, 101, 114, 121] : List Int)], false, 0, n.1, n.2.1, n.2.2.1, n.2.2.2.1, n.2.2.2.2.1, n.2.2.2.2.2.1, n.2.2.2.2.2.2.1, n.2.2.2.2.2.2.2.1, n.2.2.2.2.2.2.2.2, buf) =
   some (false, 0, n.1, n.2.1, n.2.2.1, n.2.2.2.1, n.2.2.2.2.1, n.2.2.2.2.2.1, n.2.2.2.2.2.2.1, n.2.2.2.2.2.2.2.1, n.2.2.2.2.2.2.2.2, buf ++ (([97, 114, 116, 101, 114, 121, 32, 123, 10] : List Int) ++ (n.2.2.2.2.2.2.1.flatMap Cu ++ (Cz n.2.2.2.2.2.2.2.1 n.2.2.2.2.2.2.2.2 ++ ([125, 10] : List Int))))) := by
 have e1 : Bq 0 [([97, 114, 116, 101, 114, 121] : List Int)] ([32, 123] : List Int) = ([97, 114, 116, 101, 114, 121, 32, 123, 10] : List Int) := rfl
 have e2 : Bq 0 [] ([125] : List Int) = ([125, 10] : List Int) := rfl
 simp only [List.length_append, ← Nat.add_assoc] at hl
 have L1 := Ew k ([32, 123] : List Int) [([97, 114, 116, 101, 114, 121] : List Int)] false 0 buf (by omega) (by intro w hw; rw [List.mem_singleton.1 hw]; exact Du (by decide)) (by simp) (by rw [e1]; omega)
 rw [e1] at L1
 have LG := Cdc k hk n (buf ++ ([97, 114, 116, 101, 114, 121, 32, 123, 10] : List Int)) hb (by simp only [List.length_append, ← Nat.add_assoc]; omega)
 have L2 := Ew k ([125] : List Int) [] false 0 (buf ++ ([97, 114, 116, 101, 114, 121, 32, 123, 10] : List Int) ++ (n.2.2.2.2.2.2.1.flatMap Cu ++ Cz n.2.2.2.2.2.2.2.1 n.2.2.2.2.2.2.2.2)) (by omega) (by simp) (by simp) (by rw [e2]; simp only [List.length_append, ← Nat.add_assoc]; omega)
 rw [e2] at L2
 rw [B9s, Bc1]
 show (B0 k (_, _, _, ((0 : Nat) : Int), _)).bind _ = _
 rw [L1, Option.bind_some, B8d, Bae]
 show ((Qj k (n.1, n.2.1, n.2.2.1, n.2.2.2.1, n.2.2.2.2.1, n.2.2.2.2.2.1, n.2.2.2.2.2.2.1, n.2.2.2.2.2.2.2.1, n.2.2.2.2.2.2.2.2, false, 1, buf ++ ([97, 114, 116, 101, 114, 121, 32, 123, 10] : List Int))).bind _).bind _ = _
 rw [LG, Option.bind_some, Option.bind_some]
 show (B0 k (_, _, _, ((0 : Nat) : Int), _)).bind _ = _
 rw [L2, Option.bind_some]
 simp only [List.append_assoc]
 rfl
theorem Bn9 (n : NetT) (hs : NetS n) (hb : netB n = true) : My k n = some (netT n, 0) := by
 have hT := Bgp hb
 have hr := Sr k hk n hs
 rw [hb] at hr
 have hb0 := hb
 have B2 := fun buf => Cdh k hk n buf hb
 obtain ⟨a0, a1, a2, a3, a4, a5, a6, a7, a8⟩ := n
 unfold netB at hb
 simp only [Bool.and_eq_true, List.all_eq_true] at hb
 obtain ⟨q0, q1, q2, ⟨q3, q4⟩, q7, q8, h1, h2, p1, p2⟩ := hb
 have h1 : ((a5.length : Nat) : Int) ≤ 12 := C3 h1
 simp only at B2
 have J13 : ∀ buf : List Int, buf ≠ [] → (Db k).J 13 [] (Ir (false, 0, buf)) = some (buf, 0) := by
  intro buf hne
  rw [B8e, Alo]
  unfold Acc strC
  simp only
  rw [if_neg hne]
  rfl
 have L1 := Jb 800000 a5 Ix (fun j i b => (Db k).L 7 [] j (Nt (a5, ((a5.length : Nat) : Int), i, a0, a1, a2, a3, a4, a5, a6, a7, a8, false, 0, b)))
  (fun b => bif artB (a0, a1, a2, a3, a4, a5, a6, a7, a8) then ((Le k) ([([97, 114, 116, 101, 114, 121] : List Int)], false, 0, a0, a1, a2, a3, a4, a5, a6, a7, a8, b)).bind fun o3 => (Db k).J 13 [] (Ir (o3.1, o3.2.1, o3.2.2.2.2.2.2.2.2.2.2.2)) else (Db k).J 13 [] (Ir (false, 0, b)))
  (fun j i x b hx hb => by
   rw [Bai, Xq, B9 hx, A5 hx, Cdi k hk x b (p1 x (Ei hx)) (by omega), Option.bind_some, Cd hx (by omega)])
  (fun j b hb => by
   rw [Bai, Xq, Ca, ← cor, ← cor]
   rfl) k
 have e1 : Bq 0 [([99, 121, 99, 108, 101] : List Int), numT a0, ([116, 111] : List Int), numT a1, ([98, 121] : List Int), numT a2] ([59] : List Int) ++ Bq 0 [([112, 101, 97, 107] : List Int), Em a3 a4] ([59] : List Int) = Di a0 a1 a2 a3 a4 := by
  generalize hg : Em a3 a4 = g
  simp only [Di, hg]
  (simp only [Bq, ind, Ci, Dc, Fj, pedT, pedP, Dr, Ez, foeT, foeP, Cu, Fn, Cz, Di, B8, List.flatten_cons, List.flatten_nil, List.append_nil, List.append_assoc, List.cons_append, List.nil_append])
 unfold netT artT at hT ⊢
 simp only at hT ⊢
 rw [List.length_append, ← e1, List.length_append] at hT
 have F1 := Cb8 k ([59] : List Int) [([99, 121, 99, 108, 101] : List Int), numT a0, ([116, 111] : List Int), numT a1, ([98, 121] : List Int), numT a2] 0 (by omega) (by
  intro w hw
  simp only [List.mem_cons, List.not_mem_nil, or_false] at hw
  rcases hw with rfl | rfl | rfl | rfl | rfl | rfl
  all_goals first | exact L9 _ | exact Du (by decide)) (by simp) (by omega)
 have F2 := Ew k ([59] : List Int) [([112, 101, 97, 107] : List Int), Em a3 a4] false 0 (Bq 0 [([99, 121, 99, 108, 101] : List Int), numT a0, ([116, 111] : List Int), numT a1, ([98, 121] : List Int), numT a2] ([59] : List Int)) (by omega) (by
  intro w hw
  simp only [List.mem_cons, List.not_mem_nil, or_false] at hw
  rcases hw with rfl | rfl
  ·exact Du (by decide)
  ·exact A9t _ _) (by simp) (by omega)
 rw [e1] at F2
 have hcy : (Di a0 a1 a2 a3 a4).length = (Bq 0 [([99, 121, 99, 108, 101] : List Int), numT a0, ([116, 111] : List Int), numT a1, ([98, 121] : List Int), numT a2] ([59] : List Int)).length + (Bq 0 [([112, 101, 97, 107] : List Int), Em a3 a4] ([59] : List Int)).length := by rw [← e1, List.length_append]
 rw [← hcy] at hT
 simp only [Bah, Xp, hr, Dp k (Cc q0), Dp k (Cc q1), Dp k (Cc q2), Option.bind_some, Bool.not_true, cond_false]
 have fr := A9x k (Cc q3) (Cc q4)
 show ((Ql k) (_, _, _, ((0 : Nat) : Int))).bind _ = _
 rw [F1, Option.bind_some, fr, Option.bind_some]
 show ((B0 k) (_, [_, Em a3 a4], _, ((0 : Nat) : Int), _)).bind _ = _
 rw [F2, Option.bind_some]
 rw [List.length_append] at hT
 show (Db k).L 7 [] k (Nt (a5, ((a5.length : Nat) : Int), 0, a0, a1, a2, a3, a4, a5, a6, a7, a8, false, 0, Di a0 a1 a2 a3 a4)) = _
 rw [L1 _ (by omega) (by omega)]
 cases hA : artB (a0, a1, a2, a3, a4, a5, a6, a7, a8)
 ·rw [cond_false, cond_false, J13 _ (Aq1 _ _ _ _ _ _), List.append_nil]
 ·rw [hA, cond_true] at hT
  rw [cond_true, cond_true, B2 _ (by rw [List.length_append]; omega), Option.bind_some]
  show (Db k).J 13 [] (Ir (false, 0, _)) = _
  rw [List.append_assoc, J13 _ (Aq1 _ _ _ _ _ _)]
end
theorem Bf7 {α R : Type} (w : List Int) (most : Int) (item : RS → α × RS) (hi : ∀ x, Adv x (item x).2) (F : Nat → RS → List α → Option R) (cont : RS → List α → Option R)
  (hF : ∀ j x o, EndT x.1 → o.length + x.1.length ≤ 100000 → F (j + 1) x o = bif (A6 w ((o.length : Nat) : Int) most x).1 then F j (item (A6 w ((o.length : Nat) : Int) most x).2).2 (o ++ [(item (A6 w ((o.length : Nat) : Int) most x).2).1]) else cont (A6 w ((o.length : Nat) : Int) most x).2 o) :
  ∀ (f j : Nat) (x : RS) (o : List α), x.1.length < f → x.1.length < j → EndT x.1 → o.length + x.1.length ≤ 100000 → F j x o = cont (Cs w most item f x o).2 (Cs w most item f x o).1
 | 0, j, x, o, h, _, _, _ => by omega
 | f + 1, 0, x, o, _, h, _, _ => by omega
 | f + 1, j + 1, x, o, hf, hj, g, hm => by
  rw [hF j x o g hm, Cs]
  have hb := Ij w ((o.length : Nat) : Int) most x
  cases hc : (A6 w ((o.length : Nat) : Int) most x).1
  ·rfl
  ·have hlt := Bpi hc g
   have ha := hi (A6 w ((o.length : Nat) : Int) most x).2
   have hl := ha.l
   simp only [cond_true]
   exact Bf7 w most item hi F cont hF f j _ _ (by omega) (by omega) (ha.g (hb.g g)) (by simp; omega)
theorem Kn {α R : Type} {w : List Int} {most : Int} {item : RS → α × RS} (hi : ∀ x, Adv x (item x).2) (F : Nat → RS → List α → Option R) (cont : RS → List α → Option R)
  (hF : ∀ j x o, EndT x.1 → o.length + x.1.length ≤ 100000 → F (j + 1) x o = bif (A6 w ((o.length : Nat) : Int) most x).1 then F j (item (A6 w ((o.length : Nat) : Int) most x).2).2 (o ++ [(item (A6 w ((o.length : Nat) : Int) most x).2).1]) else cont (A6 w ((o.length : Nat) : Int) most x).2 o)
  (k : Nat) (hk : 200000 ≤ k) (x : RS) (g : EndT x.1) (hm : x.1.length ≤ 100000) : F k x [] = cont (Aw w most item x).2 (Aw w most item x).1 :=
 Bf7 w most item hi F cont hF _ k x [] (by omega) (by omega) g (by simpa using hm)
section
variable (k : Nat) (hk : 200000 ≤ k)
include hk
theorem Cbh (x : RS) (g : EndT x.1) : Vx k (x.1, x.2.1, x.2.2) = some ((Bf x).1.1, (Bf x).1.2.1, (Bf x).1.2.2.1, (Bf x).1.2.2.2.1.1, (Bf x).1.2.2.2.1.2.1, (Bf x).1.2.2.2.2.1, (Bf x).1.2.2.2.2.2.1, (Bf x).1.2.2.2.2.2.2.1, (Bf x).1.2.2.2.2.2.2.2.1, (Bf x).1.2.2.2.2.2.2.2.2.1, (Bf x).1.2.2.2.2.2.2.2.2.2.1, (Bf x).2.1, (Bf x).2.2.1, (Bf x).2.2.2) := by
 have g1 := (B1 x).g g
 have g2 := (Bm ([118, 111, 108, 117, 109, 101] : List Int) _).g g1
 have g3 := (Bm ([102, 108, 111, 119] : List Int) _).g g2
 have g4 := (S6 ([117, 115, 101] : List Int) _).g g3
 have g5 := (Bm ([115, 112, 101, 101, 100] : List Int) _).g g4
 have g6 := (Bo ([103, 114, 97, 100, 101] : List Int) _).g g5
 rw [B69, Akb, A3 g.ne, Ga k (by omega) x g, Option.bind_some, Dy k _ g1, Option.bind_some, Dy k _ g2, Option.bind_some, A9w k _ g3, Option.bind_some, Dy k _ g4, Option.bind_some, Dg k _ g5, Option.bind_some, L0 k _ g6, Option.bind_some, Iw k _ g6, Option.bind_some]
 unfold Bf
 simp only
 generalize Ah x = n at *
 generalize numR ([118, 111, 108, 117, 109, 101] : List Int) n.2 = v at *
 generalize numR ([102, 108, 111, 119] : List Int) v.2 = s at *
 generalize Dk ([117, 115, 101] : List Int) s.2 = u at *
 generalize numR ([115, 112, 101, 101, 100] : List Int) u.2 = p at *
 generalize Aj ([103, 114, 97, 100, 101] : List Int) p.2 = q at *
 have J14 : ∀ (y : RS) (z : Int), EndT y.1 → (D4 k).J 14 [] (Nl (y.1, y.2.1, y.2.2, ([] : List Int), (0 : Int), (0 : Int), (0 : Int), (0 : Int), (0 : Int), (0 : Int), (0 : Int), (0 : Int), (0 : Int), (0 : Int), n.1, v.1, s.1, u.1.1, u.1.2, p.1, z, (0 : Int), (0 : Int), (0 : Int), (hd x.1).2.2.2.1)) =
   some (n.1, v.1, s.1, u.1.1, u.1.2, p.1, z, (numR ([119, 105, 100, 116, 104] : List Int) y).1, (numR ([108, 101, 110, 103, 116, 104] : List Int) (numR ([119, 105, 100, 116, 104] : List Int) y).2).1, (numR ([103, 114, 101, 101, 110] : List Int) (numR ([108, 101, 110, 103, 116, 104] : List Int) (numR ([119, 105, 100, 116, 104] : List Int) y).2).2).1, (hd x.1).2.2.2.1,
    (Aj ([59] : List Int) (numR ([103, 114, 101, 101, 110] : List Int) (numR ([108, 101, 110, 103, 116, 104] : List Int) (numR ([119, 105, 100, 116, 104] : List Int) y).2).2).2).1, (Aj ([59] : List Int) (numR ([103, 114, 101, 101, 110] : List Int) (numR ([108, 101, 110, 103, 116, 104] : List Int) (numR ([119, 105, 100, 116, 104] : List Int) y).2).2).2).2.1, (Aj ([59] : List Int) (numR ([103, 114, 101, 101, 110] : List Int) (numR ([108, 101, 110, 103, 116, 104] : List Int) (numR ([119, 105, 100, 116, 104] : List Int) y).2).2).2).2.2) := by
  intro y z gy
  have h1 := (Bm ([119, 105, 100, 116, 104] : List Int) _).g gy
  have h2 := (Bm ([108, 101, 110, 103, 116, 104] : List Int) _).g h1
  have h3 := (Bm ([103, 114, 101, 101, 110] : List Int) _).g h2
  rw [B7b, Akd, Dy k _ gy, Option.bind_some, Dy k _ h1, Option.bind_some, Dy k _ h2, Option.bind_some, Dg k _ h3, Option.bind_some]
 have J11 : ∀ (c : Bool) (y : RS), EndT y.1 → (D4 k).J 11 [] (R1 (c, y.1, y.2.1, y.2.2, ([] : List Int), (0 : Int), (0 : Int), (0 : Int), (0 : Int), (0 : Int), (0 : Int), (0 : Int), (0 : Int), (0 : Int), (0 : Int), n.1, v.1, s.1, u.1.1, u.1.2, p.1, (0 : Int), (0 : Int), (0 : Int), (0 : Int), (hd x.1).2.2.2.1)) =
   (D4 k).J 14 [] (Nl ((numR [] y).2.1, (numR [] y).2.2.1, (numR [] y).2.2.2, ([] : List Int), (0 : Int), (0 : Int), (0 : Int), (0 : Int), (0 : Int), (0 : Int), (0 : Int), (0 : Int), (0 : Int), (0 : Int), n.1, v.1, s.1, u.1.1, u.1.2, p.1, (bif c then negI .i64 (numR [] y).1 else (numR [] y).1), (0 : Int), (0 : Int), (0 : Int), (hd x.1).2.2.2.1)) := by
  intro c y gy
  rw [B7a, Akc, Dy k _ gy, Option.bind_some]
  cases c <;> simp only [cond_true, cond_false]
 cases hq : Ay ([45] : List Int) q
 ·simp only [cond_false]
  rw [J11 false q g6, J14 (numR [] q).2 _ ((Bm [] q).g g6)]
  rfl
 ·simp only [cond_true]
  have g7 := (Eh q).g g6
  rw [J11 true (A1 q) g7, J14 (numR [] (A1 q)).2 _ ((Bm [] _).g g7)]
  rfl
theorem Cg2 (x : RS) (g : EndT x.1) : V1 k (x.1, x.2.1, x.2.2) = some ((Bx x).1.1, (Bx x).1.2.1, (Bx x).1.2.2.1, (Bx x).1.2.2.2.1, (Bx x).1.2.2.2.2.1, (Bx x).1.2.2.2.2.2.1, (Bx x).2.1, (Bx x).2.2.1, (Bx x).2.2.2) := by
 have g1 := (B1 x).g g
 have g2 := (Bo ([119, 105, 116, 104] : List Int) _).g g1
 have g3 := (B1 _).g g2
 have g4 := (Bm ([108, 111, 110, 103] : List Int) _).g g3
 have g5 := (Bm ([112, 97, 99, 101] : List Int) _).g g4
 have g6 := (Bm ([108, 101, 97, 115, 116] : List Int) _).g g5
 rw [B70, A9i, A3 g.ne, Ga k (by omega) x g, Option.bind_some, Dg k _ g1, Option.bind_some, Ga k (by omega) _ g2, Option.bind_some, Dy k _ g3, Option.bind_some, Dy k _ g4, Option.bind_some, Dy k _ g5, Option.bind_some, Dg k _ g6, Option.bind_some]
 rfl
theorem Cbb (x : RS) (g : EndT x.1) (hl : x.1.length ≤ 100000) : Vw k (x.1, x.2.1, x.2.2) = some ((Cx x).2.1, (Cx x).2.2.1, (Cx x).2.2.2, (Cx x).1.1) := by
 have g1 := (Bo ([123] : List Int) x).g g
 have l1 := (Bo ([123] : List Int) x).l
 have L := Kn (w := ([114, 105, 110, 103] : List Int)) (most := 2) S8 (fun j x o => (C1 k).L 5 [] j (Ip (x.1, x.2.1, x.2.2, o))) (fun y o => some ((Aj ([125] : List Int) y).1, (Aj ([125] : List Int) y).2.1, (Aj ([125] : List Int) y).2.2, o))
  (fun j x o g hm => by
   have hb := Ij ([114, 105, 110, 103] : List Int) ((o.length : Nat) : Int) 2 x
   have gb := hb.g g
   have lb := hb.l
   rw [B67, Aj7, J7 k x g, Option.bind_some]
   generalize A6 ([114, 105, 110, 103] : List Int) ((o.length : Nat) : Int) 2 x = y at *
   simp only
   rw [L0 k y.2 gb, Option.bind_some, Iw k y.2 gb, Option.bind_some, Dg k y.2 gb, Option.bind_some]
   have J10 : ∀ (c : Bool) (z : RS), EndT z.1 → z.1.length ≤ 100000 → (C1 k).J 10 [j] (R0 (z.1, z.2.1, z.2.2, c, o)) = (C1 k).L 5 [] j (Ip ((Cg 4 z).2.1, (Cg 4 z).2.2.1, (Cg 4 z).2.2.2, o ++ [(c, (Cg 4 z).1, ())])) := by
    intro c z gz lz
    rw [B66, Aj6, Bgk k (by omega) 4 z gz (by omega) (by omega), Option.bind_some, Ce (by simp; omega) (by simp; omega)]
   cases y.1
   ·rfl
   ·simp only [cond_true]
    unfold Dz
    cases hs : Ay ([102, 114, 101, 101] : List Int) y.2
    ·simp only [cond_false]
     rw [J10 false y.2 gb (by omega)]
    ·have hn := Eh y.2
     have ln := hn.l
     simp only [cond_true]
     rw [J10 true (A1 y.2) (hn.g gb) (by omega)]) k hk
 rw [B65, Aj5, Dg k x g, Option.bind_some, L0 k _ g1, Option.bind_some, Kf k _ g1, Option.bind_some]
 unfold Cx
 simp only
 generalize Aj ([123] : List Int) x = a at *
 cases Ay ([114, 105, 110, 103] : List Int) a
 ·have hf := Fs 50 a
  have lf := hf.l
  simp only [Bool.not_false, cond_true, cond_false]
  rw [A8n, Xe]
  exact L (A2 50 a) (hf.g g1) (by omega)
 ·simp only [Bool.not_true, cond_true, cond_false]
  rw [A8n, Xe]
  exact L a g1 (by omega)
end
section
variable (k : Nat) (hk : 200000 ≤ k)
include hk
theorem Ccr (x : RS) (g : EndT x.1) (hl : x.1.length ≤ 100000) : Vz k (x.1, x.2.1, x.2.2) =
  some ((Bv x).1.1, (Bv x).1.2.2.2.2.2.2.1, (Bv x).2.1, (Bv x).2.2.1, (Bv x).2.2.2, (Bv x).1.2.1, (Bv x).1.2.2.1, (Bv x).1.2.2.2.1, (Bv x).1.2.2.2.2.1, (Bv x).1.2.2.2.2.2.1) := by
 have g1 := (B1 x).g g
 have l1 := (B1 x).l
 have a2 := Bo ([123] : List Int) (Ah x).2
 have g2 := a2.g g1
 have l2 := a2.l
 rw [B7n, Aku, A3 g.ne, Ga k (by omega) x g, Option.bind_some, Dg k _ g1, Option.bind_some]
 unfold Bv
 simp only
 generalize Ah x = n at *
 generalize Aj ([123] : List Int) n.2 = q at *
 generalize (hd x.1).2.2.2.1 = ps
 have L5 := fun (hs : List YT1) (ws : List YT2) (xs : List YT3) (gs : List (List YT4 × Unit)) => Kn (w := ([102, 111, 101] : List Int)) (most := 64) S5 (fun j x o => (Br k).L 16 [] j (Nn (x.1, x.2.1, x.2.2, [], 0, n.1, ps, hs, ws, xs, gs, o)))
  (fun y o => some (n.1, ps, (Aj ([125] : List Int) y).1, (Aj ([125] : List Int) y).2.1, (Aj ([125] : List Int) y).2.2, hs, ws, xs, gs, o))
  (fun j x o g hm => by
   have hb := Ij ([102, 111, 101] : List Int) ((o.length : Nat) : Int) 64 x
   have gb := hb.g g
   rw [B7p, Akw, J7 k x g, Option.bind_some]
   generalize A6 ([102, 111, 101] : List Int) ((o.length : Nat) : Int) 64 x = y at *
   simp only
   cases y.1
   ·simp only [cond_false]
    rw [Dg k y.2 gb, Option.bind_some]
   ·have h1 := (B1 y.2).g gb
    have h2 := (B1 _).g h1
    simp only [cond_true]
    rw [A3 gb.ne, Ga k (by omega) _ gb, Option.bind_some, Ga k (by omega) _ h1, Option.bind_some, Dg k _ h2, Option.bind_some, Ce (by simp; omega) (by simp; omega)]
    rfl) k hk
 have L4 := fun (hs : List YT1) (ws : List YT2) (xs : List YT3) => Kn (w := ([103, 114, 111, 117, 112] : List Int)) (most := 4) O0 (fun j x o => (Br k).L 14 [] j (Nm (x.1, x.2.1, x.2.2, [], 0, n.1, ps, hs, ws, xs, o)))
  (fun y o => (Br k).L 16 [] k (Nn (y.1, y.2.1, y.2.2, [], 0, n.1, ps, hs, ws, xs, o, [])))
  (fun j x o g hm => by
   have hb := Ij ([103, 114, 111, 117, 112] : List Int) ((o.length : Nat) : Int) 4 x
   have gb := hb.g g
   have lb := hb.l
   rw [B7o, Akv, J7 k x g, Option.bind_some]
   generalize A6 ([103, 114, 111, 117, 112] : List Int) ((o.length : Nat) : Int) 4 x = y at *
   simp only
   cases y.1
   ·simp only [cond_false]
   ·simp only [cond_true]
    rw [Cbb k hk _ gb (by omega), Option.bind_some, Ce (by simp; omega) (by simp; omega)]) k hk
 have L3 := fun (hs : List YT1) (ws : List YT2) => Kn (w := ([112, 104, 97, 115, 101] : List Int)) (most := 16) O2 (fun j x o => (Br k).L 8 [] j (Np (x.1, x.2.1, x.2.2, [], 0, n.1, ps, hs, ws, o)))
  (fun y o => (Br k).L 14 [] k (Nm (y.1, y.2.1, y.2.2, [], 0, n.1, ps, hs, ws, o, [])))
  (fun j x o g hm => by
   have hb := Ij ([112, 104, 97, 115, 101] : List Int) ((o.length : Nat) : Int) 16 x
   have gb := hb.g g
   have lb := hb.l
   rw [B7s, Akz, J7 k x g, Option.bind_some]
   generalize A6 ([112, 104, 97, 115, 101] : List Int) ((o.length : Nat) : Int) 16 x = y at *
   simp only
   cases y.1
   ·simp only [cond_false]
   ·have a1 := (B1 y.2)
    have a2 := (Bo ([58] : List Int) (Ah y.2).2)
    have la := a1.l
    have lw := a2.l
    simp only [cond_true]
    rw [A3 gb.ne, Ga k (by omega) _ gb, Option.bind_some, Dg k _ (a1.g gb), Option.bind_some, Bgk k (by omega) 16 _ (a2.g (a1.g gb)) (by omega) (by omega), Option.bind_some, Ce (by simp; omega) (by simp; omega)]
    rfl) k hk
 have L2 := fun (hs : List YT1) => Kn (w := ([119, 97, 108, 107] : List Int)) (most := 8) O3 (fun j x o => (Br k).L 6 [] j (No (x.1, x.2.1, x.2.2, [], 0, n.1, ps, hs, o)))
  (fun y o => (Br k).L 8 [] k (Np (y.1, y.2.1, y.2.2, [], 0, n.1, ps, hs, o, [])))
  (fun j x o g hm => by
   have hb := Ij ([119, 97, 108, 107] : List Int) ((o.length : Nat) : Int) 8 x
   have gb := hb.g g
   rw [B7r, Aky, J7 k x g, Option.bind_some]
   generalize A6 ([119, 97, 108, 107] : List Int) ((o.length : Nat) : Int) 8 x = y at *
   simp only
   cases y.1
   ·simp only [cond_false]
   ·simp only [cond_true]
    rw [Cg2 k hk _ gb, Option.bind_some, Ce (by simp; omega) (by simp; omega)]) k hk
 have L1 := Kn (w := ([104, 101, 97, 100] : List Int)) (most := 16) O1 (fun j x o => (Br k).L 4 [] j (R3 (x.1, x.2.1, x.2.2, [], 0, n.1, ps, o)))
  (fun y o => (Br k).L 6 [] k (No (y.1, y.2.1, y.2.2, [], 0, n.1, ps, o, [])))
  (fun j x o g hm => by
   have hb := Ij ([104, 101, 97, 100] : List Int) ((o.length : Nat) : Int) 16 x
   have gb := hb.g g
   rw [B7q, Akx, J7 k x g, Option.bind_some]
   generalize A6 ([104, 101, 97, 100] : List Int) ((o.length : Nat) : Int) 16 x = y at *
   simp only
   cases y.1
   ·simp only [cond_false]
   ·simp only [cond_true]
    rw [Cbh k hk _ gb, Option.bind_some, Ce (by simp; omega) (by simp; omega)]) k hk
 have b1 := Fa (w := ([104, 101, 97, 100] : List Int)) (most := 16) O1 q
 have b2 := Fa (w := ([119, 97, 108, 107] : List Int)) (most := 8) O3 (Aw ([104, 101, 97, 100] : List Int) 16 Bf q).2
 have b3 := Fa (w := ([112, 104, 97, 115, 101] : List Int)) (most := 16) O2 (Aw ([119, 97, 108, 107] : List Int) 8 Bx (Aw ([104, 101, 97, 100] : List Int) 16 Bf q).2).2
 have b4 := Fa (w := ([103, 114, 111, 117, 112] : List Int)) (most := 4) O0 (Aw ([112, 104, 97, 115, 101] : List Int) 16 Dq (Aw ([119, 97, 108, 107] : List Int) 8 Bx (Aw ([104, 101, 97, 100] : List Int) 16 Bf q).2).2).2
 have c1 := b1.l
 have c2 := b2.l
 have c3 := b3.l
 have c4 := b4.l
 have d1 := b1.g g2
 have d2 := b2.g d1
 have d3 := b3.g d2
 have d4 := b4.g d3
 have E1 := L1 q g2 (by omega)
 have E2 := L2 (Aw ([104, 101, 97, 100] : List Int) 16 Bf q).1 _ d1 (by omega)
 have E3 := L3 (Aw ([104, 101, 97, 100] : List Int) 16 Bf q).1 (Aw ([119, 97, 108, 107] : List Int) 8 Bx (Aw ([104, 101, 97, 100] : List Int) 16 Bf q).2).1 _ d2 (by omega)
 have E4 := L4 (Aw ([104, 101, 97, 100] : List Int) 16 Bf q).1 (Aw ([119, 97, 108, 107] : List Int) 8 Bx (Aw ([104, 101, 97, 100] : List Int) 16 Bf q).2).1 (Aw ([112, 104, 97, 115, 101] : List Int) 16 Dq (Aw ([119, 97, 108, 107] : List Int) 8 Bx (Aw ([104, 101, 97, 100] : List Int) 16 Bf q).2).2).1 _ d3 (by omega)
 have E5 := L5 (Aw ([104, 101, 97, 100] : List Int) 16 Bf q).1 (Aw ([119, 97, 108, 107] : List Int) 8 Bx (Aw ([104, 101, 97, 100] : List Int) 16 Bf q).2).1 (Aw ([112, 104, 97, 115, 101] : List Int) 16 Dq (Aw ([119, 97, 108, 107] : List Int) 8 Bx (Aw ([104, 101, 97, 100] : List Int) 16 Bf q).2).2).1 (Aw ([103, 114, 111, 117, 112] : List Int) 4 Cx (Aw ([112, 104, 97, 115, 101] : List Int) 16 Dq (Aw ([119, 97, 108, 107] : List Int) 8 Bx (Aw ([104, 101, 97, 100] : List Int) 16 Bf q).2).2).2).1 _ d4 (by omega)
 exact E1.trans (E2.trans (E3.trans (E4.trans E5)))
theorem Bo4 (x : RS) (g : EndT x.1) (hl : x.1.length ≤ 100000) : Vs k (x.1, x.2.1, x.2.2) =
  some ((B5 x).1.2.1, (B5 x).1.2.2, (B5 x).2.1, (B5 x).2.2.1, (B5 x).2.2.2, (B5 x).1.1) := by
 have g1 := (Bo ([123] : List Int) x).g g
 have l1 := (Bo ([123] : List Int) x).l
 have L := Kn (w := ([115, 116, 111, 112] : List Int)) (most := 12) S9 (fun j x o => (Hu k).L 3 [] j (Ry (x.1, x.2.1, x.2.2, o)))
  (fun y o => some ((numR ([119, 101, 105, 103, 104, 116, 115] : List Int) y).1, (numR [] (numR ([119, 101, 105, 103, 104, 116, 115] : List Int) y).2).1, (Aj ([125] : List Int) (Aj ([59] : List Int) (numR [] (numR ([119, 101, 105, 103, 104, 116, 115] : List Int) y).2).2)).1, (Aj ([125] : List Int) (Aj ([59] : List Int) (numR [] (numR ([119, 101, 105, 103, 104, 116, 115] : List Int) y).2).2)).2.1, (Aj ([125] : List Int) (Aj ([59] : List Int) (numR [] (numR ([119, 101, 105, 103, 104, 116, 115] : List Int) y).2).2)).2.2, o))
  (fun j x o g hm => by
   have hb := Ij ([115, 116, 111, 112] : List Int) ((o.length : Nat) : Int) 12 x
   have gb := hb.g g
   rw [B6x, Ajy, J7 k x g, Option.bind_some]
   generalize A6 ([115, 116, 111, 112] : List Int) ((o.length : Nat) : Int) 12 x = y at *
   simp only
   cases y.1
   ·have h1 := (Bm ([119, 101, 105, 103, 104, 116, 115] : List Int) y.2).g gb
    have h2 := (Bm [] _).g h1
    have h3 := (Bo ([59] : List Int) _).g h2
    simp only [cond_false]
    rw [Dy k y.2 gb, Option.bind_some, Dy k _ h1, Option.bind_some, Dg k _ h2, Option.bind_some, Dg k _ h3, Option.bind_some]
   ·have h1 := (B1 y.2).g gb
    have h2 := (Bo ([111, 117, 116] : List Int) _).g h1
    have h3 := (B1 _).g h2
    have h4 := (Bo ([105, 110] : List Int) _).g h3
    have h5 := (B1 _).g h4
    have h6 := (Bm ([97, 104, 101, 97, 100] : List Int) _).g h5
    have h7 := (Bm ([98, 97, 99, 107] : List Int) _).g h6
    simp only [cond_true]
    rw [A3 gb.ne, Ga k (by omega) _ gb, Option.bind_some, Dg k _ h1, Option.bind_some, Ga k (by omega) _ h2, Option.bind_some, Dg k _ h3, Option.bind_some, Ga k (by omega) _ h4, Option.bind_some, Dy k _ h5, Option.bind_some, Dy k _ h6, Option.bind_some, Dg k _ h7, Option.bind_some, Ce (by simp; omega) (by simp; omega)]
    rfl) k hk
 rw [B6w, Ajx, Dg k x g, Option.bind_some]
 exact L (Aj ([123] : List Int) x) g1 (by omega)
theorem Cdb (b : List Int) (hb : b.length < 100000) : Vq k b =
  some ((Bt b).1.1, (Bt b).1.2.1, (Bt b).1.2.2.1, (Bt b).1.2.2.2.1, (Bt b).1.2.2.2.2.1, (Bt b).1.2.2.2.2.2.2.2.1, (Bt b).1.2.2.2.2.2.2.2.2, (Bt b).2.1, (Bt b).2.2, (Bt b).1.2.2.2.2.2.1, (Bt b).1.2.2.2.2.2.2.1) := by
 rw [B6l, Ai7, Cfu k b (by omega) (by omega), Option.bind_some]
 unfold Bt
 by_cases h0 : (toks b).1 = 0
 ·obtain ⟨g, hl⟩ := Boi h0
  rw [show ((toks b).1 != 0) = false by simpa using h0]
  simp only [cond_false]
  generalize (toks b).2.2 = l at *
  have g : EndT (l, (0 : Int), (0 : Int)).1 := g
  have hl : (l, (0 : Int), (0 : Int)).1.length ≤ b.length + 1 := hl
  have N0 := Ccu k (l, (0 : Int), (0 : Int)) g ([99, 121, 99, 108, 101] : List Int)
  simp only at N0
  rw [N0, Option.bind_some]
  clear N0
  generalize (l, (0 : Int), (0 : Int)) = x at *
  have b1 := Bm ([99, 121, 99, 108, 101] : List Int) x
  have b2 := b1.trans (Bm ([116, 111] : List Int) _)
  have b3 := b2.trans (Bm ([98, 121] : List Int) _)
  have b4 := b3.trans (Bo ([59] : List Int) _)
  have b5 := b4.trans (S6 ([112, 101, 97, 107] : List Int) _)
  have b6 := b5.trans (Bo ([59] : List Int) _)
  rw [Dy k _ (b1.g g), Option.bind_some, Dy k _ (b2.g g), Option.bind_some, Dg k _ (b3.g g), Option.bind_some, A9w k _ (b4.g g), Option.bind_some, Dg k _ (b5.g g), Option.bind_some]
  have g6 := b6.g g
  have l6 := b6.l
  unfold netR
  simp only
  clear b1 b2 b3 b4 b5 b6
  generalize numR ([99, 121, 99, 108, 101] : List Int) x = r1 at *
  generalize numR ([116, 111] : List Int) r1.2 = r2 at *
  generalize numR ([98, 121] : List Int) r2.2 = r3 at *
  generalize Dk ([112, 101, 97, 107] : List Int) (Aj ([59] : List Int) r3.2) = r4 at *
  generalize Aj ([59] : List Int) r4.2 = q at *
  have L := Kn (w := ([110, 111, 100, 101] : List Int)) (most := 12) S7 (fun j x o => (Da k).L 12 [] j (Rw (0, 0, 0, 0, 0, 0, 0, x.1, x.2.1, x.2.2, r1.1, r2.1, r3.1, r4.1.1, r4.1.2, 0, 0, o)))
   (fun y o =>
    let t := bif Ay ([97, 114, 116, 101, 114, 121] : List Int) y then B5 (A1 y) else (([], 0, 0), y)
    let z := bif (hd t.2.1).1 != 0 then A2 50 t.2 else t.2
    bif z.2.1 != 0 then some (0, 0, 0, 0, 0, 0, 0, z.2.1, z.2.2, [], []) else some (r1.1, r2.1, r3.1, r4.1.1, r4.1.2, t.1.2.1, t.1.2.2, 0, 0, o, t.1.1))
   (fun j x o g hm => by
    have hb := Ij ([110, 111, 100, 101] : List Int) ((o.length : Nat) : Int) 12 x
    have gb := hb.g g
    have lb := hb.l
    rw [B6n, Ai9, J7 k x g, Option.bind_some]
    generalize A6 ([110, 111, 100, 101] : List Int) ((o.length : Nat) : Int) 12 x = y at *
    simp only
    cases y.1
    ·simp only [cond_false]
     rw [L0 k y.2 gb, Option.bind_some, Iw k y.2 gb, Option.bind_some]
     have J20 : ∀ (w : RS) (a b : Int) (st : List YT7), EndT w.1 → (Da k).J 20 [] (Rx (0, 0, 0, 0, 0, 0, 0, w.1, w.2.1, w.2.2, r1.1, r2.1, r3.1, r4.1.1, r4.1.2, a, b, o, st)) =
       bif (bif (hd w.1).1 != 0 then A2 50 w else w).2.1 != 0 then some (0, 0, 0, 0, 0, 0, 0, (bif (hd w.1).1 != 0 then A2 50 w else w).2.1, (bif (hd w.1).1 != 0 then A2 50 w else w).2.2, [], []) else some (r1.1, r2.1, r3.1, r4.1.1, r4.1.2, a, b, 0, 0, o, st) := by
      intro w a b st gw
      rw [B6m, Ai8, A3 gw.ne, Kf k w gw, Option.bind_some]
      cases (hd w.1).1 != 0
      ·simp only [cond_false]
       rw [A7w, W7]
      ·simp only [cond_true]
       rw [A7w, W7]
     cases Ay ([97, 114, 116, 101, 114, 121] : List Int) y.2
     ·simp only [cond_false]
      exact J20 y.2 0 0 [] gb
     ·have hn := Eh y.2
      have ln := hn.l
      simp only [cond_true]
      rw [Bo4 k hk _ (hn.g gb) (by omega), Option.bind_some]
      exact J20 (B5 (A1 y.2)).2 _ _ _ ((Aph _).g (hn.g gb))
    ·simp only [cond_true]
     rw [Ccr k hk _ gb (by omega), Option.bind_some, Ce (by simp; omega) (by simp; omega)]) k hk
  have E := L q g6 (by omega)
  simp only at E
  refine E.trans ?_
  generalize Aw ([110, 111, 100, 101] : List Int) 12 Bv q = m
  generalize (bif Ay ([97, 114, 116, 101, 114, 121] : List Int) m.2 then B5 (A1 m.2) else (([], 0, 0), m.2)) = t
  generalize (bif (hd t.2.1).1 != 0 then A2 50 t.2 else t.2) = z
  cases z.2.1 != 0 <;> rfl
 ·rw [show ((toks b).1 != 0) = true by simpa using h0]
  rfl
end
def K1 : List Int := ([99, 121, 99, 108, 101, 32, 54, 48, 48, 32, 116, 111, 32, 57, 48, 48, 32, 98, 121, 32, 49, 48, 59, 10, 112, 101, 97, 107, 32, 49, 47, 49, 59, 10, 110, 111, 100, 101, 32, 97, 32, 123, 10, 32, 32, 104, 101, 97, 100, 32, 110, 32, 118, 111, 108, 117, 109, 101, 32, 52, 48, 48, 32, 102, 108, 111, 119, 32, 49, 56, 48, 48, 32, 117, 115, 101, 32, 49, 47, 49, 32, 115, 112, 101, 101, 100, 32, 49, 53, 48, 48, 32, 103, 114, 97, 100, 101, 32, 45, 50, 48, 32, 119, 105, 100, 116, 104, 32, 49, 56, 48, 48, 32, 108, 101, 110, 103, 116, 104, 32, 54, 48, 48, 32, 103, 114, 101, 101, 110, 32, 55, 48, 59, 10, 32, 32, 119, 97, 108, 107, 32, 119, 32, 119, 105, 116, 104, 32, 112, 32, 108, 111, 110, 103, 32, 49, 53, 48, 48, 32, 112, 97, 99, 101, 32, 49, 50, 48, 32, 108, 101, 97, 115, 116, 32, 55, 48, 59, 10, 32, 32, 112, 104, 97, 115, 101, 32, 112, 58, 32, 110, 44, 32, 101, 59, 10, 32, 32, 103, 114, 111, 117, 112, 32, 123, 10, 32, 32, 32, 32, 114, 105, 110, 103, 32, 102, 114, 101, 101, 32, 112, 44, 32, 113, 59, 10, 32, 32, 125, 10, 32, 32, 102, 111, 101, 32, 110, 32, 101, 59, 10, 125, 10, 97, 114, 116, 101, 114, 121, 32, 123, 10, 32, 32, 115, 116, 111, 112, 32, 97, 32, 111, 117, 116, 32, 110, 32, 105, 110, 32, 101, 32, 97, 104, 101, 97, 100, 32, 48, 32, 98, 97, 99, 107, 32, 48, 59, 10, 32, 32, 119, 101, 105, 103, 104, 116, 115, 32, 50, 32, 49, 59, 10, 125, 10] : List Int)
theorem Cf2 (k : Nat) (u : Unit) : Qo k u = some K1 := by
 rw [Ca1]
 rfl
def shB (s : List Int) : Bool := decide (s.length ≤ 100)
def Anl (n : YT6) : Bool := shB n.1 && (decide (n.2.1.length ≤ 50) && (n.2.1.all (fun h => shB h.1) && (decide (n.2.2.1.length ≤ 50) && (n.2.2.1.all (fun p => shB p.1 && shB p.2.1) && (decide (n.2.2.2.1.length ≤ 50) &&
 (n.2.2.2.1.all (fun x => shB x.1 && (decide (x.2.1.length ≤ 50) && x.2.1.all shB)) && (decide (n.2.2.2.2.1.length ≤ 50) && (n.2.2.2.2.1.all (fun g => decide (g.1.length ≤ 5) && g.1.all (fun r => decide (r.2.1.length ≤ 50) && r.2.1.all shB)) &&
  (decide (n.2.2.2.2.2.1.length ≤ 80) && n.2.2.2.2.2.1.all (fun f => shB f.1 && shB f.2.1))))))))))
theorem Cco {n : YT6} (h : Anl n = true) : NodeS n := by
 unfold Anl shB at h
 simp only [Bool.and_eq_true, List.all_eq_true, decide_eq_true_eq] at h
 obtain ⟨h0, h1, h2, h3, h4, h5, h6, h7, h8, h9, h10⟩ := h
 exact ⟨h0, h1, fun _ => h2, h3, h4, h5, fun x hx => ⟨(h6 x hx).1, (h6 x hx).2.1, fun _ => (h6 x hx).2.2⟩, h7, fun g hg => ⟨(h8 g hg).1, fun r hr => ⟨((h8 g hg).2 r hr).1, fun _ => ((h8 g hg).2 r hr).2⟩⟩, h9, h10⟩
def netSB (n : NetT) : Bool := decide (n.2.2.2.2.2.1.length ≤ 15) && (n.2.2.2.2.2.1.all Anl && (decide (n.2.2.2.2.2.2.1.length ≤ 15) && n.2.2.2.2.2.2.1.all (fun s => shB s.1 && (shB s.2.1 && shB s.2.2.1))))
theorem netS_of {n : NetT} (h : netSB n = true) : NetS n := by
 unfold netSB shB at h
 simp only [Bool.and_eq_true, List.all_eq_true, decide_eq_true_eq] at h
 exact ⟨h.1, fun x hx => Cco (h.2.1 x hx), h.2.2.1, h.2.2.2⟩
def awChk : Bool := (Bt K1).2.1 == 0 && (netSB (Bt K1).1 && (netB (Bt K1).1 && netT (Bt K1).1 == K1))
set_option maxRecDepth 100000 in
theorem Bo6 : awChk = true := by kernel_rfl
theorem noNet_S (a : Int) : NetS (a, 0, 0, 0, 0, [], [], 0, 0) := ⟨by simp, by simp, by simp, by simp⟩
theorem Ap1 (k : Nat) (hk : 200000 ≤ k) : Mz k () = some true := by
 have h := Bo6
 unfold awChk at h
 simp only [Bool.and_eq_true, beq_iff_eq] at h
 obtain ⟨h1, h2, h3, h4⟩ := h
 have hS := netS_of h2
 have s1 := Bn9 k (by omega) _ hS h3
 have s2 := Sr k (by omega) _ hS
 rw [h4] at s1
 rw [h3] at s2
 have s3 := Sr k (by omega) _ (noNet_S (-1))
 have e3 : netB (-1, 0, 0, 0, 0, [], [], 0, 0) = false := rfl
 rw [e3] at s3
 rw [Cax, Beq, Cf2, Option.bind_some, Cdb k hk K1 (of_decide_eq_true (by kernel_rfl)), Option.bind_some]
 simp only
 generalize Bt K1 = o at *
 rw [s1, s2, s3, h1]
 simp only [Option.bind_some, beq_self_eq_true, cond_true, Bool.not_false]
abbrev T3 := Int × List Int × Int
def strip (t : Tk) : T3 := (t.1, t.2.1, t.2.2.1)
def Lexes (s : List Int) (A : List T3) : Prop := ∀ n f, s.length < f → (lx n f s).1 = 0 ∧ (lx n f s).2.2.map strip = A
theorem Cb0 : Lexes [] [(0, [], 0)] := by
 intro n f hf
 obtain ⟨f, rfl⟩ : ∃ g, f = g + 1 := ⟨f - 1, by simp at hf; omega⟩
 rw [lx]
 exact ⟨rfl, rfl⟩
theorem Cq {c : Int} {s : List Int} {A : List T3} (hc : Ck c = true) (h : Lexes s A) : Lexes (c :: s) A := by
 intro n f hf
 obtain ⟨g, rfl⟩ : ∃ g, f = g + 1 := ⟨f - 1, by simp at hf; omega⟩
 rw [List.length_cons] at hf
 have hd : drp false (c :: s) = drp false s := by
  rw [drp]
  have h35 : c ≠ 35 := by
   intro e
   rw [e] at hc
   simp [Ck] at hc
  rw [if_neg h35, if_pos hc]
 have := h n (g + 1) (by omega)
 rw [lx] at this ⊢
 rw [hd]
 exact this
theorem Yd {x : Int} {r s : List Int} {kd v : Int} {tx : List Int} {A : List T3} (h1 : drp false (x :: r) = x :: r) (h2 : tok1 (x :: r) = (0, kd, tx, v, s)) (h : Lexes s A) : Lexes (x :: r) ((kd, tx, v) :: A) := by
 intro n f hf
 obtain ⟨g, rfl⟩ : ∃ g, f = g + 1 := ⟨f - 1, by simp at hf; omega⟩
 have hr := Ov (x := x) (r := r) (by rw [h2])
 rw [h2] at hr
 simp only [] at hr
 rw [List.length_cons] at hf
 have hs := h n g (by omega)
 rw [lx, h1]
 simp only []
 rw [h2]
 simp only [if_true]
 rw [if_pos hs.1]
 refine ⟨rfl, ?_⟩
 rw [List.map_cons, hs.2]
 rfl
theorem F7 {c : Int} {s : List Int} {A : List T3} (hc : D7 c = true) (h : Lexes s A) : Lexes (c :: s) ((3, [c], 0) :: A) := by
 have e1 : B7 c = false ∧ A0 c = false ∧ Ck c = false ∧ c ≠ 35 := by
  unfold D7 at hc
  simp only [decide_eq_true_eq] at hc
  unfold B7 A0 Ck
  simp
  omega
 refine Yd ?_ ?_ h
 ·rw [drp, if_neg e1.2.2.2, e1.2.2.1]; rfl
 ·rw [tok1, e1.1, e1.2.1, hc]; rfl
def Cuts : List Int → Prop
 | [] => True
 | c :: _ => Bh c = false
theorem Y9 {p : Int → Bool} : ∀ {l : List Int}, (∀ x ∈ l, p x = true) → ∀ {s : List Int}, (∀ c r, s = c :: r → p c = false) → (l ++ s).takeWhile p = l ∧ (l ++ s).dropWhile p = s
 | [], _, [], _ => ⟨rfl, rfl⟩
 | [], _, c :: s, hs => by
  have := hs c s rfl
  simp [List.takeWhile_cons, List.dropWhile_cons, this]
 | x :: l, hl, s, hs => by
  have IH := Y9 (fun y hy => hl y (List.mem_cons_of_mem _ hy)) hs
  have := hl x (by simp)
  simp [List.takeWhile_cons, List.dropWhile_cons, this, IH.1, IH.2]
theorem Cby {w s : List Int} {A : List T3} (hw : Bw w = true) (hs : Cuts s) (h : Lexes s A) : Lexes (w ++ s) ((1, w, 0) :: A) := by
 obtain ⟨-, hl, hne, hall, c, r, rfl, hc⟩ := Ex hw
 have hcut : ∀ d q, s = d :: q → Bh d = false := by rintro d q rfl; exact hs
 obtain ⟨t1, t2⟩ := Y9 hall hcut
 have e : c ≠ 35 ∧ Ck c = false := by
  unfold B7 at hc
  unfold Ck
  simp at hc ⊢
  omega
 refine Yd (x := c) (r := r ++ s) ?_ ?_ h
 ·rw [drp, if_neg e.1, e.2]; rfl
 ·rw [List.cons_append] at t1 t2
  rw [tok1, hc, if_pos rfl, t1, t2, if_neg (by omega)]
theorem Cb2 {d s : List Int} {A : List T3} (hd : ∀ x ∈ d, A0 x = true) (hne : d ≠ []) (hl : d.length ≤ 18) (hs : Cuts s) (h : Lexes s A) : Lexes (d ++ s) ((2, d, valD d) :: A) := by
 cases d with
 | nil => exact absurd rfl hne
 | cons c r =>
  have hcut : ∀ e q, s = e :: q → A0 e = false := by rintro e q rfl; exact Cg4 hs
  obtain ⟨t1, t2⟩ := Y9 hd hcut
  have hc := hd c (by simp)
  have e : c ≠ 35 ∧ Ck c = false ∧ B7 c = false := by
   unfold A0 at hc
   unfold Ck B7
   simp at hc ⊢
   omega
  refine Yd (x := c) (r := r ++ s) ?_ ?_ h
  ·rw [drp, if_neg e.1, e.2.1]; rfl
  ·rw [List.cons_append] at t1 t2
   rw [tok1, e.2.2, hc]
   simp only [Bool.false_eq_true, if_false, if_true]
   rw [t1, t2, if_neg (by omega)]
theorem Cg1 (l : List Int) (c : Int) : valD (l ++ [c]) = 10 * valD l + (c - 48) := by
 unfold valD
 rw [List.foldl_append]
 rfl
theorem Boq : ∀ (f n : Nat), n < 10 ^ f → 1 ≤ f → valD (digN f n) = n
 | 0, n, _, h => by omega
 | f + 1, n, h, _ => by
  rw [digN]
  by_cases h10 : n < 10
  ·rw [if_pos h10]
   simp [valD]
   omega
  ·rw [if_neg h10, Cg1, Boq f (n / 10) (by rw [Nat.pow_succ] at h; omega) (by
    rcases f with _ | f
    ·simp at h; omega
    ·omega)]
   omega
def numK (n : Int) : List T3 := bif decide (n < 0) then [(3, ([45] : List Int), 0), (2, digN 18 n.natAbs, -n)] else [(2, digN 18 n.natAbs, n)]
theorem Cb3 {n : Int} (hn : inM n) {s : List Int} {A : List T3} (hs : Cuts s) (h : Lexes s A) : Lexes (numT n ++ s) (numK n ++ A) := by
 unfold inM at hn
 have L := Cb2 (d := digN 18 n.natAbs) (Wo _ _) (digN_ne 17 _) (Acl _ _) hs h
 rw [Boq 18 _ (by omega) (by omega)] at L
 unfold numT numK
 by_cases h0 : n < 0
 ·rw [if_pos h0, show decide (n < 0) = true by simpa using h0]
  have e : ((n.natAbs : Nat) : Int) = -n := by omega
  rw [e] at L
  exact F7 (by decide) L
 ·rw [if_neg h0, show decide (n < 0) = false by simpa using h0]
  have e : ((n.natAbs : Nat) : Int) = n := by omega
  rw [e] at L
  exact L
def wd (s : List Int) : T3 := (1, s, 0)
def sg (s : List Int) : T3 := (3, s, 0)
def Nr (a b : Int) : List T3 := numK a ++ (sg ([47] : List Int) :: numK b)
def F8 : List (List Int) → List T3
 | [] => []
 | [x] => [wd x]
 | x :: y :: r => wd x :: sg ([44] : List Int) :: F8 (y :: r)
def N7 (h : YT1) : List T3 :=
 wd ([104, 101, 97, 100] : List Int) :: wd h.1 :: wd ([118, 111, 108, 117, 109, 101] : List Int) :: (numK h.2.1 ++ (wd ([102, 108, 111, 119] : List Int) :: (numK h.2.2.1 ++ (wd ([117, 115, 101] : List Int) :: (Nr h.2.2.2.1.1 h.2.2.2.1.2.1 ++ (wd ([115, 112, 101, 101, 100] : List Int) :: (numK h.2.2.2.2.1 ++ (wd ([103, 114, 97, 100, 101] : List Int) :: (numK h.2.2.2.2.2.1 ++
  (wd ([119, 105, 100, 116, 104] : List Int) :: (numK h.2.2.2.2.2.2.1 ++ (wd ([108, 101, 110, 103, 116, 104] : List Int) :: (numK h.2.2.2.2.2.2.2.1 ++ (wd ([103, 114, 101, 101, 110] : List Int) :: (numK h.2.2.2.2.2.2.2.2.1 ++ [sg ([59] : List Int)])))))))))))))))
def pedK (p : YT2) : List T3 := wd ([119, 97, 108, 107] : List Int) :: wd p.1 :: wd ([119, 105, 116, 104] : List Int) :: wd p.2.1 :: wd ([108, 111, 110, 103] : List Int) :: (numK p.2.2.1 ++ (wd ([112, 97, 99, 101] : List Int) :: (numK p.2.2.2.1 ++ (wd ([108, 101, 97, 115, 116] : List Int) :: (numK p.2.2.2.2.1 ++ [sg ([59] : List Int)])))))
def Oi (x : YT3) : List T3 := wd ([112, 104, 97, 115, 101] : List Int) :: wd x.1 :: sg ([58] : List Int) :: (F8 x.2.1 ++ [sg ([59] : List Int)])
def Yx (r : YT4) : List T3 := wd ([114, 105, 110, 103] : List Int) :: ((bif r.1 then [wd ([102, 114, 101, 101] : List Int)] else []) ++ (F8 r.2.1 ++ [sg ([59] : List Int)]))
def Ly (g : List YT4 × Unit) : List T3 := wd ([103, 114, 111, 117, 112] : List Int) :: sg ([123] : List Int) :: (g.1.flatMap Yx ++ [sg ([125] : List Int)])
def foeK (f : YT5) : List T3 := [wd ([102, 111, 101] : List Int), wd f.1, wd f.2.1, sg ([59] : List Int)]
def Og (n : YT6) : List T3 := wd ([110, 111, 100, 101] : List Int) :: wd n.1 :: sg ([123] : List Int) :: (n.2.1.flatMap N7 ++ (n.2.2.1.flatMap pedK ++ (n.2.2.2.1.flatMap Oi ++ (n.2.2.2.2.1.flatMap Ly ++ (n.2.2.2.2.2.1.flatMap foeK ++ [sg ([125] : List Int)])))))
def Y5 (s : YT7) : List T3 := wd ([115, 116, 111, 112] : List Int) :: wd s.1 :: wd ([111, 117, 116] : List Int) :: wd s.2.1 :: wd ([105, 110] : List Int) :: wd s.2.2.1 :: wd ([97, 104, 101, 97, 100] : List Int) :: (numK s.2.2.2.1 ++ (wd ([98, 97, 99, 107] : List Int) :: (numK s.2.2.2.2.1 ++ [sg ([59] : List Int)])))
def artK (n : NetT) : List T3 := bif artB n then wd ([97, 114, 116, 101, 114, 121] : List Int) :: sg ([123] : List Int) :: (n.2.2.2.2.2.2.1.flatMap Y5 ++ (wd ([119, 101, 105, 103, 104, 116, 115] : List Int) :: (numK n.2.2.2.2.2.2.2.1 ++ (numK n.2.2.2.2.2.2.2.2 ++ [sg ([59] : List Int), sg ([125] : List Int)])))) else []
def netK (n : NetT) : List T3 :=
 wd ([99, 121, 99, 108, 101] : List Int) :: (numK n.1 ++ (wd ([116, 111] : List Int) :: (numK n.2.1 ++ (wd ([98, 121] : List Int) :: (numK n.2.2.1 ++ (sg ([59] : List Int) :: wd ([112, 101, 97, 107] : List Int) :: (Nr n.2.2.2.1 n.2.2.2.2.1 ++ (sg ([59] : List Int) :: (n.2.2.2.2.2.1.flatMap Og ++ (artK n ++ [(0, [], 0)]))))))))))
def S1 : List Int → Bool
 | [] => false
 | c :: r => B7 c && (r.all Bh && decide (r.length < 24))
theorem Bf0 {w s : List Int} {A : List T3} (hw : S1 w = true) (hs : Cuts s) (h : Lexes s A) : Lexes (w ++ s) (wd w :: A) := by
 cases w with
 | nil => cases hw
 | cons c r =>
  unfold S1 at hw
  simp only [Bool.and_eq_true, List.all_eq_true, decide_eq_true_eq] at hw
  obtain ⟨hc, hr, hl⟩ := hw
  have hall : ∀ x ∈ c :: r, Bh x = true := by
   intro x hx
   rcases List.mem_cons.1 hx with rfl | hx
   ·simp [Bh, hc]
   ·exact hr x hx
  have hcut : ∀ d q, s = d :: q → Bh d = false := by rintro d q rfl; exact hs
  obtain ⟨t1, t2⟩ := Y9 hall hcut
  have e : c ≠ 35 ∧ Ck c = false := by
   unfold B7 at hc
   unfold Ck
   simp at hc ⊢
   omega
  refine Yd (x := c) (r := r ++ s) ?_ ?_ h
  ·rw [drp, if_neg e.1, e.2]; rfl
  ·rw [List.cons_append] at t1 t2
   rw [tok1, hc, if_pos rfl, t1, t2, if_neg (by rw [List.length_cons]; omega)]
theorem kw (w : List Int) (hw : S1 w = true) {s : List Int} {A : List T3} (h : Lexes s A) : Lexes (32 :: (w ++ 32 :: s)) (wd w :: A) :=
 Cq (by decide) (Bf0 hw (show Bh 32 = false by decide) (Cq (by decide) h))
theorem kw2 (w : List Int) (hw : S1 w = true) {s : List Int} {A : List T3} (h : Lexes s A) : Lexes (32 :: 32 :: (w ++ 32 :: s)) (wd w :: A) := Cq (by decide) (kw w hw h)
theorem kw0 (w : List Int) (hw : S1 w = true) {s : List Int} {A : List T3} (h : Lexes s A) : Lexes (w ++ 32 :: s) (wd w :: A) := Bf0 hw (show Bh 32 = false by decide) (Cq (by decide) h)
theorem semi {s : List Int} {A : List T3} (h : Lexes s A) : Lexes (59 :: 10 :: s) (sg ([59] : List Int) :: A) := F7 (by decide) (Cq (by decide) h)
theorem nm {w s : List Int} {A : List T3} (hw : Bw w = true) {c : Int} (hc : Bh c = false) (h : Lexes (c :: s) A) : Lexes (w ++ c :: s) (wd w :: A) := Cby hw hc h
theorem nu {n : Int} (hn : inM n) {c : Int} {s : List Int} {A : List T3} (hc : Bh c = false) (h : Lexes (c :: s) A) : Lexes (numT n ++ c :: s) (numK n ++ A) := Cb3 hn hc h
theorem Bfy {a b : Int} (ha : inM a) (hb : inM b) {c : Int} {s : List Int} {A : List T3} (hc : Bh c = false) (h : Lexes (c :: s) A) : Lexes (Em a b ++ c :: s) (Nr a b ++ A) := by
 unfold Em Nr
 simp only [List.append_assoc, List.cons_append, List.nil_append]
 exact nu ha (by decide) (F7 (by decide) (nu hb hc h))
theorem Cbx {h : YT1} (hb : Eo h = true) {s : List Int} {A : List T3} (hs : Lexes s A) : Lexes (Dc h ++ s) (N7 h ++ A) := by
 obtain ⟨q0, q1, q2, q3, q4, q5, q6, q7, q8, q9⟩ := Am0 hb
 unfold Dc Fj N7
 simp only [List.flatten_cons, List.flatten_nil, List.append_nil, List.append_assoc, List.cons_append, List.nil_append]
 exact kw2 ([104, 101, 97, 100] : List Int) (by decide) (nm q0 (by decide) (kw ([118, 111, 108, 117, 109, 101] : List Int) (by decide) (nu q1 (by decide) (kw ([102, 108, 111, 119] : List Int) (by decide) (nu q2 (by decide) (kw ([117, 115, 101] : List Int) (by decide) (Bfy q3 q4 (by decide) (kw ([115, 112, 101, 101, 100] : List Int) (by decide) (nu q5 (by decide) (kw ([103, 114, 97, 100, 101] : List Int) (by decide) (nu q6 (by decide)
  (kw ([119, 105, 100, 116, 104] : List Int) (by decide) (nu q7 (by decide) (kw ([108, 101, 110, 103, 116, 104] : List Int) (by decide) (nu q8 (by decide) (kw ([103, 114, 101, 101, 110] : List Int) (by decide) (nu q9 (by decide) (semi hs))))))))))))))))))
theorem Cb4 {p : YT2} (hb : pedB p = true) {s : List Int} {A : List T3} (hs : Lexes s A) : Lexes (pedT p ++ s) (pedK p ++ A) := by
 obtain ⟨q0, q1, q2, q3, q4⟩ := Bhf hb
 unfold pedT pedP pedK
 simp only [List.flatten_cons, List.flatten_nil, List.append_nil, List.append_assoc, List.cons_append, List.nil_append]
 exact kw2 ([119, 97, 108, 107] : List Int) (by decide) (nm q0 (by decide) (kw ([119, 105, 116, 104] : List Int) (by decide) (nm q1 (by decide) (kw ([108, 111, 110, 103] : List Int) (by decide) (nu q2 (by decide) (kw ([112, 97, 99, 101] : List Int) (by decide) (nu q3 (by decide) (kw ([108, 101, 97, 115, 116] : List Int) (by decide) (nu q4 (by decide) (semi hs))))))))))
theorem Bfz : ∀ (l : List (List Int)), l ≠ [] → (∀ w ∈ l, Bw w = true) → ∀ {c : Int} {s : List Int} {A : List T3}, Bh c = false → Lexes (c :: s) A → Lexes (B8 l ++ c :: s) (F8 l ++ A)
 | [], h, _, _, _, _, _, _ => absurd rfl h
 | [x], _, hw, c, s, A, hc, h => nm (hw x (by simp)) hc h
 | x :: y :: r, _, hw, c, s, A, hc, h => by
  have IH := Bfz (y :: r) (by simp) (fun w hw2 => hw w (List.mem_cons_of_mem _ hw2)) hc h
  unfold B8 at IH ⊢
  rw [Ci]
  simp only [List.append_assoc, List.cons_append, List.nil_append, F8]
  exact nm (hw x (by simp)) (by decide) (F7 (by decide) (Cq (by decide) IH))
theorem Am8 {m : Nat} {l : List (List Int)} (hb : rowB m l = true) {s : List Int} {A : List T3} (hs : Lexes s A) : Lexes (B8 l ++ 59 :: 10 :: s) (F8 l ++ sg ([59] : List Int) :: A) := by
 obtain ⟨⟨h1, _⟩, h2⟩ := On hb
 exact Bfz l (by rintro rfl; simp at h1) h2 (by decide) (semi hs)
theorem Cb5 {x : YT3} (hb : Ey x = true) {s : List Int} {A : List T3} (hs : Lexes s A) : Lexes (Dr x ++ s) (Oi x ++ A) := by
 unfold Ey at hb
 simp only [Bool.and_eq_true] at hb
 unfold Dr Ez Oi
 simp only [List.flatten_cons, List.flatten_nil, List.append_nil, List.append_assoc, List.cons_append, List.nil_append]
 exact kw2 ([112, 104, 97, 115, 101] : List Int) (by decide) (nm hb.1 (by decide) (F7 (by decide) (Cq (by decide) (Am8 hb.2.1 hs))))
theorem Cb6 {r : YT4} (hb : Jp r = true) {s : List Int} {A : List T3} (hs : Lexes s A) : Lexes (E6 r ++ s) (Yx r ++ A) := by
 unfold Jp at hb
 unfold E6 Yx
 cases r.1
 ·simp only [cond_false, List.append_assoc, List.cons_append, List.nil_append]
  exact Cq (by decide) (Cq (by decide) (kw2 ([114, 105, 110, 103] : List Int) (by decide) (Am8 hb hs)))
 ·simp only [cond_true, List.append_assoc, List.cons_append, List.nil_append]
  exact Cq (by decide) (Cq (by decide) (kw2 ([114, 105, 110, 103] : List Int) (by decide) (kw0 ([102, 114, 101, 101] : List Int) (by decide) (Am8 hb hs))))
theorem Ji {α : Type} {f : α → List Int} {g : α → List T3} : ∀ {l : List α}, (∀ x ∈ l, ∀ {s A}, Lexes s A → Lexes (f x ++ s) (g x ++ A)) → ∀ {s A}, Lexes s A → Lexes (l.flatMap f ++ s) (l.flatMap g ++ A)
 | [], _, _, _, h => h
 | x :: r, hx, s, A, h => by
  rw [List.flatMap_cons, List.flatMap_cons, List.append_assoc, List.append_assoc]
  exact hx x (by simp) (Ji (fun y hy => hx y (List.mem_cons_of_mem _ hy)) h)
theorem Cbw {g : List YT4 × Unit} (hb : En g = true) {s : List Int} {A : List T3} (hs : Lexes s A) : Lexes (It g ++ s) (Ly g ++ A) := by
 unfold En at hb
 simp only [Bool.and_eq_true, Bool.not_eq_true', decide_eq_false_iff_not, List.all_eq_true] at hb
 unfold It Ly
 simp only [List.append_assoc, List.cons_append, List.nil_append]
 refine kw2 ([103, 114, 111, 117, 112] : List Int) (by decide) (F7 (by decide) (Cq (by decide) (Ji (fun r hr => Cb6 (hb.2.2 r hr)) ?_)))
 exact Cq (by decide) (Cq (by decide) (F7 (by decide) (Cq (by decide) hs)))
theorem Cbv {f : YT5} (hb : foeB f = true) {s : List Int} {A : List T3} (hs : Lexes s A) : Lexes (foeT f ++ s) (foeK f ++ A) := by
 unfold foeB at hb
 simp only [Bool.and_eq_true] at hb
 unfold foeT foeP foeK
 simp only [List.flatten_cons, List.flatten_nil, List.append_nil, List.append_assoc, List.cons_append, List.nil_append]
 exact kw2 ([102, 111, 101] : List Int) (by decide) (nm hb.1 (by decide) (Cq (by decide) (nm hb.2.1 (by decide) (semi hs))))
theorem Cb1 {n : YT6} (hb : Dn n = true) {s : List Int} {A : List T3} (hs : Lexes s A) : Lexes (Ix n ++ s) (Og n ++ A) := by
 unfold Dn at hb
 simp only [Bool.and_eq_true, List.all_eq_true] at hb
 obtain ⟨h0, h1, h2, h3, h4, h5, p1, p2, p3, p4, p5⟩ := hb
 unfold Ix Jl Og
 simp only [List.append_assoc, List.cons_append, List.nil_append]
 refine kw0 ([110, 111, 100, 101] : List Int) (by decide) (nm h0 (by decide) (Cq (by decide) (F7 (by decide) (Cq (by decide) ?_))))
 exact Ji (fun x hx => Cbx (p1 x hx)) (Ji (fun x hx => Cb4 (p2 x hx)) (Ji (fun x hx => Cb5 (p3 x hx)) (Ji (fun x hx => Cbw (p4 x hx)) (Ji (fun x hx => Cbv (p5 x hx))
  (F7 (by decide) (Cq (by decide) hs))))))
theorem Cb7 {p : YT7} (hb : E8 p = true) {s : List Int} {A : List T3} (hs : Lexes s A) : Lexes (Cu p ++ s) (Y5 p ++ A) := by
 obtain ⟨q0, q1, q2, q3, q4⟩ := Boc hb
 unfold Cu Fn Y5
 simp only [List.flatten_cons, List.flatten_nil, List.append_nil, List.append_assoc, List.cons_append, List.nil_append]
 exact kw2 ([115, 116, 111, 112] : List Int) (by decide) (nm q0 (by decide) (kw ([111, 117, 116] : List Int) (by decide) (nm q1 (by decide) (kw ([105, 110] : List Int) (by decide) (nm q2 (by decide) (kw ([97, 104, 101, 97, 100] : List Int) (by decide) (nu q3 (by decide) (kw ([98, 97, 99, 107] : List Int) (by decide) (nu q4 (by decide) (semi hs))))))))))
theorem Cbu {n : NetT} (hb : netB n = true) {s : List Int} {A : List T3} (hs : Lexes s A) : Lexes (artT n ++ s) (artK n ++ A) := by
 unfold netB at hb
 simp only [Bool.and_eq_true, List.all_eq_true] at hb
 obtain ⟨q0, q1, q2, ⟨q3, q4⟩, q7, q8, h1, h2, p1, p2⟩ := hb
 unfold artT artK
 cases artB n
 ·exact hs
 ·unfold Cz
  simp only [cond_true, List.flatten_cons, List.flatten_nil, List.append_nil, List.append_assoc, List.cons_append, List.nil_append]
  refine kw0 ([97, 114, 116, 101, 114, 121] : List Int) (by decide) (F7 (by decide) (Cq (by decide) (Ji (fun x hx => Cb7 (p2 x hx)) ?_)))
  exact kw2 ([119, 101, 105, 103, 104, 116, 115] : List Int) (by decide) (nu (Cc q7) (by decide) (Cq (by decide) (nu (Cc q8) (by decide) (semi (F7 (by decide) (Cq (by decide) hs))))))
theorem Cbz {n : NetT} (hb : netB n = true) : Lexes (netT n) (netK n) := by
 have ha := Cbu hb Cb0
 have hb0 := hb
 unfold netB at hb
 simp only [Bool.and_eq_true, List.all_eq_true] at hb
 obtain ⟨q0, q1, q2, ⟨q3, q4⟩, q7, q8, h1, h2, p1, p2⟩ := hb
 have hn := Ji (l := n.2.2.2.2.2.1) (fun x hx => Cb1 (p1 x hx)) ha
 rw [List.append_nil] at hn
 unfold netT Di netK
 simp only [List.flatten_cons, List.flatten_nil, List.append_nil, List.append_assoc, List.cons_append, List.nil_append]
 exact kw0 ([99, 121, 99, 108, 101] : List Int) (by decide) (nu (Cc q0) (by decide) (kw ([116, 111] : List Int) (by decide) (nu (Cc q1) (by decide) (kw ([98, 121] : List Int) (by decide) (nu (Cc q2) (by decide) (F7 (by decide) (Cq (by decide) (kw0 ([112, 101, 97, 107] : List Int) (by decide) (Bfy (Cc q3) (Cc q4) (by decide) (semi hn))))))))))
structure At (x : RS) (A : List T3) : Prop where
 e : x.2.1 = 0
 t : x.1.map strip = A
theorem O5 {x : RS} {t : T3} {A : List T3} (h : At x (t :: A)) : (hd x.1).1 = t.1 ∧ (hd x.1).2.1 = t.2.1 ∧ (hd x.1).2.2.1 = t.2.2 ∧ x.1.tail.map strip = A := by
 have := h.t
 cases hx : x.1 with
 | nil => rw [hx] at this; cases this
 | cons y r =>
  rw [hx, List.map_cons] at this
  injection this with h1 h2
  subst h1
  exact ⟨rfl, rfl, rfl, h2⟩
theorem Gb {x : RS} {t : T3} {A : List T3} (h : At x (t :: A)) (s : List Int) : Ay s x = (t.1 != 2 && (t.1 != 0 && t.2.1 == s)) := by
 obtain ⟨h1, h2, _, _⟩ := O5 h
 unfold Ay
 rw [h.e, h1, h2]
 rfl
theorem Ko {x : RS} {t : T3} {A : List T3} (h : At x (t :: A)) (h0 : (t.1 != 0) = true) : At (A1 x) A := by
 obtain ⟨h1, _, _, h4⟩ := O5 h
 unfold A1
 rw [h.e, h1, h0]
 exact ⟨rfl, h4⟩
theorem C8 {x : RS} {t : T3} {A : List T3} (s : List Int) (h : At x (t :: A)) (hs : (t.1 != 2 && (t.1 != 0 && t.2.1 == s)) = true) : At (Aj s x) A := by
 unfold Aj
 rw [Gb h, hs]
 simp only [Bool.and_eq_true] at hs
 exact Ko h hs.2.1
theorem F9 {x : RS} {s : List Int} {A : List T3} (hs : Bw s = true) (h : At x (wd s :: A)) : (Ah x).1 = s ∧ At (Ah x).2 A := by
 obtain ⟨h1, h2, _, _⟩ := O5 h
 have h1 : (hd x.1).1 = 1 := h1
 have h2 : (hd x.1).2.1 = s := h2
 have hr : resB s = false := by
  unfold Bw at hs
  simp only [Bool.and_eq_true, Bool.not_eq_true'] at hs
  exact hs.2
 unfold Ah
 rw [h1, h2, hr]
 exact ⟨rfl, Ko h rfl⟩
theorem Sm {x : RS} {d : List Int} {v : Int} {A : List T3} (h : At x ((2, d, v) :: A)) : (numC x).1 = v ∧ At (numC x).2 A := by
 obtain ⟨h1, _, h3, _⟩ := O5 h
 have h1 : (hd x.1).1 = 2 := h1
 have h3 : (hd x.1).2.2.1 = v := h3
 unfold numC
 rw [h1, h3]
 exact ⟨rfl, Ko h rfl⟩
theorem Yi {n : Int} (h : 0 ≤ n) : numK n = [(2, digN 18 n.natAbs, n)] := by
 unfold numK
 rw [show decide (n < 0) = false by simpa using h]
 rfl
theorem Ee {w : List Int} {x : RS} {n : Int} {A : List T3} (hw : (w == []) = false) (hn : 0 ≤ n) (h : At x (wd w :: (numK n ++ A))) : (numR w x).1 = n ∧ At (numR w x).2 A := by
 unfold numR
 rw [hw, cond_false]
 rw [Yi hn] at h
 exact Sm (C8 w h (by simp [wd]))
theorem num_at0 {x : RS} {n : Int} {A : List T3} (hn : 0 ≤ n) (h : At x (numK n ++ A)) : (numR [] x).1 = n ∧ At (numR [] x).2 A := by
 unfold numR
 rw [Yi hn] at h
 exact Sm h
theorem A9v {w : List Int} {x : RS} {a b : Int} {A : List T3} (hw : (w == []) = false) (ha : 0 ≤ a) (hb : 0 ≤ b) (h : At x (wd w :: (Nr a b ++ A))) : (Dk w x).1 = (a, b) ∧ At (Dk w x).2 A := by
 unfold Nr at h
 rw [List.append_assoc] at h
 obtain ⟨e1, h1⟩ := Ee hw ha h
 have h2 : At (Aj ([47] : List Int) (numR w x).2) (numK b ++ A) := C8 ([47] : List Int) h1 (by decide)
 rw [Yi hb] at h2
 obtain ⟨e2, h3⟩ := Sm h2
 unfold Dk
 refine ⟨?_, h3⟩
 rw [e1]
 exact congrArg (fun z => (a, z)) e2
theorem Bpk {w : List Int} {a b : Int} {x : RS} {A : List T3} (hab : (a == b) = false) (h : At x (wd w :: A)) : (A6 w a b x).1 = true ∧ At (A6 w a b x).2 A := by
 unfold A6
 rw [Gb h, hab, show ((wd w).1 != 2 && ((wd w).1 != 0 && (wd w).2.1 == w)) = true by simp [wd]]
 exact ⟨rfl, Ko h (by simp [wd])⟩
theorem Bpj {w : List Int} {a b : Int} {x : RS} {t : T3} {A : List T3} (h : At x (t :: A)) (ht : (t.1 != 2 && (t.1 != 0 && t.2.1 == w)) = false) : A6 w a b x = (false, x) := by
 unfold A6
 rw [Gb h, ht]
 rfl
theorem Bf6 {α β : Type} (er : α → β) (w : List Int) (most : Nat) (item : RS → α × RS) (g : α → List T3) {t : T3} {A : List T3} (ht : (t.1 != 2 && (t.1 != 0 && t.2.1 == w)) = false) :
  ∀ (l : List α) (f : Nat) (x : RS) (o : List α), (∀ a ∈ l, ∀ {x A}, At x (g a ++ A) → er (item x).1 = er a ∧ At (item x).2 A) → l.length < f → o.length + l.length ≤ most → At x (l.flatMap (fun a => wd w :: g a) ++ t :: A) →
   (Cs w (most : Int) item f x o).1.map er = o.map er ++ l.map er ∧ At (Cs w (most : Int) item f x o).2 (t :: A)
 | _, 0, _, _, _, h, _, _ => by omega
 | [], f + 1, x, o, hi, hf, hm, h => by
  rw [Cs, Bpj (w := w) (a := ((o.length : Nat) : Int)) (b := (most : Int)) h ht]
  exact ⟨by simp, h⟩
 | a :: l, f + 1, x, o, hi, hf, hm, h => by
  rw [List.length_cons] at hf hm
  rw [List.flatMap_cons, List.append_assoc, List.cons_append] at h
  obtain ⟨e1, h1⟩ := Bpk (w := w) (a := ((o.length : Nat) : Int)) (b := (most : Int)) (by simp; omega) h
  obtain ⟨e2, h2⟩ := hi a (by simp) h1
  rw [Cs, e1, cond_true]
  obtain ⟨e3, h3⟩ := Bf6 er w most item g ht l f _ (o ++ [(item (A6 w ((o.length : Nat) : Int) (most : Int) x).2).1]) (fun b hb => hi b (List.mem_cons_of_mem _ hb)) (by omega) (by rw [List.length_append, List.length_singleton]; omega) h2
  refine ⟨?_, h3⟩
  rw [e3, List.map_append, List.map_cons, List.map_nil, e2, List.append_assoc]
  rfl
theorem Bgb {α β : Type} (er : α → β) {w : List Int} {most : Nat} {item : RS → α × RS} {g : α → List T3} {t : T3} {A : List T3} {l : List α} {x : RS} (ht : (t.1 != 2 && (t.1 != 0 && t.2.1 == w)) = false)
  (hi : ∀ a ∈ l, ∀ {x A}, At x (g a ++ A) → er (item x).1 = er a ∧ At (item x).2 A) (hm : l.length ≤ most) (h : At x (l.flatMap (fun a => wd w :: g a) ++ t :: A)) :
  (Aw w (most : Int) item x).1.map er = l.map er ∧ At (Aw w (most : Int) item x).2 (t :: A) := by
 have hlen : l.length < x.1.length + 1 := by
  have e := congrArg List.length h.t
  rw [List.length_map, List.length_append] at e
  have : ∀ m : List α, m.length ≤ (m.flatMap (fun a => wd w :: g a)).length := by
   intro m
   induction m with
   | nil => simp
   | cons y r ih => rw [List.flatMap_cons, List.length_append, List.length_cons, List.length_cons]; omega
  have := this l
  omega
 exact Bf6 er w most item g ht l _ x [] hi hlen (by simpa using hm) h
def erH (h : YT1) : YT1 := (h.1, h.2.1, h.2.2.1, h.2.2.2.1, h.2.2.2.2.1, h.2.2.2.2.2.1, h.2.2.2.2.2.2.1, h.2.2.2.2.2.2.2.1, h.2.2.2.2.2.2.2.2.1, 0, ())
def erP (p : YT2) : YT2 := (p.1, p.2.1, p.2.2.1, p.2.2.2.1, p.2.2.2.2.1, 0, ())
def erX (x : YT3) : YT3 := (x.1, x.2.1, 0, ())
def erF (f : YT5) : YT5 := (f.1, f.2.1, 0, ())
def erS (s : YT7) : YT7 := (s.1, s.2.1, s.2.2.1, s.2.2.2.1, s.2.2.2.2.1, 0, ())
def erN (n : YT6) : YT6 := (n.1, n.2.1.map erH, n.2.2.1.map erP, n.2.2.2.1.map erX, n.2.2.2.2.1, n.2.2.2.2.2.1.map erF, 0, ())
def Fe (n : NetT) : NetT := (n.1, n.2.1, n.2.2.1, n.2.2.2.1, n.2.2.2.2.1, n.2.2.2.2.2.1.map erN, n.2.2.2.2.2.2.1.map erS, n.2.2.2.2.2.2.2.1, n.2.2.2.2.2.2.2.2)
theorem De {n : Int} (h : numB n = true) : 0 ≤ n := by
 unfold numB at h; simp at h; omega
theorem Am9 (x : List Int) : ∀ r : List (List Int), F8 (x :: r) = wd x :: r.flatMap (fun y => [sg ([44] : List Int), wd y])
 | [] => rfl
 | y :: r => by
  rw [F8, Am9 y r, List.flatMap_cons]
  rfl
theorem Bgi (most : Nat) : ∀ (r : List (List Int)) (f : Nat) (x : RS) (o : List (List Int)) {A : List T3}, (∀ w ∈ r, Bw w = true) → r.length < f → o.length + r.length ≤ most → At x (r.flatMap (fun y => [sg ([44] : List Int), wd y]) ++ sg ([59] : List Int) :: A) →
  (Cb (most : Int) f x o).1 = o ++ r ∧ At (Cb (most : Int) f x o).2 A
 | _, 0, _, _, _, _, h, _, _ => by omega
 | [], f + 1, x, o, A, hw, hf, hm, h => by
  have h : At x (sg ([59] : List Int) :: A) := h
  rw [Cb, Gb h, show ((sg ([59] : List Int)).1 != 2 && ((sg ([59] : List Int)).1 != 0 && (sg ([59] : List Int)).2.1 == ([44] : List Int))) = false by decide]
  exact ⟨by simp, C8 ([59] : List Int) h (by decide)⟩
 | y :: r, f + 1, x, o, A, hw, hf, hm, h => by
  rw [List.length_cons] at hf hm
  have h : At x (sg ([44] : List Int) :: wd y :: (r.flatMap (fun y => [sg ([44] : List Int), wd y]) ++ sg ([59] : List Int) :: A)) := h
  have h1 := Ko h (by decide)
  obtain ⟨e2, h2⟩ := F9 (hw y (by simp)) h1
  rw [Cb, Gb h, show ((sg ([44] : List Int)).1 != 2 && ((sg ([44] : List Int)).1 != 0 && (sg ([44] : List Int)).2.1 == ([44] : List Int))) = true by decide, cond_true]
  have hne : (((o.length : Nat) : Int) == (most : Int)) = false := by simp; omega
  simp only [hne, Bool.false_and, cond_false]
  rw [e2]
  obtain ⟨e3, h3⟩ := Bgi most r f (Ah (A1 x)).2 (o ++ [y]) (fun w hw2 => hw w (List.mem_cons_of_mem _ hw2)) (by omega) (by rw [List.length_append, List.length_singleton]; omega) h2
  exact ⟨by rw [e3, List.append_assoc]; rfl, h3⟩
theorem Ang {most : Nat} {l : List (List Int)} {x : RS} {A : List T3} (hb : rowB most l = true) (h : At x (F8 l ++ sg ([59] : List Int) :: A)) : (Cg (most : Int) x).1 = l ∧ At (Cg (most : Int) x).2 A := by
 obtain ⟨⟨h1, h2⟩, hw⟩ := On hb
 cases l with
 | nil => simp at h1
 | cons y r =>
  rw [Am9] at h
  obtain ⟨e1, g1⟩ := F9 (hw y (by simp)) h
  have g1 : At (Ah x).2 (r.flatMap (fun y => [sg ([44] : List Int), wd y]) ++ sg ([59] : List Int) :: A) := g1
  unfold Cg
  rw [e1]
  refine Bgi most r _ (Ah x).2 [y] (fun w hw2 => hw w (List.mem_cons_of_mem _ hw2)) ?_ (by rw [List.length_singleton]; rw [List.length_cons] at h2; omega) g1
  have e := congrArg List.length g1.t
  rw [List.length_map, List.length_append] at e
  have : ∀ m : List (List Int), m.length ≤ (m.flatMap (fun y => [sg ([44] : List Int), wd y])).length := by
   intro m
   induction m with
   | nil => simp
   | cons y r ih => rw [List.flatMap_cons, List.length_append, List.length_cons, List.length_cons]; omega
  have := this r
  omega
theorem Cdt {a : YT3} (hb : Ey a = true) {x : RS} {A : List T3} (h : At x (wd a.1 :: sg ([58] : List Int) :: (F8 a.2.1 ++ [sg ([59] : List Int)]) ++ A)) : erX (Dq x).1 = erX a ∧ At (Dq x).2 A := by
 unfold Ey at hb
 simp only [Bool.and_eq_true] at hb
 simp only [List.append_assoc, List.cons_append, List.nil_append] at h
 obtain ⟨e1, h1⟩ := F9 hb.1 h
 have h2 := C8 ([58] : List Int) h1 (by decide)
 obtain ⟨e3, h3⟩ := Ang (most := 16) hb.2.1 h2
 refine ⟨?_, h3⟩
 show ((Ah x).1, (Cg 16 (Aj ([58] : List Int) (Ah x).2)).1, (0 : Int), ()) = _
 rw [e1]
 exact congrArg (fun z => (a.1, z, (0 : Int), ())) e3
theorem foe_at {a : YT5} (hb : foeB a = true) {x : RS} {A : List T3} (h : At x ([wd a.1, wd a.2.1, sg ([59] : List Int)] ++ A)) : erF (foeR x).1 = erF a ∧ At (foeR x).2 A := by
 unfold foeB at hb
 simp only [Bool.and_eq_true] at hb
 simp only [List.cons_append, List.nil_append] at h
 obtain ⟨e1, h1⟩ := F9 hb.1 h
 obtain ⟨e2, h2⟩ := F9 hb.2.1 h1
 refine ⟨?_, C8 ([59] : List Int) h2 (by decide)⟩
 show ((Ah x).1, (Ah (Ah x).2).1, (0 : Int), ()) = _
 rw [e1, e2]
 rfl
theorem ped_at {a : YT2} (hb : pedB a = true) {x : RS} {A : List T3} (h : At x (wd a.1 :: wd ([119, 105, 116, 104] : List Int) :: wd a.2.1 :: wd ([108, 111, 110, 103] : List Int) :: (numK a.2.2.1 ++ (wd ([112, 97, 99, 101] : List Int) :: (numK a.2.2.2.1 ++ (wd ([108, 101, 97, 115, 116] : List Int) :: (numK a.2.2.2.2.1 ++ [sg ([59] : List Int)])))))  ++ A)) :
  erP (Bx x).1 = erP a ∧ At (Bx x).2 A := by
 unfold pedB at hb
 simp only [Bool.and_eq_true] at hb
 obtain ⟨n1, n2, q1, q2, q3, -⟩ := hb
 simp only [List.append_assoc, List.cons_append, List.nil_append] at h
 obtain ⟨e1, h1⟩ := F9 n1 h
 have h2 := C8 ([119, 105, 116, 104] : List Int) h1 (by decide)
 obtain ⟨e3, h3⟩ := F9 n2 h2
 obtain ⟨e4, h4⟩ := Ee (by decide) (De q1) h3
 obtain ⟨e5, h5⟩ := Ee (by decide) (De q2) h4
 obtain ⟨e6, h6⟩ := Ee (by decide) (De q3) h5
 refine ⟨?_, C8 ([59] : List Int) h6 (by decide)⟩
 unfold Bx erP
 simp only
 rw [e1, e3, e4, e5, e6]
theorem stop_at {a : YT7} (hb : E8 a = true) {x : RS} {A : List T3} (h : At x (wd a.1 :: wd ([111, 117, 116] : List Int) :: wd a.2.1 :: wd ([105, 110] : List Int) :: wd a.2.2.1 :: wd ([97, 104, 101, 97, 100] : List Int) :: (numK a.2.2.2.1 ++ (wd ([98, 97, 99, 107] : List Int) :: (numK a.2.2.2.2.1 ++ [sg ([59] : List Int)]))) ++ A)) :
  erS (Ef x).1 = erS a ∧ At (Ef x).2 A := by
 unfold E8 at hb
 simp only [Bool.and_eq_true] at hb
 obtain ⟨n1, n2, n3, q1, q2, -⟩ := hb
 simp only [List.append_assoc, List.cons_append, List.nil_append] at h
 obtain ⟨e1, h1⟩ := F9 n1 h
 have h2 := C8 ([111, 117, 116] : List Int) h1 (by decide)
 obtain ⟨e3, h3⟩ := F9 n2 h2
 have h4 := C8 ([105, 110] : List Int) h3 (by decide)
 obtain ⟨e5, h5⟩ := F9 n3 h4
 obtain ⟨e6, h6⟩ := Ee (by decide) (De q1) h5
 obtain ⟨e7, h7⟩ := Ee (by decide) (De q2) h6
 refine ⟨?_, C8 ([59] : List Int) h7 (by decide)⟩
 unfold Ef erS
 simp only
 rw [e1, e3, e5, e6, e7]
theorem ring_at {a : YT4} (hb : Jp a = true) {x : RS} {A : List T3} (h : At x ((bif a.1 then [wd ([102, 114, 101, 101] : List Int)] else []) ++ (F8 a.2.1 ++ [sg ([59] : List Int)]) ++ A)) : id (Dz x).1 = id a ∧ At (Dz x).2 A := by
 unfold Jp at hb
 obtain ⟨a0, a1, ⟨⟩⟩ := a
 obtain ⟨⟨h1, h2⟩, hw⟩ := On hb
 cases a0
 ·simp only [cond_false, List.append_assoc, List.cons_append, List.nil_append] at h
  have hs : Ay ([102, 114, 101, 101] : List Int) x = false := by
   cases a1 with
   | nil => simp at h1
   | cons y r =>
    rw [Am9] at h
    rw [Gb h]
    have hy := hw y (by simp)
    have : (y == ([102, 114, 101, 101] : List Int)) = false := by
     cases hyf : y == ([102, 114, 101, 101] : List Int)
     ·rfl
     ·have : y = ([102, 114, 101, 101] : List Int) := by simpa using hyf
      subst this
      have : Bw ([102, 114, 101, 101] : List Int) = false := by rfl
      rw [this] at hy
      cases hy
    simp only [wd]
    rw [this]
    simp
  obtain ⟨e3, h3⟩ := Ang (most := 4) hb h
  unfold Dz
  rw [hs]
  simp only [cond_false]
  exact ⟨congrArg (fun z => (false, z, ())) e3, h3⟩
 ·simp only [cond_true, List.append_assoc, List.cons_append, List.nil_append] at h
  have hs : Ay ([102, 114, 101, 101] : List Int) x = true := by rw [Gb h]; decide
  obtain ⟨e3, h3⟩ := Ang (most := 4) hb (Ko h (by decide))
  unfold Dz
  rw [hs]
  simp only [cond_true]
  exact ⟨congrArg (fun z => (true, z, ())) e3, h3⟩
theorem head_at {a : YT1} (hb : Eo a = true) {x : RS} {A : List T3} (h : At x ((N7 a).tail ++ A)) : erH (Bf x).1 = erH a ∧ At (Bf x).2 A := by
 have sp := Am0 hb
 unfold Eo at hb
 simp only [Bool.and_eq_true] at hb
 obtain ⟨n0, q1, q2, ⟨q3, q4⟩, q5, -, -, q8, q9, q10, -⟩ := hb
 have hg := sp.2.2.2.2.2.2.1
 unfold N7 at h
 simp only [List.tail_cons, List.append_assoc, List.cons_append, List.nil_append] at h
 obtain ⟨e1, h1⟩ := F9 n0 h
 obtain ⟨e2, h2⟩ := Ee (by decide) (De q1) h1
 obtain ⟨e3, h3⟩ := Ee (by decide) (De q2) h2
 obtain ⟨e4, h4⟩ := A9v (by decide) (De q3) (De q4) h3
 obtain ⟨e5, h5⟩ := Ee (by decide) (De q5) h4
 have h6 := C8 ([103, 114, 97, 100, 101] : List Int) h5 (by decide)
 unfold Bf erH
 simp only
 generalize Ah x = n at *
 generalize numR ([118, 111, 108, 117, 109, 101] : List Int) n.2 = v at *
 generalize numR ([102, 108, 111, 119] : List Int) v.2 = s at *
 generalize Dk ([117, 115, 101] : List Int) s.2 = u at *
 generalize numR ([115, 112, 101, 101, 100] : List Int) u.2 = p at *
 generalize Aj ([103, 114, 97, 100, 101] : List Int) p.2 = q at *
 have rest : ∀ {g : Int × RS}, At g.2 (wd ([119, 105, 100, 116, 104] : List Int) :: (numK a.2.2.2.2.2.2.1 ++ (wd ([108, 101, 110, 103, 116, 104] : List Int) :: (numK a.2.2.2.2.2.2.2.1 ++ (wd ([103, 114, 101, 101, 110] : List Int) :: (numK a.2.2.2.2.2.2.2.2.1 ++ sg ([59] : List Int) :: A)))))) →
   (numR ([119, 105, 100, 116, 104] : List Int) g.2).1 = a.2.2.2.2.2.2.1 ∧ (numR ([108, 101, 110, 103, 116, 104] : List Int) (numR ([119, 105, 100, 116, 104] : List Int) g.2).2).1 = a.2.2.2.2.2.2.2.1 ∧ (numR ([103, 114, 101, 101, 110] : List Int) (numR ([108, 101, 110, 103, 116, 104] : List Int) (numR ([119, 105, 100, 116, 104] : List Int) g.2).2).2).1 = a.2.2.2.2.2.2.2.2.1 ∧ At (Aj ([59] : List Int) (numR ([103, 114, 101, 101, 110] : List Int) (numR ([108, 101, 110, 103, 116, 104] : List Int) (numR ([119, 105, 100, 116, 104] : List Int) g.2).2).2).2) A := by
  intro g hg
  obtain ⟨f1, g1⟩ := Ee (by decide) (De q8) hg
  obtain ⟨f2, g2⟩ := Ee (by decide) (De q9) g1
  obtain ⟨f3, g3⟩ := Ee (by decide) (De q10) g2
  exact ⟨f1, f2, f3, C8 ([59] : List Int) g3 (by decide)⟩
 by_cases hneg : a.2.2.2.2.2.1 < 0
 ·have hk : numK a.2.2.2.2.2.1 = [(3, ([45] : List Int), 0), (2, digN 18 (a.2.2.2.2.2.1).natAbs, -a.2.2.2.2.2.1)] := by
   unfold numK
   rw [show decide (a.2.2.2.2.2.1 < 0) = true by simpa using hneg]
   rfl
  rw [hk] at h6
  have h6 : At q ((3, ([45] : List Int), 0) :: (2, digN 18 (a.2.2.2.2.2.1).natAbs, -a.2.2.2.2.2.1) :: _) := h6
  have hs : Ay ([45] : List Int) q = true := by rw [Gb h6]; decide
  have h7 := Ko h6 (by decide)
  obtain ⟨e7, h8⟩ := Sm h7
  have e7 : (numR [] (A1 q)).1 = -a.2.2.2.2.2.1 := e7
  have h8 : At (numR [] (A1 q)).2 _ := h8
  obtain ⟨f1, f2, f3, h9⟩ := rest h8
  rw [hs]
  simp only [cond_true]
  refine ⟨?_, h9⟩
  have en : negI .i64 (numR [] (A1 q)).1 = a.2.2.2.2.2.1 := by
   rw [e7]
   unfold negI
   rw [w64 (by unfold inM at hg; omega)]
   omega
  rw [e1, e2, e3, e5, en, f1, f2, f3, e4]
 ·rw [Yi (by omega)] at h6
  have h6 : At q ((2, digN 18 (a.2.2.2.2.2.1).natAbs, a.2.2.2.2.2.1) :: _) := h6
  have hs : Ay ([45] : List Int) q = false := by rw [Gb h6]; rfl
  obtain ⟨e7, h8⟩ := Sm h6
  have e7 : (numR [] q).1 = a.2.2.2.2.2.1 := e7
  have h8 : At (numR [] q).2 _ := h8
  obtain ⟨f1, f2, f3, h9⟩ := rest h8
  rw [hs]
  simp only [cond_false]
  refine ⟨?_, h9⟩
  rw [e1, e2, e3, e5, e7, f1, f2, f3, e4]
theorem Cba {a : List YT4 × Unit} (hb : En a = true) {x : RS} {A : List T3} (h : At x (sg ([123] : List Int) :: (a.1.flatMap Yx ++ [sg ([125] : List Int)]) ++ A)) : id (Cx x).1 = id a ∧ At (Cx x).2 A := by
 unfold En at hb
 simp only [Bool.and_eq_true, Bool.not_eq_true', decide_eq_false_iff_not, List.all_eq_true] at hb
 simp only [List.append_assoc, List.cons_append, List.nil_append] at h
 have h1 := C8 ([123] : List Int) h (by decide)
 obtain ⟨l, ⟨⟩⟩ := a
 have hs : Ay ([114, 105, 110, 103] : List Int) (Aj ([123] : List Int) x) = true := by
  cases l with
  | nil => simp at hb
  | cons r l =>
   have h1 : At (Aj ([123] : List Int) x) (wd ([114, 105, 110, 103] : List Int) :: _) := h1
   rw [Gb h1]
   decide
 unfold Cx
 simp only
 rw [hs]
 simp only [cond_true]
 obtain ⟨e2, h2⟩ := Bgb id (w := ([114, 105, 110, 103] : List Int)) (most := 2) (item := Dz) (g := fun r => (bif r.1 then [wd ([102, 114, 101, 101] : List Int)] else []) ++ (F8 r.2.1 ++ [sg ([59] : List Int)])) (t := sg ([125] : List Int)) (l := l) (by decide) (fun r hr {x A} hx => ring_at (hb.2.2 r hr) hx) (by have := hb.2.1; simp only at this; omega) h1
 rw [List.map_id, List.map_id] at e2
 refine ⟨congrArg (fun z => (z, ())) e2, C8 ([125] : List Int) h2 (by decide)⟩
def Stops (w : List Int) (A : List T3) : Prop := ∃ t B, A = t :: B ∧ (t.1 != 2 && (t.1 != 0 && t.2.1 == w)) = false
theorem I6 {α : Type} {w v : List Int} {g : α → List T3} {A : List T3} (hv : (v == w) = false) (h : Stops w A) : ∀ l : List α, Stops w (l.flatMap (fun a => wd v :: g a) ++ A)
 | [] => h
 | a :: l => ⟨wd v, _, rfl, by simp [wd, hv]⟩
theorem L6 {α β : Type} (er : α → β) {w : List Int} {most : Nat} {item : RS → α × RS} {g : α → List T3} {A : List T3} {l : List α} {x : RS} (ht : Stops w A)
  (hi : ∀ a ∈ l, ∀ {x A}, At x (g a ++ A) → er (item x).1 = er a ∧ At (item x).2 A) (hm : l.length ≤ most) (h : At x (l.flatMap (fun a => wd w :: g a) ++ A)) :
  (Aw w (most : Int) item x).1.map er = l.map er ∧ At (Aw w (most : Int) item x).2 A := by
 obtain ⟨t, B, rfl, hc⟩ := ht
 exact Bgb er hc hi hm h
theorem node_at {a : YT6} (hb : Dn a = true) {x : RS} {A : List T3} (h : At x ((Og a).tail ++ A)) : erN (Bv x).1 = erN a ∧ At (Bv x).2 A := by
 unfold Dn at hb
 simp only [Bool.and_eq_true, List.all_eq_true] at hb
 obtain ⟨n0, h1, h2, h3, h4, h5, p1, p2, p3, p4, p5⟩ := hb
 have h1 := C3 h1
 have h2 := C3 h2
 have h3 := C3 h3
 have h4 := C3 h4
 have h5 := C3 h5
 unfold Og at h
 simp only [List.tail_cons, List.append_assoc, List.cons_append, List.nil_append] at h
 obtain ⟨e0, g0⟩ := F9 n0 h
 have g1 := C8 ([123] : List Int) g0 (by decide)
 have sE : ∀ w, ((([125] : List Int) : List Int) == w) = false → Stops w (sg ([125] : List Int) :: A) := fun w hw => ⟨_, _, rfl, by simp [sg, hw]⟩
 obtain ⟨r1, g2⟩ := L6 erH (w := ([104, 101, 97, 100] : List Int)) (most := 16) (item := Bf) (g := fun a => (N7 a).tail) (l := a.2.1) (I6 (v := ([119, 97, 108, 107] : List Int)) (g := fun a => (pedK a).tail) (by decide) (I6 (v := ([112, 104, 97, 115, 101] : List Int)) (g := fun a => (Oi a).tail) (by decide) (I6 (v := ([103, 114, 111, 117, 112] : List Int)) (g := fun a => (Ly a).tail) (by decide) (I6 (v := ([102, 111, 101] : List Int)) (g := fun a => (foeK a).tail) (by decide) (sE _ (by decide)) a.2.2.2.2.2.1) a.2.2.2.2.1) a.2.2.2.1) a.2.2.1) (fun y hy {x A} hx => head_at (p1 y hy) hx) (by omega) g1
 obtain ⟨r2, g3⟩ := L6 erP (w := ([119, 97, 108, 107] : List Int)) (most := 8) (item := Bx) (g := fun a => (pedK a).tail) (l := a.2.2.1) (I6 (v := ([112, 104, 97, 115, 101] : List Int)) (g := fun a => (Oi a).tail) (by decide) (I6 (v := ([103, 114, 111, 117, 112] : List Int)) (g := fun a => (Ly a).tail) (by decide) (I6 (v := ([102, 111, 101] : List Int)) (g := fun a => (foeK a).tail) (by decide) (sE _ (by decide)) a.2.2.2.2.2.1) a.2.2.2.2.1) a.2.2.2.1) (fun y hy {x A} hx => ped_at (p2 y hy) hx) (by omega) g2
 obtain ⟨r3, g4⟩ := L6 erX (w := ([112, 104, 97, 115, 101] : List Int)) (most := 16) (item := Dq) (g := fun a => (Oi a).tail) (l := a.2.2.2.1) (I6 (v := ([103, 114, 111, 117, 112] : List Int)) (g := fun a => (Ly a).tail) (by decide) (I6 (v := ([102, 111, 101] : List Int)) (g := fun a => (foeK a).tail) (by decide) (sE _ (by decide)) a.2.2.2.2.2.1) a.2.2.2.2.1) (fun y hy {x A} hx => Cdt (p3 y hy) hx) (by omega) g3
 obtain ⟨r4, g5⟩ := L6 id (w := ([103, 114, 111, 117, 112] : List Int)) (most := 4) (item := Cx) (g := fun a => (Ly a).tail) (l := a.2.2.2.2.1) (I6 (v := ([102, 111, 101] : List Int)) (g := fun a => (foeK a).tail) (by decide) (sE _ (by decide)) a.2.2.2.2.2.1) (fun y hy {x A} hx => Cba (p4 y hy) hx) (by omega) g4
 obtain ⟨r5, g6⟩ := L6 erF (w := ([102, 111, 101] : List Int)) (most := 64) (item := foeR) (g := fun a => (foeK a).tail) (l := a.2.2.2.2.2.1) (sE _ (by decide)) (fun y hy {x A} hx => foe_at (p5 y hy) hx) (by omega) g5
 rw [List.map_id, List.map_id] at r4
 refine ⟨?_, C8 ([125] : List Int) g6 (by decide)⟩
 unfold Bv erN
 simp only
 exact Prod.ext e0 (Prod.ext r1 (Prod.ext r2 (Prod.ext r3 (Prod.ext r4 (Prod.ext r5 rfl)))))
theorem Chk {n : NetT} (hb : netB n = true) {x : RS} (h : At x (netK n)) : Fe (netR x).1 = Fe n ∧ At (netR x).2 [(0, [], 0)] := by
 unfold netB at hb
 simp only [Bool.and_eq_true, List.all_eq_true] at hb
 obtain ⟨q0, q1, q2, ⟨q3, q4⟩, q7, q8, h1, h2, p1, p2⟩ := hb
 have h1 := C3 h1
 have h2 := C3 h2
 unfold netK at h
 obtain ⟨e1, g1⟩ := Ee (by decide) (De q0) h
 obtain ⟨e2, g2⟩ := Ee (by decide) (De q1) g1
 obtain ⟨e3, g3⟩ := Ee (by decide) (De q2) g2
 have g4 := C8 ([59] : List Int) g3 (by decide)
 obtain ⟨e5, g5⟩ := A9v (by decide) (De q3) (De q4) g4
 have g6 := C8 ([59] : List Int) g5 (by decide)
 have sA : Stops ([110, 111, 100, 101] : List Int) (artK n ++ [(0, [], 0)]) := by
  unfold artK
  cases artB n
  ·exact ⟨_, _, rfl, by decide⟩
  ·exact ⟨_, _, rfl, by decide⟩
 obtain ⟨r1, g7⟩ := L6 erN (w := ([110, 111, 100, 101] : List Int)) (most := 12) (item := Bv) (g := fun a => (Og a).tail) (l := n.2.2.2.2.2.1) sA (fun y hy {x A} hx => node_at (p1 y hy) hx) (by omega) g6
 unfold netR
 simp only
 generalize numR ([99, 121, 99, 108, 101] : List Int) x = c1 at *
 generalize numR ([116, 111] : List Int) c1.2 = c2 at *
 generalize numR ([98, 121] : List Int) c2.2 = c3 at *
 generalize Dk ([112, 101, 97, 107] : List Int) (Aj ([59] : List Int) c3.2) = c4 at *
 have r1 : (Aw ([110, 111, 100, 101] : List Int) 12 Bv (Aj ([59] : List Int) c4.2)).1.map erN = _ := r1
 have g7 : At (Aw ([110, 111, 100, 101] : List Int) 12 Bv (Aj ([59] : List Int) c4.2)).2 _ := g7
 generalize Aw ([110, 111, 100, 101] : List Int) 12 Bv (Aj ([59] : List Int) c4.2) = m at *
 have fin : ∀ {t : (List YT7 × Int × Int) × RS}, t.1.1.map erS = n.2.2.2.2.2.2.1.map erS → t.1.2.1 = n.2.2.2.2.2.2.2.1 → t.1.2.2 = n.2.2.2.2.2.2.2.2 → At t.2 [(0, [], 0)] →
   Fe (c1.1, c2.1, c3.1, c4.1.1, c4.1.2, m.1, t.1.1, t.1.2.1, t.1.2.2) = Fe n ∧ At (bif (hd t.2.1).1 != 0 then A2 50 t.2 else t.2) [(0, [], 0)] := by
  intro t f1 f2 f3 f4
  have hk : (hd t.2.1).1 = 0 := (O5 f4).1
  rw [hk]
  refine ⟨?_, f4⟩
  unfold Fe
  simp only
  rw [e1, e2, e3, e5, r1, f1, f2, f3]
 cases hA : artB n
 ·have hK : artK n = [] := by unfold artK; rw [hA]; rfl
  rw [hK] at g7
  have g7 : At m.2 [(0, [], 0)] := g7
  rw [show Ay ([97, 114, 116, 101, 114, 121] : List Int) m.2 = false by rw [Gb g7]; decide]
  unfold artB at hA
  simp only [Bool.or_eq_false_iff, decide_eq_false_iff_not, bne_eq_false_iff_eq] at hA
  have h0 : n.2.2.2.2.2.2.1 = [] := List.eq_nil_of_length_eq_zero (by omega)
  exact fin (t := (([], 0, 0), m.2)) (by rw [h0]) hA.1.2.symm hA.2.symm g7
 ·unfold artK at g7
  rw [hA] at g7
  simp only [cond_true, List.append_assoc, List.cons_append, List.nil_append] at g7
  rw [show Ay ([97, 114, 116, 101, 114, 121] : List Int) m.2 = true by rw [Gb g7]; rfl]
  have k1 := Ko g7 (by decide)
  have k2 := C8 ([123] : List Int) k1 (by decide)
  obtain ⟨s1, k3⟩ := L6 erS (w := ([115, 116, 111, 112] : List Int)) (most := 12) (item := Ef) (g := fun a => (Y5 a).tail) (l := n.2.2.2.2.2.2.1) ⟨_, _, rfl, by decide⟩ (fun y hy {x A} hx => stop_at (p2 y hy) hx) (by omega) k2
  obtain ⟨s2, k4⟩ := Ee (by decide) (De q7) k3
  obtain ⟨s3, k5⟩ := num_at0 (De q8) k4
  have k6 := C8 ([59] : List Int) k5 (by decide)
  have k7 := C8 ([125] : List Int) k6 (by decide)
  exact fin (t := B5 (A1 m.2)) s1 s2 s3 k7
theorem Ch5 {m n : NetT} (hm : netB m = true) (hn : netB n = true) (h : netT m = netT n) : Fe m = Fe n := by
 have l1 := Cbz hm (netT m).length ((netT m).length + 1) (by omega)
 have l2 := Cbz hn (netT m).length ((netT m).length + 1) (by rw [h]; omega)
 rw [← h] at l2
 have a1 : At ((lx (netT m).length ((netT m).length + 1) (netT m)).2.2, 0, 0) (netK m) := ⟨rfl, l1.2⟩
 have a2 : At ((lx (netT m).length ((netT m).length + 1) (netT m)).2.2, 0, 0) (netK n) := ⟨rfl, l2.2⟩
 exact (Chk hm a1).1.symm.trans (Chk hn a2).1
noncomputable instance dec1 : DecidableEq YT1 := fun _ _ => Classical.propDecidable _
noncomputable instance dec2 : DecidableEq YT2 := fun _ _ => Classical.propDecidable _
noncomputable instance dec7 : DecidableEq YT7 := fun _ _ => Classical.propDecidable _
noncomputable instance decG : DecidableEq (List YT4 × Unit) := fun _ _ => Classical.propDecidable _
noncomputable instance dec6 : DecidableEq YT6 := fun _ _ => Classical.propDecidable _
noncomputable instance decN : DecidableEq NetT := fun _ _ => Classical.propDecidable _
theorem Chg {α : Type} (er : α → α) (f : α → List Int) (h : ∀ x, f (er x) = f x) (l : List α) : (l.map er).flatMap f = l.flatMap f := by
 rw [List.flatMap_map]
 simp only [h]
theorem Ch3 (h : YT1) : Dc (erH h) = Dc h := rfl
theorem pedT_er (h : YT2) : pedT (erP h) = pedT h := rfl
theorem Ch8 (h : YT3) : Dr (erX h) = Dr h := rfl
theorem foeT_er (h : YT5) : foeT (erF h) = foeT h := rfl
theorem Cie (h : YT7) : Cu (erS h) = Cu h := rfl
theorem Ch7 (n : YT6) : Ix (erN n) = Ix n := by
 unfold Ix Jl erN
 simp only [Chg erH Dc Ch3, Chg erP pedT pedT_er, Chg erX Dr Ch8, Chg erF foeT foeT_er]
theorem Chr (n : NetT) : netT (Fe n) = netT n := by
 unfold netT artT artB Fe
 simp only [Chg erN Ix Ch7, Chg erS Cu Cie, List.length_map]
theorem Cif {m n : NetT} (hm : netB m = true) (hn : netB n = true) : netT m = netT n ↔ Fe m = Fe n :=
 ⟨Ch5 hm hn, fun h => by rw [← Chr m, ← Chr n, h]⟩
section
variable {α β R : Type} [DecidableEq β] (er : α → β) (a b : List α)
theorem Bot : ∀ (a b : List α), a.length = b.length → ((a.zip b).all (fun x => decide (er x.1 = er x.2)) = true ↔ a.map er = b.map er)
 | [], [], _ => by simp
 | x :: a, y :: b, h => by
  have := Bot a b (by simpa using h)
  rw [List.zip_cons_cons, List.all_cons, Bool.and_eq_true, this]
  simp
 | [], _ :: _, h => by simp at h
 | _ :: _, [], h => by simp at h
theorem Jy (F : Nat → Int → Option R) (hl : a.length = b.length) {r e : Option R}
  (h1 : ∀ j i x y, a[i]? = some x → b[i]? = some y → F (j + 1) ((i : Nat) : Int) = if er x = er y then F j ((i + 1 : Nat) : Int) else e) (h0 : ∀ j, F (j + 1) ((a.length : Nat) : Int) = r) (j : Nat) (hj : a.length < j) :
  F j 0 = if a.map er = b.map er then r else e := by
 have hz : (a.zip b).length = a.length := by rw [List.length_zip]; omega
 have L := Bo3 (a.zip b) (fun x => decide (er x.1 = er x.2)) F e r (fun j i x hx => ?_) (fun j => by rw [hz]; exact h0 j) j (by rw [hz]; exact hj)
 ·rw [L]
  have := Bot er a b hl
  by_cases hc : a.map er = b.map er
  ·rw [if_pos hc, if_pos (this.2 hc)]
  ·rw [if_neg hc, if_neg (fun h => hc (this.1 h))]
 ·obtain ⟨hx1, hx2⟩ := List.getElem?_zip_eq_some.1 hx
  rw [h1 j i x.1 x.2 hx1 hx2]
  simp
theorem K0 {c r e : Option R} (h : a.length = b.length → c = if a.map er = b.map er then r else e) : (bif (((List.length a : Nat) : Int) != ((List.length b : Nat) : Int)) then e else c) = if a.map er = b.map er then r else e := by
 by_cases hl : a.length = b.length
 ·rw [h hl, hl]
  simp
 ·have h2 : ¬ a.map er = b.map er := fun h => hl (by have := congrArg List.length h; simpa using this)
  rw [if_neg h2]
  have h3 : (((List.length a : Nat) : Int) != ((List.length b : Nat) : Int)) = true := by simp; omega
  rw [h3]
  rfl
end
theorem Jd {R : Type} {B : Bool} {p : Prop} [Decidable p] {X e : Option R} (h : B = true ↔ p) : (bif !B then e else X) = if p then X else e := by
 by_cases hp : p
 ·rw [if_pos hp, h.2 hp]; rfl
 ·rw [if_neg hp]
  cases B with
  | false => rfl
  | true => exact absurd (h.1 rfl) hp
theorem X6 {R : Type} {p q : Prop} [Decidable p] [Decidable q] {X e : R} : (if p then (if q then X else e) else e) = if p ∧ q then X else e := by
 by_cases hp : p <;> by_cases hq : q <;> simp [hp, hq]
theorem Tg {R : Type} {p : Prop} [Decidable p] {X e : Option R} : ((if p then some true else some false).bind fun o => bif !o then e else X) = if p then X else e := by
 by_cases hp : p <;> simp [hp]
section
variable (k : Nat) (hk : 1000 ≤ k)
include hk
theorem Cbi (a b : List YT1) (ha : a.length < 1000) : P0 k (a, b, false) = if a.map erH = b.map erH then some true else some false := by
 rw [B6r, Ajl]
 refine K0 erH a b fun hl => Jy erH a b (fun j i => (Hr k).L 4 [] j (Ni (a, b, false, i))) hl (fun j i x y hx hy => ?_) (fun j => ?_) k (by omega)
 ·rw [A74, Xa, B9 hx, A5 hx, A5 hy, Cd hx (by omega)]
  simp only [Bool.not_false, cond_true]
  refine Jd ?_
  simp [eqS, eqI, erH, Prod.ext_iff]
 ·rw [A74, Xa, Ca]
theorem Cdk (a b : List YT2) (ha : a.length < 1000) : P1 k (a, b, false) = if a.map erP = b.map erP then some true else some false := by
 rw [B6s, Ajp]
 refine K0 erP a b fun hl => Jy erP a b (fun j i => (Hs k).L 4 [] j (Nj (a, b, false, i))) hl (fun j i x y hx hy => ?_) (fun j => ?_) k (by omega)
 ·rw [A76, Xb, B9 hx, A5 hx, A5 hy, Cd hx (by omega)]
  simp only [Bool.not_false, cond_true]
  refine Jd ?_
  simp [eqS, eqI, erP, Prod.ext_iff]
 ·rw [A76, Xb, Ca]
theorem B04 (a b : List YT5) (ha : a.length < 1000) : Pz k (a, b, false) = if a.map erF = b.map erF then some true else some false := by
 rw [B6q, Ajh]
 refine K0 erF a b fun hl => Jy erF a b (fun j i => (Hq k).L 4 [] j (Nh (a, b, false, i))) hl (fun j i x y hx hy => ?_) (fun j => ?_) k (by omega)
 ·rw [A72, W9, B9 hx, A5 hx, A5 hy, Cd hx (by omega)]
  simp only [Bool.not_false, cond_true]
  refine Jd ?_
  simp [eqS, eqI, erF, Prod.ext_iff]
 ·rw [A72, W9, Ca]
theorem Cgg (a b : List YT7) (ha : a.length < 1000) : V3 k (a, b, false) = if a.map erS = b.map erS then some true else some false := by
 rw [B75, Ald]
 refine K0 erS a b fun hl => Jy erS a b (fun j i => (Hx k).L 4 [] j (Nq (a, b, false, i))) hl (fun j i x y hx hy => ?_) (fun j => ?_) k (by omega)
 ·rw [A9r, Xk, B9 hx, A5 hx, A5 hy, Cd hx (by omega)]
  simp only [Bool.not_false, cond_true]
  refine Jd ?_
  simp [eqS, eqI, erS, Prod.ext_iff]
 ·rw [A9r, Xk, Ca]
theorem Bgl (a b : List (List Int)) (ha : a.length < 1000) : Py k (a, b) = if a = b then some true else some false := by
 rw [B6j, Ai1]
 have h := K0 (c := (F0 k).L 4 [] k (Ng (a, b, (0 : Int)))) (r := some true) (e := some false) (id : List Int → List Int) a b fun hl => Jy id a b (fun j i => (F0 k).L 4 [] j (Ng (a, b, i))) hl (fun j i x y hx hy => ?_) (fun j => ?_) k (by omega)
 ·rw [List.map_id, List.map_id] at h
  exact h
 ·rw [A7u, W5, B9 hx, A5 hx, A5 hy, Cd hx (by omega)]
  refine Jd ?_
  simp
 ·rw [A7u, W5, Ca]
theorem Cdu (a b : List YT3) (ha : a.length < 1000) (hx : ∀ x ∈ a, x.2.1.length < 1000) : P2 k (a, b, false) = if a.map erX = b.map erX then some true else some false := by
 rw [B6u, Ajt]
 refine K0 erX a b fun hl => Jy erX a b (fun j i => (Ht k).L 4 [] j (Nk (a, b, false, i))) hl (fun j i x y hx' hy => ?_) (fun j => ?_) k (by omega)
 ·rw [A78, Xc, B9 hx']
  simp only [A5 hx', A5 hy]
  rw [Cd hx' (by omega), Bgl k hk _ _ (hx x (Ei hx'))]
  simp only [cond_false, Tg]
  rw [Jd (p := x.1 = y.1) (by simp), X6]
  simp [erX, Prod.ext_iff]
 ·rw [A78, Xc, Ca]
theorem Cfr (a b : List (List YT4 × Unit)) (i j : Nat) (x y : List YT4 × Unit) (hx : a[i]? = some x) (hy : b[i]? = some y) (hl : a.length < 1000) (h1 : x.1.length < 1000) (h2 : ∀ r ∈ x.1, r.2.1.length < 1000) (hlen : x.1.length = y.1.length) :
  (Dj k).L 9 [j] k (Nf (a, b, (i : Int), (0 : Int))) = if x.1.map id = y.1.map id then (Dj k).L 4 [] j (Lr (a, b, ((i + 1 : Nat) : Int))) else some false := by
 refine Jy id x.1 y.1 (fun j' i' => (Dj k).L 9 [j] j' (Nf (a, b, (i : Int), i'))) hlen (fun j' i' r s hr hs => ?_) (fun j' => ?_) k (by omega)
 ·rw [A7r, W4]
  simp only [A5 hx, A5 hy, A5 hr, A5 hs]
  rw [B9 hr, Cd hr (by omega), Bgl k hk _ _ (h2 r (Ei hr)), Tg, Jd (p := r.1 = s.1) (by simp), X6]
  simp [Prod.ext_iff]
 ·rw [A7r, W4]
  simp only [A5 hx, A5 hy]
  rw [Ca, Cd hx (by omega)]
theorem Cbc (a b : List (List YT4 × Unit)) (ha : a.length < 1000) (hx : ∀ x ∈ a, x.1.length < 1000 ∧ ∀ r ∈ x.1, r.2.1.length < 1000) : Px k (a, b) = if a = b then some true else some false := by
 rw [B6i, Aix]
 have h := K0 (c := (Dj k).L 4 [] k (Lr (a, b, (0 : Int)))) (r := some true) (e := some false) (id : (List YT4 × Unit) → (List YT4 × Unit)) a b fun hl => Jy id a b (fun j i => (Dj k).L 4 [] j (Lr (a, b, i))) hl (fun j i x y hx' hy => ?_) (fun j => ?_) k (by omega)
 ·rw [List.map_id, List.map_id] at h
  exact h
 ·rw [A7q, W3, B9 hx', A5 hx', A5 hy]
  rw [K0 id x.1 y.1 fun hl2 => Cfr k hk a b i j x y hx' hy ha (hx x (Ei hx')).1 (hx x (Ei hx')).2 hl2]
  simp only [List.map_id, id]
  obtain ⟨x, ⟨⟩⟩ := x
  obtain ⟨y, ⟨⟩⟩ := y
  simp
 ·rw [A7q, W3, Ca]
theorem Cf1 (m n : NetT) (hS : NetS m) : Vr k (m.1, m.2.1, m.2.2.1, m.2.2.2.1, m.2.2.2.2.1, m.2.2.2.2.2.1, m.2.2.2.2.2.2.1, m.2.2.2.2.2.2.2.1, m.2.2.2.2.2.2.2.2, n.1, n.2.1, n.2.2.1, n.2.2.2.1, n.2.2.2.2.1, n.2.2.2.2.2.1, n.2.2.2.2.2.2.1, n.2.2.2.2.2.2.2.1, n.2.2.2.2.2.2.2.2, false) = some (decide (Fe m = Fe n)) := by
 obtain ⟨a0, a1, a2, a3, a4, a5, a6, a7, a8⟩ := m
 obtain ⟨b0, b1, b2, b3, b4, b5, b6, b7, b8⟩ := n
 obtain ⟨s1, s2, s3, s4⟩ := hS
 simp only at s1 s2 s3 s4
 have hN : ∀ hl : a5.length = b5.length, (F3 k).L 4 [] k (Ls (false, (0 : Int), a0, a1, a2, a3, a4, a5, a6, a7, a8, b0, b1, b2, b3, b4, b5, b6, b7, b8)) = if a5.map erN = b5.map erN then some true else some false := by
  intro hl
  refine Jy erN a5 b5 (fun j i => (F3 k).L 4 [] j (Ls (false, i, a0, a1, a2, a3, a4, a5, a6, a7, a8, b0, b1, b2, b3, b4, b5, b6, b7, b8))) hl (fun j i x y hx hy => ?_) (fun j => ?_) k (by omega)
  ·have hS := s2 x (Ei hx)
   obtain ⟨-, h1, -, h3, -, h5, h6, h7, h8, h9, -⟩ := hS
   rw [A70, W8, B9 hx, A5 hx, A5 hy, Cd hx (by omega)]
   simp only [cond_false]
   rw [Cbi k hk _ _ (by omega), Cdk k hk _ _ (by omega), Cdu k hk _ _ (by omega) (fun z hz => by have := (h6 z hz).2.1; omega),
    Cbc k hk _ _ (by omega) (fun z hz => ⟨by have := (h8 z hz).1; omega, fun r hr => by have := ((h8 z hz).2 r hr).1; omega⟩), B04 k hk _ _ (by omega)]
   simp only [Tg]
   rw [Jd (p := x.1 = y.1) (by simp)]
   simp only [X6]
   simp [erN, Prod.ext_iff]
  ·rw [A70, W8, Ca]
 rw [B6p, Ajd]
 simp only
 rw [Cgg k hk _ _ (by omega), Tg]
 have hb : ∀ (x y : Int) (X e : Option Bool), (bif x != y then e else X) = if x = y then X else e := by
  intro x y X e
  by_cases h : x = y
  ·simp [h]
  ·have : (x != y) = true := by simpa using h
   rw [this, if_neg h]
   rfl
 rw [Jd (p := a3 = b3 ∧ a4 = b4) (by simp [eqI])]
 simp only [hb]
 by_cases hl : a5.length = b5.length
 ·rw [hN hl, hl]
  simp only [X6, Fe, Prod.ext_iff]
  by_cases h5 : a5.map erN = b5.map erN <;> by_cases h6 : a6.map erS = b6.map erS <;> simp [h5, h6] <;> (try (by_cases q0 : a0 = b0 <;> by_cases q1 : a1 = b1 <;> by_cases q2 : a2 = b2 <;> by_cases q3 : a3 = b3 <;> by_cases q4 : a4 = b4 <;> by_cases q7 : a7 = b7 <;> by_cases q8 : a8 = b8 <;> simp [q0, q1, q2, q3, q4, q7, q8]))
 ·have hd : decide (Fe (a0, a1, a2, a3, a4, a5, a6, a7, a8) = Fe (b0, b1, b2, b3, b4, b5, b6, b7, b8)) = false := by
   rw [decide_eq_false_iff_not]
   intro h
   simp only [Fe, Prod.mk.injEq] at h
   exact hl (by have := congrArg List.length h.2.2.2.2.2.1; simpa using this)
  rw [hd]
  have hl2 : ¬ ((a5.length : Nat) : Int) = ((b5.length : Nat) : Int) := by omega
  simp only [if_neg hl2, ite_self]
end
theorem Cgq {n : NetT} (hB : netB n = true) (h : ¬ 65536 < (netT n).length) : (Bt (netT n)).2.1 = 0 ∧ Fe (Bt (netT n)).1 = Fe n := by
 have e : toks (netT n) = lx (netT n).length ((netT n).length + 1) (netT n) := by unfold toks; rw [if_neg h]
 obtain ⟨h1, h2⟩ := Cbz hB (netT n).length ((netT n).length + 1) (by omega)
 rw [← e] at h1 h2
 obtain ⟨g1, g2⟩ := Chk hB (x := ((toks (netT n)).2.2, 0, 0)) ⟨rfl, h2⟩
 unfold Bt
 rw [h1]
 have e0 : (netR ((toks (netT n)).2.2, 0, 0)).2.2.1 = 0 := g2.e
 simp only [bne_self_eq_false, cond_false]
 rw [e0]
 exact ⟨rfl, g1⟩
set_option maxRecDepth 100000
def TokG (t : Tk) : Prop := (t.1 = 1 → Kz 1 t.2.1 0 = true) ∧ (t.1 = 2 → numB t.2.2.1 = true)
def Gd (l : List Tk) : Prop := ∀ t ∈ l, TokG t
theorem Gd.suf {x y : RS} (g : Gd x.1) (h : Suf x y) : Gd y.1 := fun t ht => g t (h.subset ht)
theorem Gd.hd {l : List Tk} (g : Gd l) : TokG (hd l) := by
 cases l with
 | nil => exact ⟨fun h => (by cases h), fun h => (by cases h)⟩
 | cons t r => exact g t (by simp)
structure Rr (x y : RS) (P : Prop) : Prop where
 s : Suf x y
 p : Gd x.1 → y.2.1 = 0 → x.2.1 = 0 ∧ P
theorem Rr.imp {x y : RS} {P Q : Prop} (h : Rr x y P) (f : P → Q) : Rr x y Q := ⟨h.s, fun g e => ⟨(h.p g e).1, f (h.p g e).2⟩⟩
theorem Rr.then {x y z : RS} {P Q : Prop} (h : Rr x y P) (h2 : Rr y z Q) : Rr x z (P ∧ Q) :=
 ⟨h.s.trans h2.s, fun g e => ⟨(h.p g (h2.p (g.suf h.s) e).1).1, (h.p g (h2.p (g.suf h.s) e).1).2, (h2.p (g.suf h.s) e).2⟩⟩
theorem Chb (x : RS) : Rr x x True := ⟨Gf x, fun _ e => ⟨e, trivial⟩⟩
theorem Chf (c : Int) (hc : c ≠ 0) (x : RS) : Rr x (A2 c x) False := by
 refine ⟨Mh c x, fun _ e => ?_⟩
 unfold A2 at e
 cases h : x.2.1 == 0 <;> rw [h] at e
 ·simp only [cond_false] at e
  rw [e] at h
  cases h
 ·exact absurd e hc
theorem Chd (x : RS) : Rr x (A1 x) True := by
 refine ⟨I7 x, fun _ e => ⟨?_, trivial⟩⟩
 unfold A1 at e
 cases h : x.2.1 == 0 && (Go.Proofs.YtipcabmhdokfjaaGreatDoorV.hd x.1).1 != 0 <;> rw [h] at e <;> exact e
theorem Chi {x y z : RS} {c : Bool} {P : Prop} (h : c = true → Rr x y P) (h2 : c = false → Rr x z P) : Rr x (bif c then y else z) P := by
 cases c
 ·exact h2 rfl
 ·exact h rfl
theorem H3 (s : List Int) (x : RS) : Rr x (Aj s x) True :=
 ((Chi (c := Ay s x) (fun _ => Chb x) (fun _ => (Chf 50 (by decide) x).imp False.elim)).then (Chd _)).imp fun _ => trivial
theorem Cg9 (x : RS) : Rr x (Ah x).2 (Bw (Ah x).1 = true ∧ ((hd x.1).1 == 1 && !(resB (hd x.1).2.1)) = true) := by
 unfold Ah
 cases h : (Go.Proofs.YtipcabmhdokfjaaGreatDoorV.hd x.1).1 == 1 && !(resB (Go.Proofs.YtipcabmhdokfjaaGreatDoorV.hd x.1).2.1)
 ·exact (Chf 50 (by decide) x).imp False.elim
 ·refine ⟨I7 x, fun g e => ⟨((Chd x).p g e).1, ?_, rfl⟩⟩
  simp only [Bool.and_eq_true, beq_iff_eq] at h
  unfold Bw
  simp only [cond_true]
  rw [g.hd.1 h.1, h.2]
  rfl
theorem rr_numC (x : RS) : Rr x (numC x).2 (numB (numC x).1 = true) := by
 unfold numC
 cases h : (Go.Proofs.YtipcabmhdokfjaaGreatDoorV.hd x.1).1 == 2
 ·exact (Chf 50 (by decide) x).imp False.elim
 ·refine ⟨I7 x, fun g e => ⟨((Chd x).p g e).1, g.hd.2 (by simpa using h)⟩⟩
theorem H5 (w : List Int) (x : RS) : Rr x (numR w x).2 (numB (numR w x).1 = true) :=
 ((Chi (c := w == []) (fun _ => Chb x) (fun _ => H3 w x)).then (rr_numC _)).imp And.right
theorem Cht (w : List Int) (x : RS) : Rr x (Dk w x).2 (numB (Dk w x).1.1 = true ∧ numB (Dk w x).1.2 = true) := (H5 w x).then (H5 _ _)
theorem Cia (w : List Int) (a m : Int) (x : RS) : Rr x (A6 w a m x).2 ((A6 w a m x).1 = true → a ≠ m) := by
 unfold A6
 cases Ay w x
 ·exact (Chb x).imp fun _ h => by cases h
 ·cases h : a == m
  ·exact (Chd x).imp fun _ _ h2 => by rw [h2] at h; simp at h
  ·exact (Chf 4 (by decide) x).imp False.elim
theorem Chu {α : Type} (w : List Int) (most : Int) (item : RS → α × RS) (p : α → Bool) (hi : ∀ x, Rr x (item x).2 (p (item x).1 = true)) : ∀ (f : Nat) (x : RS) (o : List α),
  Rr x (Cs w most item f x o).2 (o.all p = true → ((o.length : Nat) : Int) ≤ most → (Cs w most item f x o).1.all p = true ∧ (((Cs w most item f x o).1.length : Nat) : Int) ≤ most)
 | 0, x, o => ⟨Gf x, fun g e => ⟨e, fun h1 h2 => ⟨h1, h2⟩⟩⟩
 | f + 1, x, o => by
  have hb := Cia w ((o.length : Nat) : Int) most x
  rw [Cs]
  generalize A6 w ((o.length : Nat) : Int) most x = b at hb ⊢
  obtain ⟨b, y⟩ := b
  cases b
  ·simp only [cond_false]
   exact hb.imp fun _ h1 h2 => ⟨h1, h2⟩
  ·simp only [cond_true]
   refine (hb.then ((hi y).then (Chu w most item p hi f _ _))).imp ?_
   rintro ⟨h1, h2, h3⟩ h4 h5
   have h1 := h1 rfl
   exact h3 (by rw [List.all_append, h4]; simp [h2]) (by rw [List.length_append]; simp; omega)
theorem Chc {α : Type} {w : List Int} {most : Int} (hm : 0 ≤ most) {item : RS → α × RS} {p : α → Bool} (hi : ∀ x, Rr x (item x).2 (p (item x).1 = true)) (x : RS) :
  Rr x (Aw w most item x).2 ((Aw w most item x).1.all p = true ∧ leB (Aw w most item x).1 most = true) :=
 (Chu w most item p hi _ x []).imp fun h => by
  obtain ⟨a, b⟩ := h rfl hm
  refine ⟨a, ?_⟩
  unfold leB
  simp only [Bool.not_eq_true', decide_eq_false_iff_not]
  unfold Aw
  omega
theorem Chw (most : Nat) : ∀ (f : Nat) (x : RS) (o : List (List Int)),
  Rr x (Cb (most : Int) f x o).2 (o.all Bw = true → 1 ≤ o.length → o.length ≤ most → rowB most (Cb (most : Int) f x o).1 = true)
 | 0, x, o => ⟨Gf x, fun g e => ⟨e, fun h1 h2 h3 => by
   unfold rowB
   rw [Cb]
   simp [h2, h3]
   simpa using h1⟩⟩
 | f + 1, x, o => by
  rw [Cb]
  cases Ay ([44] : List Int) x
  ·simp only [cond_false]
   refine (H3 ([59] : List Int) x).imp fun _ h1 h2 h3 => ?_
   unfold rowB
   simp [h2, h3]
   simpa using h1
  ·simp only [cond_true]
   generalize hy : A1 x = y
   have n0 := Chd x
   rw [hy] at n0
   have hz : Rr y (bif (((o.length : Nat) : Int) == (most : Int)) && ((hd y.1).1 == 1 && !(resB (hd y.1).2.1)) then A2 4 y else y) (o.length = most → (bif (((o.length : Nat) : Int) == (most : Int)) && ((hd y.1).1 == 1 && !(resB (hd y.1).2.1)) then A2 4 y else y) = y ∧ ((hd y.1).1 == 1 && !(resB (hd y.1).2.1)) = false) := by
    cases hc : ((hd y.1).1 == 1 && !(resB (hd y.1).2.1))
    ·rw [Bool.and_false]
     exact (Chb y).imp fun _ _ => ⟨rfl, rfl⟩
    ·rw [Bool.and_true]
     cases hm : ((o.length : Nat) : Int) == (most : Int)
     ·exact (Chb y).imp fun _ h => by
       rw [h] at hm
       simp at hm
     ·exact (Chf 4 (by decide) y).imp False.elim
   generalize (bif (((o.length : Nat) : Int) == (most : Int)) && ((hd y.1).1 == 1 && !(resB (hd y.1).2.1)) then A2 4 y else y) = z at hz ⊢
   refine (n0.then (hz.then ((Cg9 z).then (Chw most f _ _)))).imp ?_
   rintro ⟨-, h1, ⟨h2, h3⟩, h4⟩ h5 h6 h7
   have hne : o.length ≠ most := fun h => by
    obtain ⟨e1, e2⟩ := h1 h
    rw [e1, e2] at h3
    cases h3
   exact h4 (by rw [List.all_append, h5]; simp [h2]) (by rw [List.length_append]; omega) (by rw [List.length_append]; simp; omega)
theorem Chv (most : Nat) (hm : 1 ≤ most) (x : RS) : Rr x (Cg (most : Int) x).2 (rowB most (Cg (most : Int) x).1 = true) :=
 ((Cg9 x).then (Chw most _ _ _)).imp fun ⟨h1, h2⟩ => h2 (by simp [h1.1]) (by simp) (by simpa using hm)
theorem numB_i {n : Int} (h : numB n = true) : 0 ≤ n ∧ n ≤ 999999999999999999 := by
 unfold numB at h
 simpa using h
theorem rr_head (x : RS) : Rr x (Bf x).2 (Eo (Bf x).1 = true) :=
 ((Cg9 x).then ((H5 _ _).then ((H5 _ _).then ((Cht _ _).then ((H5 _ _).then ((H3 _ _).then ((Chi (fun _ => Chd _) (fun _ => Chb _)).then ((H5 _ _).then ((H5 _ _).then ((H5 _ _).then ((H5 _ _).then (H3 _ _)))))))))))).imp
  fun ⟨h1, h2, h3, h4, h5, _, _, h6, h7, h8, h9, _⟩ => by
   have h6 := numB_i h6
   unfold Eo
   simp only [Bool.and_eq_true, Bool.not_eq_true', decide_eq_false_iff_not, and_true]
   refine ⟨h1.1, h2, h3, h4, h5, ?_, ?_, h7, h8, h9⟩
   ·show ¬ (bif _ then negI .i64 _ else _) < _
    generalize (numR [] _).1 = g at h6 ⊢
    cases Ay ([45] : List Int) _
    ·simp only [cond_false]; omega
    ·simp only [cond_true, negI]
     rw [w64 (by omega)]; omega
   ·show ¬ (bif _ then negI .i64 _ else _) > _
    generalize (numR [] _).1 = g at h6 ⊢
    cases Ay ([45] : List Int) _
    ·simp only [cond_false]; omega
    ·simp only [cond_true, negI]
     rw [w64 (by omega)]; omega
theorem rr_walk (x : RS) : Rr x (Bx x).2 (pedB (Bx x).1 = true) :=
 ((Cg9 x).then ((H3 _ _).then ((Cg9 _).then ((H5 _ _).then ((H5 _ _).then ((H5 _ _).then (H3 _ _))))))).imp
  fun ⟨h1, _, h2, h3, h4, h5, _⟩ => by
   unfold pedB
   simp only [Bool.and_eq_true, and_true]
   exact ⟨h1.1, h2.1, h3, h4, h5⟩
theorem Cic (x : RS) : Rr x (Dq x).2 (Ey (Dq x).1 = true) :=
 ((Cg9 x).then ((H3 _ _).then (Chv 16 (by omega) _))).imp
  fun ⟨h1, _, h2⟩ => by
   unfold Ey
   simp only [Bool.and_eq_true, and_true]
   exact ⟨h1.1, h2⟩
theorem rr_ring (x : RS) : Rr x (Dz x).2 (Jp (Dz x).1 = true) :=
 ((Chi (fun _ => Chd _) (fun _ => Chb _)).then (Chv 4 (by omega) _)).imp And.right
theorem rr_foe (x : RS) : Rr x (foeR x).2 (foeB (foeR x).1 = true) :=
 ((Cg9 x).then ((Cg9 _).then (H3 _ _))).imp
  fun ⟨h1, h2, _⟩ => by
   unfold foeB
   simp only [Bool.and_eq_true, and_true]
   exact ⟨h1.1, h2.1⟩
theorem rr_stop (x : RS) : Rr x (Ef x).2 (E8 (Ef x).1 = true) :=
 ((Cg9 x).then ((H3 _ _).then ((Cg9 _).then ((H3 _ _).then ((Cg9 _).then ((H5 _ _).then ((H5 _ _).then (H3 _ _)))))))).imp
  fun ⟨h1, _, h2, _, h3, h4, h5, _⟩ => by
   unfold E8
   simp only [Bool.and_eq_true, and_true]
   exact ⟨h1.1, h2.1, h3.1, h4, h5⟩
theorem Chp {α : Type} (w : List Int) (most : Int) (item : RS → α × RS) : ∀ (f : Nat) (x : RS) (o : List α), o.length ≤ (Cs w most item f x o).1.length
 | 0, x, o => Nat.le_refl _
 | f + 1, x, o => by
  rw [Cs]
  cases (A6 w ((o.length : Nat) : Int) most x).1
  ·exact Nat.le_refl _
  ·simp only [cond_true]
   refine Nat.le_trans ?_ (Chp w most item f _ _)
   simp
theorem Ch4 {α : Type} {w : List Int} {most : Int} (hm : 0 < most) (item : RS → α × RS) {x : RS} (h : Ay w x = true) : 1 ≤ (Aw w most item x).1.length := by
 unfold Aw
 have e : A6 w (((([] : List α).length : Nat) : Int)) most x = (true, A1 x) := by
  unfold A6
  have : ((((([] : List α).length : Nat) : Int)) == most) = false := by simp; omega
  rw [h, this]
  rfl
 rw [Cs, e]
 simp only [cond_true]
 exact Nat.le_trans (by simp) (Chp w most item _ _ _)
theorem Cib (x : RS) : Rr x (Cx x).2 (En (Cx x).1 = true) := by
 have hb : ∀ a : RS, Rr a (bif Ay ([114, 105, 110, 103] : List Int) a then a else A2 50 a) (Ay ([114, 105, 110, 103] : List Int) (bif Ay ([114, 105, 110, 103] : List Int) a then a else A2 50 a) = true) := fun a => by
  cases h : Ay ([114, 105, 110, 103] : List Int) a
  ·exact (Chf 50 (by decide) a).imp False.elim
  ·exact (Chb a).imp fun _ => h
 refine ((H3 ([123] : List Int) x).then ((hb _).then ((Chc (by decide) rr_ring _).then (H3 _ _)))).imp ?_
 rintro ⟨-, h1, ⟨h2, h3⟩, -⟩
 have h4 := Ch4 (most := 2) (by decide) Dz h1
 unfold En
 unfold leB at h3
 simp only [Bool.and_eq_true, Bool.not_eq_true', decide_eq_false_iff_not] at h3 ⊢
 refine ⟨?_, h3, h2⟩
 show ¬ (((Aw ([114, 105, 110, 103] : List Int) 2 Dz _).1.length : Nat) : Int) < 1
 have h4 : 1 ≤ (Aw ([114, 105, 110, 103] : List Int) 2 Dz (bif Ay ([114, 105, 110, 103] : List Int) (Aj ([123] : List Int) x) then Aj ([123] : List Int) x else A2 50 (Aj ([123] : List Int) x))).1.length := h4
 omega
theorem rr_node (x : RS) : Rr x (Bv x).2 (Dn (Bv x).1 = true) :=
 ((Cg9 x).then ((H3 _ _).then ((Chc (by decide) rr_head _).then ((Chc (by decide) rr_walk _).then ((Chc (by decide) Cic _).then ((Chc (by decide) Cib _).then ((Chc (by decide) rr_foe _).then (H3 _ _)))))))).imp
  fun ⟨h1, _, h2, h3, h4, h5, h6, _⟩ => by
   unfold Dn
   simp only [Bool.and_eq_true]
   exact ⟨h1.1, h2.2, h3.2, h4.2, h5.2, h6.2, h2.1, h3.1, h4.1, h5.1, h6.1⟩
theorem Ch9 (x : RS) : Rr x (B5 x).2 ((B5 x).1.1.all E8 = true ∧ leB (B5 x).1.1 12 = true ∧ numB (B5 x).1.2.1 = true ∧ numB (B5 x).1.2.2 = true) :=
 ((H3 _ x).then ((Chc (by decide) rr_stop _).then ((H5 _ _).then ((H5 _ _).then ((H3 _ _).then (H3 _ _)))))).imp
  fun ⟨_, h1, h2, h3, _⟩ => ⟨h1.1, h1.2, h2, h3⟩
theorem rr_art (x : RS) : Rr x (bif Ay ([97, 114, 116, 101, 114, 121] : List Int) x then B5 (A1 x) else (([], 0, 0), x)).2
  ((bif Ay ([97, 114, 116, 101, 114, 121] : List Int) x then B5 (A1 x) else (([], 0, 0), x)).1.1.all E8 = true ∧ leB (bif Ay ([97, 114, 116, 101, 114, 121] : List Int) x then B5 (A1 x) else (([], 0, 0), x)).1.1 12 = true ∧
   numB (bif Ay ([97, 114, 116, 101, 114, 121] : List Int) x then B5 (A1 x) else (([], 0, 0), x)).1.2.1 = true ∧ numB (bif Ay ([97, 114, 116, 101, 114, 121] : List Int) x then B5 (A1 x) else (([], 0, 0), x)).1.2.2 = true) := by
 cases Ay ([97, 114, 116, 101, 114, 121] : List Int) x
 ·exact (Chb x).imp fun _ => ⟨rfl, rfl, rfl, rfl⟩
 ·exact ((Chd x).then (Ch9 _)).imp And.right
theorem rr_net (x : RS) : Rr x (netR x).2 (netB (netR x).1 = true) :=
 ((H5 _ x).then ((H5 _ _).then ((H5 _ _).then ((H3 _ _).then ((Cht _ _).then ((H3 _ _).then ((Chc (by decide) rr_node _).then ((rr_art _).then (Chi (fun _ => (Chf 50 (by decide) _).imp fun _ => trivial) (fun _ => Chb _)))))))))).imp
  fun ⟨h1, h2, h3, _, h4, _, h5, h6, _⟩ => by
   unfold netB
   simp only [Bool.and_eq_true]
   exact ⟨h1, h2, h3, h4, h6.2.2.1, h6.2.2.2, h5.2, h6.2.1, h5.1, h6.1⟩
theorem Cig {w : List Int} {c : Int} {r : List Int} (e : w = c :: r) (hc : B7 c = true) (hl : ¬ 24 < w.length) (hall : ∀ y ∈ w, Bh y = true) : Kz 1 w 0 = true := by
 obtain ⟨t1, t2⟩ := Y9 (s := []) hall (fun c r h => by cases h)
 rw [List.append_nil] at t1 t2
 subst e
 have e : c ≠ 35 ∧ Ck c = false := by
  unfold B7 at hc
  unfold Ck
  simp at hc ⊢
  omega
 unfold Kz
 rw [decide_eq_true_eq]
 refine ⟨by simp, ?_, ?_⟩
 ·rw [drp, if_neg e.1, e.2]; rfl
 ·rw [tok1, hc, t1, t2, if_pos rfl, if_neg hl]
theorem tok1_g (s : List Int) : TokG ((tok1 s).2.1, (tok1 s).2.2.1, (tok1 s).2.2.2.1, 0, ()) := by
 cases s with
 | nil => exact ⟨fun h => (by cases h), fun h => (by cases h)⟩
 | cons x r =>
  rw [tok1]
  split
  ·rename_i hs
   split
   ·exact ⟨fun h => (by cases h), fun h => (by cases h)⟩
   ·rename_i hl
    refine ⟨fun _ => ?_, fun h => (by cases h)⟩
    have hx : Bh x = true := by unfold Bh; rw [hs]; rfl
    have e : (x :: r).takeWhile Bh = x :: r.takeWhile Bh := by rw [List.takeWhile_cons, hx]; rfl
    exact Cig e hs hl fun y hy => Yf hy
  ·split
   ·split
    ·exact ⟨fun h => (by cases h), fun h => (by cases h)⟩
    ·rename_i hl
     refine ⟨fun h => (by cases h), fun _ => ?_⟩
     have := Chx ((x :: r).takeWhile A0) 0 0 (by decide) (by decide) fun c hc => Yf hc
     have hp : (10 : Int) ^ (0 + ((x :: r).takeWhile A0).length) ≤ 10 ^ 18 := by
      rw [Nat.zero_add]
      exact_mod_cast Nat.pow_le_pow_right (by decide) (by omega)
     show numB (valD ((x :: r).takeWhile A0)) = true
     unfold numB valD
     simp only [Bool.and_eq_true, decide_eq_true_eq]
     have h18 : (10 : Int) ^ 18 = 1000000000000000000 := by decide
     omega
   ·split
    ·exact ⟨fun h => (by cases h), fun h => (by cases h)⟩
    ·exact ⟨fun h => (by cases h), fun h => (by cases h)⟩
theorem lx_g (n : Nat) : ∀ (f : Nat) (s : List Int), ∀ t ∈ (lx n f s).2.2, TokG t
 | 0, s, t, h => by cases h
 | f + 1, s, t, h => by
  rw [lx] at h
  cases hd : drp false s with
  | nil =>
   rw [hd] at h
   rcases List.mem_cons.1 h with rfl | h
   ·exact ⟨fun h => (by cases h), fun h => (by cases h)⟩
   ·cases h
  | cons x r =>
   rw [hd] at h
   simp only [] at h
   split at h
   ·split at h
    ·rcases List.mem_cons.1 h with rfl | h
     ·exact tok1_g (x :: r)
     ·exact lx_g n f _ t h
    ·cases h
   ·cases h
theorem toks_g (b : List Int) : Gd (toks b).2.2 := by
 intro t h
 unfold toks at h
 split at h
 ·cases h
 ·exact lx_g _ _ _ t h
theorem Chs {b : List Int} (h : (Bt b).2.1 = 0) : netB (Bt b).1 = true := by
 have hn := (rr_net ((toks b).2.2, 0, 0)).p (toks_g b)
 unfold Bt at h ⊢
 cases h0 : (toks b).1 != 0 <;> rw [h0] at h
 ·simp only [cond_false] at h ⊢
  cases h1 : (netR ((toks b).2.2, 0, 0)).2.2.1 != 0 <;> rw [h1] at h
  ·exact (hn (by simpa using h1)).2
  ·simp only [cond_true] at h
   rw [h] at h1
   cases h1
 ·simp only [cond_true] at h
  rw [h] at h0
  cases h0
theorem Che {α : Type} {l : List α} {m : Int} (h : leB l m = true) : ((l.length : Nat) : Int) ≤ m := by
 unfold leB at h
 simp only [Bool.not_eq_true', decide_eq_false_iff_not] at h
 omega
theorem Cg8 {s : List Int} (h : Bw s = true) : sh s := by
 have := Ib h
 unfold sh
 omega
theorem Ch6 {n : YT6} (h : Dn n = true) : NodeS n := by
 unfold Dn at h
 simp only [Bool.and_eq_true, List.all_eq_true] at h
 obtain ⟨h0, l1, l2, l3, l4, l5, p1, p2, p3, p4, p5⟩ := h
 refine ⟨Cg8 h0, by have := Che l1; omega, fun _ x hx => ?_, by have := Che l2; omega, fun x hx => ?_, by have := Che l3; omega, fun x hx => ?_, by have := Che l4; omega, fun x hx => ?_, by have := Che l5; omega, fun x hx => ?_⟩
 ·have h := p1 x hx
  unfold Eo at h
  simp only [Bool.and_eq_true] at h
  exact Cg8 h.1
 ·have h := p2 x hx
  unfold pedB at h
  simp only [Bool.and_eq_true] at h
  exact ⟨Cg8 h.1, Cg8 h.2.1⟩
 ·have h := p3 x hx
  unfold Ey at h
  simp only [Bool.and_eq_true] at h
  obtain ⟨⟨a, b⟩, c⟩ := On h.2.1
  exact ⟨Cg8 h.1, by omega, fun _ s hs => Cg8 (c s hs)⟩
 ·have h := p4 x hx
  unfold En at h
  simp only [Bool.and_eq_true, Bool.not_eq_true', decide_eq_false_iff_not, List.all_eq_true] at h
  refine ⟨by omega, fun r hr => ?_⟩
  obtain ⟨⟨a, b⟩, c⟩ := On (h.2.2 r hr)
  exact ⟨by omega, fun _ s hs => Cg8 (c s hs)⟩
 ·have h := p5 x hx
  unfold foeB at h
  simp only [Bool.and_eq_true] at h
  exact ⟨Cg8 h.1, Cg8 h.2.1⟩
theorem Chq {n : NetT} (h : netB n = true) : NetS n := by
 unfold netB at h
 simp only [Bool.and_eq_true, List.all_eq_true] at h
 obtain ⟨-, -, -, -, -, -, l1, l2, p1, p2⟩ := h
 refine ⟨by have := Che l1; omega, fun x hx => Ch6 (p1 x hx), by have := Che l2; omega, fun x hx => ?_⟩
 have h := p2 x hx
 unfold E8 at h
 simp only [Bool.and_eq_true] at h
 exact ⟨Cg8 h.1, Cg8 h.2.1, Cg8 h.2.2.1⟩
theorem showRead_pure (b : Ch0) : ∃ k, Chj k b = some true := by
 obtain ⟨k, hk⟩ : ∃ k : Nat, k = 999999 := ⟨_, rfl⟩
 refine ⟨k, ?_⟩
 have hk2 : 400001 ≤ k ∧ k < 1000000 := by omega
 clear hk
 rw [Ch1, Chm]
 by_cases hb : (6000 : Nat) < b.length
 ·have h1 : decide (((List.length b : Nat) : Int) > (6000 : Int)) = true := by simp; omega
  rw [h1]
  rfl
 have h1 : decide (((List.length b : Nat) : Int) > (6000 : Int)) = false := by simp; omega
 rw [h1, cond_false, Ccs k (by omega) b (by omega) (by omega), Option.bind_some, Ap1 k (by omega)]
 have hR := @Chs b
 generalize Bt b = o at hR ⊢
 obtain ⟨⟨a0, a1, a2, a3, a4, a5, a6, a7, a8⟩, e, p⟩ := o
 simp only at hR ⊢
 by_cases he : e = 0
 ·subst he
  have hB := hR rfl
  have hS := Chq hB
  have m1 := fun y => Cf1 k (by omega) (a0, a1, a2, a3, a4, a5, a6, a7, a8) y hS
  have hl := Bgp hB
  have hq := @Cgq _ hB
  have hT := @Cif _ (Bt (netT (a0, a1, a2, a3, a4, a5, a6, a7, a8))).1 hB
  have hnp := Ccs k (by omega) (netT (a0, a1, a2, a3, a4, a5, a6, a7, a8)) (by omega) (by omega)
  have hR2 := @Chs (netT (a0, a1, a2, a3, a4, a5, a6, a7, a8))
  rw [Bn9 k (by omega) _ hS hB]
  generalize netT (a0, a1, a2, a3, a4, a5, a6, a7, a8) = T at *
  simp only [bne_self_eq_false, cond_false, Option.bind_some]
  by_cases hT2 : 65536 < T.length
  ·have h1 : decide (((List.length T : Nat) : Int) > (65536 : Int)) = true := by simp; omega
   rw [h1]
   rfl
  ·have h1 : decide (((List.length T : Nat) : Int) > (65536 : Int)) = false := by simp; omega
   obtain ⟨g1, g2⟩ := hq hT2
   have hB2 := hR2 g1
   have hS2 := Chq hB2
   have hT := (hT hB2).2 g2.symm
   have s2 := Bn9 k (by omega) _ hS2 hB2
   rw [h1, hnp]
   simp only [cond_false, Option.bind_some]
   have h2 := m1 (Bt T).1
   simp only at h2
   rw [g1, h2, g2]
   have s2 : My k ((Bt T).1.1, (Bt T).1.2.1, (Bt T).1.2.2.1, (Bt T).1.2.2.2.1, (Bt T).1.2.2.2.2.1, (Bt T).1.2.2.2.2.2.1, (Bt T).1.2.2.2.2.2.2.1, (Bt T).1.2.2.2.2.2.2.2.1, (Bt T).1.2.2.2.2.2.2.2.2) = _ := s2
   rw [s2, ← hT]
   simp only [Option.bind_some, decide_true, cond_true, beq_self_eq_true]
 ·have h2 : (e != 0) = true := by simpa using he
  rw [h2]
  rfl
end Go.Proofs.YtipcabmhdokfjaaGreatDoorV
