import Derived.Test.YtipcabmhdokfjaaGreatDoorB9
import Derived.Test.YtipcabmhdokfjaaGreatDoorB5
/-! Joined, names shortened: QC, QE, QD, SR3, SF, XJ, ST, SX, SY, SZ, SW, NT, NU. -/
set_option linter.unusedVariables false
set_option linter.unusedSimpArgs false
set_option maxRecDepth 100000
namespace Go.Proofs.YtipcabmhdokfjaaGreatDoorV
open Go Go.RowKit
theorem Cec (k : Nat) (hk : 200000 ≤ k) {l0 : List Tk} (r0 : Rdy l0) (m0 : l0.length ≤ 100000) (a1 : _) (a2 : _) : Sim (Uq k ((16 : Int), a1, a2, l0)) (fun o => (o.1, o.2.1, o.2.2.1, o.2.2.2.2.2.2.1)) (Cg (16 : Int) (l0, 0, 0)).2 (fun r => (r.2.2.2.1, r.2.2.2.2.1, r.2.2.2.2.2.1, r.2.2.2.2.2.2.2) = ((16 : Int), a1, a2, (Cg (16 : Int) (l0, 0, 0)).1)) := by
 rw [B3i, Aha]
 have hz : ((((([] : List (List Int)).length : Nat) : Int) == (16 : Int)) && ((hd l0).1 == 1 && !(resB (hd l0).2.1))) = false := rfl
 have h := Anh (16 : Int) (fun j l o => (Hl k).L 1 [] j (Na ((16 : Int), a1, a2, l, o))) (fun o => (o.1, o.2.1, o.2.2.1, o.2.2.2.2.2.2.1)) (fun r o => (r.2.2.2.1, r.2.2.2.2.1, r.2.2.2.2.2.1, r.2.2.2.2.2.2.2) = ((16 : Int), a1, a2, o)) (fun j l o r ho hmo hn => ?_) (fun j l o r ho hn => ?_) (fun j l o r rn ho hmo hn hc => ?_) (fun j l o r rn ho hmo hn hc => ?_) ((Ah (l0, 0, 0)).2.1.length + 1) k l0 [] r0 ?_ (by omega) (by rw [List.length_nil]; omega)
 ·rw [hz, cond_false] at h
  exact h
 ·rw [Wz, Nb, hmo, beq_self_eq_true, cond_true, Yu k r, Option.bind_some, hn, cond_true, Bd k r, Option.bind_some]
  exact ⟨_, rfl, rfl⟩
 ·rw [Wz, Nb, Yu k r, hn]
  simp only [Option.bind_some, cond_false, ite_self, M7, Lp, M6, Lo, Oj k r, C5, hn]
  cases (((o.length : Nat) : Int) == (16 : Int)) <;> exact ⟨_, rfl, rfl⟩
 ·have hmo2 : (((o.length : Nat) : Int) == (16 : Int)) = false := by simpa using hmo
  have hc2 : ((hd (nx l)).2.1 == [44]) = false := by simpa using hc
  rw [Wz, Nb, hmo2]
  simp only [Option.bind_some, cond_false, M7, Lp, M6, Lo, Oj k r, C5, hn, cond_true, beq_self_eq_true, Bool.not_true]
  rw [Ce (by rw [List.length_singleton]; omega) (by rw [List.length_singleton]; omega)]
  simp only [By k rn, Option.bind_some, hc2, Bool.not_false, cond_true, Fz, Fh, Awy, Agm, Bn k rn [59] ⟨_, _, rfl, rfl⟩]
  have s := Bl rn [59]
  generalize Aj [59] (nx l, 0, 0) = y at s ⊢
  rcases s with ⟨l2, e, p, h⟩ | ⟨l2, r2, n2⟩
  ·have he : (e == 0) = false := by simpa using h
   simp only [he, Bool.not_false, cond_true, Option.bind_some]
   exact ⟨_, rfl, rfl, rfl⟩
  ·simp only [beq_self_eq_true, Bool.not_true, cond_false, Option.bind_some]
   exact ⟨_, rfl, rfl, rfl⟩
 ·have hmo2 : (((o.length : Nat) : Int) == (16 : Int)) = false := by simpa using hmo
  have hc2 : ((hd (nx l)).2.1 == [44]) = true := by simpa using hc
  rw [Wz, Nb, hmo2]
  simp only [Option.bind_some, cond_false, M7, Lp, M6, Lo, Oj k r, C5, hn, cond_true, beq_self_eq_true, Bool.not_true]
  rw [Ce (by rw [List.length_singleton]; omega) (by rw [List.length_singleton]; omega)]
  simp only [By k rn, Option.bind_some, hc2, Bool.not_true, cond_false, A8 k rn]
 ·rw [C5]
  cases hn : (hd l0).1 == 1 && !(resB (hd l0).2.1)
  ·show l0.length ≤ l0.length + 1
   omega
  ·show l0.length ≤ (nx l0).length + 1
   have := Yk r0 (by simp only [Bool.and_eq_true, beq_iff_eq] at hn; omega)
   omega
theorem Ceb (k : Nat) (hk : 200000 ≤ k) {l0 : List Tk} (r0 : Rdy l0) (m0 : l0.length ≤ 100000) (a1 : _) : Sim (Ur k ((4 : Int), a1, l0)) (fun o => (o.1, o.2.1, o.2.2.1, o.2.2.2.2.2.1)) (Cg (4 : Int) (l0, 0, 0)).2 (fun r => (r.2.2.2.1, r.2.2.2.2.1, r.2.2.2.2.2.2) = ((4 : Int), a1, (Cg (4 : Int) (l0, 0, 0)).1)) := by
 rw [B3g, Ag6]
 have hz : ((((([] : List (List Int)).length : Nat) : Int) == (4 : Int)) && ((hd l0).1 == 1 && !(resB (hd l0).2.1))) = false := rfl
 have h := Anh (4 : Int) (fun j l o => (Hm k).L 1 [] j (M8 ((4 : Int), a1, l, o))) (fun o => (o.1, o.2.1, o.2.2.1, o.2.2.2.2.2.1)) (fun r o => (r.2.2.2.1, r.2.2.2.2.1, r.2.2.2.2.2.2) = ((4 : Int), a1, o)) (fun j l o r ho hmo hn => ?_) (fun j l o r ho hn => ?_) (fun j l o r rn ho hmo hn hc => ?_) (fun j l o r rn ho hmo hn hc => ?_) ((Ah (l0, 0, 0)).2.1.length + 1) k l0 [] r0 ?_ (by omega) (by rw [List.length_nil]; omega)
 ·rw [hz, cond_false] at h
  exact h
 ·rw [Wy, M9, hmo, beq_self_eq_true, cond_true, Yu k r, Option.bind_some, hn, cond_true, Bd k r, Option.bind_some]
  exact ⟨_, rfl, rfl⟩
 ·rw [Wy, M9, Yu k r, hn]
  simp only [Option.bind_some, cond_false, ite_self, M7, Lp, M6, Lo, Oj k r, C5, hn]
  cases (((o.length : Nat) : Int) == (4 : Int)) <;> exact ⟨_, rfl, rfl⟩
 ·have hmo2 : (((o.length : Nat) : Int) == (4 : Int)) = false := by simpa using hmo
  have hc2 : ((hd (nx l)).2.1 == [44]) = false := by simpa using hc
  rw [Wy, M9, hmo2]
  simp only [Option.bind_some, cond_false, M7, Lp, M6, Lo, Oj k r, C5, hn, cond_true, beq_self_eq_true, Bool.not_true]
  rw [Ce (by rw [List.length_singleton]; omega) (by rw [List.length_singleton]; omega)]
  simp only [By k rn, Option.bind_some, hc2, Bool.not_false, cond_true, Fz, Fh, Awy, Agm, Bn k rn [59] ⟨_, _, rfl, rfl⟩]
  have s := Bl rn [59]
  generalize Aj [59] (nx l, 0, 0) = y at s ⊢
  rcases s with ⟨l2, e, p, h⟩ | ⟨l2, r2, n2⟩
  ·have he : (e == 0) = false := by simpa using h
   simp only [he, Bool.not_false, cond_true, Option.bind_some]
   exact ⟨_, rfl, rfl, rfl⟩
  ·simp only [beq_self_eq_true, Bool.not_true, cond_false, Option.bind_some]
   exact ⟨_, rfl, rfl, rfl⟩
 ·have hmo2 : (((o.length : Nat) : Int) == (4 : Int)) = false := by simpa using hmo
  have hc2 : ((hd (nx l)).2.1 == [44]) = true := by simpa using hc
  rw [Wy, M9, hmo2]
  simp only [Option.bind_some, cond_false, M7, Lp, M6, Lo, Oj k r, C5, hn, cond_true, beq_self_eq_true, Bool.not_true]
  rw [Ce (by rw [List.length_singleton]; omega) (by rw [List.length_singleton]; omega)]
  simp only [By k rn, Option.bind_some, hc2, Bool.not_true, cond_false, A8 k rn]
 ·rw [C5]
  cases hn : (hd l0).1 == 1 && !(resB (hd l0).2.1)
  ·show l0.length ≤ l0.length + 1
   omega
  ·show l0.length ≤ (nx l0).length + 1
   have := Yk r0 (by simp only [Bool.and_eq_true, beq_iff_eq] at hn; omega)
   omega
theorem Cdp (k : Nat) (hk : 200000 ≤ k) {l0 : List Tk} (r0 : Rdy l0) (m0 : l0.length ≤ 100000) (a1 : _) (a2 : _) (a3 : _) (a4 : _) (a5 : _) (a6 : _) (a7 : _) : Sim (Uc k (l0, a1, a2, a3, a4, a5, a6, a7)) (fun o => (o.1, o.2.1, o.2.2.1, o.2.2.2.1)) (D5 (l0, 0, 0)).2 (fun o => (o.2.2.2.2.1, o.2.2.2.2.2.1, o.2.2.2.2.2.2.1, o.2.2.2.2.2.2.2.1, o.2.2.2.2.2.2.2.2.1, o.2.2.2.2.2.2.2.2.2.1, o.2.2.2.2.2.2.2.2.2.2) = (a1, a2, a3, (D5 (l0, 0, 0)).1.1, (D5 (l0, 0, 0)).1.2, a6, a7)) := by
 rw [B11, Axn]
 simp only [B3y, A2g, Fz, Fh, B3z, A2k, Option.bind_some]
 refine Jv (pr := (fun o => (o.1, o.2.1, o.2.2.1, o.2.2.2.1))) (fun o => rfl) ?_
 rw [B1g, Awc]
 unfold D5
 rw [Cev k r0]
 simp only [Option.bind_some]
 have s0 := C7 r0
 generalize numC (l0, 0, 0) = o0 at s0 ⊢
 rcases s0 with ⟨v0, l, e, p, h⟩ | ⟨v0, l1, r1, n0⟩
 ·exact As h rfl (by simp only [Am h, Aq h, Ao h, Au h, Ar h, Av h, An h, Al h, Ak h, cond_false])
 have m1 := Nat.le_trans n0 m0
 simp only [beq_self_eq_true, Bool.not_true, cond_false, cond_true]
 rw [Bn k r1 ([47] : List Int) ⟨_, _, rfl, rfl⟩]
 simp only [Option.bind_some]
 have s1 := Bl r1 ([47] : List Int)
 generalize Aj ([47] : List Int) (l1, 0, 0) = o1 at s1 ⊢
 rcases s1 with ⟨l, e, p, h⟩ | ⟨l2, r2, n1⟩
 ·exact As h rfl (by simp only [Am h, Aq h, Ao h, Au h, Ar h, Av h, An h, Al h, Ak h, cond_false])
 have m2 := Nat.le_trans n1 m1
 simp only [beq_self_eq_true, Bool.not_true, cond_false, cond_true]
 rw [Cew k r2]
 simp only [Option.bind_some]
 have s2 := C7 r2
 generalize numC (l2, 0, 0) = o2 at s2 ⊢
 rcases s2 with ⟨v2, l, e, p, h⟩ | ⟨v2, l3, r3, n2⟩
 ·exact As h rfl (by simp only [Am h, Aq h, Ao h, Au h, Ar h, Av h, An h, Al h, Ak h, cond_false])
 have m3 := Nat.le_trans n2 m2
 simp only [beq_self_eq_true, Bool.not_true, cond_false, cond_true]
 exact Gc rfl fun _ => rfl
theorem Cdo (k : Nat) (hk : 200000 ≤ k) {l0 : List Tk} (r0 : Rdy l0) (m0 : l0.length ≤ 100000) (a1 : _) (a2 : _) (a3 : _) (a4 : _) (a5 : _) (a6 : _) (a7 : _) (a8 : _) (a9 : _) (a10 : _) (a11 : _) : Sim (Ud k (l0, a1, a2, a3, a4, a5, a6, a7, a8, a9, a10, a11)) (fun o => (o.1, o.2.1, o.2.2.1, o.2.2.2.1)) (D5 (l0, 0, 0)).2 (fun o => (o.2.2.2.2.1, o.2.2.2.2.2.1, o.2.2.2.2.2.2.1, o.2.2.2.2.2.2.2.1, o.2.2.2.2.2.2.2.2.1, o.2.2.2.2.2.2.2.2.2.1, o.2.2.2.2.2.2.2.2.2.2.1, o.2.2.2.2.2.2.2.2.2.2.2.1, o.2.2.2.2.2.2.2.2.2.2.2.2.1, o.2.2.2.2.2.2.2.2.2.2.2.2.2.1, o.2.2.2.2.2.2.2.2.2.2.2.2.2.2) = (a1, a2, a3, (D5 (l0, 0, 0)).1.1, (D5 (l0, 0, 0)).1.2, a6, a7, a8, a9, a10, a11)) := by
 rw [B1z, Axk]
 simp only [B3n, A08, Fz, Fh, B3o, A1c, Option.bind_some]
 refine Jv (pr := (fun o => (o.1, o.2.1, o.2.2.1, o.2.2.2.1))) (fun o => rfl) ?_
 rw [B1m, Awm]
 unfold D5
 rw [Cez k r0]
 simp only [Option.bind_some]
 have s0 := C7 r0
 generalize numC (l0, 0, 0) = o0 at s0 ⊢
 rcases s0 with ⟨v0, l, e, p, h⟩ | ⟨v0, l1, r1, n0⟩
 ·exact As h rfl (by simp only [Am h, Aq h, Ao h, Au h, Ar h, Av h, An h, Al h, Ak h, cond_false])
 have m1 := Nat.le_trans n0 m0
 simp only [beq_self_eq_true, Bool.not_true, cond_false, cond_true]
 rw [Bn k r1 ([47] : List Int) ⟨_, _, rfl, rfl⟩]
 simp only [Option.bind_some]
 have s1 := Bl r1 ([47] : List Int)
 generalize Aj ([47] : List Int) (l1, 0, 0) = o1 at s1 ⊢
 rcases s1 with ⟨l, e, p, h⟩ | ⟨l2, r2, n1⟩
 ·exact As h rfl (by simp only [Am h, Aq h, Ao h, Au h, Ar h, Av h, An h, Al h, Ak h, cond_false])
 have m2 := Nat.le_trans n1 m1
 simp only [beq_self_eq_true, Bool.not_true, cond_false, cond_true]
 rw [Ce0 k r2]
 simp only [Option.bind_some]
 have s2 := C7 r2
 generalize numC (l2, 0, 0) = o2 at s2 ⊢
 rcases s2 with ⟨v2, l, e, p, h⟩ | ⟨v2, l3, r3, n2⟩
 ·exact As h rfl (by simp only [Am h, Aq h, Ao h, Au h, Ar h, Av h, An h, Al h, Ak h, cond_false])
 have m3 := Nat.le_trans n2 m2
 simp only [beq_self_eq_true, Bool.not_true, cond_false, cond_true]
 exact Gc rfl fun _ => rfl
theorem Cdv (k : Nat) (hk : 200000 ≤ k) {l0 : List Tk} (r0 : Rdy l0) (m0 : l0.length ≤ 100000) : Sim (cphead k l0) (fun o => (o.2.2.2.2.2.2.2.2.2.2.2.1, o.2.2.2.2.2.2.2.2.2.2.2.2.1, o.2.2.2.2.2.2.2.2.2.2.2.2.2.1, o.2.2.2.2.2.2.2.2.2.2.2.2.2.2)) (Bf (l0, 0, 0)).2 (fun o => (o.1, (o.2.1, (o.2.2.1, ((o.2.2.2.1, (o.2.2.2.2.1, ())), (o.2.2.2.2.2.1, (o.2.2.2.2.2.2.1, (o.2.2.2.2.2.2.2.1, (o.2.2.2.2.2.2.2.2.1, (o.2.2.2.2.2.2.2.2.2.1, (o.2.2.2.2.2.2.2.2.2.2.1, ())))))))))) = (Bf (l0, 0, 0)).1) := by
 rw [B15, Axu]
 simp only [B5c, A43, B2f, Ayl, Fz, Fh, B30, A2o, B31, A2s, B1x, Axg, B32, A2w, B17, Ax1, B33, A20, B34, A24, B3l, A00, B3m, A04, Option.bind_some]
 refine Cf8 (pr := (fun o => (o.1, o.2.1, o.2.2.1, o.2.2.2.1))) (fun o => rfl) (fun o => rfl) ?_
 rw [B1k, Awj]
 simp only [Bf, Iy, Iz, Iq]
 rw [Ce4 k r0]
 simp only [Option.bind_some]
 rw [Cd2 k r0]
 simp only [Option.bind_some]
 have s0 := I1 r0
 generalize Ah (l0, 0, 0) = o0 at s0 ⊢
 rcases s0 with ⟨v0, l, e, p, h⟩ | ⟨v0, l1, r1, n0⟩
 ·exact As h rfl (by simp only [Am h, Aq h, Ao h, Au h, Ar h, Av h, An h, Al h, Ak h, cond_false])
 have m1 := Nat.le_trans n0 m0
 simp only [beq_self_eq_true, Bool.not_true, cond_false, cond_true]
 rw [Bn k r1 ([118, 111, 108, 117, 109, 101] : List Int) ⟨_, _, rfl, rfl⟩]
 simp only [Option.bind_some]
 have s1 := Bl r1 ([118, 111, 108, 117, 109, 101] : List Int)
 generalize Aj ([118, 111, 108, 117, 109, 101] : List Int) (l1, 0, 0) = o1 at s1 ⊢
 rcases s1 with ⟨l, e, p, h⟩ | ⟨l2, r2, n1⟩
 ·exact As h rfl (by simp only [Am h, Aq h, Ao h, Au h, Ar h, Av h, An h, Al h, Ak h, cond_false])
 have m2 := Nat.le_trans n1 m1
 simp only [beq_self_eq_true, Bool.not_true, cond_false, cond_true]
 rw [Cex k r2]
 simp only [Option.bind_some]
 have s2 := C7 r2
 generalize numC (l2, 0, 0) = o2 at s2 ⊢
 rcases s2 with ⟨v2, l, e, p, h⟩ | ⟨v2, l3, r3, n2⟩
 ·exact As h rfl (by simp only [Am h, Aq h, Ao h, Au h, Ar h, Av h, An h, Al h, Ak h, cond_false])
 have m3 := Nat.le_trans n2 m2
 simp only [beq_self_eq_true, Bool.not_true, cond_false, cond_true]
 rw [Bn k r3 ([102, 108, 111, 119] : List Int) ⟨_, _, rfl, rfl⟩]
 simp only [Option.bind_some]
 have s3 := Bl r3 ([102, 108, 111, 119] : List Int)
 generalize Aj ([102, 108, 111, 119] : List Int) (l3, 0, 0) = o3 at s3 ⊢
 rcases s3 with ⟨l, e, p, h⟩ | ⟨l4, r4, n3⟩
 ·exact As h rfl (by simp only [Am h, Aq h, Ao h, Au h, Ar h, Av h, An h, Al h, Ak h, cond_false])
 have m4 := Nat.le_trans n3 m3
 simp only [beq_self_eq_true, Bool.not_true, cond_false, cond_true]
 rw [Cey k r4]
 simp only [Option.bind_some]
 have s4 := C7 r4
 generalize numC (l4, 0, 0) = o4 at s4 ⊢
 rcases s4 with ⟨v4, l, e, p, h⟩ | ⟨v4, l5, r5, n4⟩
 ·exact As h rfl (by simp only [Am h, Aq h, Ao h, Au h, Ar h, Av h, An h, Al h, Ak h, cond_false])
 have m5 := Nat.le_trans n4 m4
 simp only [beq_self_eq_true, Bool.not_true, cond_false, cond_true]
 rw [Bn k r5 ([117, 115, 101] : List Int) ⟨_, _, rfl, rfl⟩]
 simp only [Option.bind_some]
 have s5 := Bl r5 ([117, 115, 101] : List Int)
 generalize Aj ([117, 115, 101] : List Int) (l5, 0, 0) = o5 at s5 ⊢
 rcases s5 with ⟨l, e, p, h⟩ | ⟨l6, r6, n5⟩
 ·exact As h rfl (by simp only [Am h, Aq h, Ao h, Au h, Ar h, Av h, An h, Al h, Ak h, cond_false])
 have m6 := Nat.le_trans n5 m5
 simp only [beq_self_eq_true, Bool.not_true, cond_false, cond_true]
 refine E7 (Cdo k hk r6 m6 _ _ _ _ _ _ _ _ _ _ _) fun q hp hd => ?_
 obtain ⟨q0, q1, q2, q3, q4, q5, q6, q7, q8, q9, q10, q11, q12, q13, q14⟩ := q
 simp only [Prod.mk.injEq] at hp hd
 obtain ⟨rfl, rfl, rfl, rfl⟩ := hp
 have s6 := Bgv r6
 generalize D5 (l6, 0, 0) = o6 at s6 hd ⊢
 rcases s6 with ⟨v6, l, e, p, h⟩ | ⟨v6, l7, r7, n6⟩
 ·exact As h rfl (by simp only [Am h, Aq h, Ao h, Au h, Ar h, Av h, An h, Al h, Ak h, cond_false])
 have m7 := Nat.le_trans n6 m6
 obtain ⟨rfl, rfl, rfl, rfl, rfl, rfl, rfl, rfl, rfl, rfl, rfl⟩ := hd rfl
 simp only [beq_self_eq_true, Bool.not_true, cond_false, cond_true]
 rw [Bn k r7 ([115, 112, 101, 101, 100] : List Int) ⟨_, _, rfl, rfl⟩]
 simp only [Option.bind_some]
 have s7 := Bl r7 ([115, 112, 101, 101, 100] : List Int)
 generalize Aj ([115, 112, 101, 101, 100] : List Int) (l7, 0, 0) = o7 at s7 ⊢
 rcases s7 with ⟨l, e, p, h⟩ | ⟨l8, r8, n7⟩
 ·exact As h rfl (by simp only [Am h, Aq h, Ao h, Au h, Ar h, Av h, An h, Al h, Ak h, cond_false])
 have m8 := Nat.le_trans n7 m7
 simp only [beq_self_eq_true, Bool.not_true, cond_false, cond_true]
 rw [Ce1 k r8]
 simp only [Option.bind_some]
 have s8 := C7 r8
 generalize numC (l8, 0, 0) = o8 at s8 ⊢
 rcases s8 with ⟨v8, l, e, p, h⟩ | ⟨v8, l9, r9, n8⟩
 ·exact As h rfl (by simp only [Am h, Aq h, Ao h, Au h, Ar h, Av h, An h, Al h, Ak h, cond_false])
 have m9 := Nat.le_trans n8 m8
 simp only [beq_self_eq_true, Bool.not_true, cond_false, cond_true]
 rw [Bn k r9 ([103, 114, 97, 100, 101] : List Int) ⟨_, _, rfl, rfl⟩]
 simp only [Option.bind_some]
 have s9 := Bl r9 ([103, 114, 97, 100, 101] : List Int)
 generalize Aj ([103, 114, 97, 100, 101] : List Int) (l9, 0, 0) = o9 at s9 ⊢
 rcases s9 with ⟨l, e, p, h⟩ | ⟨l10, r10, n9⟩
 ·exact As h rfl (by simp only [Am h, Aq h, Ao h, Au h, Ar h, Av h, An h, Al h, Ak h, cond_false])
 have m10 := Nat.le_trans n9 m9
 simp only [beq_self_eq_true, Bool.not_true, cond_false, cond_true]
 rw [Bho k r10 ([45] : List Int) _ ⟨_, _, rfl, rfl⟩]
 simp only [Option.bind_some]
 obtain ⟨l11, q10, r11, n10⟩ := Anc r10 ([45] : List Int)
 simp only [q10]
 have m11 := Nat.le_trans n10 m10
 rw [Cei k r11]
 simp only [Option.bind_some]
 have s11 := C7 r11
 generalize numC (l11, 0, 0) = o11 at s11 ⊢
 rcases s11 with ⟨v11, l, e, p, h⟩ | ⟨v11, l12, r12, n11⟩
 ·exact As h rfl (by simp only [Am h, Aq h, Ao h, Au h, Ar h, Av h, An h, Al h, Ak h, cond_false])
 have m12 := Nat.le_trans n11 m11
 simp only [beq_self_eq_true, Bool.not_true, cond_false, cond_true]
 rw [Bn k r12 ([119, 105, 100, 116, 104] : List Int) ⟨_, _, rfl, rfl⟩]
 simp only [Option.bind_some]
 have s12 := Bl r12 ([119, 105, 100, 116, 104] : List Int)
 generalize Aj ([119, 105, 100, 116, 104] : List Int) (l12, 0, 0) = o12 at s12 ⊢
 rcases s12 with ⟨l, e, p, h⟩ | ⟨l13, r13, n12⟩
 ·exact As h rfl (by simp only [Am h, Aq h, Ao h, Au h, Ar h, Av h, An h, Al h, Ak h, cond_false])
 have m13 := Nat.le_trans n12 m12
 simp only [beq_self_eq_true, Bool.not_true, cond_false, cond_true]
 rw [Cej k r13]
 simp only [Option.bind_some]
 have s13 := C7 r13
 generalize numC (l13, 0, 0) = o13 at s13 ⊢
 rcases s13 with ⟨v13, l, e, p, h⟩ | ⟨v13, l14, r14, n13⟩
 ·exact As h rfl (by simp only [Am h, Aq h, Ao h, Au h, Ar h, Av h, An h, Al h, Ak h, cond_false])
 have m14 := Nat.le_trans n13 m13
 simp only [beq_self_eq_true, Bool.not_true, cond_false, cond_true]
 rw [Bn k r14 ([108, 101, 110, 103, 116, 104] : List Int) ⟨_, _, rfl, rfl⟩]
 simp only [Option.bind_some]
 have s14 := Bl r14 ([108, 101, 110, 103, 116, 104] : List Int)
 generalize Aj ([108, 101, 110, 103, 116, 104] : List Int) (l14, 0, 0) = o14 at s14 ⊢
 rcases s14 with ⟨l, e, p, h⟩ | ⟨l15, r15, n14⟩
 ·exact As h rfl (by simp only [Am h, Aq h, Ao h, Au h, Ar h, Av h, An h, Al h, Ak h, cond_false])
 have m15 := Nat.le_trans n14 m14
 simp only [beq_self_eq_true, Bool.not_true, cond_false, cond_true]
 rw [Cek k r15]
 simp only [Option.bind_some]
 have s15 := C7 r15
 generalize numC (l15, 0, 0) = o15 at s15 ⊢
 rcases s15 with ⟨v15, l, e, p, h⟩ | ⟨v15, l16, r16, n15⟩
 ·exact As h rfl (by simp only [Am h, Aq h, Ao h, Au h, Ar h, Av h, An h, Al h, Ak h, cond_false])
 have m16 := Nat.le_trans n15 m15
 simp only [beq_self_eq_true, Bool.not_true, cond_false, cond_true]
 rw [Bn k r16 ([103, 114, 101, 101, 110] : List Int) ⟨_, _, rfl, rfl⟩]
 simp only [Option.bind_some]
 have s16 := Bl r16 ([103, 114, 101, 101, 110] : List Int)
 generalize Aj ([103, 114, 101, 101, 110] : List Int) (l16, 0, 0) = o16 at s16 ⊢
 rcases s16 with ⟨l, e, p, h⟩ | ⟨l17, r17, n16⟩
 ·exact As h rfl (by simp only [Am h, Aq h, Ao h, Au h, Ar h, Av h, An h, Al h, Ak h, cond_false])
 have m17 := Nat.le_trans n16 m16
 simp only [beq_self_eq_true, Bool.not_true, cond_false, cond_true]
 rw [Cel k r17]
 simp only [Option.bind_some]
 have s17 := C7 r17
 generalize numC (l17, 0, 0) = o17 at s17 ⊢
 rcases s17 with ⟨v17, l, e, p, h⟩ | ⟨v17, l18, r18, n17⟩
 ·exact As h rfl (by simp only [Am h, Aq h, Ao h, Au h, Ar h, Av h, An h, Al h, Ak h, cond_false])
 have m18 := Nat.le_trans n17 m17
 simp only [beq_self_eq_true, Bool.not_true, cond_false, cond_true]
 rw [Bn k r18 ([59] : List Int) ⟨_, _, rfl, rfl⟩]
 simp only [Option.bind_some]
 have s18 := Bl r18 ([59] : List Int)
 generalize Aj ([59] : List Int) (l18, 0, 0) = o18 at s18 ⊢
 rcases s18 with ⟨l, e, p, h⟩ | ⟨l19, r19, n18⟩
 ·exact As h rfl (by simp only [Am h, Aq h, Ao h, Au h, Ar h, Av h, An h, Al h, Ak h, cond_false])
 have m19 := Nat.le_trans n18 m18
 simp only [beq_self_eq_true, Bool.not_true, cond_false, cond_true]
 exact Gc rfl fun _ => by cases Ay ([45] : List Int) (l10, 0, 0) <;> rfl
theorem Cch (k : Nat) (hk : 200000 ≤ k) {l0 : List Tk} (r0 : Rdy l0) (m0 : l0.length ≤ 100000) (a3 : _) (a4 : _) : Sim (T4 k ([104, 101, 97, 100], (16 : Int), l0, a3, a4)) (fun o => (o.1, o.2.1, o.2.2.1, o.2.2.2.2.2.1)) (Aw [104, 101, 97, 100] (16 : Int) Bf (l0, 0, 0)).2 (fun r => (r.2.2.2.1, r.2.2.2.2.1, r.2.2.2.2.2.2.1, r.2.2.2.2.2.2.2.1, r.2.2.2.2.2.2.2.2) = ([104, 101, 97, 100], (16 : Int), a3, a4, (Aw [104, 101, 97, 100] (16 : Int) Bf (l0, 0, 0)).1)) := by
 rw [B0m, Afk]
 refine Jq [104, 101, 97, 100] ⟨_, _, rfl, rfl⟩ (16 : Int) Bf O1 Aor Ao3 (fun j l o => (Hf k).L 1 [] j (Rf ([104, 101, 97, 100], (16 : Int), l, a3, a4, o))) (fun o => (o.1, o.2.1, o.2.2.1, o.2.2.2.2.2.1)) (fun r o => (r.2.2.2.1, r.2.2.2.2.1, r.2.2.2.2.2.2.1, r.2.2.2.2.2.2.2.1, r.2.2.2.2.2.2.2.2) = ([104, 101, 97, 100], (16 : Int), a3, a4, o)) (fun j l o r hc => ?_) (fun j l o r hc hm => ?_) (fun j l o r rn hl hl2 ho hc hm => ?_) (l0.length + 1) k l0 [] r0 (by omega) (by omega) (by rw [List.length_nil]; omega)
 ·have hc2 : ((hd l).2.1 == [104, 101, 97, 100]) = false := by simpa using hc
  rw [Afj, Rg, By k r, Option.bind_some, hc2, cond_false]
  exact ⟨_, rfl, rfl, rfl⟩
 ·rw [Afj, Rg, By k r, Option.bind_some, hc, beq_self_eq_true, cond_true, hm, beq_self_eq_true, cond_true, Bd k r, Option.bind_some]
  exact ⟨_, rfl, rfl⟩
 ·have hm2 : (((o.length : Nat) : Int) == (16 : Int)) = false := by simpa using hm
  rw [Afj, Rg, By k r, Option.bind_some, hc, beq_self_eq_true, cond_true, hm2, cond_false, A8 k r, Option.bind_some]
  simp only []
  obtain ⟨q, e1, e2, e3⟩ := Cdv k hk rn hl2
  rw [e1, Option.bind_some]
  obtain ⟨q0, q1, q2, q3, q4, q5, q6, q7, q8, q9, q10, q11, q12, q13, q14⟩ := q
  simp only [Prod.mk.injEq] at e2 e3
  obtain ⟨rfl, rfl, rfl, rfl⟩ := e2
  refine ⟨fun he => ?_, fun he => ?_⟩
  ·have he2 : ((Bf (nx l, 0, 0)).2.2.1 == 0) = false := by simpa using he
   simp only [he2, Bool.not_false, cond_true]
   exact ⟨_, rfl, rfl⟩
  ·simp only [he, beq_self_eq_true, Bool.not_true, cond_false]
   rw [Ce (by rw [List.length_singleton]; omega) (by rw [List.length_singleton]; omega), e3 he]
theorem Cfh (k : Nat) (hk : 200000 ≤ k) {l0 : List Tk} (r0 : Rdy l0) (m0 : l0.length ≤ 100000) : Sim (cpwalk k l0) (fun o => (o.2.2.2.2.2.2.1, o.2.2.2.2.2.2.2.1, o.2.2.2.2.2.2.2.2.1, o.2.2.2.2.2.2.2.2.2)) (Bx (l0, 0, 0)).2 (fun o => (o.1, (o.2.1, (o.2.2.1, (o.2.2.2.1, (o.2.2.2.2.1, (o.2.2.2.2.2.1, ())))))) = (Bx (l0, 0, 0)).1) := by
 rw [B5v, A6l]
 simp only [B5d, A47, B2g, Ayp, Fz, Fh, B2h, Ayt, B3p, A1g, B3q, A1k, B3r, A1o, Option.bind_some]
 refine Jv (pr := (fun o => (o.1, o.2.1, o.2.2.1, o.2.2.2.1))) (fun o => rfl) ?_
 rw [B1o, Awp]
 simp only [Bx, Iy, Iz, Iq]
 rw [Ce5 k r0]
 simp only [Option.bind_some]
 rw [Cd3 k r0]
 simp only [Option.bind_some]
 have s0 := I1 r0
 generalize Ah (l0, 0, 0) = o0 at s0 ⊢
 rcases s0 with ⟨v0, l, e, p, h⟩ | ⟨v0, l1, r1, n0⟩
 ·exact As h rfl (by simp only [Am h, Aq h, Ao h, Au h, Ar h, Av h, An h, Al h, Ak h, cond_false])
 have m1 := Nat.le_trans n0 m0
 simp only [beq_self_eq_true, Bool.not_true, cond_false, cond_true]
 rw [Bn k r1 ([119, 105, 116, 104] : List Int) ⟨_, _, rfl, rfl⟩]
 simp only [Option.bind_some]
 have s1 := Bl r1 ([119, 105, 116, 104] : List Int)
 generalize Aj ([119, 105, 116, 104] : List Int) (l1, 0, 0) = o1 at s1 ⊢
 rcases s1 with ⟨l, e, p, h⟩ | ⟨l2, r2, n1⟩
 ·exact As h rfl (by simp only [Am h, Aq h, Ao h, Au h, Ar h, Av h, An h, Al h, Ak h, cond_false])
 have m2 := Nat.le_trans n1 m1
 simp only [beq_self_eq_true, Bool.not_true, cond_false, cond_true]
 rw [Cd4 k r2]
 simp only [Option.bind_some]
 have s2 := I1 r2
 generalize Ah (l2, 0, 0) = o2 at s2 ⊢
 rcases s2 with ⟨v2, l, e, p, h⟩ | ⟨v2, l3, r3, n2⟩
 ·exact As h rfl (by simp only [Am h, Aq h, Ao h, Au h, Ar h, Av h, An h, Al h, Ak h, cond_false])
 have m3 := Nat.le_trans n2 m2
 simp only [beq_self_eq_true, Bool.not_true, cond_false, cond_true]
 rw [Bn k r3 ([108, 111, 110, 103] : List Int) ⟨_, _, rfl, rfl⟩]
 simp only [Option.bind_some]
 have s3 := Bl r3 ([108, 111, 110, 103] : List Int)
 generalize Aj ([108, 111, 110, 103] : List Int) (l3, 0, 0) = o3 at s3 ⊢
 rcases s3 with ⟨l, e, p, h⟩ | ⟨l4, r4, n3⟩
 ·exact As h rfl (by simp only [Am h, Aq h, Ao h, Au h, Ar h, Av h, An h, Al h, Ak h, cond_false])
 have m4 := Nat.le_trans n3 m3
 simp only [beq_self_eq_true, Bool.not_true, cond_false, cond_true]
 rw [Cem k r4]
 simp only [Option.bind_some]
 have s4 := C7 r4
 generalize numC (l4, 0, 0) = o4 at s4 ⊢
 rcases s4 with ⟨v4, l, e, p, h⟩ | ⟨v4, l5, r5, n4⟩
 ·exact As h rfl (by simp only [Am h, Aq h, Ao h, Au h, Ar h, Av h, An h, Al h, Ak h, cond_false])
 have m5 := Nat.le_trans n4 m4
 simp only [beq_self_eq_true, Bool.not_true, cond_false, cond_true]
 rw [Bn k r5 ([112, 97, 99, 101] : List Int) ⟨_, _, rfl, rfl⟩]
 simp only [Option.bind_some]
 have s5 := Bl r5 ([112, 97, 99, 101] : List Int)
 generalize Aj ([112, 97, 99, 101] : List Int) (l5, 0, 0) = o5 at s5 ⊢
 rcases s5 with ⟨l, e, p, h⟩ | ⟨l6, r6, n5⟩
 ·exact As h rfl (by simp only [Am h, Aq h, Ao h, Au h, Ar h, Av h, An h, Al h, Ak h, cond_false])
 have m6 := Nat.le_trans n5 m5
 simp only [beq_self_eq_true, Bool.not_true, cond_false, cond_true]
 rw [Cen k r6]
 simp only [Option.bind_some]
 have s6 := C7 r6
 generalize numC (l6, 0, 0) = o6 at s6 ⊢
 rcases s6 with ⟨v6, l, e, p, h⟩ | ⟨v6, l7, r7, n6⟩
 ·exact As h rfl (by simp only [Am h, Aq h, Ao h, Au h, Ar h, Av h, An h, Al h, Ak h, cond_false])
 have m7 := Nat.le_trans n6 m6
 simp only [beq_self_eq_true, Bool.not_true, cond_false, cond_true]
 rw [Bn k r7 ([108, 101, 97, 115, 116] : List Int) ⟨_, _, rfl, rfl⟩]
 simp only [Option.bind_some]
 have s7 := Bl r7 ([108, 101, 97, 115, 116] : List Int)
 generalize Aj ([108, 101, 97, 115, 116] : List Int) (l7, 0, 0) = o7 at s7 ⊢
 rcases s7 with ⟨l, e, p, h⟩ | ⟨l8, r8, n7⟩
 ·exact As h rfl (by simp only [Am h, Aq h, Ao h, Au h, Ar h, Av h, An h, Al h, Ak h, cond_false])
 have m8 := Nat.le_trans n7 m7
 simp only [beq_self_eq_true, Bool.not_true, cond_false, cond_true]
 rw [Ceo k r8]
 simp only [Option.bind_some]
 have s8 := C7 r8
 generalize numC (l8, 0, 0) = o8 at s8 ⊢
 rcases s8 with ⟨v8, l, e, p, h⟩ | ⟨v8, l9, r9, n8⟩
 ·exact As h rfl (by simp only [Am h, Aq h, Ao h, Au h, Ar h, Av h, An h, Al h, Ak h, cond_false])
 have m9 := Nat.le_trans n8 m8
 simp only [beq_self_eq_true, Bool.not_true, cond_false, cond_true]
 rw [Bn k r9 ([59] : List Int) ⟨_, _, rfl, rfl⟩]
 simp only [Option.bind_some]
 have s9 := Bl r9 ([59] : List Int)
 generalize Aj ([59] : List Int) (l9, 0, 0) = o9 at s9 ⊢
 rcases s9 with ⟨l, e, p, h⟩ | ⟨l10, r10, n9⟩
 ·exact As h rfl (by simp only [Am h, Aq h, Ao h, Au h, Ar h, Av h, An h, Al h, Ak h, cond_false])
 have m10 := Nat.le_trans n9 m9
 simp only [beq_self_eq_true, Bool.not_true, cond_false, cond_true]
 exact Gc rfl fun _ => rfl
theorem Ccj (k : Nat) (hk : 200000 ≤ k) {l0 : List Tk} (r0 : Rdy l0) (m0 : l0.length ≤ 100000) (a3 : _) (a4 : _) (a5 : _) : Sim (T6 k ([119, 97, 108, 107], (8 : Int), l0, a3, a4, a5)) (fun o => (o.1, o.2.1, o.2.2.1, o.2.2.2.2.2.1)) (Aw [119, 97, 108, 107] (8 : Int) Bx (l0, 0, 0)).2 (fun r => (r.2.2.2.1, r.2.2.2.2.1, r.2.2.2.2.2.2.1, r.2.2.2.2.2.2.2.1, r.2.2.2.2.2.2.2.2.1, r.2.2.2.2.2.2.2.2.2) = ([119, 97, 108, 107], (8 : Int), a3, a4, a5, (Aw [119, 97, 108, 107] (8 : Int) Bx (l0, 0, 0)).1)) := by
 rw [B0s, Afu]
 refine Jq [119, 97, 108, 107] ⟨_, _, rfl, rfl⟩ (8 : Int) Bx O3 Aox Ao9 (fun j l o => (Hh k).L 1 [] j (Rj ([119, 97, 108, 107], (8 : Int), l, a3, a4, a5, o))) (fun o => (o.1, o.2.1, o.2.2.1, o.2.2.2.2.2.1)) (fun r o => (r.2.2.2.1, r.2.2.2.2.1, r.2.2.2.2.2.2.1, r.2.2.2.2.2.2.2.1, r.2.2.2.2.2.2.2.2.1, r.2.2.2.2.2.2.2.2.2) = ([119, 97, 108, 107], (8 : Int), a3, a4, a5, o)) (fun j l o r hc => ?_) (fun j l o r hc hm => ?_) (fun j l o r rn hl hl2 ho hc hm => ?_) (l0.length + 1) k l0 [] r0 (by omega) (by omega) (by rw [List.length_nil]; omega)
 ·have hc2 : ((hd l).2.1 == [119, 97, 108, 107]) = false := by simpa using hc
  rw [Aft, Rk, By k r, Option.bind_some, hc2, cond_false]
  exact ⟨_, rfl, rfl, rfl⟩
 ·rw [Aft, Rk, By k r, Option.bind_some, hc, beq_self_eq_true, cond_true, hm, beq_self_eq_true, cond_true, Bd k r, Option.bind_some]
  exact ⟨_, rfl, rfl⟩
 ·have hm2 : (((o.length : Nat) : Int) == (8 : Int)) = false := by simpa using hm
  rw [Aft, Rk, By k r, Option.bind_some, hc, beq_self_eq_true, cond_true, hm2, cond_false, A8 k r, Option.bind_some]
  simp only []
  obtain ⟨q, e1, e2, e3⟩ := Cfh k hk rn hl2
  rw [e1, Option.bind_some]
  obtain ⟨q0, q1, q2, q3, q4, q5, q6, q7, q8, q9⟩ := q
  simp only [Prod.mk.injEq] at e2 e3
  obtain ⟨rfl, rfl, rfl, rfl⟩ := e2
  refine ⟨fun he => ?_, fun he => ?_⟩
  ·have he2 : ((Bx (nx l, 0, 0)).2.2.1 == 0) = false := by simpa using he
   simp only [he2, Bool.not_false, cond_true]
   exact ⟨_, rfl, rfl⟩
  ·simp only [he, beq_self_eq_true, Bool.not_true, cond_false]
   rw [Ce (by rw [List.length_singleton]; omega) (by rw [List.length_singleton]; omega), e3 he]
theorem Ce3 (k : Nat) (hk : 200000 ≤ k) {l0 : List Tk} (r0 : Rdy l0) (m0 : l0.length ≤ 100000) : Sim (cpphase k l0) (fun o => (o.2.2.1, o.2.2.2.1, o.2.2.2.2.1, o.2.2.2.2.2.1)) (Dq (l0, 0, 0)).2 (fun o => (o.1, (o.2.2.2.2.2.2, (o.2.1, ()))) = (Dq (l0, 0, 0)).1) := by
 rw [B5b, A41]
 simp only [B5e, A5b, B2i, Ayx, Fz, Fh, B3j, A0v, Option.bind_some]
 refine Jv (pr := (fun o => (o.1, o.2.1, o.2.2.1, o.2.2.2.1))) (fun o => rfl) ?_
 rw [B1q, Aws]
 simp only [Dq, Iy, Iz, Iq]
 rw [Ce6 k r0]
 simp only [Option.bind_some]
 rw [Cd5 k r0]
 simp only [Option.bind_some]
 have s0 := I1 r0
 generalize Ah (l0, 0, 0) = o0 at s0 ⊢
 rcases s0 with ⟨v0, l, e, p, h⟩ | ⟨v0, l1, r1, n0⟩
 ·exact As h rfl (by simp only [Am h, Aq h, Ao h, Au h, Ar h, Av h, An h, Al h, Ak h, cond_false])
 have m1 := Nat.le_trans n0 m0
 simp only [beq_self_eq_true, Bool.not_true, cond_false, cond_true]
 rw [Bn k r1 ([58] : List Int) ⟨_, _, rfl, rfl⟩]
 simp only [Option.bind_some]
 have s1 := Bl r1 ([58] : List Int)
 generalize Aj ([58] : List Int) (l1, 0, 0) = o1 at s1 ⊢
 rcases s1 with ⟨l, e, p, h⟩ | ⟨l2, r2, n1⟩
 ·exact As h rfl (by simp only [Am h, Aq h, Ao h, Au h, Ar h, Av h, An h, Al h, Ak h, cond_false])
 have m2 := Nat.le_trans n1 m1
 simp only [beq_self_eq_true, Bool.not_true, cond_false, cond_true]
 refine E7 (Cec k hk r2 m2 _ _) fun q hp hd => ?_
 obtain ⟨q0, q1, q2, q3, q4, q5, q6, q7⟩ := q
 simp only [Prod.mk.injEq] at hp hd
 obtain ⟨rfl, rfl, rfl, rfl⟩ := hp
 have s2 := Bgw r2 (16 : Int)
 generalize Cg (16 : Int) (l2, 0, 0) = o2 at s2 hd ⊢
 rcases s2 with ⟨v2, l, e, p, h⟩ | ⟨v2, l3, r3, n2⟩
 ·exact As h rfl (by simp only [Am h, Aq h, Ao h, Au h, Ar h, Av h, An h, Al h, Ak h, cond_false])
 have m3 := Nat.le_trans n2 m2
 obtain ⟨rfl, rfl, rfl, rfl⟩ := hd rfl
 simp only [beq_self_eq_true, Bool.not_true, cond_false, cond_true]
 exact Gc rfl fun _ => rfl
theorem Cck (k : Nat) (hk : 200000 ≤ k) {l0 : List Tk} (r0 : Rdy l0) (m0 : l0.length ≤ 100000) (a3 : _) (a4 : _) (a5 : _) (a6 : _) : Sim (T7 k ([112, 104, 97, 115, 101], (16 : Int), l0, a3, a4, a5, a6)) (fun o => (o.1, o.2.1, o.2.2.1, o.2.2.2.2.2.1)) (Aw [112, 104, 97, 115, 101] (16 : Int) Dq (l0, 0, 0)).2 (fun r => (r.2.2.2.1, r.2.2.2.2.1, r.2.2.2.2.2.2.1, r.2.2.2.2.2.2.2.1, r.2.2.2.2.2.2.2.2.1, r.2.2.2.2.2.2.2.2.2.1, r.2.2.2.2.2.2.2.2.2.2) = ([112, 104, 97, 115, 101], (16 : Int), a3, a4, a5, a6, (Aw [112, 104, 97, 115, 101] (16 : Int) Dq (l0, 0, 0)).1)) := by
 rw [B0v, Afz]
 refine Jq [112, 104, 97, 115, 101] ⟨_, _, rfl, rfl⟩ (16 : Int) Dq O2 Aou Ao6 (fun j l o => (Hi k).L 1 [] j (Rl ([112, 104, 97, 115, 101], (16 : Int), l, a3, a4, a5, a6, o))) (fun o => (o.1, o.2.1, o.2.2.1, o.2.2.2.2.2.1)) (fun r o => (r.2.2.2.1, r.2.2.2.2.1, r.2.2.2.2.2.2.1, r.2.2.2.2.2.2.2.1, r.2.2.2.2.2.2.2.2.1, r.2.2.2.2.2.2.2.2.2.1, r.2.2.2.2.2.2.2.2.2.2) = ([112, 104, 97, 115, 101], (16 : Int), a3, a4, a5, a6, o)) (fun j l o r hc => ?_) (fun j l o r hc hm => ?_) (fun j l o r rn hl hl2 ho hc hm => ?_) (l0.length + 1) k l0 [] r0 (by omega) (by omega) (by rw [List.length_nil]; omega)
 ·have hc2 : ((hd l).2.1 == [112, 104, 97, 115, 101]) = false := by simpa using hc
  rw [Afy, Rm, By k r, Option.bind_some, hc2, cond_false]
  exact ⟨_, rfl, rfl, rfl⟩
 ·rw [Afy, Rm, By k r, Option.bind_some, hc, beq_self_eq_true, cond_true, hm, beq_self_eq_true, cond_true, Bd k r, Option.bind_some]
  exact ⟨_, rfl, rfl⟩
 ·have hm2 : (((o.length : Nat) : Int) == (16 : Int)) = false := by simpa using hm
  rw [Afy, Rm, By k r, Option.bind_some, hc, beq_self_eq_true, cond_true, hm2, cond_false, A8 k r, Option.bind_some]
  simp only []
  obtain ⟨q, e1, e2, e3⟩ := Ce3 k hk rn hl2
  rw [e1, Option.bind_some]
  obtain ⟨q0, q1, q2, q3, q4, q5, q6⟩ := q
  simp only [Prod.mk.injEq] at e2 e3
  obtain ⟨rfl, rfl, rfl, rfl⟩ := e2
  refine ⟨fun he => ?_, fun he => ?_⟩
  ·have he2 : ((Dq (nx l, 0, 0)).2.2.1 == 0) = false := by simpa using he
   simp only [he2, Bool.not_false, cond_true]
   exact ⟨_, rfl, rfl⟩
  ·simp only [he, beq_self_eq_true, Bool.not_true, cond_false]
   rw [Ce (by rw [List.length_singleton]; omega) (by rw [List.length_singleton]; omega), e3 he]
theorem Cfa (k : Nat) (hk : 200000 ≤ k) {l0 : List Tk} (r0 : Rdy l0) (m0 : l0.length ≤ 100000) : Sim (cpring k l0) (fun o => (o.2.1, o.2.2.1, o.2.2.2.1, o.2.2.2.2.1)) (Dz (l0, 0, 0)).2 (fun o => (o.1, (o.2.2.2.2.2, ())) = (Dz (l0, 0, 0)).1) := by
 rw [B5o, A57]
 simp only [B18, Ax5, B3e, A0p, Option.bind_some]
 refine Jv (pr := (fun o => (o.1, o.2.1, o.2.2.1, o.2.2.2.1))) (fun o => rfl) ?_
 rw [B06, Avv]
 simp only [Dz, Iy, Iz, Iq]
 rw [Cd0 k r0 ([102, 114, 101, 101] : List Int) _ ⟨_, _, rfl, rfl⟩]
 simp only [Option.bind_some]
 obtain ⟨l1, q0, r1, n0⟩ := Anc r0 ([102, 114, 101, 101] : List Int)
 simp only [q0]
 have m1 := Nat.le_trans n0 m0
 refine E7 (Ceb k hk r1 m1 _) fun q hp hd => ?_
 obtain ⟨q0, q1, q2, q3, q4, q5, q6⟩ := q
 simp only [Prod.mk.injEq] at hp hd
 obtain ⟨rfl, rfl, rfl, rfl⟩ := hp
 have s1 := Bgw r1 (4 : Int)
 generalize Cg (4 : Int) (l1, 0, 0) = o1 at s1 hd ⊢
 rcases s1 with ⟨v1, l, e, p, h⟩ | ⟨v1, l2, r2, n1⟩
 ·exact As h rfl (by simp only [Am h, Aq h, Ao h, Au h, Ar h, Av h, An h, Al h, Ak h, cond_false])
 have m2 := Nat.le_trans n1 m1
 obtain ⟨rfl, rfl, rfl⟩ := hd rfl
 simp only [beq_self_eq_true, Bool.not_true, cond_false, cond_true]
 exact Gc rfl fun _ => by cases Ay ([102, 114, 101, 101] : List Int) (l0, 0, 0) <;> rfl
theorem Ccl (k : Nat) (hk : 200000 ≤ k) {l0 : List Tk} (r0 : Rdy l0) (m0 : l0.length ≤ 100000) : Sim (T8 k ([114, 105, 110, 103], (2 : Int), l0)) (fun o => (o.1, o.2.1, o.2.2.1, o.2.2.2.2.2.1)) (Aw [114, 105, 110, 103] (2 : Int) Dz (l0, 0, 0)).2 (fun r => (r.2.2.2.1, r.2.2.2.2.1, r.2.2.2.2.2.2) = ([114, 105, 110, 103], (2 : Int), (Aw [114, 105, 110, 103] (2 : Int) Dz (l0, 0, 0)).1)) := by
 rw [B0y, Af4]
 refine Jq [114, 105, 110, 103] ⟨_, _, rfl, rfl⟩ (2 : Int) Dz S8 Aov Ao7 (fun j l o => (Hj k).L 1 [] j (Rn ([114, 105, 110, 103], (2 : Int), l, o))) (fun o => (o.1, o.2.1, o.2.2.1, o.2.2.2.2.2.1)) (fun r o => (r.2.2.2.1, r.2.2.2.2.1, r.2.2.2.2.2.2) = ([114, 105, 110, 103], (2 : Int), o)) (fun j l o r hc => ?_) (fun j l o r hc hm => ?_) (fun j l o r rn hl hl2 ho hc hm => ?_) (l0.length + 1) k l0 [] r0 (by omega) (by omega) (by rw [List.length_nil]; omega)
 ·have hc2 : ((hd l).2.1 == [114, 105, 110, 103]) = false := by simpa using hc
  rw [Af3, Ro, By k r, Option.bind_some, hc2, cond_false]
  exact ⟨_, rfl, rfl, rfl⟩
 ·rw [Af3, Ro, By k r, Option.bind_some, hc, beq_self_eq_true, cond_true, hm, beq_self_eq_true, cond_true, Bd k r, Option.bind_some]
  exact ⟨_, rfl, rfl⟩
 ·have hm2 : (((o.length : Nat) : Int) == (2 : Int)) = false := by simpa using hm
  rw [Af3, Ro, By k r, Option.bind_some, hc, beq_self_eq_true, cond_true, hm2, cond_false, A8 k r, Option.bind_some]
  simp only []
  obtain ⟨q, e1, e2, e3⟩ := Cfa k hk rn hl2
  rw [e1, Option.bind_some]
  obtain ⟨q0, q1, q2, q3, q4, q5⟩ := q
  simp only [Prod.mk.injEq] at e2 e3
  obtain ⟨rfl, rfl, rfl, rfl⟩ := e2
  refine ⟨fun he => ?_, fun he => ?_⟩
  ·have he2 : ((Dz (nx l, 0, 0)).2.2.1 == 0) = false := by simpa using he
   simp only [he2, Bool.not_false, cond_true]
   exact ⟨_, rfl, rfl⟩
  ·simp only [he, beq_self_eq_true, Bool.not_true, cond_false]
   rw [Ce (by rw [List.length_singleton]; omega) (by rw [List.length_singleton]; omega), e3 he]
theorem Cdq (k : Nat) (hk : 200000 ≤ k) {l0 : List Tk} (r0 : Rdy l0) (m0 : l0.length ≤ 100000) : Sim (cpgroup k l0) (fun o => (o.1, o.2.1, o.2.2.1, o.2.2.2.1)) (Cx (l0, 0, 0)).2 (fun o => (o.2.2.2.2, ()) = (Cx (l0, 0, 0)).1) := by
 rw [B14, Axs]
 simp only [Fz, Fh, B5r, A6c, B0z, Avk, Option.bind_some]
 refine Jv (pr := (fun o => (o.1, o.2.1, o.2.2.1, o.2.2.2.1))) (fun o => rfl) ?_
 rw [B1u, Aw1]
 simp only [Cx, Iy, Iz, Iq]
 rw [Bn k r0 ([123] : List Int) ⟨_, _, rfl, rfl⟩]
 simp only [Option.bind_some]
 have s0 := Bl r0 ([123] : List Int)
 generalize Aj ([123] : List Int) (l0, 0, 0) = o0 at s0 ⊢
 rcases s0 with ⟨l, e, p, h⟩ | ⟨l1, r1, n0⟩
 ·exact As h rfl (by simp only [Am h, Aq h, Ao h, Au h, Ar h, Av h, An h, Al h, Ak h, cond_false])
 have m1 := Nat.le_trans n0 m0
 simp only [beq_self_eq_true, Bool.not_true, cond_false, cond_true]
 rw [Cfb k r1 ([114, 105, 110, 103] : List Int) ⟨_, _, rfl, rfl⟩]
 simp only [Option.bind_some]
 have s1 := ok_sees r1 ([114, 105, 110, 103] : List Int)
 generalize (bif Ay ([114, 105, 110, 103] : List Int) (l1, 0, 0) then (l1, 0, 0) else A2 50 (l1, 0, 0)) = o1 at s1 ⊢
 rcases s1 with ⟨l, e, p, h⟩ | ⟨l2, r2, n1⟩
 ·exact As h rfl (by simp only [Am h, Aq h, Ao h, Au h, Ar h, Av h, An h, Al h, Ak h, cond_false])
 have m2 := Nat.le_trans n1 m1
 simp only [beq_self_eq_true, Bool.not_true, cond_false, cond_true]
 refine E7 (Ccl k hk r2 m2) fun q hp hd => ?_
 obtain ⟨q0, q1, q2, q3, q4, q5, q6⟩ := q
 simp only [Prod.mk.injEq] at hp hd
 obtain ⟨rfl, rfl, rfl, rfl⟩ := hp
 have s2 := Kr r2 ([114, 105, 110, 103] : List Int) (2 : Int) S8 Aov Ao7
 generalize Aw ([114, 105, 110, 103] : List Int) (2 : Int) Dz (l2, 0, 0) = o2 at s2 hd ⊢
 rcases s2 with ⟨v2, l, e, p, h⟩ | ⟨v2, l3, r3, n2⟩
 ·exact As h rfl (by simp only [Am h, Aq h, Ao h, Au h, Ar h, Av h, An h, Al h, Ak h, cond_false])
 have m3 := Nat.le_trans n2 m2
 obtain ⟨rfl, rfl, rfl⟩ := hd rfl
 simp only [beq_self_eq_true, Bool.not_true, cond_false, cond_true]
 rw [Bn k r3 ([125] : List Int) ⟨_, _, rfl, rfl⟩]
 simp only [Option.bind_some]
 have s3 := Bl r3 ([125] : List Int)
 generalize Aj ([125] : List Int) (l3, 0, 0) = o3 at s3 ⊢
 rcases s3 with ⟨l, e, p, h⟩ | ⟨l4, r4, n3⟩
 ·exact As h rfl (by simp only [Am h, Aq h, Ao h, Au h, Ar h, Av h, An h, Al h, Ak h, cond_false])
 have m4 := Nat.le_trans n3 m3
 simp only [beq_self_eq_true, Bool.not_true, cond_false, cond_true]
 exact Gc rfl fun _ => rfl
theorem Ccg (k : Nat) (hk : 200000 ≤ k) {l0 : List Tk} (r0 : Rdy l0) (m0 : l0.length ≤ 100000) (a3 : _) (a4 : _) (a5 : _) (a6 : _) (a7 : _) : Sim (T2 k ([103, 114, 111, 117, 112], (4 : Int), l0, a3, a4, a5, a6, a7)) (fun o => (o.1, o.2.1, o.2.2.1, o.2.2.2.2.2.1)) (Aw [103, 114, 111, 117, 112] (4 : Int) Cx (l0, 0, 0)).2 (fun r => (r.2.2.2.1, r.2.2.2.2.1, r.2.2.2.2.2.2.1, r.2.2.2.2.2.2.2.1, r.2.2.2.2.2.2.2.2.1, r.2.2.2.2.2.2.2.2.2.1, r.2.2.2.2.2.2.2.2.2.2.1, r.2.2.2.2.2.2.2.2.2.2.2) = ([103, 114, 111, 117, 112], (4 : Int), a3, a4, a5, a6, a7, (Aw [103, 114, 111, 117, 112] (4 : Int) Cx (l0, 0, 0)).1)) := by
 rw [B0j, Aff]
 refine Jq [103, 114, 111, 117, 112] ⟨_, _, rfl, rfl⟩ (4 : Int) Cx O0 Aoq Ao2 (fun j l o => (He k).L 1 [] j (Rd ([103, 114, 111, 117, 112], (4 : Int), l, a3, a4, a5, a6, a7, o))) (fun o => (o.1, o.2.1, o.2.2.1, o.2.2.2.2.2.1)) (fun r o => (r.2.2.2.1, r.2.2.2.2.1, r.2.2.2.2.2.2.1, r.2.2.2.2.2.2.2.1, r.2.2.2.2.2.2.2.2.1, r.2.2.2.2.2.2.2.2.2.1, r.2.2.2.2.2.2.2.2.2.2.1, r.2.2.2.2.2.2.2.2.2.2.2) = ([103, 114, 111, 117, 112], (4 : Int), a3, a4, a5, a6, a7, o)) (fun j l o r hc => ?_) (fun j l o r hc hm => ?_) (fun j l o r rn hl hl2 ho hc hm => ?_) (l0.length + 1) k l0 [] r0 (by omega) (by omega) (by rw [List.length_nil]; omega)
 ·have hc2 : ((hd l).2.1 == [103, 114, 111, 117, 112]) = false := by simpa using hc
  rw [Afe, Re, By k r, Option.bind_some, hc2, cond_false]
  exact ⟨_, rfl, rfl, rfl⟩
 ·rw [Afe, Re, By k r, Option.bind_some, hc, beq_self_eq_true, cond_true, hm, beq_self_eq_true, cond_true, Bd k r, Option.bind_some]
  exact ⟨_, rfl, rfl⟩
 ·have hm2 : (((o.length : Nat) : Int) == (4 : Int)) = false := by simpa using hm
  rw [Afe, Re, By k r, Option.bind_some, hc, beq_self_eq_true, cond_true, hm2, cond_false, A8 k r, Option.bind_some]
  simp only []
  obtain ⟨q, e1, e2, e3⟩ := Cdq k hk rn hl2
  rw [e1, Option.bind_some]
  obtain ⟨q0, q1, q2, q3, q4⟩ := q
  simp only [Prod.mk.injEq] at e2 e3
  obtain ⟨rfl, rfl, rfl, rfl⟩ := e2
  refine ⟨fun he => ?_, fun he => ?_⟩
  ·have he2 : ((Cx (nx l, 0, 0)).2.2.1 == 0) = false := by simpa using he
   simp only [he2, Bool.not_false, cond_true]
   exact ⟨_, rfl, rfl⟩
  ·simp only [he, beq_self_eq_true, Bool.not_true, cond_false]
   rw [Ce (by rw [List.length_singleton]; omega) (by rw [List.length_singleton]; omega), e3 he]
theorem Cdn (k : Nat) (hk : 200000 ≤ k) {l0 : List Tk} (r0 : Rdy l0) (m0 : l0.length ≤ 100000) : Sim (cpfoe k l0) (fun o => (o.2.2.2.1, o.2.2.2.2.1, o.2.2.2.2.2.1, o.2.2.2.2.2.2)) (foeR (l0, 0, 0)).2 (fun o => (o.1, (o.2.1, (o.2.2.1, ()))) = (foeR (l0, 0, 0)).1) := by
 rw [fpfoe_e, Axe]
 simp only [B5f, A5f, B2j, Ay4, B2k, Ay8, Fz, Fh, Option.bind_some]
 refine Jv (pr := (fun o => (o.1, o.2.1, o.2.2.1, o.2.2.2.1))) (fun o => rfl) ?_
 rw [B08, Avz]
 simp only [foeR, Iy, Iz, Iq]
 rw [Ce7 k r0]
 simp only [Option.bind_some]
 rw [Cd6 k r0]
 simp only [Option.bind_some]
 have s0 := I1 r0
 generalize Ah (l0, 0, 0) = o0 at s0 ⊢
 rcases s0 with ⟨v0, l, e, p, h⟩ | ⟨v0, l1, r1, n0⟩
 ·exact As h rfl (by simp only [Am h, Aq h, Ao h, Au h, Ar h, Av h, An h, Al h, Ak h, cond_false])
 have m1 := Nat.le_trans n0 m0
 simp only [beq_self_eq_true, Bool.not_true, cond_false, cond_true]
 rw [Cd7 k r1]
 simp only [Option.bind_some]
 have s1 := I1 r1
 generalize Ah (l1, 0, 0) = o1 at s1 ⊢
 rcases s1 with ⟨v1, l, e, p, h⟩ | ⟨v1, l2, r2, n1⟩
 ·exact As h rfl (by simp only [Am h, Aq h, Ao h, Au h, Ar h, Av h, An h, Al h, Ak h, cond_false])
 have m2 := Nat.le_trans n1 m1
 simp only [beq_self_eq_true, Bool.not_true, cond_false, cond_true]
 rw [Bn k r2 ([59] : List Int) ⟨_, _, rfl, rfl⟩]
 simp only [Option.bind_some]
 have s2 := Bl r2 ([59] : List Int)
 generalize Aj ([59] : List Int) (l2, 0, 0) = o2 at s2 ⊢
 rcases s2 with ⟨l, e, p, h⟩ | ⟨l3, r3, n2⟩
 ·exact As h rfl (by simp only [Am h, Aq h, Ao h, Au h, Ar h, Av h, An h, Al h, Ak h, cond_false])
 have m3 := Nat.le_trans n2 m2
 simp only [beq_self_eq_true, Bool.not_true, cond_false, cond_true]
 exact Gc rfl fun _ => rfl
theorem Ccf (k : Nat) (hk : 200000 ≤ k) {l0 : List Tk} (r0 : Rdy l0) (m0 : l0.length ≤ 100000) (a3 : _) (a4 : _) (a5 : _) (a6 : _) (a7 : _) (a8 : _) : Sim (T1 k ([102, 111, 101], (64 : Int), l0, a3, a4, a5, a6, a7, a8)) (fun o => (o.1, o.2.1, o.2.2.1, o.2.2.2.2.2.1)) (Aw [102, 111, 101] (64 : Int) foeR (l0, 0, 0)).2 (fun r => (r.2.2.2.1, r.2.2.2.2.1, r.2.2.2.2.2.2.1, r.2.2.2.2.2.2.2.1, r.2.2.2.2.2.2.2.2.1, r.2.2.2.2.2.2.2.2.2.1, r.2.2.2.2.2.2.2.2.2.2.1, r.2.2.2.2.2.2.2.2.2.2.2.1, r.2.2.2.2.2.2.2.2.2.2.2.2) = ([102, 111, 101], (64 : Int), a3, a4, a5, a6, a7, a8, (Aw [102, 111, 101] (64 : Int) foeR (l0, 0, 0)).1)) := by
 rw [B0g, Afa]
 refine Jq [102, 111, 101] ⟨_, _, rfl, rfl⟩ (64 : Int) foeR S5 Aop Ao1 (fun j l o => (Hd k).L 1 [] j (Rb ([102, 111, 101], (64 : Int), l, a3, a4, a5, a6, a7, a8, o))) (fun o => (o.1, o.2.1, o.2.2.1, o.2.2.2.2.2.1)) (fun r o => (r.2.2.2.1, r.2.2.2.2.1, r.2.2.2.2.2.2.1, r.2.2.2.2.2.2.2.1, r.2.2.2.2.2.2.2.2.1, r.2.2.2.2.2.2.2.2.2.1, r.2.2.2.2.2.2.2.2.2.2.1, r.2.2.2.2.2.2.2.2.2.2.2.1, r.2.2.2.2.2.2.2.2.2.2.2.2) = ([102, 111, 101], (64 : Int), a3, a4, a5, a6, a7, a8, o)) (fun j l o r hc => ?_) (fun j l o r hc hm => ?_) (fun j l o r rn hl hl2 ho hc hm => ?_) (l0.length + 1) k l0 [] r0 (by omega) (by omega) (by rw [List.length_nil]; omega)
 ·have hc2 : ((hd l).2.1 == [102, 111, 101]) = false := by simpa using hc
  rw [Ae9, Rc, By k r, Option.bind_some, hc2, cond_false]
  exact ⟨_, rfl, rfl, rfl⟩
 ·rw [Ae9, Rc, By k r, Option.bind_some, hc, beq_self_eq_true, cond_true, hm, beq_self_eq_true, cond_true, Bd k r, Option.bind_some]
  exact ⟨_, rfl, rfl⟩
 ·have hm2 : (((o.length : Nat) : Int) == (64 : Int)) = false := by simpa using hm
  rw [Ae9, Rc, By k r, Option.bind_some, hc, beq_self_eq_true, cond_true, hm2, cond_false, A8 k r, Option.bind_some]
  simp only []
  obtain ⟨q, e1, e2, e3⟩ := Cdn k hk rn hl2
  rw [e1, Option.bind_some]
  obtain ⟨q0, q1, q2, q3, q4, q5, q6⟩ := q
  simp only [Prod.mk.injEq] at e2 e3
  obtain ⟨rfl, rfl, rfl, rfl⟩ := e2
  refine ⟨fun he => ?_, fun he => ?_⟩
  ·have he2 : ((foeR (nx l, 0, 0)).2.2.1 == 0) = false := by simpa using he
   simp only [he2, Bool.not_false, cond_true]
   exact ⟨_, rfl, rfl⟩
  ·simp only [he, beq_self_eq_true, Bool.not_true, cond_false]
   rw [Ce (by rw [List.length_singleton]; omega) (by rw [List.length_singleton]; omega), e3 he]
theorem Ceg (k : Nat) (hk : 200000 ≤ k) {l0 : List Tk} (r0 : Rdy l0) (m0 : l0.length ≤ 100000) : Sim (cpnode k l0) (fun o => (o.2.2.1, o.2.2.2.1, o.2.2.2.2.1, o.2.2.2.2.2.1)) (Bv (l0, 0, 0)).2 (fun o => (o.1, (o.2.2.2.2.2.2.1, (o.2.2.2.2.2.2.2.1, (o.2.2.2.2.2.2.2.2.1, (o.2.2.2.2.2.2.2.2.2.1, (o.2.2.2.2.2.2.2.2.2.2, (o.2.1, ()))))))) = (Bv (l0, 0, 0)).1) := by
 rw [B3k, A0y]
 simp only [B5n, A55, B29, A0h, Fz, Fh, B0n, Au0, B0t, Ava, B0w, Avf, B0k, Auv, B0h, Auq, Option.bind_some]
 refine Jv (pr := (fun o => (o.1, o.2.1, o.2.2.1, o.2.2.2.1))) (fun o => rfl) ?_
 rw [B1i, Awf]
 simp only [Bv, Iy, Iz, Iq]
 rw [Ce9 k r0]
 simp only [Option.bind_some]
 rw [Cea k r0]
 simp only [Option.bind_some]
 have s0 := I1 r0
 generalize Ah (l0, 0, 0) = o0 at s0 ⊢
 rcases s0 with ⟨v0, l, e, p, h⟩ | ⟨v0, l1, r1, n0⟩
 ·exact As h rfl (by simp only [Am h, Aq h, Ao h, Au h, Ar h, Av h, An h, Al h, Ak h, cond_false])
 have m1 := Nat.le_trans n0 m0
 simp only [beq_self_eq_true, Bool.not_true, cond_false, cond_true]
 rw [Bn k r1 ([123] : List Int) ⟨_, _, rfl, rfl⟩]
 simp only [Option.bind_some]
 have s1 := Bl r1 ([123] : List Int)
 generalize Aj ([123] : List Int) (l1, 0, 0) = o1 at s1 ⊢
 rcases s1 with ⟨l, e, p, h⟩ | ⟨l2, r2, n1⟩
 ·exact As h rfl (by simp only [Am h, Aq h, Ao h, Au h, Ar h, Av h, An h, Al h, Ak h, cond_false])
 have m2 := Nat.le_trans n1 m1
 simp only [beq_self_eq_true, Bool.not_true, cond_false, cond_true]
 refine E7 (Cch k hk r2 m2 _ _) fun q hp hd => ?_
 obtain ⟨q0, q1, q2, q3, q4, q5, q6, q7, q8⟩ := q
 simp only [Prod.mk.injEq] at hp hd
 obtain ⟨rfl, rfl, rfl, rfl⟩ := hp
 have s2 := Kr r2 ([104, 101, 97, 100] : List Int) (16 : Int) O1 Aor Ao3
 generalize Aw ([104, 101, 97, 100] : List Int) (16 : Int) Bf (l2, 0, 0) = o2 at s2 hd ⊢
 rcases s2 with ⟨v2, l, e, p, h⟩ | ⟨v2, l3, r3, n2⟩
 ·exact As h rfl (by simp only [Am h, Aq h, Ao h, Au h, Ar h, Av h, An h, Al h, Ak h, cond_false])
 have m3 := Nat.le_trans n2 m2
 obtain ⟨rfl, rfl, rfl, rfl, rfl⟩ := hd rfl
 simp only [beq_self_eq_true, Bool.not_true, cond_false, cond_true]
 refine E7 (Ccj k hk r3 m3 _ _ _) fun q hp hd => ?_
 obtain ⟨q0, q1, q2, q3, q4, q5, q6, q7, q8, q9⟩ := q
 simp only [Prod.mk.injEq] at hp hd
 obtain ⟨rfl, rfl, rfl, rfl⟩ := hp
 have s3 := Kr r3 ([119, 97, 108, 107] : List Int) (8 : Int) O3 Aox Ao9
 generalize Aw ([119, 97, 108, 107] : List Int) (8 : Int) Bx (l3, 0, 0) = o3 at s3 hd ⊢
 rcases s3 with ⟨v3, l, e, p, h⟩ | ⟨v3, l4, r4, n3⟩
 ·exact As h rfl (by simp only [Am h, Aq h, Ao h, Au h, Ar h, Av h, An h, Al h, Ak h, cond_false])
 have m4 := Nat.le_trans n3 m3
 obtain ⟨rfl, rfl, rfl, rfl, rfl, rfl⟩ := hd rfl
 simp only [beq_self_eq_true, Bool.not_true, cond_false, cond_true]
 refine E7 (Cck k hk r4 m4 _ _ _ _) fun q hp hd => ?_
 obtain ⟨q0, q1, q2, q3, q4, q5, q6, q7, q8, q9, q10⟩ := q
 simp only [Prod.mk.injEq] at hp hd
 obtain ⟨rfl, rfl, rfl, rfl⟩ := hp
 have s4 := Kr r4 ([112, 104, 97, 115, 101] : List Int) (16 : Int) O2 Aou Ao6
 generalize Aw ([112, 104, 97, 115, 101] : List Int) (16 : Int) Dq (l4, 0, 0) = o4 at s4 hd ⊢
 rcases s4 with ⟨v4, l, e, p, h⟩ | ⟨v4, l5, r5, n4⟩
 ·exact As h rfl (by simp only [Am h, Aq h, Ao h, Au h, Ar h, Av h, An h, Al h, Ak h, cond_false])
 have m5 := Nat.le_trans n4 m4
 obtain ⟨rfl, rfl, rfl, rfl, rfl, rfl, rfl⟩ := hd rfl
 simp only [beq_self_eq_true, Bool.not_true, cond_false, cond_true]
 refine E7 (Ccg k hk r5 m5 _ _ _ _ _) fun q hp hd => ?_
 obtain ⟨q0, q1, q2, q3, q4, q5, q6, q7, q8, q9, q10, q11⟩ := q
 simp only [Prod.mk.injEq] at hp hd
 obtain ⟨rfl, rfl, rfl, rfl⟩ := hp
 have s5 := Kr r5 ([103, 114, 111, 117, 112] : List Int) (4 : Int) O0 Aoq Ao2
 generalize Aw ([103, 114, 111, 117, 112] : List Int) (4 : Int) Cx (l5, 0, 0) = o5 at s5 hd ⊢
 rcases s5 with ⟨v5, l, e, p, h⟩ | ⟨v5, l6, r6, n5⟩
 ·exact As h rfl (by simp only [Am h, Aq h, Ao h, Au h, Ar h, Av h, An h, Al h, Ak h, cond_false])
 have m6 := Nat.le_trans n5 m5
 obtain ⟨rfl, rfl, rfl, rfl, rfl, rfl, rfl, rfl⟩ := hd rfl
 simp only [beq_self_eq_true, Bool.not_true, cond_false, cond_true]
 refine E7 (Ccf k hk r6 m6 _ _ _ _ _ _) fun q hp hd => ?_
 obtain ⟨q0, q1, q2, q3, q4, q5, q6, q7, q8, q9, q10, q11, q12⟩ := q
 simp only [Prod.mk.injEq] at hp hd
 obtain ⟨rfl, rfl, rfl, rfl⟩ := hp
 have s6 := Kr r6 ([102, 111, 101] : List Int) (64 : Int) S5 Aop Ao1
 generalize Aw ([102, 111, 101] : List Int) (64 : Int) foeR (l6, 0, 0) = o6 at s6 hd ⊢
 rcases s6 with ⟨v6, l, e, p, h⟩ | ⟨v6, l7, r7, n6⟩
 ·exact As h rfl (by simp only [Am h, Aq h, Ao h, Au h, Ar h, Av h, An h, Al h, Ak h, cond_false])
 have m7 := Nat.le_trans n6 m6
 obtain ⟨rfl, rfl, rfl, rfl, rfl, rfl, rfl, rfl, rfl⟩ := hd rfl
 simp only [beq_self_eq_true, Bool.not_true, cond_false, cond_true]
 rw [Bn k r7 ([125] : List Int) ⟨_, _, rfl, rfl⟩]
 simp only [Option.bind_some]
 have s7 := Bl r7 ([125] : List Int)
 generalize Aj ([125] : List Int) (l7, 0, 0) = o7 at s7 ⊢
 rcases s7 with ⟨l, e, p, h⟩ | ⟨l8, r8, n7⟩
 ·exact As h rfl (by simp only [Am h, Aq h, Ao h, Au h, Ar h, Av h, An h, Al h, Ak h, cond_false])
 have m8 := Nat.le_trans n7 m7
 simp only [beq_self_eq_true, Bool.not_true, cond_false, cond_true]
 exact Gc rfl fun _ => rfl
theorem Cci (k : Nat) (hk : 200000 ≤ k) {l0 : List Tk} (r0 : Rdy l0) (m0 : l0.length ≤ 100000) (a3 : _) (a4 : _) (a5 : _) (a6 : _) (a7 : _) (a8 : _) (a9 : _) : Sim (T5 k ([110, 111, 100, 101], (12 : Int), l0, a3, a4, a5, a6, a7, a8, a9)) (fun o => (o.1, o.2.1, o.2.2.1, o.2.2.2.2.2.1)) (Aw [110, 111, 100, 101] (12 : Int) Bv (l0, 0, 0)).2 (fun r => (r.2.2.2.1, r.2.2.2.2.1, r.2.2.2.2.2.2.1, r.2.2.2.2.2.2.2.1, r.2.2.2.2.2.2.2.2.1, r.2.2.2.2.2.2.2.2.2.1, r.2.2.2.2.2.2.2.2.2.2.1, r.2.2.2.2.2.2.2.2.2.2.2.1, r.2.2.2.2.2.2.2.2.2.2.2.2.1, r.2.2.2.2.2.2.2.2.2.2.2.2.2) = ([110, 111, 100, 101], (12 : Int), a3, a4, a5, a6, a7, a8, a9, (Aw [110, 111, 100, 101] (12 : Int) Bv (l0, 0, 0)).1)) := by
 rw [B0p, Afp]
 refine Jq [110, 111, 100, 101] ⟨_, _, rfl, rfl⟩ (12 : Int) Bv S7 Aot Ao5 (fun j l o => (Hg k).L 1 [] j (Rh ([110, 111, 100, 101], (12 : Int), l, a3, a4, a5, a6, a7, a8, a9, o))) (fun o => (o.1, o.2.1, o.2.2.1, o.2.2.2.2.2.1)) (fun r o => (r.2.2.2.1, r.2.2.2.2.1, r.2.2.2.2.2.2.1, r.2.2.2.2.2.2.2.1, r.2.2.2.2.2.2.2.2.1, r.2.2.2.2.2.2.2.2.2.1, r.2.2.2.2.2.2.2.2.2.2.1, r.2.2.2.2.2.2.2.2.2.2.2.1, r.2.2.2.2.2.2.2.2.2.2.2.2.1, r.2.2.2.2.2.2.2.2.2.2.2.2.2) = ([110, 111, 100, 101], (12 : Int), a3, a4, a5, a6, a7, a8, a9, o)) (fun j l o r hc => ?_) (fun j l o r hc hm => ?_) (fun j l o r rn hl hl2 ho hc hm => ?_) (l0.length + 1) k l0 [] r0 (by omega) (by omega) (by rw [List.length_nil]; omega)
 ·have hc2 : ((hd l).2.1 == [110, 111, 100, 101]) = false := by simpa using hc
  rw [Afo, Ri, By k r, Option.bind_some, hc2, cond_false]
  exact ⟨_, rfl, rfl, rfl⟩
 ·rw [Afo, Ri, By k r, Option.bind_some, hc, beq_self_eq_true, cond_true, hm, beq_self_eq_true, cond_true, Bd k r, Option.bind_some]
  exact ⟨_, rfl, rfl⟩
 ·have hm2 : (((o.length : Nat) : Int) == (12 : Int)) = false := by simpa using hm
  rw [Afo, Ri, By k r, Option.bind_some, hc, beq_self_eq_true, cond_true, hm2, cond_false, A8 k r, Option.bind_some]
  simp only []
  obtain ⟨q, e1, e2, e3⟩ := Ceg k hk rn hl2
  rw [e1, Option.bind_some]
  obtain ⟨q0, q1, q2, q3, q4, q5, q6, q7, q8, q9, q10⟩ := q
  simp only [Prod.mk.injEq] at e2 e3
  obtain ⟨rfl, rfl, rfl, rfl⟩ := e2
  refine ⟨fun he => ?_, fun he => ?_⟩
  ·have he2 : ((Bv (nx l, 0, 0)).2.2.1 == 0) = false := by simpa using he
   simp only [he2, Bool.not_false, cond_true]
   exact ⟨_, rfl, rfl⟩
  ·simp only [he, beq_self_eq_true, Bool.not_true, cond_false]
   rw [Ce (by rw [List.length_singleton]; omega) (by rw [List.length_singleton]; omega), e3 he]
theorem Cfc (k : Nat) (hk : 200000 ≤ k) {l0 : List Tk} (r0 : Rdy l0) (m0 : l0.length ≤ 100000) : Sim (cpstop k l0) (fun o => (o.2.2.2.2.2.2.1, o.2.2.2.2.2.2.2.1, o.2.2.2.2.2.2.2.2.1, o.2.2.2.2.2.2.2.2.2)) (Ef (l0, 0, 0)).2 (fun o => (o.1, (o.2.1, (o.2.2.1, (o.2.2.2.1, (o.2.2.2.2.1, (o.2.2.2.2.2.1, ())))))) = (Ef (l0, 0, 0)).1) := by
 rw [B5s, A6e]
 simp only [B5g, A5j, B2l, Azc, Fz, Fh, B2m, Azg, B2e, Ayh, B3u, A10, B3w, A18, Option.bind_some]
 refine Jv (pr := (fun o => (o.1, o.2.1, o.2.2.1, o.2.2.2.1))) (fun o => rfl) ?_
 rw [B1c, Av6]
 simp only [Ef, Iy, Iz, Iq]
 rw [Ce8 k r0]
 simp only [Option.bind_some]
 rw [Cd8 k r0]
 simp only [Option.bind_some]
 have s0 := I1 r0
 generalize Ah (l0, 0, 0) = o0 at s0 ⊢
 rcases s0 with ⟨v0, l, e, p, h⟩ | ⟨v0, l1, r1, n0⟩
 ·exact As h rfl (by simp only [Am h, Aq h, Ao h, Au h, Ar h, Av h, An h, Al h, Ak h, cond_false])
 have m1 := Nat.le_trans n0 m0
 simp only [beq_self_eq_true, Bool.not_true, cond_false, cond_true]
 rw [Bn k r1 ([111, 117, 116] : List Int) ⟨_, _, rfl, rfl⟩]
 simp only [Option.bind_some]
 have s1 := Bl r1 ([111, 117, 116] : List Int)
 generalize Aj ([111, 117, 116] : List Int) (l1, 0, 0) = o1 at s1 ⊢
 rcases s1 with ⟨l, e, p, h⟩ | ⟨l2, r2, n1⟩
 ·exact As h rfl (by simp only [Am h, Aq h, Ao h, Au h, Ar h, Av h, An h, Al h, Ak h, cond_false])
 have m2 := Nat.le_trans n1 m1
 simp only [beq_self_eq_true, Bool.not_true, cond_false, cond_true]
 rw [Cd9 k r2]
 simp only [Option.bind_some]
 have s2 := I1 r2
 generalize Ah (l2, 0, 0) = o2 at s2 ⊢
 rcases s2 with ⟨v2, l, e, p, h⟩ | ⟨v2, l3, r3, n2⟩
 ·exact As h rfl (by simp only [Am h, Aq h, Ao h, Au h, Ar h, Av h, An h, Al h, Ak h, cond_false])
 have m3 := Nat.le_trans n2 m2
 simp only [beq_self_eq_true, Bool.not_true, cond_false, cond_true]
 rw [Bn k r3 ([105, 110] : List Int) ⟨_, _, rfl, rfl⟩]
 simp only [Option.bind_some]
 have s3 := Bl r3 ([105, 110] : List Int)
 generalize Aj ([105, 110] : List Int) (l3, 0, 0) = o3 at s3 ⊢
 rcases s3 with ⟨l, e, p, h⟩ | ⟨l4, r4, n3⟩
 ·exact As h rfl (by simp only [Am h, Aq h, Ao h, Au h, Ar h, Av h, An h, Al h, Ak h, cond_false])
 have m4 := Nat.le_trans n3 m3
 simp only [beq_self_eq_true, Bool.not_true, cond_false, cond_true]
 rw [Cd1 k r4]
 simp only [Option.bind_some]
 have s4 := I1 r4
 generalize Ah (l4, 0, 0) = o4 at s4 ⊢
 rcases s4 with ⟨v4, l, e, p, h⟩ | ⟨v4, l5, r5, n4⟩
 ·exact As h rfl (by simp only [Am h, Aq h, Ao h, Au h, Ar h, Av h, An h, Al h, Ak h, cond_false])
 have m5 := Nat.le_trans n4 m4
 simp only [beq_self_eq_true, Bool.not_true, cond_false, cond_true]
 rw [Bn k r5 ([97, 104, 101, 97, 100] : List Int) ⟨_, _, rfl, rfl⟩]
 simp only [Option.bind_some]
 have s5 := Bl r5 ([97, 104, 101, 97, 100] : List Int)
 generalize Aj ([97, 104, 101, 97, 100] : List Int) (l5, 0, 0) = o5 at s5 ⊢
 rcases s5 with ⟨l, e, p, h⟩ | ⟨l6, r6, n5⟩
 ·exact As h rfl (by simp only [Am h, Aq h, Ao h, Au h, Ar h, Av h, An h, Al h, Ak h, cond_false])
 have m6 := Nat.le_trans n5 m5
 simp only [beq_self_eq_true, Bool.not_true, cond_false, cond_true]
 rw [Cep k r6]
 simp only [Option.bind_some]
 have s6 := C7 r6
 generalize numC (l6, 0, 0) = o6 at s6 ⊢
 rcases s6 with ⟨v6, l, e, p, h⟩ | ⟨v6, l7, r7, n6⟩
 ·exact As h rfl (by simp only [Am h, Aq h, Ao h, Au h, Ar h, Av h, An h, Al h, Ak h, cond_false])
 have m7 := Nat.le_trans n6 m6
 simp only [beq_self_eq_true, Bool.not_true, cond_false, cond_true]
 rw [Bn k r7 ([98, 97, 99, 107] : List Int) ⟨_, _, rfl, rfl⟩]
 simp only [Option.bind_some]
 have s7 := Bl r7 ([98, 97, 99, 107] : List Int)
 generalize Aj ([98, 97, 99, 107] : List Int) (l7, 0, 0) = o7 at s7 ⊢
 rcases s7 with ⟨l, e, p, h⟩ | ⟨l8, r8, n7⟩
 ·exact As h rfl (by simp only [Am h, Aq h, Ao h, Au h, Ar h, Av h, An h, Al h, Ak h, cond_false])
 have m8 := Nat.le_trans n7 m7
 simp only [beq_self_eq_true, Bool.not_true, cond_false, cond_true]
 rw [Ceq k r8]
 simp only [Option.bind_some]
 have s8 := C7 r8
 generalize numC (l8, 0, 0) = o8 at s8 ⊢
 rcases s8 with ⟨v8, l, e, p, h⟩ | ⟨v8, l9, r9, n8⟩
 ·exact As h rfl (by simp only [Am h, Aq h, Ao h, Au h, Ar h, Av h, An h, Al h, Ak h, cond_false])
 have m9 := Nat.le_trans n8 m8
 simp only [beq_self_eq_true, Bool.not_true, cond_false, cond_true]
 rw [Bn k r9 ([59] : List Int) ⟨_, _, rfl, rfl⟩]
 simp only [Option.bind_some]
 have s9 := Bl r9 ([59] : List Int)
 generalize Aj ([59] : List Int) (l9, 0, 0) = o9 at s9 ⊢
 rcases s9 with ⟨l, e, p, h⟩ | ⟨l10, r10, n9⟩
 ·exact As h rfl (by simp only [Am h, Aq h, Ao h, Au h, Ar h, Av h, An h, Al h, Ak h, cond_false])
 have m10 := Nat.le_trans n9 m9
 simp only [beq_self_eq_true, Bool.not_true, cond_false, cond_true]
 exact Gc rfl fun _ => rfl
theorem Ccm (k : Nat) (hk : 200000 ≤ k) {l0 : List Tk} (r0 : Rdy l0) (m0 : l0.length ≤ 100000) (a3 : _) (a4 : _) (a5 : _) (a6 : _) (a7 : _) (a8 : _) (a9 : _) (a10 : _) : Sim (T9 k ([115, 116, 111, 112], (12 : Int), l0, a3, a4, a5, a6, a7, a8, a9, a10)) (fun o => (o.1, o.2.1, o.2.2.1, o.2.2.2.2.2.1)) (Aw [115, 116, 111, 112] (12 : Int) Ef (l0, 0, 0)).2 (fun r => (r.2.2.2.1, r.2.2.2.2.1, r.2.2.2.2.2.2.1, r.2.2.2.2.2.2.2.1, r.2.2.2.2.2.2.2.2.1, r.2.2.2.2.2.2.2.2.2.1, r.2.2.2.2.2.2.2.2.2.2.1, r.2.2.2.2.2.2.2.2.2.2.2.1, r.2.2.2.2.2.2.2.2.2.2.2.2.1, r.2.2.2.2.2.2.2.2.2.2.2.2.2.1, r.2.2.2.2.2.2.2.2.2.2.2.2.2.2) = ([115, 116, 111, 112], (12 : Int), a3, a4, a5, a6, a7, a8, a9, a10, (Aw [115, 116, 111, 112] (12 : Int) Ef (l0, 0, 0)).1)) := by
 rw [B01, Af9]
 refine Jq [115, 116, 111, 112] ⟨_, _, rfl, rfl⟩ (12 : Int) Ef S9 Aow Ao8 (fun j l o => (Hk k).L 1 [] j (Rp ([115, 116, 111, 112], (12 : Int), l, a3, a4, a5, a6, a7, a8, a9, a10, o))) (fun o => (o.1, o.2.1, o.2.2.1, o.2.2.2.2.2.1)) (fun r o => (r.2.2.2.1, r.2.2.2.2.1, r.2.2.2.2.2.2.1, r.2.2.2.2.2.2.2.1, r.2.2.2.2.2.2.2.2.1, r.2.2.2.2.2.2.2.2.2.1, r.2.2.2.2.2.2.2.2.2.2.1, r.2.2.2.2.2.2.2.2.2.2.2.1, r.2.2.2.2.2.2.2.2.2.2.2.2.1, r.2.2.2.2.2.2.2.2.2.2.2.2.2.1, r.2.2.2.2.2.2.2.2.2.2.2.2.2.2) = ([115, 116, 111, 112], (12 : Int), a3, a4, a5, a6, a7, a8, a9, a10, o)) (fun j l o r hc => ?_) (fun j l o r hc hm => ?_) (fun j l o r rn hl hl2 ho hc hm => ?_) (l0.length + 1) k l0 [] r0 (by omega) (by omega) (by rw [List.length_nil]; omega)
 ·have hc2 : ((hd l).2.1 == [115, 116, 111, 112]) = false := by simpa using hc
  rw [Af8, Rq, By k r, Option.bind_some, hc2, cond_false]
  exact ⟨_, rfl, rfl, rfl⟩
 ·rw [Af8, Rq, By k r, Option.bind_some, hc, beq_self_eq_true, cond_true, hm, beq_self_eq_true, cond_true, Bd k r, Option.bind_some]
  exact ⟨_, rfl, rfl⟩
 ·have hm2 : (((o.length : Nat) : Int) == (12 : Int)) = false := by simpa using hm
  rw [Af8, Rq, By k r, Option.bind_some, hc, beq_self_eq_true, cond_true, hm2, cond_false, A8 k r, Option.bind_some]
  simp only []
  obtain ⟨q, e1, e2, e3⟩ := Cfc k hk rn hl2
  rw [e1, Option.bind_some]
  obtain ⟨q0, q1, q2, q3, q4, q5, q6, q7, q8, q9⟩ := q
  simp only [Prod.mk.injEq] at e2 e3
  obtain ⟨rfl, rfl, rfl, rfl⟩ := e2
  refine ⟨fun he => ?_, fun he => ?_⟩
  ·have he2 : ((Ef (nx l, 0, 0)).2.2.1 == 0) = false := by simpa using he
   simp only [he2, Bool.not_false, cond_true]
   exact ⟨_, rfl, rfl⟩
  ·simp only [he, beq_self_eq_true, Bool.not_true, cond_false]
   rw [Ce (by rw [List.length_singleton]; omega) (by rw [List.length_singleton]; omega), e3 he]
def D8 (x : RS) : (Int × Int × Int × Int × Int × List YT6 × Bool) × RS :=
 let a := numR [99, 121, 99, 108, 101] x
 let b := numR [116, 111] a.2
 let c := numR [98, 121] b.2
 let p := Dk [112, 101, 97, 107] (Aj [59] c.2)
 let n := Aw [110, 111, 100, 101] 12 Bv (Aj [59] p.2)
 ((a.1, b.1, c.1, p.1.1, p.1.2, n.1, Ay [97, 114, 116, 101, 114, 121] n.2), bif Ay [97, 114, 116, 101, 114, 121] n.2 then A1 n.2 else n.2)
def L8 (o : (Int × Int × Int × Int × Int × List YT6 × Bool) × RS) : NetT × RS :=
 let t := bif o.1.2.2.2.2.2.2 then B5 o.2 else (([], 0, 0), o.2)
 ((o.1.1, o.1.2.1, o.1.2.2.1, o.1.2.2.2.1, o.1.2.2.2.2.1, o.1.2.2.2.2.2.1, t.1.1, t.1.2.1, t.1.2.2), bif (hd t.2.1).1 != 0 then A2 50 t.2 else t.2)
theorem Bgo (x : RS) : netR x = L8 (D8 x) := by
 unfold netR L8 D8
 simp only []
 generalize Aw [110, 111, 100, 101] 12 Bv _ = n
 cases Ay [97, 114, 116, 101, 114, 121] n.2 <;> rfl
theorem Bo1 (x : RS) : Adv x (D8 x).2 := (Bm _ _).trans ((Bm _ _).trans ((Bm _ _).trans ((Bo _ _).trans ((S6 _ _).trans ((Bo _ _).trans ((Fa S7 _).trans (Ik (Eh _) (.refl _))))))))
theorem Cgn (x : RS) : Suf x (D8 x).2 := (Ds _ _).trans ((Ds _ _).trans ((Ds _ _).trans ((Cy _ _).trans ((Bod _ _).trans ((Cy _ _).trans ((Jx Aot _).trans (Jw (I7 _) (Gf _))))))))
theorem Boy (x : RS) (h : Zr x) : Zr (D8 x).2 :=
 have q := J1 [110, 111, 100, 101] 12 Bv Ao5 _ (Cv [59] _ (Bov [112, 101, 97, 107] _ (Cv [59] _ (Dt [98, 121] _ (Dt [116, 111] _ (Dt [99, 121, 99, 108, 101] x h))))))
 I9 (Ih _ q) q
theorem ok_net1 {l : List Tk} (r : Rdy l) : OK l (D8 (l, 0, 0)) := .of r (Bo1 _) (Cgn _) (Boy _ zr0)
theorem Cgk (x : RS) : Suf x (B5 x).2 := (Cy _ _).trans ((Jx Aow _).trans ((Ds _ _).trans ((Ds _ _).trans ((Cy _ _).trans (Cy _ _)))))
theorem Bou (x : RS) (h : Zr x) : Zr (B5 x).2 := Cv _ _ (Cv _ _ (Dt _ _ (Dt _ _ (J1 _ _ _ Ao8 _ (Cv _ _ h)))))
theorem Ccy {l : List Tk} (r : Rdy l) : OK l (B5 (l, 0, 0)) := .of r (Aph _) (Cgk _) (Bou _ zr0)
theorem Cgd {l : List Tk} {e p : Int} (h : e ≠ 0) : (B5 (l, e, p)).2 = (l, e, p) := by
 unfold B5
 simp only [Am h, Ar h, stk_num h]
theorem Bgn {v : Int × Int × Int × Int × Int × List YT6 × Bool} {l : List Tk} {e p : Int} (h : e ≠ 0) : (L8 (v, l, e, p)).2 = (l, e, p) := by
 unfold L8
 simp only []
 have ht : (bif v.2.2.2.2.2.2 then B5 (l, e, p) else (([], 0, 0), l, e, p)).2 = (l, e, p) := by
  cases v.2.2.2.2.2.2
  ·rfl
  ·exact Cgd h
 rw [ht, Ak h]
 cases (hd l).1 != 0 <;> rfl
theorem Ced (k : Nat) (hk : 200000 ≤ k) {l0 : List Tk} (r0 : Rdy l0) (m0 : l0.length ≤ 100000) : Sim (cpall k (([99, 121, 99, 108, 101] : List Int), ([116, 111] : List Int), ([98, 121] : List Int), ([59] : List Int), ([112, 101, 97, 107] : List Int), ([59] : List Int), ([110, 111, 100, 101] : List Int), (12 : Int), ([97, 114, 116, 101, 114, 121] : List Int), (0 : Int), (0 : Int), (0 : Int), (0 : Int), (0 : Int), (0 : Int), (0 : Int), false, l0)) (fun o => (o.1, o.2.1, o.2.2.1, o.2.2.2.1)) (D8 (l0, 0, 0)).2 (fun o => (o.2.2.2.2.2.2.2.2.2.2.2.2.2.1, o.2.2.2.2.2.2.2.2.2.2.2.2.2.2.1, o.2.2.2.2.2.2.2.2.2.2.2.2.2.2.2.1, o.2.2.2.2.2.2.2.2.2.2.2.2.2.2.2.2.1, o.2.2.2.2.2.2.2.2.2.2.2.2.2.2.2.2.2.1, o.2.2.2.2.2.2.2.2.2.2.2.2.2.2.2.2.2.2.1, o.2.2.2.2.2.2.2.2.2.2.2.2.2.2.2.2.2.2.2.1, o.2.2.2.2.2.2.2.2.2.2.2.2.2.2.2.2.2.2.2.2.2, o.2.2.2.2.2.2.2.2.2.2.2.2.2.2.2.2.2.2.2.2.1) = ((D8 (l0, 0, 0)).1.1, (D8 (l0, 0, 0)).1.2.1, (D8 (l0, 0, 0)).1.2.2.1, (D8 (l0, 0, 0)).1.2.2.2.1, (D8 (l0, 0, 0)).1.2.2.2.2.1, 0, 0, (D8 (l0, 0, 0)).1.2.2.2.2.2.1, (D8 (l0, 0, 0)).1.2.2.2.2.2.2)) := by
 rw [fpall_e, Aw5]
 simp only [D8, Iy, Iz, Iq]
 rw [Cfi k r0 ([99, 121, 99, 108, 101] : List Int) ⟨_, _, rfl, rfl⟩]
 simp only [Option.bind_some]
 have s0 := Bl r0 ([99, 121, 99, 108, 101] : List Int)
 generalize Aj ([99, 121, 99, 108, 101] : List Int) (l0, 0, 0) = o0 at s0 ⊢
 rcases s0 with ⟨l, e, p, h⟩ | ⟨l1, r1, n0⟩
 ·exact As h rfl (by simp only [Am h, Aq h, Ao h, Au h, Ar h, Av h, An h, Al h, Ak h, cond_false])
 have m1 := Nat.le_trans n0 m0
 simp only [beq_self_eq_true, Bool.not_true, cond_false, cond_true]
 rw [Ce2 k r1]
 simp only [Option.bind_some]
 have s1 := C7 r1
 generalize numC (l1, 0, 0) = o1 at s1 ⊢
 rcases s1 with ⟨v1, l, e, p, h⟩ | ⟨v1, l2, r2, n1⟩
 ·exact As h rfl (by simp only [Am h, Aq h, Ao h, Au h, Ar h, Av h, An h, Al h, Ak h, cond_false])
 have m2 := Nat.le_trans n1 m1
 simp only [beq_self_eq_true, Bool.not_true, cond_false, cond_true]
 rw [Bn k r2 ([116, 111] : List Int) ⟨_, _, rfl, rfl⟩]
 simp only [Option.bind_some]
 have s2 := Bl r2 ([116, 111] : List Int)
 generalize Aj ([116, 111] : List Int) (l2, 0, 0) = o2 at s2 ⊢
 rcases s2 with ⟨l, e, p, h⟩ | ⟨l3, r3, n2⟩
 ·exact As h rfl (by simp only [Am h, Aq h, Ao h, Au h, Ar h, Av h, An h, Al h, Ak h, cond_false])
 have m3 := Nat.le_trans n2 m2
 simp only [beq_self_eq_true, Bool.not_true, cond_false, cond_true]
 rw [Ces k r3]
 simp only [Option.bind_some]
 have s3 := C7 r3
 generalize numC (l3, 0, 0) = o3 at s3 ⊢
 rcases s3 with ⟨v3, l, e, p, h⟩ | ⟨v3, l4, r4, n3⟩
 ·exact As h rfl (by simp only [Am h, Aq h, Ao h, Au h, Ar h, Av h, An h, Al h, Ak h, cond_false])
 have m4 := Nat.le_trans n3 m3
 simp only [beq_self_eq_true, Bool.not_true, cond_false, cond_true]
 rw [Bn k r4 ([98, 121] : List Int) ⟨_, _, rfl, rfl⟩]
 simp only [Option.bind_some]
 have s4 := Bl r4 ([98, 121] : List Int)
 generalize Aj ([98, 121] : List Int) (l4, 0, 0) = o4 at s4 ⊢
 rcases s4 with ⟨l, e, p, h⟩ | ⟨l5, r5, n4⟩
 ·exact As h rfl (by simp only [Am h, Aq h, Ao h, Au h, Ar h, Av h, An h, Al h, Ak h, cond_false])
 have m5 := Nat.le_trans n4 m4
 simp only [beq_self_eq_true, Bool.not_true, cond_false, cond_true]
 rw [Ceu k r5]
 simp only [Option.bind_some]
 have s5 := C7 r5
 generalize numC (l5, 0, 0) = o5 at s5 ⊢
 rcases s5 with ⟨v5, l, e, p, h⟩ | ⟨v5, l6, r6, n5⟩
 ·exact As h rfl (by simp only [Am h, Aq h, Ao h, Au h, Ar h, Av h, An h, Al h, Ak h, cond_false])
 have m6 := Nat.le_trans n5 m5
 simp only [beq_self_eq_true, Bool.not_true, cond_false, cond_true]
 rw [Bn k r6 ([59] : List Int) ⟨_, _, rfl, rfl⟩]
 simp only [Option.bind_some]
 have s6 := Bl r6 ([59] : List Int)
 generalize Aj ([59] : List Int) (l6, 0, 0) = o6 at s6 ⊢
 rcases s6 with ⟨l, e, p, h⟩ | ⟨l7, r7, n6⟩
 ·exact As h rfl (by simp only [Am h, Aq h, Ao h, Au h, Ar h, Av h, An h, Al h, Ak h, cond_false])
 have m7 := Nat.le_trans n6 m6
 simp only [beq_self_eq_true, Bool.not_true, cond_false, cond_true]
 rw [Bn k r7 ([112, 101, 97, 107] : List Int) ⟨_, _, rfl, rfl⟩]
 simp only [Option.bind_some]
 have s7 := Bl r7 ([112, 101, 97, 107] : List Int)
 generalize Aj ([112, 101, 97, 107] : List Int) (l7, 0, 0) = o7 at s7 ⊢
 rcases s7 with ⟨l, e, p, h⟩ | ⟨l8, r8, n7⟩
 ·exact As h rfl (by simp only [Am h, Aq h, Ao h, Au h, Ar h, Av h, An h, Al h, Ak h, cond_false])
 have m8 := Nat.le_trans n7 m7
 simp only [beq_self_eq_true, Bool.not_true, cond_false, cond_true]
 refine E7 (Cdp k hk r8 m8 _ _ _ _ _ _ _) fun q hp hd => ?_
 obtain ⟨q0, q1, q2, q3, q4, q5, q6, q7, q8, q9, q10⟩ := q
 simp only [Prod.mk.injEq] at hp hd
 obtain ⟨rfl, rfl, rfl, rfl⟩ := hp
 have s8 := Bgv r8
 generalize D5 (l8, 0, 0) = o8 at s8 hd ⊢
 rcases s8 with ⟨v8, l, e, p, h⟩ | ⟨v8, l9, r9, n8⟩
 ·exact As h rfl (by simp only [Am h, Aq h, Ao h, Au h, Ar h, Av h, An h, Al h, Ak h, cond_false])
 have m9 := Nat.le_trans n8 m8
 obtain ⟨rfl, rfl, rfl, rfl, rfl, rfl, rfl⟩ := hd rfl
 simp only [beq_self_eq_true, Bool.not_true, cond_false, cond_true]
 rw [Bn k r9 ([59] : List Int) ⟨_, _, rfl, rfl⟩]
 simp only [Option.bind_some]
 have s9 := Bl r9 ([59] : List Int)
 generalize Aj ([59] : List Int) (l9, 0, 0) = o9 at s9 ⊢
 rcases s9 with ⟨l, e, p, h⟩ | ⟨l10, r10, n9⟩
 ·exact As h rfl (by simp only [Am h, Aq h, Ao h, Au h, Ar h, Av h, An h, Al h, Ak h, cond_false])
 have m10 := Nat.le_trans n9 m9
 simp only [beq_self_eq_true, Bool.not_true, cond_false, cond_true]
 refine E7 (Cci k hk r10 m10 _ _ _ _ _ _ _) fun q hp hd => ?_
 obtain ⟨q0, q1, q2, q3, q4, q5, q6, q7, q8, q9, q10, q11, q12, q13⟩ := q
 simp only [Prod.mk.injEq] at hp hd
 obtain ⟨rfl, rfl, rfl, rfl⟩ := hp
 have s10 := Kr r10 ([110, 111, 100, 101] : List Int) (12 : Int) S7 Aot Ao5
 generalize Aw ([110, 111, 100, 101] : List Int) (12 : Int) Bv (l10, 0, 0) = o10 at s10 hd ⊢
 rcases s10 with ⟨v10, l, e, p, h⟩ | ⟨v10, l11, r11, n10⟩
 ·exact As h rfl (by simp only [Am h, Aq h, Ao h, Au h, Ar h, Av h, An h, Al h, Ak h, cond_false])
 have m11 := Nat.le_trans n10 m10
 obtain ⟨rfl, rfl, rfl, rfl, rfl, rfl, rfl, rfl, rfl, rfl⟩ := hd rfl
 simp only [beq_self_eq_true, Bool.not_true, cond_false, cond_true]
 rw [Bho k r11 ([97, 114, 116, 101, 114, 121] : List Int) _ ⟨_, _, rfl, rfl⟩]
 simp only [Option.bind_some]
 obtain ⟨l12, q11, r12, n11⟩ := Anc r11 ([97, 114, 116, 101, 114, 121] : List Int)
 simp only [q11]
 have m12 := Nat.le_trans n11 m11
 exact Gc rfl fun _ => by cases Ay ([97, 114, 116, 101, 114, 121] : List Int) (l11, 0, 0) <;> rfl
theorem Cee (k : Nat) (hk : 200000 ≤ k) {l0 : List Tk} (r0 : Rdy l0) (m0 : l0.length ≤ 100000) (x13 : _) (x14 : _) (x15 : _) (x16 : _) (x17 : _) (x18 : _) (x19 : _) (x21 : _) : Sim (Ua k (l0, ([123] : List Int), ([115, 116, 111, 112] : List Int), (12 : Int), ([119, 101, 105, 103, 104, 116, 115] : List Int), ([59] : List Int), ([125] : List Int), x13, x14, x15, x16, x17, x18, x19, x21)) (fun o => (o.1, o.2.1, o.2.2.1, o.2.2.2.1)) (B5 (l0, 0, 0)).2 (fun o => (o.2.2.2.2.2.2.2.2.2.2.1, o.2.2.2.2.2.2.2.2.2.2.2.1, o.2.2.2.2.2.2.2.2.2.2.2.2.1, o.2.2.2.2.2.2.2.2.2.2.2.2.2.1, o.2.2.2.2.2.2.2.2.2.2.2.2.2.2.1, o.2.2.2.2.2.2.2.2.2.2.2.2.2.2.2.1, o.2.2.2.2.2.2.2.2.2.2.2.2.2.2.2.2.1, o.2.2.2.2.2.2.2.2.2.2.2.2.2.2.2.2.2.1, o.2.2.2.2.2.2.2.2.2.2.2.2.2.2.2.2.2.2) = (x13, x14, x15, x16, x17, (B5 (l0, 0, 0)).1.2.1, (B5 (l0, 0, 0)).1.2.2, x21, (B5 (l0, 0, 0)).1.1)) := by
 rw [B1a, Av2]
 simp only [B5, Iy, Iz, Iq]
 rw [Bn k r0 ([123] : List Int) ⟨_, _, rfl, rfl⟩]
 simp only [Option.bind_some]
 have s0 := Bl r0 ([123] : List Int)
 generalize Aj ([123] : List Int) (l0, 0, 0) = o0 at s0 ⊢
 rcases s0 with ⟨l, e, p, h⟩ | ⟨l1, r1, n0⟩
 ·exact As h rfl (by simp only [Am h, Aq h, Ao h, Au h, Ar h, Av h, An h, Al h, Ak h, cond_false])
 have m1 := Nat.le_trans n0 m0
 simp only [beq_self_eq_true, Bool.not_true, cond_false, cond_true]
 refine E7 (Ccm k hk r1 m1 _ _ _ _ _ _ _ _) fun q hp hd => ?_
 obtain ⟨q0, q1, q2, q3, q4, q5, q6, q7, q8, q9, q10, q11, q12, q13, q14⟩ := q
 simp only [Prod.mk.injEq] at hp hd
 obtain ⟨rfl, rfl, rfl, rfl⟩ := hp
 have s1 := Kr r1 ([115, 116, 111, 112] : List Int) (12 : Int) S9 Aow Ao8
 generalize Aw ([115, 116, 111, 112] : List Int) (12 : Int) Ef (l1, 0, 0) = o1 at s1 hd ⊢
 rcases s1 with ⟨v1, l, e, p, h⟩ | ⟨v1, l2, r2, n1⟩
 ·exact As h rfl (by simp only [Am h, Aq h, Ao h, Au h, Ar h, Av h, An h, Al h, Ak h, cond_false])
 have m2 := Nat.le_trans n1 m1
 obtain ⟨rfl, rfl, rfl, rfl, rfl, rfl, rfl, rfl, rfl, rfl, rfl⟩ := hd rfl
 simp only [beq_self_eq_true, Bool.not_true, cond_false, cond_true]
 rw [Bn k r2 ([119, 101, 105, 103, 104, 116, 115] : List Int) ⟨_, _, rfl, rfl⟩]
 simp only [Option.bind_some]
 have s2 := Bl r2 ([119, 101, 105, 103, 104, 116, 115] : List Int)
 generalize Aj ([119, 101, 105, 103, 104, 116, 115] : List Int) (l2, 0, 0) = o2 at s2 ⊢
 rcases s2 with ⟨l, e, p, h⟩ | ⟨l3, r3, n2⟩
 ·exact As h rfl (by simp only [Am h, Aq h, Ao h, Au h, Ar h, Av h, An h, Al h, Ak h, cond_false])
 have m3 := Nat.le_trans n2 m2
 simp only [beq_self_eq_true, Bool.not_true, cond_false, cond_true]
 rw [Cer k r3]
 simp only [Option.bind_some]
 have s3 := C7 r3
 generalize numC (l3, 0, 0) = o3 at s3 ⊢
 rcases s3 with ⟨v3, l, e, p, h⟩ | ⟨v3, l4, r4, n3⟩
 ·exact As h rfl (by simp only [Am h, Aq h, Ao h, Au h, Ar h, Av h, An h, Al h, Ak h, cond_false])
 have m4 := Nat.le_trans n3 m3
 simp only [beq_self_eq_true, Bool.not_true, cond_false, cond_true]
 rw [Cet k r4]
 simp only [Option.bind_some]
 have s4 := C7 r4
 generalize numC (l4, 0, 0) = o4 at s4 ⊢
 rcases s4 with ⟨v4, l, e, p, h⟩ | ⟨v4, l5, r5, n4⟩
 ·exact As h rfl (by simp only [Am h, Aq h, Ao h, Au h, Ar h, Av h, An h, Al h, Ak h, cond_false])
 have m5 := Nat.le_trans n4 m4
 simp only [beq_self_eq_true, Bool.not_true, cond_false, cond_true]
 rw [Bn k r5 ([59] : List Int) ⟨_, _, rfl, rfl⟩]
 simp only [Option.bind_some]
 have s5 := Bl r5 ([59] : List Int)
 generalize Aj ([59] : List Int) (l5, 0, 0) = o5 at s5 ⊢
 rcases s5 with ⟨l, e, p, h⟩ | ⟨l6, r6, n5⟩
 ·exact As h rfl (by simp only [Am h, Aq h, Ao h, Au h, Ar h, Av h, An h, Al h, Ak h, cond_false])
 have m6 := Nat.le_trans n5 m5
 simp only [beq_self_eq_true, Bool.not_true, cond_false, cond_true]
 rw [Bn k r6 ([125] : List Int) ⟨_, _, rfl, rfl⟩]
 simp only [Option.bind_some]
 have s6 := Bl r6 ([125] : List Int)
 generalize Aj ([125] : List Int) (l6, 0, 0) = o6 at s6 ⊢
 rcases s6 with ⟨l, e, p, h⟩ | ⟨l7, r7, n6⟩
 ·exact As h rfl (by simp only [Am h, Aq h, Ao h, Au h, Ar h, Av h, An h, Al h, Ak h, cond_false])
 have m7 := Nat.le_trans n6 m6
 simp only [beq_self_eq_true, Bool.not_true, cond_false, cond_true]
 exact Gc rfl fun _ => rfl
theorem Bhg (k : Nat) {l0 : List Tk} (r0 : Rdy l0) : Ub k l0 = some ((bif (hd l0).1 != 0 then A2 50 (l0, 0, 0) else (l0, 0, 0)).2.1 == 0, (bif (hd l0).1 != 0 then A2 50 (l0, 0, 0) else (l0, 0, 0)).2.1, (bif (hd l0).1 != 0 then A2 50 (l0, 0, 0) else (l0, 0, 0)).2.2, (bif (hd l0).1 != 0 then A2 50 (l0, 0, 0) else (l0, 0, 0)).1) := by
 rw [B1e, Av9, Cdl k r0, Option.bind_some]
 cases (hd l0).1 != 0 <;> rfl
theorem Cef (k : Nat) (hk : 200000 ≤ k) {l0 : List Tk} (r0 : Rdy l0) (m0 : l0.length ≤ 100000) :
  Sim (cpnet k l0) (fun o => (o.2.2.2.2.2.2.2.1, o.2.2.2.2.2.2.2.2.1, o.2.2.2.2.2.2.2.2.2.1, o.2.2.2.2.2.2.2.2.2.2.1)) (netR (l0, 0, 0)).2
   (fun o => (o.1, o.2.1, o.2.2.1, o.2.2.2.1, o.2.2.2.2.1, o.2.2.2.2.2.2.2.2.2.2.2.1, o.2.2.2.2.2.2.2.2.2.2.2.2, o.2.2.2.2.2.1, o.2.2.2.2.2.2.1) = (netR (l0, 0, 0)).1) := by
 rw [fpnet_e, Ahe]
 simp only [B50, A6x, fpnum_e, A4z, B3v, A14, B3x, A2c, B12, Axq, B0q, Au5, B2d, Ayf, Option.bind_some]
 refine E7 (Ced k hk r0 m0) fun q hp hq => ?_
 obtain ⟨q0, q1, q2, q3, q4, q5, q6, q7, q8, q9, q10, q11, q12, q13, q14, q15, q16, q17, q18, q19, q20, q21⟩ := q
 simp only [Prod.mk.injEq] at hp hq
 obtain ⟨rfl, rfl, rfl, rfl⟩ := hp
 rw [Bgo]
 have s := ok_net1 r0
 generalize D8 (l0, 0, 0) = o at s hq ⊢
 rcases s with ⟨v, l, e, p, h⟩ | ⟨⟨v0, v1, v2, v3, v4, v5, v6⟩, l1, r1, n1⟩
 ·have he : (e == 0) = false := by simpa using h
  simp only [he, cond_false]
  rw [W0, Nc, cond_false]
  refine ⟨_, rfl, ?_, fun h3 => ?_⟩
  ·rw [Bgn h, he]
  ·rw [Bgn h] at h3
   exact absurd h3 h
 ·have m1 := Nat.le_trans n1 m0
  obtain ⟨rfl, rfl, rfl, rfl, rfl, rfl, rfl, rfl, rfl⟩ := hq rfl
  simp only [beq_self_eq_true, cond_true]
  cases q20 with
  | false =>
   simp only [cond_false]
   rw [W0, Nc]
   simp only [cond_true]
   rw [Bhg k r1]
   simp only [Option.bind_some, L8, cond_false]
   exact ⟨_, rfl, rfl, fun _ => rfl⟩
  | true =>
   simp only [cond_true, Fz, Fh, B02, Avp, B3s, A1s, B3t, A1w, Option.bind_some]
   refine E7 (Cee k hk r1 m1 _ _ _ _ _ _ _ _) fun q hp hq => ?_
   obtain ⟨q0, q1, q2, q3, q4, q5, q6, q7, q8, q9, q10, q11, q12, q13, q14, q15, q16, q17, q18⟩ := q
   simp only [Prod.mk.injEq] at hp hq
   obtain ⟨rfl, rfl, rfl, rfl⟩ := hp
   simp only [L8, cond_true]
   have s := Ccy r1
   generalize B5 (l1, 0, 0) = o at s hq ⊢
   rcases s with ⟨v, l, e, p, h⟩ | ⟨⟨w0, w1, w2⟩, l2, r2, n2⟩
   ·have he : (e == 0) = false := by simpa using h
    simp only [he]
    rw [W0, Nc, cond_false]
    have hf : (bif (hd l).1 != 0 then A2 50 (l, e, p) else (l, e, p)) = (l, e, p) := by
     rw [Ak h]
     cases (hd l).1 != 0 <;> rfl
    refine ⟨_, rfl, ?_, fun h3 => ?_⟩
    ·simp only [hf, he]
    ·simp only [hf] at h3
     exact absurd h3 h
   ·obtain ⟨rfl, rfl, rfl, rfl, rfl, rfl, rfl, rfl, rfl⟩ := hq rfl
    simp only [beq_self_eq_true]
    rw [W0, Nc]
    simp only [cond_true]
    rw [Bhg k r2]
    simp only [Option.bind_some]
    exact ⟨_, rfl, rfl, fun _ => rfl⟩
theorem Bfk (k : Nat) (n p m : Int) : Zz k (false, n, p, m) = some (n == m) := rfl
theorem as_some (k : Nat) (z : Bool) (n p : Int) : Zy k (z, n, p) = some (!z, z, n, p) := rfl
theorem Ccv (k : Nat) (hk : 1000 ≤ k) (n p : Int) (hn : n = 50 ∨ n = 4) : cnetnumber k (false, n, p) = some n := by
 obtain ⟨j, hj⟩ : ∃ j, k = j + 2 := ⟨k - 2, by omega⟩
 have e1 : (decide ((0 : Int) < ((List.length ([(50 : Int), (4 : Int)] : List Int) : Nat) : Int))) = true := by decide
 have e2 : inB (0 : Int) (List.length ([(50 : Int), (4 : Int)] : List Int)) = true := by decide
 have e3 : rdI ([(50 : Int), (4 : Int)] : List Int) (Int.toNat 0) = 50 := rfl
 have f0 : IntKind.wrap .i64 ((0 : Int) + (1 : Int)) = 1 := w64 (by omega)
 have f1 : (decide ((1 : Int) < ((List.length ([(50 : Int), (4 : Int)] : List Int) : Nat) : Int))) = true := by decide
 have f2 : inB (1 : Int) (List.length ([(50 : Int), (4 : Int)] : List Int)) = true := by decide
 have f3 : rdI ([(50 : Int), (4 : Int)] : List Int) (Int.toNat 1) = 4 := rfl
 rw [B0e, Ae7]
 have hL : (fnetnumber k).L 2 [] (j + 2) (Ra (false, n, p, ((List.length ([(50 : Int), (4 : Int)] : List Int) : Nat) : Int), (0 : Int), ([(50 : Int), (4 : Int)] : List Int))) = some n := by
  rw [Aum, Wx, e1, e2, e3, cond_true, cond_true, Bfk, Option.bind_some, f0, Aum, Wx, f1, f2, f3, cond_true, cond_true, Bfk, Option.bind_some]
  rcases hn with rfl | rfl <;> rfl
 rw [← hL, ← hj]
theorem tok1_w (s : List Int) : TokW ((tok1 s).2.1, (tok1 s).2.2.1, (tok1 s).2.2.2.1, 0, ()) := by
 cases s with
 | nil => exact ⟨fun _ => rfl, fun h => (by cases h)⟩
 | cons x r =>
  simp only [tok1]
  split
  ·split
   ·exact ⟨fun _ => rfl, fun h => (by cases h)⟩
   ·exact ⟨fun h => (by cases h), fun h => (by cases h)⟩
  ·split
   ·split
    ·exact ⟨fun _ => rfl, fun h => (by cases h)⟩
    ·exact ⟨fun h => (by cases h), fun _ c hc => Yf hc⟩
   ·split
    ·exact ⟨fun h => (by cases h), fun h => (by cases h)⟩
    ·exact ⟨fun _ => rfl, fun h => (by cases h)⟩
theorem lx_w (n : Nat) : ∀ (f : Nat) (s : List Int), ∀ t ∈ (lx n f s).2.2, TokW t
 | 0, s, t, h => by cases h
 | f + 1, s, t, h => by
  rw [lx] at h
  cases hd : drp false s with
  | nil =>
   rw [hd] at h
   rcases List.mem_cons.1 h with rfl | h
   ·exact ⟨fun _ => rfl, fun h => (by cases h)⟩
   ·cases h
  | cons x r =>
   rw [hd] at h
   simp only [] at h
   split at h
   ·split at h
    ·rcases List.mem_cons.1 h with rfl | h
     ·exact tok1_w (x :: r)
     ·exact lx_w n f _ t h
    ·cases h
   ·cases h
theorem Cgu {b : List Int} (h : (toks b).1 = 0) : Rdy (toks b).2.2 ∧ (toks b).2.2.length ≤ 100000 := by
 have h1 := Boi h
 unfold toks at h h1 ⊢
 split at h
 ·simp at h
 ·rename_i hl
  rw [if_neg hl] at h1 ⊢
  exact ⟨⟨h1.1, lx_w _ _ _⟩, by omega⟩
theorem zr_net (x : RS) (h : Zr x) : Zr (netR x).2 := by
 rw [Bgo]
 have h1 := Boy x h
 generalize D8 x = o at h1 ⊢
 unfold L8
 simp only []
 have h2 : Zr (bif o.1.2.2.2.2.2.2 then B5 o.2 else (([], 0, 0), o.2)).2 := by
  cases o.1.2.2.2.2.2.2
  ·exact h1
  ·exact Bou _ h1
 generalize (bif o.1.2.2.2.2.2.2 then B5 o.2 else (([], 0, 0), o.2)) = t at h2 ⊢
 exact I9 (K3 50 (by decide) _ h2) h2
theorem Ccs (k : Nat) (hk : 200000 ≤ k) (b : List Int) (hb : b.length < k) (hm : b.length < 1000000) :
  T0 k b = some ((Bt b).1.1, (Bt b).1.2.1, (Bt b).1.2.2.1, (Bt b).1.2.2.2.1, (Bt b).1.2.2.2.2.1, (Bt b).1.2.2.2.2.2.2.2.1, (Bt b).1.2.2.2.2.2.2.2.2, (Bt b).2.1, (Bt b).2.2, (Bt b).1.2.2.2.2.2.1, (Bt b).1.2.2.2.2.2.2.1) := by
 rw [B0c, Auj, Boh k b hb hm, Option.bind_some]
 unfold Bt
 by_cases h0 : (toks b).1 = 0
 ·have hb0 : ((toks b).1 != 0) = false := by simpa using h0
  obtain ⟨r, hl⟩ := Cgu h0
  obtain ⟨q, e1, e2, e3⟩ := Cef k hk r hl
  have hz := zr_net ((toks b).2.2, 0, 0) zr0
  rw [hb0]
  simp only [cond_false]
  rw [e1, Option.bind_some]
  generalize netR ((toks b).2.2, 0, 0) = o at e2 e3 hz ⊢
  obtain ⟨q0, q1, q2, q3, q4, q5, q6, q7, q8, q9, q10, q11, q12⟩ := q
  simp only [Prod.mk.injEq] at e2
  obtain ⟨rfl, rfl, rfl, rfl⟩ := e2
  obtain ⟨m, l, e, p⟩ := o
  simp only
  rw [as_some, Option.bind_some]
  rcases hz.2 with he | he
  ·have he : e = 0 := he
   subst he
   have e4 := e3 rfl
   simp only at e4
   subst e4
   rfl
  ·have he : e = 50 ∨ e = 4 := he
   have h1 : (e == 0) = false := by simp; omega
   have h2 : (e != 0) = true := by simp; omega
   simp only [h1, h2, Bool.not_false, cond_true]
   rw [Ccv k (by omega) e p he]
   rfl
 ·have hb0 : ((toks b).1 != 0) = true := by simpa using h0
  rw [hb0]
  rfl
section
variable {R : Type}
end
section
variable (k : Nat) (hk : 1000 ≤ k)
include hk
end
def Gives (c : Option Bool) (P : Prop) : Prop := ∃ b : Bool, c = some b ∧ (b = true → P)
theorem Amx {P : Prop} : Gives (some false) P := ⟨false, rfl, fun h => by cases h⟩
theorem Lx {p P : Prop} [Decidable p] {c : Option Bool} (h : ¬ p → Gives c P) : Gives (bif decide p then some false else c) P := by
 by_cases hp : p
 ·rw [cd, if_pos hp]; exact Amx
 ·rw [cd, if_neg hp]; exact h hp
theorem Ca5 {P Q : Prop} {a : Option Bool} {c : Option Bool} (h1 : Gives a P) (h2 : P → Gives c Q) : Gives (a.bind fun o => bif !o then some false else c) Q := by
 obtain ⟨b, rfl, hb⟩ := h1
 cases b with
 | false => exact Amx
 | true => exact h2 (hb rfl)
theorem Sx {P : Prop} {a c : Option Bool} (h1 : Gives a P) : ∃ b : Bool, (a.bind fun o => bif !o then some false else c) = (if b then c else some false) ∧ (b = true → P) := by
 obtain ⟨b, rfl, hb⟩ := h1
 exact ⟨b, by cases b <;> rfl, hb⟩
theorem N5 {P Q : Prop} {c : Option Bool} (h : Gives c P) (h2 : P → Q) : Gives c Q := by
 obtain ⟨b, e, hb⟩ := h
 exact ⟨b, e, fun h => h2 (hb h)⟩
section
variable (k : Nat) (hk : 1000 ≤ k)
include hk
theorem Mg (l : List (List Int)) : Gives (Gr k l) (l.length ≤ 50 ∧ (l.length ≤ 50 → ∀ s ∈ l, sh s)) := by
 rw [Ca3, Amr]
 by_cases h50 : l.length ≤ 50
 ·have L := Lk l sh True (fun j i => (F4 k).L 2 [] j (N4 (l, i)))
   (fun j i x hx => by
    have := Jc hx
    rw [Amq, Sd, B9 hx, cd, if_pos (by omega), A5 hx, cd, Cd hx (by omega)]
    by_cases h : x.length ≤ 100
    ·exact ⟨true, by rw [if_neg (by omega)]; rfl, fun _ => h⟩
    ·exact ⟨false, by rw [if_pos (by omega)]; rfl, fun h => by cases h⟩)
   (fun j => ⟨true, by rw [Amq, Sd, Ca]; simp; omega, fun _ => trivial⟩) k (by omega)
  exact N5 L fun h => ⟨h50, fun _ => h.1⟩
 ·have L : ∀ j i : Nat, i ≤ 50 → 50 < i + j → (F4 k).L 2 [] j (N4 (l, (i : Int))) = some false := by
   intro j
   induction j with
   | zero => intro i h1 h2; omega
   | succ j ih =>
    intro i h1 h2
    rw [Amq, Sd, cd, if_pos (by omega), cd]
    by_cases hi : i < 50
    ·obtain ⟨x, hx⟩ : ∃ x, l[i]? = some x := ⟨l[i], List.getElem?_eq_getElem (by omega)⟩
     rw [if_pos (by omega), A5 hx, cd, w64 (by omega), Ge, ih (i + 1) (by omega) (by omega)]
     split <;> rfl
    ·rw [if_neg (by omega)]
     simp; omega
  have := L k 0 (by omega) (by omega)
  rw [show (0 : Int) = ((0 : Nat) : Int) from rfl, this]
  exact Amx
theorem Ccq (n : YT6) : Gives (Wl k (n.1, n.2.1, n.2.2.1, n.2.2.2.1, n.2.2.2.2.1, n.2.2.2.2.2.1, n.2.2.2.2.2.2.1)) (NodeS n) := by
 obtain ⟨a0, a1, a2, a3, a4, a5, a6, a7⟩ := n
 rw [Caz, Aml]
 refine Lx fun (h1 : ¬ ((a1.length : Nat) : Int) > 50) => Lx fun (h2 : ¬ ((a2.length : Nat) : Int) > 50) => Lx fun (h3 : ¬ ((a3.length : Nat) : Int) > 50) => Lx fun (h4 : ¬ ((a4.length : Nat) : Int) > 50) => Lx fun (h5 : ¬ ((a5.length : Nat) : Int) > 80) => ?_
 have L5 : Gives ((Bg k).L 31 [] k (N3 (0, a0, a1, a2, a3, a4, a5, a6))) _ := Lk a5 (fun f => sh f.1 ∧ sh f.2.1) True (fun j i => (Bg k).L 31 [] j (N3 (i, a0, a1, a2, a3, a4, a5, a6)))
  (fun j i x hx => by
   rw [Bew, X3, B9 hx, A5 hx, A5 hx, Cd hx (by omega)]
   exact Sx (N5 (Mg k hk [x.1, x.2.1]) fun h => by simpa using h.2 (by simp)))
  (fun j => ⟨true, by rw [Bew, X3, Ca], fun _ => trivial⟩) k (by omega)
 have L4 : Gives ((Bg k).L 21 [] k (Lw (0, a0, a1, a2, a3, a4, a5, a6))) _ := Lk a4 (fun g => g.1.length ≤ 5 ∧ ∀ r ∈ g.1, r.2.1.length ≤ 50 ∧ (r.2.1.length ≤ 50 → ∀ s ∈ r.2.1, sh s)) _ (fun j i => (Bg k).L 21 [] j (Lw (i, a0, a1, a2, a3, a4, a5, a6)))
  (fun j i x hx => by
   rw [Bev, X2, B9 hx, A5 hx, cd]
   by_cases hg : ((x.1.length : Nat) : Int) > 5
   ·rw [if_pos hg]
    exact ⟨false, rfl, fun h => by cases h⟩
   ·rw [if_neg hg]
    have LI : ∀ (j' i' : Nat), x.1.length < i' + j' → i' ≤ x.1.length → ∃ b : Bool, (Bg k).L 26 [j] j' (Sb ((i : Int), (i' : Int), a0, a1, a2, a3, a4, a5, a6)) = (if b then (Bg k).L 21 [] j (Lw (((i + 1 : Nat) : Int), a0, a1, a2, a3, a4, a5, a6)) else some false) ∧ (b = true → ∀ r ∈ x.1.drop i', r.2.1.length ≤ 50 ∧ (r.2.1.length ≤ 50 → ∀ s ∈ r.2.1, sh s)) := by
     intro j'
     induction j' with
     | zero => intro i' h1 h2; omega
     | succ j' ih =>
      intro i' h1 h2
      rw [Ca0, Amm, A5 hx]
      rcases Sf h2 with rfl | ⟨r, hr⟩
      ·rw [Ca, Cd hx (by omega)]
       exact ⟨true, rfl, fun _ => by simp⟩
      ·rw [B9 hr, A5 hx, A5 hr, Cd hr (by omega)]
       obtain ⟨b, e, hb⟩ : Gives (Gr k r.2.1) (r.2.1.length ≤ 50 ∧ (r.2.1.length ≤ 50 → ∀ s ∈ r.2.1, sh s)) := Mg k hk _
       obtain ⟨c, e2, hc⟩ := ih (i' + 1) (by omega) (by have := Jc hr; omega)
       rw [e, Option.bind_some, e2]
       cases b with
       | false => exact ⟨false, rfl, fun h => by cases h⟩
       | true =>
        refine ⟨c, rfl, fun h => ?_⟩
        rw [Mm hr]
        intro y hy
        rcases List.mem_cons.1 hy with rfl | hy
        ·exact hb rfl
        ·exact hc h y hy
    obtain ⟨b, e, hb⟩ := LI k 0 (by omega) (by omega)
    refine ⟨b, e, fun h => ⟨by omega, ?_⟩⟩
    exact hb h)
  (fun j => by rw [Bev, X2, Ca]; exact L5) k (by omega)
 have L3 : Gives ((Bg k).L 16 [] k (Lv (0, a0, a1, a2, a3, a4, a5, a6))) _ := Lk a3 (fun x => sh x.1 ∧ x.2.1.length ≤ 50 ∧ (x.2.1.length ≤ 50 → ∀ s ∈ x.2.1, sh s)) _ (fun j i => (Bg k).L 16 [] j (Lv (i, a0, a1, a2, a3, a4, a5, a6)))
  (fun j i x hx => by
   rw [Beu, X1, B9 hx, A5 hx, A5 hx, Cd hx (by omega)]
   obtain ⟨b, e, hb⟩ := Mg k hk [x.1]
   rw [e, Option.bind_some]
   cases b with
   | false => exact ⟨false, rfl, fun h => by cases h⟩
   | true =>
    obtain ⟨c, e2, hc⟩ := Sx (c := (Bg k).L 16 [] j (Lv (((i + 1 : Nat) : Int), a0, a1, a2, a3, a4, a5, a6))) (Mg k hk x.2.1)
    exact ⟨c, e2, fun h => ⟨by simpa using (hb rfl).2 (by simp), hc h⟩⟩)
  (fun j => by rw [Beu, X1, Ca]; exact L4) k (by omega)
 have L2 : Gives ((Bg k).L 11 [] k (N2 (0, a0, a1, a2, a3, a4, a5, a6))) _ := Lk a2 (fun p => sh p.1 ∧ sh p.2.1) _ (fun j i => (Bg k).L 11 [] j (N2 (i, a0, a1, a2, a3, a4, a5, a6)))
  (fun j i x hx => by
   rw [Bet, X0, B9 hx, A5 hx, A5 hx, Cd hx (by omega)]
   exact Sx (N5 (Mg k hk [x.1, x.2.1]) fun h => by simpa using h.2 (by simp)))
  (fun j => by rw [Bet, X0, Ca]; exact L3) k (by omega)
 have L1 := Jb 1000 a1 (fun h => [h.1]) (fun j i b => (Bg k).L 5 [] j (Sc (i, a0, a1, a2, a3, a4, a5, a6, b))) _
  (fun j i x b hx hb => by
   rw [List.length_singleton] at hb
   rw [Bex, X4, B9 hx, A5 hx, Ce (by rw [List.length_singleton]; omega) (by rw [List.length_singleton]; omega), Cd hx (by omega)])
  (fun j b hb => by rw [Bex, X4, Ca]) k [a0] (by omega) (by have := Ws (fun h : YT1 => [h.1]) 1 a1 (by simp); simp at this ⊢; omega)
 have eb : [a0] ++ a1.flatMap (fun h : YT1 => [h.1]) = a0 :: a1.map (fun h : YT1 => h.1) := by
  rw [List.singleton_append, List.map_eq_flatMap]
 rw [L1, eb]
 generalize hb : a0 :: a1.map (fun h : YT1 => h.1) = b
 have hl : b.length = a1.length + 1 := by rw [← hb]; simp
 obtain ⟨m, hm, h1m, hm2⟩ : ∃ m : Nat, minI ((b.length : Nat) : Int) 50 = (m : Int) ∧ 1 ≤ m ∧ m ≤ b.length ∧ (b.length ≤ 50 → m = b.length) := by
  by_cases h : b.length ≤ 50
  ·exact ⟨b.length, by unfold minI; split <;> omega, by omega, by omega, fun _ => rfl⟩
  ·exact ⟨50, by unfold minI; split <;> omega, by omega, by omega, fun h => by omega⟩
 rw [hm, Je, if_pos (by omega), show (0 : Int) = ((0 : Nat) : Int) from rfl, Kd, List.drop_zero]
 refine Ca5 (Mg k hk _) fun hs => ?_
 have h0 := hs.2 hs.1
 refine N5 L2 fun h => ⟨h0 a0 ?_, by simp only; omega, fun h16 y hy => h0 y.1 ?_, by simp only; omega, h.1, by simp only; omega, h.2.1, by simp only; omega, h.2.2.1, by simp only; omega, h.2.2.2.1⟩
 ·rw [← hb]
  obtain ⟨m', rfl⟩ : ∃ m', m = m' + 1 := ⟨m - 1, by omega⟩
  rw [List.take_succ_cons]
  exact List.mem_cons_self
 ·simp only at h16 hy
  rw [hm2.2 (by omega), List.take_length, ← hb]
  exact List.mem_cons_of_mem _ (List.mem_map_of_mem hy)
theorem Bx9 (n : NetT) : Gives (Wk k n) (NetS n) := by
 obtain ⟨a0, a1, a2, a3, a4, a5, a6, a7, a8⟩ := n
 rw [Cas, Amc]
 refine Lx fun (h1 : ¬ ((a5.length : Nat) : Int) > 15) => Lx fun (h2 : ¬ ((a6.length : Nat) : Int) > 15) => ?_
 have L2 : Gives ((Dx k).L 9 [] k (N1 (0, a0, a1, a2, a3, a4, a5, a6, a7, a8))) _ := Lk a6 (fun s => sh s.1 ∧ sh s.2.1 ∧ sh s.2.2.1) True (fun j i => (Dx k).L 9 [] j (N1 (i, a0, a1, a2, a3, a4, a5, a6, a7, a8)))
  (fun j i x hx => by
   rw [Bei, Xz, B9 hx, A5 hx, A5 hx, A5 hx, Cd hx (by omega)]
   exact Sx (N5 (Mg k hk [x.1, x.2.1, x.2.2.1]) fun h => by simpa using h.2 (by simp)))
  (fun j => ⟨true, by rw [Bei, Xz, Ca], fun _ => trivial⟩) k (by omega)
 have L1 : Gives ((Dx k).L 4 [] k (Nz (0, a0, a1, a2, a3, a4, a5, a6, a7, a8))) _ := Lk a5 NodeS _ (fun j i => (Dx k).L 4 [] j (Nz (i, a0, a1, a2, a3, a4, a5, a6, a7, a8)))
  (fun j i x hx => by
   rw [Beh, Xy, B9 hx, A5 hx, Cd hx (by omega)]
   exact Sx (Ccq k hk x))
  (fun j => by rw [Beh, Xy, Ca]; exact L2) k (by omega)
 exact N5 L1 fun h => ⟨by simp only; omega, h.1, by simp only; omega, h.2.1⟩
end
def byB (l : List Int) : Prop := ∀ x ∈ l, 0 ≤ x ∧ x ≤ 255
def Ci (sep : List Int) : List (List Int) → List Int
 | [] => []
 | [x] => x
 | x :: y :: r => x ++ (sep ++ Ci sep (y :: r))
def u8n (l : List UInt8) : List Int := l.map fun b => (b.toNat : Int)
theorem Aoz {l : List Int} (h : byB l) : u8n (u8s l) = l := by
 unfold u8n u8s
 rw [List.map_map]
 conv => rhs; rw [← List.map_id l]
 apply List.map_congr_left
 intro x hx
 have := h x hx
 simp only [Function.comp, id]
 rw [UInt8.toNat_ofNat']
 omega
theorem Bok (a b : List UInt8) : u8n (a ++ b) = u8n a ++ u8n b := List.map_append
theorem Cbo (sep x y : List UInt8) (r : List (List UInt8)) : Lib.join (x :: y :: r) sep = x ++ (sep ++ Lib.join (y :: r) sep) := by
 rw [Lib.join_cons, Lib.join_cons]
 simp [Lib.joinTail]
theorem Bol (sep : List Int) (hs : byB sep) : ∀ (ws : List (List Int)), (∀ w ∈ ws, byB w) → u8n (Lib.join (ws.map u8s) (u8s sep)) = Ci sep ws
 | [], _ => rfl
 | [x], h => by
  rw [List.map_cons, List.map_nil, Lib.join_one, Aoz (h x (by simp))]; rfl
 | x :: y :: r, h => by
  have IH := Bol sep hs (y :: r) fun w hw => h w (by simp [hw])
  rw [List.map_cons] at IH
  rw [List.map_cons, List.map_cons, Cbo, Bok, Bok, IH, Aoz (h x (by simp)), Aoz hs]
  rfl
theorem Bfn (sep : List Int) (ws : List (List Int)) (hs : byB sep) (hw : ∀ w ∈ ws, byB w) (hl : (Ci sep ws).length ≤ 140737488355328) (hn : ws.length ≤ 140737488355328) : N9 (ws, sep) = some (Ci sep ws) := by
 have e1 : Kl (ws, sep) = Lib.join (ws.map u8s) (u8s sep) := by
  unfold Kl
  simp only [List.map_map]
  rfl
 have e2 := Bol sep hs ws hw
 have e3 : (Kl (ws, sep)).length = (Ci sep ws).length := by
  rw [e1, ← e2]
  unfold u8n
  rw [List.length_map]
 unfold N9
 have hm : maxLen = 9223372036854775807 := rfl
 rw [if_pos ⟨by omega, hn, by omega⟩]
 refine congrArg some ?_
 rw [e1, ← e2]
 rfl
theorem Bfm (sep : List Int) (m : Nat) : ∀ (ws : List (List Int)), (∀ w ∈ ws, w.length ≤ m) → (Ci sep ws).length ≤ ws.length * (m + sep.length)
 | [], _ => Nat.zero_le _
 | [x], h => by
  have := h x (by simp)
  show x.length ≤ _
  simp
  omega
 | x :: y :: r, h => by
  have IH := Bfm sep m (y :: r) fun w hw => h w (by simp [hw])
  have := h x (by simp)
  show (x ++ (sep ++ Ci sep (y :: r))).length ≤ _
  rw [List.length_append, List.length_append, List.length_cons (a := x), Nat.add_mul]
  omega
theorem Am2 (sep : List Int) (hs : byB sep) : ∀ (ws : List (List Int)), (∀ w ∈ ws, byB w) → byB (Ci sep ws)
 | [], _ => fun x hx => by cases hx
 | [x], h => h x (by simp)
 | x :: y :: r, h => by
  have IH := Am2 sep hs (y :: r) fun w hw => h w (by simp [hw])
  intro z hz
  rcases List.mem_append.1 hz with hz | hz
  ·exact h x (by simp) z hz
  ·rcases List.mem_append.1 hz with hz | hz
   ·exact hs z hz
   ·exact IH z hz
def digN : Nat → Nat → List Int
 | 0, _ => []
 | f + 1, n => if n < 10 then [((48 + n : Nat) : Int)] else digN f (n / 10) ++ [((48 + n % 10 : Nat) : Int)]
def numT (n : Int) : List Int := if n < 0 then 45 :: digN 18 n.natAbs else digN 18 n.natAbs
theorem Ack : ∀ (f n : Nat), n < 10 ^ f → 1 ≤ f → (Lib.decDigits n).map (fun b => (b.toNat : Int)) = digN f n
 | 0, n, _, h => by omega
 | f + 1, n, h, _ => by
  rw [Lib.decDigits, digN]
  by_cases h10 : n < 10
  ·rw [dif_pos h10, if_pos h10]
   simp
   omega
  ·have hf : n / 10 < 10 ^ f := by rw [Nat.pow_succ] at h; omega
   have h1 : 1 ≤ f := by
    rcases f with _ | f
    ·simp at h; omega
    ·omega
   rw [dif_neg h10, if_neg h10, List.map_append, Ack f (n / 10) hf h1]
   simp
   omega
theorem Acl : ∀ (f n : Nat), (digN f n).length ≤ f
 | 0, _ => Nat.zero_le _
 | f + 1, n => by
  rw [digN]
  have := Acl f (n / 10)
  split <;> simp <;> omega
theorem Wo : ∀ (f n : Nat), ∀ x ∈ digN f n, A0 x = true
 | 0, _, x, h => by cases h
 | f + 1, n, x, h => by
  rw [digN] at h
  unfold A0
  split at h
  ·simp at h; simp; omega
  ·rcases List.mem_append.1 h with h | h
   ·exact Wo f _ x h
   ·simp at h; simp; omega
theorem digN_ne (f n : Nat) : digN (f + 1) n ≠ [] := by
 rw [digN]; split <;> simp
theorem Cl (n : Int) : (numT n).length ≤ 19 := by
 unfold numT
 have := Acl 18 n.natAbs
 split <;> simp <;> omega
theorem Aq6 {x : Int} (h : A0 x = true) : 0 ≤ x ∧ x ≤ 255 := by
 unfold A0 at h; simp at h; omega
theorem L9 (n : Int) : byB (numT n) := by
 intro x hx
 unfold numT at hx
 split at hx
 ·rcases List.mem_cons.1 hx with rfl | hx
  ·omega
  ·exact Aq6 (Wo _ _ x hx)
 ·exact Aq6 (Wo _ _ x hx)
def inM (n : Int) : Prop := -999999999999999999 ≤ n ∧ n ≤ 999999999999999999
theorem Cc {n : Int} (h : numB n = true) : inM n := by
 unfold numB at h; unfold inM; simp at h; omega
theorem Bfl {n : Int} (h : inM n) : bs ⟨(Lib.itoa n).toArray⟩ = numT n := by
 unfold inM at h
 unfold bs Lib.itoa numT
 by_cases hn : n < 0
 ·rw [if_pos hn, if_pos hn]
  show ((45 : UInt8) :: Lib.decDigits n.natAbs).map _ = _
  rw [List.map_cons, Ack 18 _ (by omega) (by omega)]
  rfl
 ·rw [if_neg hn, if_neg hn]
  show (Lib.decDigits n.toNat).map _ = _
  rw [Ack 18 _ (by omega) (by omega), show n.toNat = n.natAbs by omega]
theorem Dp (k : Nat) {n : Int} (h : inM n) : cshownum k n = some (numT n) := by
 have hl : (Lib.itoa n).length = (numT n).length := by
  rw [← Bfl h]; unfold bs; exact (List.length_map _).symm
 have := Cl n
 rw [B9j, Bcn]
 unfold Aca fmtI
 have hm : maxLen = 9223372036854775807 := rfl
 rw [if_pos ⟨rfl, by simp only; omega⟩, Bfl h]
 rfl
theorem A9x (k : Nat) {a b : Int} (ha : inM a) (hb : inM b) : cshowfrac k (a, b) = some (numT a ++ ([47] : List Int) ++ numT b) := by
 have h1 := Cl a
 have h2 := Cl b
 rw [B9a, Bca, Dp k ha, Option.bind_some, Zx (by simp; omega), Dp k hb, Option.bind_some, Zx (by simp; omega)]
theorem Bf2 (k : Nat) (l : List (List Int)) (hw : ∀ w ∈ l, byB w) (hl : (Ci ([44, 32] : List Int) l).length ≤ 1000000) (hn : l.length ≤ 1000) : Lc k l = some (Ci ([44, 32] : List Int) l) := by
 rw [B9c, Bcc]
 unfold Lf
 rw [Bfn _ _ (by intro x hx; simp at hx; omega) hw (by omega) (by omega)]
 rfl
def Em (a b : Int) : List Int := numT a ++ ([47] : List Int) ++ numT b
def Fj (h : YT1) : List (List Int) :=
 [([32, 32, 104, 101, 97, 100, 32] : List Int), h.1, ([32, 118, 111, 108, 117, 109, 101, 32] : List Int), numT h.2.1, ([32, 102, 108, 111, 119, 32] : List Int), numT h.2.2.1, ([32, 117, 115, 101, 32] : List Int), Em h.2.2.2.1.1 h.2.2.2.1.2.1, ([32, 115, 112, 101, 101, 100, 32] : List Int), numT h.2.2.2.2.1, ([32, 103, 114, 97, 100, 101, 32] : List Int), numT h.2.2.2.2.2.1,
  ([32, 119, 105, 100, 116, 104, 32] : List Int), numT h.2.2.2.2.2.2.1, ([32, 108, 101, 110, 103, 116, 104, 32] : List Int), numT h.2.2.2.2.2.2.2.1, ([32, 103, 114, 101, 101, 110, 32] : List Int), numT h.2.2.2.2.2.2.2.2.1, ([59, 10] : List Int)]
def pedP (p : YT2) : List (List Int) := [([32, 32, 119, 97, 108, 107, 32] : List Int), p.1, ([32, 119, 105, 116, 104, 32] : List Int), p.2.1, ([32, 108, 111, 110, 103, 32] : List Int), numT p.2.2.1, ([32, 112, 97, 99, 101, 32] : List Int), numT p.2.2.2.1, ([32, 108, 101, 97, 115, 116, 32] : List Int), numT p.2.2.2.2.1, ([59, 10] : List Int)]
def Dc (h : YT1) : List Int := (Fj h).flatten
def pedT (p : YT2) : List Int := (pedP p).flatten
def B8 (l : List (List Int)) : List Int := Ci ([44, 32] : List Int) l
def Ez (x : YT3) : List (List Int) := [([32, 32, 112, 104, 97, 115, 101, 32] : List Int), x.1, ([58, 32] : List Int), B8 x.2.1, ([59, 10] : List Int)]
def Dr (x : YT3) : List Int := (Ez x).flatten
def E6 (r : YT4) : List Int := ([32, 32, 32, 32, 114, 105, 110, 103, 32] : List Int) ++ ((bif r.1 then ([102, 114, 101, 101, 32] : List Int) else []) ++ (B8 r.2.1 ++ ([59, 10] : List Int)))
def It (g : List YT4 × Unit) : List Int := ([32, 32, 103, 114, 111, 117, 112, 32, 123, 10] : List Int) ++ (g.1.flatMap E6 ++ ([32, 32, 125, 10] : List Int))
def foeP (f : YT5) : List (List Int) := [([32, 32, 102, 111, 101, 32] : List Int), f.1, ([32] : List Int), f.2.1, ([59, 10] : List Int)]
def foeT (f : YT5) : List Int := (foeP f).flatten
def Jl (n : YT6) : List Int := n.2.1.flatMap Dc ++ (n.2.2.1.flatMap pedT ++ (n.2.2.2.1.flatMap Dr ++ (n.2.2.2.2.1.flatMap It ++ n.2.2.2.2.2.1.flatMap foeT)))
def Ix (n : YT6) : List Int := ([110, 111, 100, 101, 32] : List Int) ++ (n.1 ++ (([32, 123, 10] : List Int) ++ (Jl n ++ ([125, 10] : List Int))))
def Fn (s : YT7) : List (List Int) := [([32, 32, 115, 116, 111, 112, 32] : List Int), s.1, ([32, 111, 117, 116, 32] : List Int), s.2.1, ([32, 105, 110, 32] : List Int), s.2.2.1, ([32, 97, 104, 101, 97, 100, 32] : List Int), numT s.2.2.2.1, ([32, 98, 97, 99, 107, 32] : List Int), numT s.2.2.2.2.1, ([59, 10] : List Int)]
def Cu (s : YT7) : List Int := (Fn s).flatten
def Cz (a b : Int) : List Int := [([32, 32, 119, 101, 105, 103, 104, 116, 115, 32] : List Int), numT a, ([32] : List Int), numT b, ([59, 10] : List Int)].flatten
def artB (n : NetT) : Bool := (decide (((n.2.2.2.2.2.2.1.length : Nat) : Int) > 0) || n.2.2.2.2.2.2.2.1 != 0) || n.2.2.2.2.2.2.2.2 != 0
def artT (n : NetT) : List Int := bif artB n then ([97, 114, 116, 101, 114, 121, 32, 123, 10] : List Int) ++ (n.2.2.2.2.2.2.1.flatMap Cu ++ (Cz n.2.2.2.2.2.2.2.1 n.2.2.2.2.2.2.2.2 ++ ([125, 10] : List Int))) else []
def Di (a b c d e : Int) : List Int := [([99, 121, 99, 108, 101, 32] : List Int), numT a, ([32, 116, 111, 32] : List Int), numT b, ([32, 98, 121, 32] : List Int), numT c, ([59, 10, 112, 101, 97, 107, 32] : List Int), Em d e, ([59, 10] : List Int)].flatten
def netT (n : NetT) : List Int := Di n.1 n.2.1 n.2.2.1 n.2.2.2.1 n.2.2.2.2.1 ++ (n.2.2.2.2.2.1.flatMap Ix ++ artT n)
theorem Ex {s : List Int} (h : Bw s = true) : byB s ∧ s.length ≤ 24 ∧ s ≠ [] ∧ (∀ x ∈ s, Bh x = true) ∧ (∃ c r, s = c :: r ∧ B7 c = true) := by
 unfold Bw Kz at h
 simp only [Bool.and_eq_true, decide_eq_true_eq] at h
 obtain ⟨⟨h0, h1, h2⟩, _⟩ := h
 cases s with
 | nil => exact absurd rfl h0
 | cons c r =>
  have hs := Mi (x := c) (r := r) (by rw [h2])
  rw [h2] at hs
  have hw : ∀ x ∈ c :: r, Bh x = true := by
   intro x hx
   have h3 : (c :: r).takeWhile Bh = c :: r ∧ B7 c = true := by
    simp only [tok1] at h2
    split at h2
    ·rename_i hc
     split at h2
     ·simp at h2
     ·simp only [Prod.mk.injEq] at h2
      exact ⟨h2.2.2.1, hc⟩
    ·split at h2
     ·split at h2 <;> simp at h2
     ·split at h2 <;> simp at h2
   rw [← h3.1] at hx
   exact Yf hx
  have hc : B7 c = true := by
   simp only [tok1] at h2
   split at h2
   ·rename_i hc; exact hc
   ·split at h2
    ·split at h2 <;> simp at h2
    ·split at h2 <;> simp at h2
  refine ⟨fun x hx => ?_, hs.2.2.2, by simp, hw, c, r, rfl, hc⟩
  have := hw x hx
  unfold Bh B7 A0 at this
  simp at this
  omega
theorem Ib {s : List Int} (h : Bw s = true) : s.length ≤ 24 := (Ex h).2.1
theorem On {m : Nat} {l : List (List Int)} (h : rowB m l = true) : (1 ≤ l.length ∧ l.length ≤ m) ∧ ∀ s ∈ l, Bw s = true := by
 unfold rowB at h
 simp only [Bool.and_eq_true, decide_eq_true_eq, List.all_eq_true] at h
 exact ⟨⟨h.1, h.2.1⟩, h.2.2⟩
theorem Ye {m : Nat} {l : List (List Int)} (h : rowB m l = true) : (B8 l).length ≤ m * 26 := by
 have h1 := On h
 have h2 := Bfm ([44, 32] : List Int) 24 l fun w hw => Ib (h1.2 w hw)
 have h3 : l.length * (24 + List.length ([44, 32] : List Int)) ≤ m * 26 := Nat.mul_le_mul h1.1.2 (by simp)
 exact Nat.le_trans h2 h3
theorem A9u (a b : Int) : (Em a b).length ≤ 39 := by
 have h1 := Cl a
 have h2 := Cl b
 unfold Em
 simp; omega
theorem Cbg {h : YT1} (hb : Eo h = true) : (Dc h).length ≤ 400 := by
 have h0 : h.1.length ≤ 24 := by
  unfold Eo at hb
  simp only [Bool.and_eq_true] at hb
  exact Ib hb.1
 clear hb
 obtain ⟨a0, a1, a2, ⟨a3, a4, ⟨⟩⟩, a5, a6, a7, a8, a9, a10, ⟨⟩⟩ := h
 simp only at h0
 have h1 := Cl a1
 have h2 := Cl a2
 have h3 := A9u a3 a4
 have h4 := Cl a5
 have h5 := Cl a6
 have h6 := Cl a7
 have h7 := Cl a8
 have h8 := Cl a9
 unfold Dc Fj
 (simp only [List.flatten_cons, List.flatten_nil, List.append_nil, List.length_append, List.length_cons, List.length_nil, Nat.reduceAdd, ← Nat.add_assoc]; omega)
theorem Cdj {p : YT2} (hb : pedB p = true) : (pedT p).length ≤ 200 := by
 unfold pedB at hb
 simp only [Bool.and_eq_true] at hb
 have := Ib hb.1
 have := Ib hb.2.1
 have h1 := Cl p.2.2.1
 have h2 := Cl p.2.2.2.1
 have h4 := Cl p.2.2.2.2.1
 unfold pedT pedP
 (simp only [List.flatten_cons, List.flatten_nil, List.append_nil, List.length_append, List.length_cons, List.length_nil, Nat.reduceAdd, ← Nat.add_assoc]; omega)
theorem Cds {x : YT3} (hb : Ey x = true) : (Dr x).length ≤ 500 := by
 unfold Ey at hb
 simp only [Bool.and_eq_true] at hb
 have := Ib hb.1
 have := Ye hb.2.1
 unfold Dr Ez
 (simp only [List.flatten_cons, List.flatten_nil, List.append_nil, List.length_append, List.length_cons, List.length_nil, Nat.reduceAdd, ← Nat.add_assoc]; omega)
theorem Cfq {r : YT4} (hb : Jp r = true) : (E6 r).length ≤ 200 := by
 unfold Jp at hb
 have := Ye hb
 unfold E6
 cases r.1 <;> simp only [cond_true, cond_false] <;> (simp only [List.flatten_cons, List.flatten_nil, List.append_nil, List.length_append, List.length_cons, List.length_nil, Nat.reduceAdd, ← Nat.add_assoc]; omega)
theorem Ca9 {g : List YT4 × Unit} (hb : En g = true) : (It g).length ≤ 500 := by
 unfold En at hb
 simp only [Bool.and_eq_true, Bool.not_eq_true', decide_eq_false_iff_not, List.all_eq_true] at hb
 have := Ws E6 200 g.1 fun r hr => Cfq (hb.2.2 r hr)
 have h2 : g.1.length * 200 ≤ 2 * 200 := Nat.mul_le_mul_right _ (by omega)
 unfold It
 (simp only [List.flatten_cons, List.flatten_nil, List.append_nil, List.length_append, List.length_cons, List.length_nil, Nat.reduceAdd, ← Nat.add_assoc]; omega)
theorem B03 {f : YT5} (hb : foeB f = true) : (foeT f).length ≤ 80 := by
 unfold foeB at hb
 simp only [Bool.and_eq_true] at hb
 have := Ib hb.1
 have := Ib hb.2.1
 unfold foeT foeP
 (simp only [List.flatten_cons, List.flatten_nil, List.append_nil, List.length_append, List.length_cons, List.length_nil, Nat.reduceAdd, ← Nat.add_assoc]; omega)
theorem Cgf {s : YT7} (hb : E8 s = true) : (Cu s).length ≤ 200 := by
 unfold E8 at hb
 simp only [Bool.and_eq_true] at hb
 have := Ib hb.1
 have := Ib hb.2.1
 have := Ib hb.2.2.1
 have h1 := Cl s.2.2.2.1
 have h2 := Cl s.2.2.2.2.1
 unfold Cu Fn
 (simp only [List.flatten_cons, List.flatten_nil, List.append_nil, List.length_append, List.length_cons, List.length_nil, Nat.reduceAdd, ← Nat.add_assoc]; omega)
theorem C3 {α : Type} {l : List α} {m : Int} (h : leB l m = true) : ((l.length : Nat) : Int) ≤ m := by
 unfold leB at h; simp at h; exact h
theorem Lm {α : Type} (l : List α) (f : α → List Int) (p : α → Bool) (m n : Nat) (h : l.all p = true) (hf : ∀ x, p x = true → (f x).length ≤ m) (hl : l.length ≤ n) : (l.flatMap f).length ≤ n * m := by
 have := Ws f m l fun x hx => hf x (List.all_eq_true.1 h x hx)
 exact Nat.le_trans this (Nat.mul_le_mul_right _ hl)
theorem Cdd {n : YT6} (hb : Dn n = true) : (Jl n).length ≤ 24000 := by
 unfold Dn at hb
 simp only [Bool.and_eq_true] at hb
 obtain ⟨h0, h1, h2, h3, h4, h5, p1, p2, p3, p4, p5⟩ := hb
 have := Lm _ Dc Eo 400 16 p1 (fun x => Cbg) (by have := C3 h1; omega)
 have := Lm _ pedT pedB 200 8 p2 (fun x => Cdj) (by have := C3 h2; omega)
 have := Lm _ Dr Ey 500 16 p3 (fun x => Cds) (by have := C3 h3; omega)
 have := Lm _ It En 500 4 p4 (fun x => Ca9) (by have := C3 h4; omega)
 have := Lm _ foeT foeB 80 64 p5 (fun x => B03) (by have := C3 h5; omega)
 unfold Jl
 (simp only [List.flatten_cons, List.flatten_nil, List.append_nil, List.length_append, List.length_cons, List.length_nil, Nat.reduceAdd, ← Nat.add_assoc]; omega)
theorem Ccp {n : YT6} (hb : Dn n = true) : (Ix n).length ≤ 24100 := by
 have := Cdd hb
 unfold Dn at hb
 simp only [Bool.and_eq_true] at hb
 have := Ib hb.1
 unfold Ix
 (simp only [List.flatten_cons, List.flatten_nil, List.append_nil, List.length_append, List.length_cons, List.length_nil, Nat.reduceAdd, ← Nat.add_assoc]; omega)
theorem Bgp {n : NetT} (hb : netB n = true) : (netT n).length ≤ 400000 := by
 unfold netB at hb
 simp only [Bool.and_eq_true] at hb
 obtain ⟨-, -, -, -, -, -, h1, h2, p1, p2⟩ := hb
 have := Lm _ Ix Dn 24100 12 p1 (fun x => Ccp) (by have := C3 h1; omega)
 have := Lm _ Cu E8 200 12 p2 (fun x => Cgf) (by have := C3 h2; omega)
 have h1 := Cl n.1
 have h2 := Cl n.2.1
 have h3 := Cl n.2.2.1
 have h4 := A9u n.2.2.2.1 n.2.2.2.2.1
 have h5 := Cl n.2.2.2.2.2.2.2.1
 have h6 := Cl n.2.2.2.2.2.2.2.2
 unfold netT artT Di Cz
 cases artB n <;> simp only [cond_true, cond_false] <;> (simp only [List.flatten_cons, List.flatten_nil, List.append_nil, List.length_append, List.length_cons, List.length_nil, Nat.reduceAdd, ← Nat.add_assoc]; omega)
theorem gr_inM {n : Int} (h1 : (!decide (n < -999999999999999999)) = true) (h2 : (!decide (n > 999999999999999999)) = true) : inM n := by
 unfold inM; simp at h1 h2; omega
theorem Am0 {h : YT1} (hb : Eo h = true) : Bw h.1 = true ∧ inM h.2.1 ∧ inM h.2.2.1 ∧ inM h.2.2.2.1.1 ∧ inM h.2.2.2.1.2.1 ∧ inM h.2.2.2.2.1 ∧ inM h.2.2.2.2.2.1 ∧ inM h.2.2.2.2.2.2.1 ∧ inM h.2.2.2.2.2.2.2.1 ∧ inM h.2.2.2.2.2.2.2.2.1 := by
 unfold Eo at hb
 simp only [Bool.and_eq_true] at hb
 obtain ⟨h0, h1, h2, ⟨h3, h4⟩, h5, h6, h7, h8, h9, h10, -⟩ := hb
 exact ⟨h0, Cc h1, Cc h2, Cc h3, Cc h4, Cc h5, gr_inM h6 h7, Cc h8, Cc h9, Cc h10⟩
theorem Bhf {p : YT2} (hb : pedB p = true) : Bw p.1 = true ∧ Bw p.2.1 = true ∧ inM p.2.2.1 ∧ inM p.2.2.2.1 ∧ inM p.2.2.2.2.1 := by
 unfold pedB at hb
 simp only [Bool.and_eq_true] at hb
 exact ⟨hb.1, hb.2.1, Cc hb.2.2.1, Cc hb.2.2.2.1, Cc hb.2.2.2.2.1⟩
theorem Boc {s : YT7} (hb : E8 s = true) : Bw s.1 = true ∧ Bw s.2.1 = true ∧ Bw s.2.2.1 = true ∧ inM s.2.2.2.1 ∧ inM s.2.2.2.2.1 := by
 unfold E8 at hb
 simp only [Bool.and_eq_true] at hb
 exact ⟨hb.1, hb.2.1, hb.2.2.1, Cc hb.2.2.2.1, Cc hb.2.2.2.2.1⟩
section
variable (k : Nat) (hk : 1000 ≤ k)
include hk
end
def ind : Nat → List Int
 | 0 => []
 | d + 1 => 32 :: 32 :: ind d
def Bq (d : Nat) (ws : List (List Int)) (e : List Int) : List Int := ind d ++ (Ci ([32] : List Int) ws ++ (e ++ ([10] : List Int)))
theorem Du {l : List Int} (h : l.all (fun x => decide (0 ≤ x) && decide (x ≤ 255)) = true) : byB l := by
 intro x hx
 have := List.all_eq_true.1 h x hx
 simp at this
 omega
theorem Zt {a b : List Int} (ha : byB a) (hb : byB b) : byB (a ++ b) := fun x hx => by
 rcases List.mem_append.1 hx with h | h
 ·exact ha x h
 ·exact hb x h
theorem A9t (a b : Int) : byB (Em a b) := Zt (Zt (L9 a) (Du (by decide))) (L9 b)
theorem Bhv (k d : Nat) (hd : d ≤ 2) : Wi k (([32, 32] : List Int), (d : Int)) = some (ind d) := by
 rcases d with _ | _ | _ | d
 ·rfl
 ·rfl
 ·rfl
 ·omega
theorem Ao0 (k : Nat) (a buf : List Int) (b : Bool) (d : Int) (h : buf.length + a.length ≤ 1000000) : Fx k (a, b, d, buf) = some ((a.length : Int), false, d, buf ++ a) := by
 rw [Bea, Al9]
 show (app 1 buf a fun o2 => some (((List.length a : Nat) : Int), false, d, o2)) = _
 rw [Ce (by omega) (by omega)]
theorem Bf1 (k : Nat) (e : List Int) (ws : List (List Int)) (b : Bool) (d : Nat) (buf : List Int) (hd : d ≤ 2) (hw : ∀ w ∈ ws, byB w) (hn : ws.length ≤ 1000) (h : buf.length + (Bq d ws e).length ≤ 1000000) :
  (((Fx k) (ind d, b, (d : Int), buf)).bind fun o2 => ((Lf k) (ws, ([32] : List Int))).bind fun o3 => ((Fx k) (o3, o2.2.1, o2.2.2.1, o2.2.2.2)).bind fun o4 => ((Fx k) (e, o4.2.1, o4.2.2.1, o4.2.2.2)).bind fun o5 => ((Qn k) ((10 : Int), o5.2.1, o5.2.2.1, o5.2.2.2)).bind fun o6 => some (o6.1, o6.2.1, o6.2.2)) =
   some (false, (d : Int), buf ++ Bq d ws e) := by
 unfold Bq at h
 rw [List.length_append, List.length_append, List.length_append] at h
 have e1 : List.length ([10] : List Int) = 1 := rfl
 have hj : Lf k (ws, ([32] : List Int)) = some (Ci ([32] : List Int) ws) := Bfn _ _ (Du (by decide)) hw (by omega) (by omega)
 rw [Ao0 k _ _ _ _ (by omega), Option.bind_some, hj, Option.bind_some, Ao0 k _ _ _ _ (by simp only [List.length_append]; omega), Option.bind_some, Ao0 k _ _ _ _ (by simp only [List.length_append]; omega), Option.bind_some, Cah, Bd6]
 show ((app 1 (((buf ++ ind d) ++ Ci ([32] : List Int) ws) ++ e) ([10] : List Int) fun o2 => some (false, (d : Int), o2)).bind fun o6 => some (o6.1, o6.2.1, o6.2.2)) = _
 rw [Ce (by simp only [List.length_append]; omega) (by simp only [List.length_append]; omega), Option.bind_some]
 unfold Bq
 simp only [List.append_assoc]
theorem Ew (k : Nat) (e : List Int) (ws : List (List Int)) (b : Bool) (d : Nat) (buf : List Int) (hd : d ≤ 2) (hw : ∀ w ∈ ws, byB w) (hn : ws.length ≤ 1000) (h : buf.length + (Bq d ws e).length ≤ 1000000) :
  B0 k (e, ws, b, (d : Int), buf) = some (false, (d : Int), buf ++ Bq d ws e) := by
 rw [B91, Bdg]
 simp only [Bhv k d hd, Option.bind_some]
 exact Bf1 k e ws b d buf hd hw hn h
theorem Cb8 (k : Nat) (e : List Int) (ws : List (List Int)) (d : Nat) (hd : d ≤ 2) (hw : ∀ w ∈ ws, byB w) (hn : ws.length ≤ 1000) (h : (Bq d ws e).length ≤ 1000000) :
  Ql k (e, ws, true, (d : Int)) = some (false, (d : Int), Bq d ws e) := by
 rw [B93, Bdk]
 simp only [Bhv k d hd, Option.bind_some]
 have hw1 : Wf k (ind d, true, (d : Int)) = Fx k (ind d, true, (d : Int), []) := by
  rw [Cak, Bee, Bea, Al9]
 rw [hw1]
 exact Bf1 k e ws true d [] hd hw hn (by simpa using h)
section
variable (k : Nat)
theorem Cdw (h : YT1) (buf : List Int) (b : Bool) (hb : Eo h = true) (hl : buf.length + (Dc h).length ≤ 1000000) :
  We k (h.1, h.2.1, h.2.2.1, h.2.2.2.1.1, h.2.2.2.1.2.1, h.2.2.2.2.1, h.2.2.2.2.2.1, h.2.2.2.2.2.2.1, h.2.2.2.2.2.2.2.1, h.2.2.2.2.2.2.2.2.1, h.2.2.2.2.2.2.2.2.2.1, b, 1, buf) = some (false, 1, buf ++ Dc h) := by
 obtain ⟨q0, q1, q2, q3, q4, q5, q6, q7, q8, q9⟩ := Am0 hb
 rw [B9z, Bdc]
 simp only [Dp k q1, Dp k q2, A9x k q3 q4, Dp k q5, Dp k q6, Dp k q7, Dp k q8, Dp k q9, Option.bind_some]
 have e : Bq 1 [([104, 101, 97, 100] : List Int), h.1, ([118, 111, 108, 117, 109, 101] : List Int), numT h.2.1, ([102, 108, 111, 119] : List Int), numT h.2.2.1, ([117, 115, 101] : List Int), Em h.2.2.2.1.1 h.2.2.2.1.2.1, ([115, 112, 101, 101, 100] : List Int), numT h.2.2.2.2.1, ([103, 114, 97, 100, 101] : List Int), numT h.2.2.2.2.2.1, ([119, 105, 100, 116, 104] : List Int), numT h.2.2.2.2.2.2.1, ([108, 101, 110, 103, 116, 104] : List Int), numT h.2.2.2.2.2.2.2.1, ([103, 114, 101, 101, 110] : List Int), numT h.2.2.2.2.2.2.2.2.1] ([59] : List Int) = Dc h := by (simp only [Bq, ind, Ci, Dc, Fj, pedT, pedP, Dr, Ez, foeT, foeP, Cu, Fn, Cz, Di, B8, List.flatten_cons, List.flatten_nil, List.append_nil, List.append_assoc, List.cons_append, List.nil_append])
 have L := Ew k ([59] : List Int) [([104, 101, 97, 100] : List Int), h.1, ([118, 111, 108, 117, 109, 101] : List Int), numT h.2.1, ([102, 108, 111, 119] : List Int), numT h.2.2.1, ([117, 115, 101] : List Int), Em h.2.2.2.1.1 h.2.2.2.1.2.1, ([115, 112, 101, 101, 100] : List Int), numT h.2.2.2.2.1, ([103, 114, 97, 100, 101] : List Int), numT h.2.2.2.2.2.1, ([119, 105, 100, 116, 104] : List Int), numT h.2.2.2.2.2.2.1, ([108, 101, 110, 103, 116, 104] : List Int), numT h.2.2.2.2.2.2.2.1, ([103, 114, 101, 101, 110] : List Int), numT h.2.2.2.2.2.2.2.2.1] b 1 buf (by omega)
  (by
   have hn := (Ex q0).1
   intro w hw
   simp only [List.mem_cons, List.not_mem_nil, or_false] at hw
   rcases hw with rfl | rfl | rfl | rfl | rfl | rfl | rfl | rfl | rfl | rfl | rfl | rfl | rfl | rfl | rfl | rfl | rfl | rfl
   all_goals first | exact hn | exact L9 _ | exact A9t _ _ | exact Du (by decide))
  (by simp) (by rw [e]; exact hl)
 rw [e] at L
 show ((B0 k) (_, _, b, ((1 : Nat) : Int), buf)).bind _ = _
 unfold Em at L
 rw [L]
 rfl
theorem Cdr (hk : 1000 ≤ k) (g : List YT4 × Unit) (buf : List Int) (hb : En g = true) (hl : buf.length + (g.1.flatMap E6).length ≤ 1000000) :
  Qk k (g.1, false, 2, buf) = some (false, 2, buf ++ g.1.flatMap E6) := by
 unfold En at hb
 simp only [Bool.and_eq_true, Bool.not_eq_true', decide_eq_false_iff_not, List.all_eq_true] at hb
 rw [B9w, Alx]
 refine Jb 1000000 g.1 E6 (fun j i b => (D6 k).L 2 [] j (Nu (g.1, ((g.1.length : Nat) : Int), i, false, 2, b))) (fun b => some (false, 2, b))
  (fun j i r b hr hh => ?_) (fun j b hh => by rw [Bc8, Xs, Ca]) k buf (by omega) hl
 have hrow := On (hb.2.2 r (Ei hr))
 have hlst := Ye (hb.2.2 r (Ei hr))
 have hby : ∀ w ∈ r.2.1, byB w := fun w hw => (Ex (hrow.2 w hw)).1
 have hlb : byB (B8 r.2.1) := Am2 _ (Du (by decide)) _ hby
 have hls : Lc k r.2.1 = some (B8 r.2.1) := Bf2 k r.2.1 hby (by unfold B8 at hlst; omega) (by omega)
 rw [Bc8, Xs, B9 hr, A5 hr]
 have fin : ∀ ws : List (List Int), ws.length ≤ 10 → (∀ w ∈ ws, byB w) → Bq 2 (ws ++ [B8 r.2.1]) ([59] : List Int) = E6 r →
   (D6 k).J 7 [j] (R9 (g.1, ((g.1.length : Nat) : Int), (i : Int), false, 2, r.1, r.2.1, ws, b)) = (D6 k).L 2 [] j (Nu (g.1, ((g.1.length : Nat) : Int), ((i + 1 : Nat) : Int), false, 2, b ++ E6 r)) := by
  intro ws hw1 hw2 he
  rw [B9x, Aly, hls, Option.bind_some, Ce (by simp; omega) (by simp; omega)]
  have L := Ew k ([59] : List Int) (ws ++ [B8 r.2.1]) false 2 b (by omega) (by
    intro w hw
    rcases List.mem_append.1 hw with h | h
    ·exact hw2 w h
    ·rw [List.mem_singleton.1 h]; exact hlb) (by simp; omega) (by rw [he]; omega)
  rw [he] at L
  rw [show (2 : Int) = ((2 : Nat) : Int) from rfl, L, Option.bind_some, Cd hr (by omega)]
 cases hf : r.1
 ·rw [hf] at fin
  rw [cond_false]
  refine fin [([114, 105, 110, 103] : List Int)] (by simp) (by intro w hw; rw [List.mem_singleton.1 hw]; exact Du (by decide)) ?_
  unfold E6
  rw [hf]
  simp only [cond_false]
  (simp only [Bq, ind, Ci, Dc, Fj, pedT, pedP, Dr, Ez, foeT, foeP, Cu, Fn, Cz, Di, B8, List.flatten_cons, List.flatten_nil, List.append_nil, List.append_assoc, List.cons_append, List.nil_append])
 ·rw [hf] at fin
  rw [cond_true, Ce (by simp) (by simp)]
  refine fin [([114, 105, 110, 103] : List Int), ([102, 114, 101, 101] : List Int)] (by simp) (by
   intro w hw
   simp only [List.mem_cons, List.not_mem_nil, or_false] at hw
   rcases hw with rfl | rfl <;> exact Du (by decide)) ?_
  unfold E6
  rw [hf]
  simp only [cond_true]
  (simp only [Bq, ind, Ci, Dc, Fj, pedT, pedP, Dr, Ez, foeT, foeP, Cu, Fn, Cz, Di, B8, List.flatten_cons, List.flatten_nil, List.append_nil, List.append_assoc, List.cons_append, List.nil_append])
theorem Cdg (hk : 1000 ≤ k) (g : List YT4 × Unit) (buf : List Int) (hb : En g = true) (hl : buf.length + (It g).length ≤ 1000000) :
  Wd k ([([103, 114, 111, 117, 112] : List Int)], false, 1, g.1, buf) = some (false, 1, g.1, buf ++ It g) := by
 have e1 : Bq 1 [([103, 114, 111, 117, 112] : List Int)] ([32, 123] : List Int) = ([32, 32, 103, 114, 111, 117, 112, 32, 123, 10] : List Int) := rfl
 have e2 : Bq 1 [] ([125] : List Int) = ([32, 32, 125, 10] : List Int) := rfl
 unfold It at hl ⊢
 rw [List.length_append, List.length_append] at hl
 have L1 := Ew k ([32, 123] : List Int) [([103, 114, 111, 117, 112] : List Int)] false 1 buf (by omega) (by intro w hw; rw [List.mem_singleton.1 hw]; exact Du (by decide)) (by simp) (by rw [e1]; omega)
 rw [e1] at L1
 have LG := Cdr k hk g (buf ++ ([32, 32, 103, 114, 111, 117, 112, 32, 123, 10] : List Int)) hb (by rw [List.length_append]; omega)
 have L2 := Ew k ([125] : List Int) [] false 1 (buf ++ ([32, 32, 103, 114, 111, 117, 112, 32, 123, 10] : List Int) ++ g.1.flatMap E6) (by omega) (by simp) (by simp) (by rw [e2, List.length_append, List.length_append]; omega)
 rw [e2] at L2
 rw [B9q, Bcx]
 show (B0 k (_, _, _, ((1 : Nat) : Int), _)).bind _ = _
 rw [L1, Option.bind_some, B96, Bdo]
 show ((Qk k (g.1, false, 2, buf ++ ([32, 32, 103, 114, 111, 117, 112, 32, 123, 10] : List Int))).bind _).bind _ = _
 rw [LG, Option.bind_some, Option.bind_some]
 show (B0 k (_, _, _, ((1 : Nat) : Int), _)).bind _ = _
 rw [L2, Option.bind_some]
 simp only [List.append_assoc]
 rfl
end
theorem Aq1 (a b c d e : Int) (r : List Int) : Di a b c d e ++ r ≠ [] := by
 unfold Di
 rw [List.flatten_cons]
 simp
section
variable (k : Nat) (hk : 1000 ≤ k)
include hk
theorem Ceh (n : YT6) (buf : List Int) (hb : Dn n = true) (hl : buf.length + (Jl n).length ≤ 1000000) :
  Qm k (n.1, n.2.1, n.2.2.1, n.2.2.2.1, n.2.2.2.2.1, n.2.2.2.2.2.1, n.2.2.2.2.2.2.1, false, 1, buf) = some (false, 1, buf ++ Jl n) := by
 obtain ⟨a0, a1, a2, a3, a4, a5, a6, a7⟩ := n
 unfold Dn at hb
 simp only [Bool.and_eq_true, List.all_eq_true] at hb
 obtain ⟨h0, h1, h2, h3, h4, h5, p1, p2, p3, p4, p5⟩ := hb
 have h1 : ((a1.length : Nat) : Int) ≤ 16 := C3 h1
 have h2 : ((a2.length : Nat) : Int) ≤ 8 := C3 h2
 have h3 : ((a3.length : Nat) : Int) ≤ 16 := C3 h3
 have h4 : ((a4.length : Nat) : Int) ≤ 4 := C3 h4
 have h5 : ((a5.length : Nat) : Int) ≤ 64 := C3 h5
 have L5 := Jb 1000000 a5 foeT (fun j i b => (Bs k).L 22 [] j (Nx (a5, ((a5.length : Nat) : Int), i, false, 1, b))) (fun b => some (false, 1, b))
  (fun j i x b hx hb => by
   have hp := p5 x (Ei hx)
   unfold foeB at hp
   simp only [Bool.and_eq_true] at hp
   have e : Bq 1 [([102, 111, 101] : List Int), x.1, x.2.1] ([59] : List Int) = foeT x := by (simp only [Bq, ind, Ci, Dc, Fj, pedT, pedP, Dr, Ez, foeT, foeP, Cu, Fn, Cz, Di, B8, List.flatten_cons, List.flatten_nil, List.append_nil, List.append_assoc, List.cons_append, List.nil_append])
   have L := Ew k ([59] : List Int) [([102, 111, 101] : List Int), x.1, x.2.1] false 1 b (by omega) (by
    intro w hw
    simp only [List.mem_cons, List.not_mem_nil, or_false] at hw
    rcases hw with rfl | rfl | rfl
    ·exact Du (by decide)
    ·exact (Ex hp.1).1
    ·exact (Ex hp.2.1).1) (by simp) (by rw [e]; exact hb)
   rw [e] at L
   rw [Bdu, Xw, B9 hx, A5 hx]
   show (B0 k (_, _, _, ((1 : Nat) : Int), _)).bind _ = _
   rw [L, Option.bind_some, Cd hx (by omega)]
   rfl)
  (fun j b hb => by rw [Bdu, Xw, Ca]) k
 have L4 := Jb 1000000 a4 It (fun j i b => (Bs k).L 17 [] j (Nw (a4, ((a4.length : Nat) : Int), i, false, 1, a0, a1, a2, a3, a4, a5, a6, b))) (fun b => (Bs k).L 22 [] k (Nx (a5, ((a5.length : Nat) : Int), 0, false, 1, b)))
  (fun j i x b hx hb => by
   rw [Bds, Xu, B9 hx, A5 hx, Cdg k hk x b (p4 x (Ei hx)) hb, Option.bind_some, Cd hx (by omega)])
  (fun j b hb => by rw [Bds, Xu, Ca]) k
 have L3 := Jb 1000000 a3 Dr (fun j i b => (Bs k).L 12 [] j (Nv (a3, ((a3.length : Nat) : Int), i, false, 1, a0, a1, a2, a3, a4, a5, a6, b))) (fun b => (Bs k).L 17 [] k (Nw (a4, ((a4.length : Nat) : Int), 0, false, 1, a0, a1, a2, a3, a4, a5, a6, b)))
  (fun j i x b hx hb => by
   have hp := p3 x (Ei hx)
   unfold Ey at hp
   simp only [Bool.and_eq_true] at hp
   have hrow := On hp.2.1
   have hlst := Ye hp.2.1
   have hby : ∀ w ∈ x.2.1, byB w := fun w hw => (Ex (hrow.2 w hw)).1
   have hlb : byB (B8 x.2.1) := Am2 _ (Du (by decide)) _ hby
   have hls : Lc k x.2.1 = some (B8 x.2.1) := Bf2 k x.2.1 hby (by unfold B8 at hlst; omega) (by omega)
   have hnm := Ex hp.1
   have e : Bq 1 [([112, 104, 97, 115, 101] : List Int), x.1 ++ ([58] : List Int), B8 x.2.1] ([59] : List Int) = Dr x := by
    generalize hg : B8 x.2.1 = g
    simp only [Dr, Ez, hg]
    (simp only [Bq, ind, Ci, Dc, Fj, pedT, pedP, Dr, Ez, foeT, foeP, Cu, Fn, Cz, Di, B8, List.flatten_cons, List.flatten_nil, List.append_nil, List.append_assoc, List.cons_append, List.nil_append])
   have L := Ew k ([59] : List Int) [([112, 104, 97, 115, 101] : List Int), x.1 ++ ([58] : List Int), B8 x.2.1] false 1 b (by omega) (by
    intro w hw
    simp only [List.mem_cons, List.not_mem_nil, or_false] at hw
    rcases hw with rfl | rfl | rfl
    ·exact Du (by decide)
    ·exact Zt hnm.1 (Du (by decide))
    ·exact hlb) (by simp) (by rw [e]; exact hb)
   rw [e] at L
   rw [Bdr, Xt, B9 hx, A5 hx, Zx (by have := hnm.2.1; simp; omega), hls, Option.bind_some]
   show (B0 k (_, _, _, ((1 : Nat) : Int), _)).bind _ = _
   rw [L, Option.bind_some, Cd hx (by omega)]
   rfl)
  (fun j b hb => by rw [Bdr, Xt, Ca]) k
 have L2 := Jb 1000000 a2 pedT (fun j i b => (Bs k).L 7 [] j (Ny (a2, ((a2.length : Nat) : Int), i, false, 1, a0, a1, a2, a3, a4, a5, a6, b))) (fun b => (Bs k).L 12 [] k (Nv (a3, ((a3.length : Nat) : Int), 0, false, 1, a0, a1, a2, a3, a4, a5, a6, b)))
  (fun j i x b hx hb => by
   obtain ⟨n1, n2, q1, q2, q3⟩ := Bhf (p2 x (Ei hx))
   have e : Bq 1 [([119, 97, 108, 107] : List Int), x.1, ([119, 105, 116, 104] : List Int), x.2.1, ([108, 111, 110, 103] : List Int), numT x.2.2.1, ([112, 97, 99, 101] : List Int), numT x.2.2.2.1, ([108, 101, 97, 115, 116] : List Int), numT x.2.2.2.2.1] ([59] : List Int) = pedT x := by (simp only [Bq, ind, Ci, Dc, Fj, pedT, pedP, Dr, Ez, foeT, foeP, Cu, Fn, Cz, Di, B8, List.flatten_cons, List.flatten_nil, List.append_nil, List.append_assoc, List.cons_append, List.nil_append])
   have L := Ew k ([59] : List Int) [([119, 97, 108, 107] : List Int), x.1, ([119, 105, 116, 104] : List Int), x.2.1, ([108, 111, 110, 103] : List Int), numT x.2.2.1, ([112, 97, 99, 101] : List Int), numT x.2.2.2.1, ([108, 101, 97, 115, 116] : List Int), numT x.2.2.2.2.1] false 1 b (by omega) (by
    intro w hw
    simp only [List.mem_cons, List.not_mem_nil, or_false] at hw
    rcases hw with rfl | rfl | rfl | rfl | rfl | rfl | rfl | rfl | rfl | rfl
    all_goals first | exact (Ex n1).1 | exact (Ex n2).1 | exact L9 _ | exact Du (by decide)) (by simp) (by rw [e]; exact hb)
   rw [e] at L
   rw [Bdv, Xx, B9 hx, A5 hx, Dp k q1, Option.bind_some, Dp k q2, Option.bind_some, Dp k q3, Option.bind_some]
   show (B0 k (_, _, _, ((1 : Nat) : Int), _)).bind _ = _
   rw [L, Option.bind_some, Cd hx (by omega)]
   rfl)
  (fun j b hb => by rw [Bdv, Xx, Ca]) k
 have L1 := Jb 1000000 a1 Dc (fun j i b => (Bs k).L 2 [] j (Sa (a1, ((a1.length : Nat) : Int), i, false, 1, a0, a1, a2, a3, a4, a5, a6, b))) (fun b => (Bs k).L 7 [] k (Ny (a2, ((a2.length : Nat) : Int), 0, false, 1, a0, a1, a2, a3, a4, a5, a6, b)))
  (fun j i x b hx hb => by
   rw [Bdt, Xv, B9 hx, A5 hx, Cdw k x b false (p1 x (Ei hx)) hb, Option.bind_some, Cd hx (by omega)])
  (fun j b hb => by rw [Bdt, Xv, Ca]) k
 simp only [Jl, List.length_append, ← Nat.add_assoc] at hl
 rw [B97, Al6, L1 _ (by omega) (by omega), L2 _ (by omega) (by (simp only [List.flatten_cons, List.flatten_nil, List.append_nil, List.length_append, List.length_cons, List.length_nil, Nat.reduceAdd, ← Nat.add_assoc]; omega)), L3 _ (by omega) (by (simp only [List.flatten_cons, List.flatten_nil, List.append_nil, List.length_append, List.length_cons, List.length_nil, Nat.reduceAdd, ← Nat.add_assoc]; omega)), L4 _ (by omega) (by (simp only [List.flatten_cons, List.flatten_nil, List.append_nil, List.length_append, List.length_cons, List.length_nil, Nat.reduceAdd, ← Nat.add_assoc]; omega)), L5 _ (by omega) (by (simp only [List.flatten_cons, List.flatten_nil, List.append_nil, List.length_append, List.length_cons, List.length_nil, Nat.reduceAdd, ← Nat.add_assoc]; omega))]
 simp only [Jl, List.append_assoc]
theorem Cdi (n : YT6) (buf : List Int) (hb : Dn n = true) (hl : buf.length + (Ix n).length ≤ 1000000) :
  Wc k ([([110, 111, 100, 101] : List Int), n.1], false, 0, n.1, n.2.1, n.2.2.1, n.2.2.2.1, n.2.2.2.2.1, n.2.2.2.2.2.1, n.2.2.2.2.2.2.1, buf) =
   some (false, 0, n.1, n.2.1, n.2.2.1, n.2.2.2.1, n.2.2.2.2.1, n.2.2.2.2.2.1, n.2.2.2.2.2.2.1, buf ++ Ix n) := by
 have hnm : Bw n.1 = true := by
  unfold Dn at hb
  simp only [Bool.and_eq_true] at hb
  exact hb.1
 have e1 : Bq 0 [([110, 111, 100, 101] : List Int), n.1] ([32, 123] : List Int) = ([110, 111, 100, 101, 32] : List Int) ++ (n.1 ++ ([32, 123, 10] : List Int)) := by (simp only [Bq, ind, Ci, Dc, Fj, pedT, pedP, Dr, Ez, foeT, foeP, Cu, Fn, Cz, Di, B8, List.flatten_cons, List.flatten_nil, List.append_nil, List.append_assoc, List.cons_append, List.nil_append])
 have e2 : Bq 0 [] ([125] : List Int) = ([125, 10] : List Int) := rfl
 unfold Ix at hl ⊢
 simp only [List.length_append, ← Nat.add_assoc] at hl
 have L1 := Ew k ([32, 123] : List Int) [([110, 111, 100, 101] : List Int), n.1] false 0 buf (by omega) (by
  intro w hw
  simp only [List.mem_cons, List.not_mem_nil, or_false] at hw
  rcases hw with rfl | rfl
  ·exact Du (by decide)
  ·exact (Ex hnm).1) (by simp) (by rw [e1]; simp only [List.length_append, ← Nat.add_assoc]; omega)
 rw [e1] at L1
 have LG := Ceh k hk n (buf ++ (([110, 111, 100, 101, 32] : List Int) ++ (n.1 ++ ([32, 123, 10] : List Int)))) hb (by simp only [List.length_append, ← Nat.add_assoc]; omega)
 have L2 := Ew k ([125] : List Int) [] false 0 (buf ++ (([110, 111, 100, 101, 32] : List Int) ++ (n.1 ++ ([32, 123, 10] : List Int))) ++ Jl n) (by omega) (by simp) (by simp) (by rw [e2]; simp only [List.length_append, ← Nat.add_assoc]; omega)
 rw [e2] at L2
 rw [B9u, Bc5]
 show (B0 k (_, _, _, ((0 : Nat) : Int), _)).bind _ = _
 rw [L1, Option.bind_some, B8b, Baa]
 show ((Qm k (n.1, n.2.1, n.2.2.1, n.2.2.2.1, n.2.2.2.2.1, n.2.2.2.2.2.1, n.2.2.2.2.2.2.1, false, 1, buf ++ (([110, 111, 100, 101, 32] : List Int) ++ (n.1 ++ ([32, 123, 10] : List Int))))).bind _).bind _ = _
 rw [LG, Option.bind_some, Option.bind_some]
 show (B0 k (_, _, _, ((0 : Nat) : Int), _)).bind _ = _
 rw [L2, Option.bind_some]
 simp only [List.append_assoc]
 rfl
theorem Cdc (n : NetT) (buf : List Int) (hb : netB n = true) (hl : buf.length + (n.2.2.2.2.2.2.1.flatMap Cu).length + (Cz n.2.2.2.2.2.2.2.1 n.2.2.2.2.2.2.2.2).length ≤ 900000) :
  Qj k (n.1, n.2.1, n.2.2.1, n.2.2.2.1, n.2.2.2.2.1, n.2.2.2.2.2.1, n.2.2.2.2.2.2.1, n.2.2.2.2.2.2.2.1, n.2.2.2.2.2.2.2.2, false, 1, buf) =
   some (false, 1, buf ++ (n.2.2.2.2.2.2.1.flatMap Cu ++ Cz n.2.2.2.2.2.2.2.1 n.2.2.2.2.2.2.2.2)) := by
 obtain ⟨a0, a1, a2, a3, a4, a5, a6, a7, a8⟩ := n
 unfold netB at hb
 simp only [Bool.and_eq_true, List.all_eq_true] at hb
 obtain ⟨q0, q1, q2, ⟨q3, q4⟩, q7, q8, h1, h2, p1, p2⟩ := hb
 have h2 : ((a6.length : Nat) : Int) ≤ 12 := C3 h2
 simp only at hl ⊢
 have w1 := Cl a7
 have w2 := Cl a8
 have e2 : Bq 1 [([119, 101, 105, 103, 104, 116, 115] : List Int), numT a7, numT a8] ([59] : List Int) = Cz a7 a8 := by (simp only [Bq, ind, Ci, Dc, Fj, pedT, pedP, Dr, Ez, foeT, foeP, Cu, Fn, Cz, Di, B8, List.flatten_cons, List.flatten_nil, List.append_nil, List.append_assoc, List.cons_append, List.nil_append])
 have hw : (Cz a7 a8).length ≤ 100 := by unfold Cz; (simp only [List.flatten_cons, List.flatten_nil, List.append_nil, List.length_append, List.length_cons, List.length_nil, Nat.reduceAdd, ← Nat.add_assoc]; omega)
 rw [B9o, Als]
 refine (Jb 900000 a6 Cu (fun j i b => (Hy k).L 2 [] j (R8 (a6, ((a6.length : Nat) : Int), i, false, 1, a0, a1, a2, a3, a4, a5, a6, a7, a8, b))) (fun b => some (false, 1, b ++ Cz a7 a8))
  (fun j i x b hx hb => ?_) (fun j b hb => ?_) k buf (by omega) ?_).trans (by rw [List.append_assoc])
 ·obtain ⟨n1, n2, n3, q1, q2⟩ := Boc (p2 x (Ei hx))
  have e : Bq 1 [([115, 116, 111, 112] : List Int), x.1, ([111, 117, 116] : List Int), x.2.1, ([105, 110] : List Int), x.2.2.1, ([97, 104, 101, 97, 100] : List Int), numT x.2.2.2.1, ([98, 97, 99, 107] : List Int), numT x.2.2.2.2.1] ([59] : List Int) = Cu x := by (simp only [Bq, ind, Ci, Dc, Fj, pedT, pedP, Dr, Ez, foeT, foeP, Cu, Fn, Cz, Di, B8, List.flatten_cons, List.flatten_nil, List.append_nil, List.append_assoc, List.cons_append, List.nil_append])
  have L := Ew k ([59] : List Int) [([115, 116, 111, 112] : List Int), x.1, ([111, 117, 116] : List Int), x.2.1, ([105, 110] : List Int), x.2.2.1, ([97, 104, 101, 97, 100] : List Int), numT x.2.2.2.1, ([98, 97, 99, 107] : List Int), numT x.2.2.2.2.1] false 1 b (by omega) (by
   intro w hw
   simp only [List.mem_cons, List.not_mem_nil, or_false] at hw
   rcases hw with rfl | rfl | rfl | rfl | rfl | rfl | rfl | rfl | rfl | rfl
   all_goals first | exact (Ex n1).1 | exact (Ex n2).1 | exact (Ex n3).1 | exact L9 _ | exact Du (by decide)) (by simp) (by rw [e]; omega)
  rw [e] at L
  rw [Bcu, Xr, B9 hx, A5 hx, Dp k q1, Option.bind_some, Dp k q2, Option.bind_some]
  show (B0 k (_, _, _, ((1 : Nat) : Int), _)).bind _ = _
  rw [L, Option.bind_some, Cd hx (by omega)]
  rfl
 ·have L := Ew k ([59] : List Int) [([119, 101, 105, 103, 104, 116, 115] : List Int), numT a7, numT a8] false 1 b (by omega) (by
   intro w hw
   simp only [List.mem_cons, List.not_mem_nil, or_false] at hw
   rcases hw with rfl | rfl | rfl
   all_goals first | exact L9 _ | exact Du (by decide)) (by simp) (by rw [e2]; omega)
  rw [e2] at L
  rw [Bcu, Xr, Ca, Dp k (Cc q7), Option.bind_some, Dp k (Cc q8), Option.bind_some]
  show (B0 k (_, _, _, ((1 : Nat) : Int), _)).bind _ = _
  rw [L, Option.bind_some]
  rfl
 ·omega
theorem Cdh (n : NetT) (buf : List Int) (hb : netB n = true) (hl : buf.length + (([97, 114, 116, 101, 114, 121, 32, 123, 10] : List Int) ++ (n.2.2.2.2.2.2.1.flatMap Cu ++ (Cz n.2.2.2.2.2.2.2.1 n.2.2.2.2.2.2.2.2 ++ ([125, 10] : List Int)))).length ≤ 900000) :
  Le k ([([97, 114, 116, 101, 114, 121] : List Int)], false, 0, n.1, n.2.1, n.2.2.1, n.2.2.2.1, n.2.2.2.2.1, n.2.2.2.2.2.1, n.2.2.2.2.2.2.1, n.2.2.2.2.2.2.2.1, n.2.2.2.2.2.2.2.2, buf) =
   some (false, 0, n.1, n.2.1, n.2.2.1, n.2.2.2.1, n.2.2.2.2.1, n.2.2.2.2.2.1, n.2.2.2.2.2.2.1, n.2.2.2.2.2.2.2.1, n.2.2.2.2.2.2.2.2, buf ++ (([97, 114, 116, 101, 114, 121, 32, 123, 10] : List Int) ++ (n.2.2.2.2.2.2.1.flatMap Cu ++ (Cz n.2.2.2.2.2.2.2.1 n.2.2.2.2.2.2.2.2 ++ ([125, 10] : List Int))))) := by
 have e1 : Bq 0 [([97, 114, 116, 101, 114, 121] : List Int)] ([32, 123] : List Int) = ([97, 114, 116, 101, 114, 121, 32, 123, 10] : List Int) := rfl
 have e2 : Bq 0 [] ([125] : List Int) = ([125, 10] : List Int) := rfl
 simp only [List.length_append, ← Nat.add_assoc] at hl
 have L1 := Ew k ([32, 123] : List Int) [([97, 114, 116, 101, 114, 121] : List Int)] false 0 buf (by omega) (by intro w hw; rw [List.mem_singleton.1 hw]; exact Du (by decide)) (by simp) (by rw [e1]; omega)
 rw [e1] at L1
 have LG := Cdc k hk n (buf ++ ([97, 114, 116, 101, 114, 121, 32, 123, 10] : List Int)) hb (by simp only [List.length_append, ← Nat.add_assoc]; omega)
 have L2 := Ew k ([125] : List Int) [] false 0 (buf ++ ([97, 114, 116, 101, 114, 121, 32, 123, 10] : List Int) ++ (n.2.2.2.2.2.2.1.flatMap Cu ++ Cz n.2.2.2.2.2.2.2.1 n.2.2.2.2.2.2.2.2)) (by omega) (by simp) (by simp) (by rw [e2]; simp only [List.length_append, ← Nat.add_assoc]; omega)
 rw [e2] at L2
 rw [B9s, Bc1]
 show (B0 k (_, _, _, ((0 : Nat) : Int), _)).bind _ = _
 rw [L1, Option.bind_some, B8d, Bae]
 show ((Qj k (n.1, n.2.1, n.2.2.1, n.2.2.2.1, n.2.2.2.2.1, n.2.2.2.2.2.1, n.2.2.2.2.2.2.1, n.2.2.2.2.2.2.2.1, n.2.2.2.2.2.2.2.2, false, 1, buf ++ ([97, 114, 116, 101, 114, 121, 32, 123, 10] : List Int))).bind _).bind _ = _
 rw [LG, Option.bind_some, Option.bind_some]
 show (B0 k (_, _, _, ((0 : Nat) : Int), _)).bind _ = _
 rw [L2, Option.bind_some]
 simp only [List.append_assoc]
 rfl
theorem Bn9 (n : NetT) (hs : NetS n) (hb : netB n = true) : My k n = some (netT n, 0) := by
 have hT := Bgp hb
 have hr := Sr k hk n hs
 rw [hb] at hr
 have hb0 := hb
 have B2 := fun buf => Cdh k hk n buf hb
 obtain ⟨a0, a1, a2, a3, a4, a5, a6, a7, a8⟩ := n
 unfold netB at hb
 simp only [Bool.and_eq_true, List.all_eq_true] at hb
 obtain ⟨q0, q1, q2, ⟨q3, q4⟩, q7, q8, h1, h2, p1, p2⟩ := hb
 have h1 : ((a5.length : Nat) : Int) ≤ 12 := C3 h1
 simp only at B2
 have J13 : ∀ buf : List Int, buf ≠ [] → (Db k).J 13 [] (Ir (false, 0, buf)) = some (buf, 0) := by
  intro buf hne
  rw [B8e, Alo]
  unfold Acc strC
  simp only
  rw [if_neg hne]
  rfl
 have L1 := Jb 800000 a5 Ix (fun j i b => (Db k).L 7 [] j (Nt (a5, ((a5.length : Nat) : Int), i, a0, a1, a2, a3, a4, a5, a6, a7, a8, false, 0, b)))
  (fun b => bif artB (a0, a1, a2, a3, a4, a5, a6, a7, a8) then ((Le k) ([([97, 114, 116, 101, 114, 121] : List Int)], false, 0, a0, a1, a2, a3, a4, a5, a6, a7, a8, b)).bind fun o3 => (Db k).J 13 [] (Ir (o3.1, o3.2.1, o3.2.2.2.2.2.2.2.2.2.2.2)) else (Db k).J 13 [] (Ir (false, 0, b)))
  (fun j i x b hx hb => by
   rw [Bai, Xq, B9 hx, A5 hx, Cdi k hk x b (p1 x (Ei hx)) (by omega), Option.bind_some, Cd hx (by omega)])
  (fun j b hb => by
   rw [Bai, Xq, Ca, ← cor, ← cor]
   rfl) k
 have e1 : Bq 0 [([99, 121, 99, 108, 101] : List Int), numT a0, ([116, 111] : List Int), numT a1, ([98, 121] : List Int), numT a2] ([59] : List Int) ++ Bq 0 [([112, 101, 97, 107] : List Int), Em a3 a4] ([59] : List Int) = Di a0 a1 a2 a3 a4 := by
  generalize hg : Em a3 a4 = g
  simp only [Di, hg]
  (simp only [Bq, ind, Ci, Dc, Fj, pedT, pedP, Dr, Ez, foeT, foeP, Cu, Fn, Cz, Di, B8, List.flatten_cons, List.flatten_nil, List.append_nil, List.append_assoc, List.cons_append, List.nil_append])
 unfold netT artT at hT ⊢
 simp only at hT ⊢
 rw [List.length_append, ← e1, List.length_append] at hT
 have F1 := Cb8 k ([59] : List Int) [([99, 121, 99, 108, 101] : List Int), numT a0, ([116, 111] : List Int), numT a1, ([98, 121] : List Int), numT a2] 0 (by omega) (by
  intro w hw
  simp only [List.mem_cons, List.not_mem_nil, or_false] at hw
  rcases hw with rfl | rfl | rfl | rfl | rfl | rfl
  all_goals first | exact L9 _ | exact Du (by decide)) (by simp) (by omega)
 have F2 := Ew k ([59] : List Int) [([112, 101, 97, 107] : List Int), Em a3 a4] false 0 (Bq 0 [([99, 121, 99, 108, 101] : List Int), numT a0, ([116, 111] : List Int), numT a1, ([98, 121] : List Int), numT a2] ([59] : List Int)) (by omega) (by
  intro w hw
  simp only [List.mem_cons, List.not_mem_nil, or_false] at hw
  rcases hw with rfl | rfl
  ·exact Du (by decide)
  ·exact A9t _ _) (by simp) (by omega)
 rw [e1] at F2
 have hcy : (Di a0 a1 a2 a3 a4).length = (Bq 0 [([99, 121, 99, 108, 101] : List Int), numT a0, ([116, 111] : List Int), numT a1, ([98, 121] : List Int), numT a2] ([59] : List Int)).length + (Bq 0 [([112, 101, 97, 107] : List Int), Em a3 a4] ([59] : List Int)).length := by rw [← e1, List.length_append]
 rw [← hcy] at hT
 simp only [Bah, Xp, hr, Dp k (Cc q0), Dp k (Cc q1), Dp k (Cc q2), Option.bind_some, Bool.not_true, cond_false]
 have fr := A9x k (Cc q3) (Cc q4)
 show ((Ql k) (_, _, _, ((0 : Nat) : Int))).bind _ = _
 rw [F1, Option.bind_some, fr, Option.bind_some]
 show ((B0 k) (_, [_, Em a3 a4], _, ((0 : Nat) : Int), _)).bind _ = _
 rw [F2, Option.bind_some]
 rw [List.length_append] at hT
 show (Db k).L 7 [] k (Nt (a5, ((a5.length : Nat) : Int), 0, a0, a1, a2, a3, a4, a5, a6, a7, a8, false, 0, Di a0 a1 a2 a3 a4)) = _
 rw [L1 _ (by omega) (by omega)]
 cases hA : artB (a0, a1, a2, a3, a4, a5, a6, a7, a8)
 ·rw [cond_false, cond_false, J13 _ (Aq1 _ _ _ _ _ _), List.append_nil]
 ·rw [hA, cond_true] at hT
  rw [cond_true, cond_true, B2 _ (by rw [List.length_append]; omega), Option.bind_some]
  show (Db k).J 13 [] (Ir (false, 0, _)) = _
  rw [List.append_assoc, J13 _ (Aq1 _ _ _ _ _ _)]
end
theorem Bf7 {α R : Type} (w : List Int) (most : Int) (item : RS → α × RS) (hi : ∀ x, Adv x (item x).2) (F : Nat → RS → List α → Option R) (cont : RS → List α → Option R)
  (hF : ∀ j x o, EndT x.1 → o.length + x.1.length ≤ 100000 → F (j + 1) x o = bif (A6 w ((o.length : Nat) : Int) most x).1 then F j (item (A6 w ((o.length : Nat) : Int) most x).2).2 (o ++ [(item (A6 w ((o.length : Nat) : Int) most x).2).1]) else cont (A6 w ((o.length : Nat) : Int) most x).2 o) :
  ∀ (f j : Nat) (x : RS) (o : List α), x.1.length < f → x.1.length < j → EndT x.1 → o.length + x.1.length ≤ 100000 → F j x o = cont (Cs w most item f x o).2 (Cs w most item f x o).1
 | 0, j, x, o, h, _, _, _ => by omega
 | f + 1, 0, x, o, _, h, _, _ => by omega
 | f + 1, j + 1, x, o, hf, hj, g, hm => by
  rw [hF j x o g hm, Cs]
  have hb := Ij w ((o.length : Nat) : Int) most x
  cases hc : (A6 w ((o.length : Nat) : Int) most x).1
  ·rfl
  ·have hlt := Bpi hc g
   have ha := hi (A6 w ((o.length : Nat) : Int) most x).2
   have hl := ha.l
   simp only [cond_true]
   exact Bf7 w most item hi F cont hF f j _ _ (by omega) (by omega) (ha.g (hb.g g)) (by simp; omega)
theorem Kn {α R : Type} {w : List Int} {most : Int} {item : RS → α × RS} (hi : ∀ x, Adv x (item x).2) (F : Nat → RS → List α → Option R) (cont : RS → List α → Option R)
  (hF : ∀ j x o, EndT x.1 → o.length + x.1.length ≤ 100000 → F (j + 1) x o = bif (A6 w ((o.length : Nat) : Int) most x).1 then F j (item (A6 w ((o.length : Nat) : Int) most x).2).2 (o ++ [(item (A6 w ((o.length : Nat) : Int) most x).2).1]) else cont (A6 w ((o.length : Nat) : Int) most x).2 o)
  (k : Nat) (hk : 200000 ≤ k) (x : RS) (g : EndT x.1) (hm : x.1.length ≤ 100000) : F k x [] = cont (Aw w most item x).2 (Aw w most item x).1 :=
 Bf7 w most item hi F cont hF _ k x [] (by omega) (by omega) g (by simpa using hm)
section
variable (k : Nat) (hk : 200000 ≤ k)
include hk
theorem Cbh (x : RS) (g : EndT x.1) : Vx k (x.1, x.2.1, x.2.2) = some ((Bf x).1.1, (Bf x).1.2.1, (Bf x).1.2.2.1, (Bf x).1.2.2.2.1.1, (Bf x).1.2.2.2.1.2.1, (Bf x).1.2.2.2.2.1, (Bf x).1.2.2.2.2.2.1, (Bf x).1.2.2.2.2.2.2.1, (Bf x).1.2.2.2.2.2.2.2.1, (Bf x).1.2.2.2.2.2.2.2.2.1, (Bf x).1.2.2.2.2.2.2.2.2.2.1, (Bf x).2.1, (Bf x).2.2.1, (Bf x).2.2.2) := by
 have g1 := (B1 x).g g
 have g2 := (Bm ([118, 111, 108, 117, 109, 101] : List Int) _).g g1
 have g3 := (Bm ([102, 108, 111, 119] : List Int) _).g g2
 have g4 := (S6 ([117, 115, 101] : List Int) _).g g3
 have g5 := (Bm ([115, 112, 101, 101, 100] : List Int) _).g g4
 have g6 := (Bo ([103, 114, 97, 100, 101] : List Int) _).g g5
 rw [B69, Akb, A3 g.ne, Ga k (by omega) x g, Option.bind_some, Dy k _ g1, Option.bind_some, Dy k _ g2, Option.bind_some, A9w k _ g3, Option.bind_some, Dy k _ g4, Option.bind_some, Dg k _ g5, Option.bind_some, L0 k _ g6, Option.bind_some, Iw k _ g6, Option.bind_some]
 unfold Bf
 simp only
 generalize Ah x = n at *
 generalize numR ([118, 111, 108, 117, 109, 101] : List Int) n.2 = v at *
 generalize numR ([102, 108, 111, 119] : List Int) v.2 = s at *
 generalize Dk ([117, 115, 101] : List Int) s.2 = u at *
 generalize numR ([115, 112, 101, 101, 100] : List Int) u.2 = p at *
 generalize Aj ([103, 114, 97, 100, 101] : List Int) p.2 = q at *
 have J14 : ∀ (y : RS) (z : Int), EndT y.1 → (D4 k).J 14 [] (Nl (y.1, y.2.1, y.2.2, ([] : List Int), (0 : Int), (0 : Int), (0 : Int), (0 : Int), (0 : Int), (0 : Int), (0 : Int), (0 : Int), (0 : Int), (0 : Int), n.1, v.1, s.1, u.1.1, u.1.2, p.1, z, (0 : Int), (0 : Int), (0 : Int), (hd x.1).2.2.2.1)) =
   some (n.1, v.1, s.1, u.1.1, u.1.2, p.1, z, (numR ([119, 105, 100, 116, 104] : List Int) y).1, (numR ([108, 101, 110, 103, 116, 104] : List Int) (numR ([119, 105, 100, 116, 104] : List Int) y).2).1, (numR ([103, 114, 101, 101, 110] : List Int) (numR ([108, 101, 110, 103, 116, 104] : List Int) (numR ([119, 105, 100, 116, 104] : List Int) y).2).2).1, (hd x.1).2.2.2.1,
    (Aj ([59] : List Int) (numR ([103, 114, 101, 101, 110] : List Int) (numR ([108, 101, 110, 103, 116, 104] : List Int) (numR ([119, 105, 100, 116, 104] : List Int) y).2).2).2).1, (Aj ([59] : List Int) (numR ([103, 114, 101, 101, 110] : List Int) (numR ([108, 101, 110, 103, 116, 104] : List Int) (numR ([119, 105, 100, 116, 104] : List Int) y).2).2).2).2.1, (Aj ([59] : List Int) (numR ([103, 114, 101, 101, 110] : List Int) (numR ([108, 101, 110, 103, 116, 104] : List Int) (numR ([119, 105, 100, 116, 104] : List Int) y).2).2).2).2.2) := by
  intro y z gy
  have h1 := (Bm ([119, 105, 100, 116, 104] : List Int) _).g gy
  have h2 := (Bm ([108, 101, 110, 103, 116, 104] : List Int) _).g h1
  have h3 := (Bm ([103, 114, 101, 101, 110] : List Int) _).g h2
  rw [B7b, Akd, Dy k _ gy, Option.bind_some, Dy k _ h1, Option.bind_some, Dy k _ h2, Option.bind_some, Dg k _ h3, Option.bind_some]
 have J11 : ∀ (c : Bool) (y : RS), EndT y.1 → (D4 k).J 11 [] (R1 (c, y.1, y.2.1, y.2.2, ([] : List Int), (0 : Int), (0 : Int), (0 : Int), (0 : Int), (0 : Int), (0 : Int), (0 : Int), (0 : Int), (0 : Int), (0 : Int), n.1, v.1, s.1, u.1.1, u.1.2, p.1, (0 : Int), (0 : Int), (0 : Int), (0 : Int), (hd x.1).2.2.2.1)) =
   (D4 k).J 14 [] (Nl ((numR [] y).2.1, (numR [] y).2.2.1, (numR [] y).2.2.2, ([] : List Int), (0 : Int), (0 : Int), (0 : Int), (0 : Int), (0 : Int), (0 : Int), (0 : Int), (0 : Int), (0 : Int), (0 : Int), n.1, v.1, s.1, u.1.1, u.1.2, p.1, (bif c then negI .i64 (numR [] y).1 else (numR [] y).1), (0 : Int), (0 : Int), (0 : Int), (hd x.1).2.2.2.1)) := by
  intro c y gy
  rw [B7a, Akc, Dy k _ gy, Option.bind_some]
  cases c <;> simp only [cond_true, cond_false]
 cases hq : Ay ([45] : List Int) q
 ·simp only [cond_false]
  rw [J11 false q g6, J14 (numR [] q).2 _ ((Bm [] q).g g6)]
  rfl
 ·simp only [cond_true]
  have g7 := (Eh q).g g6
  rw [J11 true (A1 q) g7, J14 (numR [] (A1 q)).2 _ ((Bm [] _).g g7)]
  rfl
theorem Cg2 (x : RS) (g : EndT x.1) : V1 k (x.1, x.2.1, x.2.2) = some ((Bx x).1.1, (Bx x).1.2.1, (Bx x).1.2.2.1, (Bx x).1.2.2.2.1, (Bx x).1.2.2.2.2.1, (Bx x).1.2.2.2.2.2.1, (Bx x).2.1, (Bx x).2.2.1, (Bx x).2.2.2) := by
 have g1 := (B1 x).g g
 have g2 := (Bo ([119, 105, 116, 104] : List Int) _).g g1
 have g3 := (B1 _).g g2
 have g4 := (Bm ([108, 111, 110, 103] : List Int) _).g g3
 have g5 := (Bm ([112, 97, 99, 101] : List Int) _).g g4
 have g6 := (Bm ([108, 101, 97, 115, 116] : List Int) _).g g5
 rw [B70, A9i, A3 g.ne, Ga k (by omega) x g, Option.bind_some, Dg k _ g1, Option.bind_some, Ga k (by omega) _ g2, Option.bind_some, Dy k _ g3, Option.bind_some, Dy k _ g4, Option.bind_some, Dy k _ g5, Option.bind_some, Dg k _ g6, Option.bind_some]
 rfl
theorem Cbb (x : RS) (g : EndT x.1) (hl : x.1.length ≤ 100000) : Vw k (x.1, x.2.1, x.2.2) = some ((Cx x).2.1, (Cx x).2.2.1, (Cx x).2.2.2, (Cx x).1.1) := by
 have g1 := (Bo ([123] : List Int) x).g g
 have l1 := (Bo ([123] : List Int) x).l
 have L := Kn (w := ([114, 105, 110, 103] : List Int)) (most := 2) S8 (fun j x o => (C1 k).L 5 [] j (Ip (x.1, x.2.1, x.2.2, o))) (fun y o => some ((Aj ([125] : List Int) y).1, (Aj ([125] : List Int) y).2.1, (Aj ([125] : List Int) y).2.2, o))
  (fun j x o g hm => by
   have hb := Ij ([114, 105, 110, 103] : List Int) ((o.length : Nat) : Int) 2 x
   have gb := hb.g g
   have lb := hb.l
   rw [B67, Aj7, J7 k x g, Option.bind_some]
   generalize A6 ([114, 105, 110, 103] : List Int) ((o.length : Nat) : Int) 2 x = y at *
   simp only
   rw [L0 k y.2 gb, Option.bind_some, Iw k y.2 gb, Option.bind_some, Dg k y.2 gb, Option.bind_some]
   have J10 : ∀ (c : Bool) (z : RS), EndT z.1 → z.1.length ≤ 100000 → (C1 k).J 10 [j] (R0 (z.1, z.2.1, z.2.2, c, o)) = (C1 k).L 5 [] j (Ip ((Cg 4 z).2.1, (Cg 4 z).2.2.1, (Cg 4 z).2.2.2, o ++ [(c, (Cg 4 z).1, ())])) := by
    intro c z gz lz
    rw [B66, Aj6, Bgk k (by omega) 4 z gz (by omega) (by omega), Option.bind_some, Ce (by simp; omega) (by simp; omega)]
   cases y.1
   ·rfl
   ·simp only [cond_true]
    unfold Dz
    cases hs : Ay ([102, 114, 101, 101] : List Int) y.2
    ·simp only [cond_false]
     rw [J10 false y.2 gb (by omega)]
    ·have hn := Eh y.2
     have ln := hn.l
     simp only [cond_true]
     rw [J10 true (A1 y.2) (hn.g gb) (by omega)]) k hk
 rw [B65, Aj5, Dg k x g, Option.bind_some, L0 k _ g1, Option.bind_some, Kf k _ g1, Option.bind_some]
 unfold Cx
 simp only
 generalize Aj ([123] : List Int) x = a at *
 cases Ay ([114, 105, 110, 103] : List Int) a
 ·have hf := Fs 50 a
  have lf := hf.l
  simp only [Bool.not_false, cond_true, cond_false]
  rw [A8n, Xe]
  exact L (A2 50 a) (hf.g g1) (by omega)
 ·simp only [Bool.not_true, cond_true, cond_false]
  rw [A8n, Xe]
  exact L a g1 (by omega)
end
section
variable (k : Nat) (hk : 200000 ≤ k)
include hk
theorem Ccr (x : RS) (g : EndT x.1) (hl : x.1.length ≤ 100000) : Vz k (x.1, x.2.1, x.2.2) =
  some ((Bv x).1.1, (Bv x).1.2.2.2.2.2.2.1, (Bv x).2.1, (Bv x).2.2.1, (Bv x).2.2.2, (Bv x).1.2.1, (Bv x).1.2.2.1, (Bv x).1.2.2.2.1, (Bv x).1.2.2.2.2.1, (Bv x).1.2.2.2.2.2.1) := by
 have g1 := (B1 x).g g
 have l1 := (B1 x).l
 have a2 := Bo ([123] : List Int) (Ah x).2
 have g2 := a2.g g1
 have l2 := a2.l
 rw [B7n, Aku, A3 g.ne, Ga k (by omega) x g, Option.bind_some, Dg k _ g1, Option.bind_some]
 unfold Bv
 simp only
 generalize Ah x = n at *
 generalize Aj ([123] : List Int) n.2 = q at *
 generalize (hd x.1).2.2.2.1 = ps
 have L5 := fun (hs : List YT1) (ws : List YT2) (xs : List YT3) (gs : List (List YT4 × Unit)) => Kn (w := ([102, 111, 101] : List Int)) (most := 64) S5 (fun j x o => (Br k).L 16 [] j (Nn (x.1, x.2.1, x.2.2, [], 0, n.1, ps, hs, ws, xs, gs, o)))
  (fun y o => some (n.1, ps, (Aj ([125] : List Int) y).1, (Aj ([125] : List Int) y).2.1, (Aj ([125] : List Int) y).2.2, hs, ws, xs, gs, o))
  (fun j x o g hm => by
   have hb := Ij ([102, 111, 101] : List Int) ((o.length : Nat) : Int) 64 x
   have gb := hb.g g
   rw [B7p, Akw, J7 k x g, Option.bind_some]
   generalize A6 ([102, 111, 101] : List Int) ((o.length : Nat) : Int) 64 x = y at *
   simp only
   cases y.1
   ·simp only [cond_false]
    rw [Dg k y.2 gb, Option.bind_some]
   ·have h1 := (B1 y.2).g gb
    have h2 := (B1 _).g h1
    simp only [cond_true]
    rw [A3 gb.ne, Ga k (by omega) _ gb, Option.bind_some, Ga k (by omega) _ h1, Option.bind_some, Dg k _ h2, Option.bind_some, Ce (by simp; omega) (by simp; omega)]
    rfl) k hk
 have L4 := fun (hs : List YT1) (ws : List YT2) (xs : List YT3) => Kn (w := ([103, 114, 111, 117, 112] : List Int)) (most := 4) O0 (fun j x o => (Br k).L 14 [] j (Nm (x.1, x.2.1, x.2.2, [], 0, n.1, ps, hs, ws, xs, o)))
  (fun y o => (Br k).L 16 [] k (Nn (y.1, y.2.1, y.2.2, [], 0, n.1, ps, hs, ws, xs, o, [])))
  (fun j x o g hm => by
   have hb := Ij ([103, 114, 111, 117, 112] : List Int) ((o.length : Nat) : Int) 4 x
   have gb := hb.g g
   have lb := hb.l
   rw [B7o, Akv, J7 k x g, Option.bind_some]
   generalize A6 ([103, 114, 111, 117, 112] : List Int) ((o.length : Nat) : Int) 4 x = y at *
   simp only
   cases y.1
   ·simp only [cond_false]
   ·simp only [cond_true]
    rw [Cbb k hk _ gb (by omega), Option.bind_some, Ce (by simp; omega) (by simp; omega)]) k hk
 have L3 := fun (hs : List YT1) (ws : List YT2) => Kn (w := ([112, 104, 97, 115, 101] : List Int)) (most := 16) O2 (fun j x o => (Br k).L 8 [] j (Np (x.1, x.2.1, x.2.2, [], 0, n.1, ps, hs, ws, o)))
  (fun y o => (Br k).L 14 [] k (Nm (y.1, y.2.1, y.2.2, [], 0, n.1, ps, hs, ws, o, [])))
  (fun j x o g hm => by
   have hb := Ij ([112, 104, 97, 115, 101] : List Int) ((o.length : Nat) : Int) 16 x
   have gb := hb.g g
   have lb := hb.l
   rw [B7s, Akz, J7 k x g, Option.bind_some]
   generalize A6 ([112, 104, 97, 115, 101] : List Int) ((o.length : Nat) : Int) 16 x = y at *
   simp only
   cases y.1
   ·simp only [cond_false]
   ·have a1 := (B1 y.2)
    have a2 := (Bo ([58] : List Int) (Ah y.2).2)
    have la := a1.l
    have lw := a2.l
    simp only [cond_true]
    rw [A3 gb.ne, Ga k (by omega) _ gb, Option.bind_some, Dg k _ (a1.g gb), Option.bind_some, Bgk k (by omega) 16 _ (a2.g (a1.g gb)) (by omega) (by omega), Option.bind_some, Ce (by simp; omega) (by simp; omega)]
    rfl) k hk
 have L2 := fun (hs : List YT1) => Kn (w := ([119, 97, 108, 107] : List Int)) (most := 8) O3 (fun j x o => (Br k).L 6 [] j (No (x.1, x.2.1, x.2.2, [], 0, n.1, ps, hs, o)))
  (fun y o => (Br k).L 8 [] k (Np (y.1, y.2.1, y.2.2, [], 0, n.1, ps, hs, o, [])))
  (fun j x o g hm => by
   have hb := Ij ([119, 97, 108, 107] : List Int) ((o.length : Nat) : Int) 8 x
   have gb := hb.g g
   rw [B7r, Aky, J7 k x g, Option.bind_some]
   generalize A6 ([119, 97, 108, 107] : List Int) ((o.length : Nat) : Int) 8 x = y at *
   simp only
   cases y.1
   ·simp only [cond_false]
   ·simp only [cond_true]
    rw [Cg2 k hk _ gb, Option.bind_some, Ce (by simp; omega) (by simp; omega)]) k hk
 have L1 := Kn (w := ([104, 101, 97, 100] : List Int)) (most := 16) O1 (fun j x o => (Br k).L 4 [] j (R3 (x.1, x.2.1, x.2.2, [], 0, n.1, ps, o)))
  (fun y o => (Br k).L 6 [] k (No (y.1, y.2.1, y.2.2, [], 0, n.1, ps, o, [])))
  (fun j x o g hm => by
   have hb := Ij ([104, 101, 97, 100] : List Int) ((o.length : Nat) : Int) 16 x
   have gb := hb.g g
   rw [B7q, Akx, J7 k x g, Option.bind_some]
   generalize A6 ([104, 101, 97, 100] : List Int) ((o.length : Nat) : Int) 16 x = y at *
   simp only
   cases y.1
   ·simp only [cond_false]
   ·simp only [cond_true]
    rw [Cbh k hk _ gb, Option.bind_some, Ce (by simp; omega) (by simp; omega)]) k hk
 have b1 := Fa (w := ([104, 101, 97, 100] : List Int)) (most := 16) O1 q
 have b2 := Fa (w := ([119, 97, 108, 107] : List Int)) (most := 8) O3 (Aw ([104, 101, 97, 100] : List Int) 16 Bf q).2
 have b3 := Fa (w := ([112, 104, 97, 115, 101] : List Int)) (most := 16) O2 (Aw ([119, 97, 108, 107] : List Int) 8 Bx (Aw ([104, 101, 97, 100] : List Int) 16 Bf q).2).2
 have b4 := Fa (w := ([103, 114, 111, 117, 112] : List Int)) (most := 4) O0 (Aw ([112, 104, 97, 115, 101] : List Int) 16 Dq (Aw ([119, 97, 108, 107] : List Int) 8 Bx (Aw ([104, 101, 97, 100] : List Int) 16 Bf q).2).2).2
 have c1 := b1.l
 have c2 := b2.l
 have c3 := b3.l
 have c4 := b4.l
 have d1 := b1.g g2
 have d2 := b2.g d1
 have d3 := b3.g d2
 have d4 := b4.g d3
 have E1 := L1 q g2 (by omega)
 have E2 := L2 (Aw ([104, 101, 97, 100] : List Int) 16 Bf q).1 _ d1 (by omega)
 have E3 := L3 (Aw ([104, 101, 97, 100] : List Int) 16 Bf q).1 (Aw ([119, 97, 108, 107] : List Int) 8 Bx (Aw ([104, 101, 97, 100] : List Int) 16 Bf q).2).1 _ d2 (by omega)
 have E4 := L4 (Aw ([104, 101, 97, 100] : List Int) 16 Bf q).1 (Aw ([119, 97, 108, 107] : List Int) 8 Bx (Aw ([104, 101, 97, 100] : List Int) 16 Bf q).2).1 (Aw ([112, 104, 97, 115, 101] : List Int) 16 Dq (Aw ([119, 97, 108, 107] : List Int) 8 Bx (Aw ([104, 101, 97, 100] : List Int) 16 Bf q).2).2).1 _ d3 (by omega)
 have E5 := L5 (Aw ([104, 101, 97, 100] : List Int) 16 Bf q).1 (Aw ([119, 97, 108, 107] : List Int) 8 Bx (Aw ([104, 101, 97, 100] : List Int) 16 Bf q).2).1 (Aw ([112, 104, 97, 115, 101] : List Int) 16 Dq (Aw ([119, 97, 108, 107] : List Int) 8 Bx (Aw ([104, 101, 97, 100] : List Int) 16 Bf q).2).2).1 (Aw ([103, 114, 111, 117, 112] : List Int) 4 Cx (Aw ([112, 104, 97, 115, 101] : List Int) 16 Dq (Aw ([119, 97, 108, 107] : List Int) 8 Bx (Aw ([104, 101, 97, 100] : List Int) 16 Bf q).2).2).2).1 _ d4 (by omega)
 exact E1.trans (E2.trans (E3.trans (E4.trans E5)))
theorem Bo4 (x : RS) (g : EndT x.1) (hl : x.1.length ≤ 100000) : Vs k (x.1, x.2.1, x.2.2) =
  some ((B5 x).1.2.1, (B5 x).1.2.2, (B5 x).2.1, (B5 x).2.2.1, (B5 x).2.2.2, (B5 x).1.1) := by
 have g1 := (Bo ([123] : List Int) x).g g
 have l1 := (Bo ([123] : List Int) x).l
 have L := Kn (w := ([115, 116, 111, 112] : List Int)) (most := 12) S9 (fun j x o => (Hu k).L 3 [] j (Ry (x.1, x.2.1, x.2.2, o)))
  (fun y o => some ((numR ([119, 101, 105, 103, 104, 116, 115] : List Int) y).1, (numR [] (numR ([119, 101, 105, 103, 104, 116, 115] : List Int) y).2).1, (Aj ([125] : List Int) (Aj ([59] : List Int) (numR [] (numR ([119, 101, 105, 103, 104, 116, 115] : List Int) y).2).2)).1, (Aj ([125] : List Int) (Aj ([59] : List Int) (numR [] (numR ([119, 101, 105, 103, 104, 116, 115] : List Int) y).2).2)).2.1, (Aj ([125] : List Int) (Aj ([59] : List Int) (numR [] (numR ([119, 101, 105, 103, 104, 116, 115] : List Int) y).2).2)).2.2, o))
  (fun j x o g hm => by
   have hb := Ij ([115, 116, 111, 112] : List Int) ((o.length : Nat) : Int) 12 x
   have gb := hb.g g
   rw [B6x, Ajy, J7 k x g, Option.bind_some]
   generalize A6 ([115, 116, 111, 112] : List Int) ((o.length : Nat) : Int) 12 x = y at *
   simp only
   cases y.1
   ·have h1 := (Bm ([119, 101, 105, 103, 104, 116, 115] : List Int) y.2).g gb
    have h2 := (Bm [] _).g h1
    have h3 := (Bo ([59] : List Int) _).g h2
    simp only [cond_false]
    rw [Dy k y.2 gb, Option.bind_some, Dy k _ h1, Option.bind_some, Dg k _ h2, Option.bind_some, Dg k _ h3, Option.bind_some]
   ·have h1 := (B1 y.2).g gb
    have h2 := (Bo ([111, 117, 116] : List Int) _).g h1
    have h3 := (B1 _).g h2
    have h4 := (Bo ([105, 110] : List Int) _).g h3
    have h5 := (B1 _).g h4
    have h6 := (Bm ([97, 104, 101, 97, 100] : List Int) _).g h5
    have h7 := (Bm ([98, 97, 99, 107] : List Int) _).g h6
    simp only [cond_true]
    rw [A3 gb.ne, Ga k (by omega) _ gb, Option.bind_some, Dg k _ h1, Option.bind_some, Ga k (by omega) _ h2, Option.bind_some, Dg k _ h3, Option.bind_some, Ga k (by omega) _ h4, Option.bind_some, Dy k _ h5, Option.bind_some, Dy k _ h6, Option.bind_some, Dg k _ h7, Option.bind_some, Ce (by simp; omega) (by simp; omega)]
    rfl) k hk
 rw [B6w, Ajx, Dg k x g, Option.bind_some]
 exact L (Aj ([123] : List Int) x) g1 (by omega)
theorem Cdb (b : List Int) (hb : b.length < 100000) : Vq k b =
  some ((Bt b).1.1, (Bt b).1.2.1, (Bt b).1.2.2.1, (Bt b).1.2.2.2.1, (Bt b).1.2.2.2.2.1, (Bt b).1.2.2.2.2.2.2.2.1, (Bt b).1.2.2.2.2.2.2.2.2, (Bt b).2.1, (Bt b).2.2, (Bt b).1.2.2.2.2.2.1, (Bt b).1.2.2.2.2.2.2.1) := by
 rw [B6l, Ai7, Cfu k b (by omega) (by omega), Option.bind_some]
 unfold Bt
 by_cases h0 : (toks b).1 = 0
 ·obtain ⟨g, hl⟩ := Boi h0
  rw [show ((toks b).1 != 0) = false by simpa using h0]
  simp only [cond_false]
  generalize (toks b).2.2 = l at *
  have g : EndT (l, (0 : Int), (0 : Int)).1 := g
  have hl : (l, (0 : Int), (0 : Int)).1.length ≤ b.length + 1 := hl
  have N0 := Ccu k (l, (0 : Int), (0 : Int)) g ([99, 121, 99, 108, 101] : List Int)
  simp only at N0
  rw [N0, Option.bind_some]
  clear N0
  generalize (l, (0 : Int), (0 : Int)) = x at *
  have b1 := Bm ([99, 121, 99, 108, 101] : List Int) x
  have b2 := b1.trans (Bm ([116, 111] : List Int) _)
  have b3 := b2.trans (Bm ([98, 121] : List Int) _)
  have b4 := b3.trans (Bo ([59] : List Int) _)
  have b5 := b4.trans (S6 ([112, 101, 97, 107] : List Int) _)
  have b6 := b5.trans (Bo ([59] : List Int) _)
  rw [Dy k _ (b1.g g), Option.bind_some, Dy k _ (b2.g g), Option.bind_some, Dg k _ (b3.g g), Option.bind_some, A9w k _ (b4.g g), Option.bind_some, Dg k _ (b5.g g), Option.bind_some]
  have g6 := b6.g g
  have l6 := b6.l
  unfold netR
  simp only
  clear b1 b2 b3 b4 b5 b6
  generalize numR ([99, 121, 99, 108, 101] : List Int) x = r1 at *
  generalize numR ([116, 111] : List Int) r1.2 = r2 at *
  generalize numR ([98, 121] : List Int) r2.2 = r3 at *
  generalize Dk ([112, 101, 97, 107] : List Int) (Aj ([59] : List Int) r3.2) = r4 at *
  generalize Aj ([59] : List Int) r4.2 = q at *
  have L := Kn (w := ([110, 111, 100, 101] : List Int)) (most := 12) S7 (fun j x o => (Da k).L 12 [] j (Rw (0, 0, 0, 0, 0, 0, 0, x.1, x.2.1, x.2.2, r1.1, r2.1, r3.1, r4.1.1, r4.1.2, 0, 0, o)))
   (fun y o =>
    let t := bif Ay ([97, 114, 116, 101, 114, 121] : List Int) y then B5 (A1 y) else (([], 0, 0), y)
    let z := bif (hd t.2.1).1 != 0 then A2 50 t.2 else t.2
    bif z.2.1 != 0 then some (0, 0, 0, 0, 0, 0, 0, z.2.1, z.2.2, [], []) else some (r1.1, r2.1, r3.1, r4.1.1, r4.1.2, t.1.2.1, t.1.2.2, 0, 0, o, t.1.1))
   (fun j x o g hm => by
    have hb := Ij ([110, 111, 100, 101] : List Int) ((o.length : Nat) : Int) 12 x
    have gb := hb.g g
    have lb := hb.l
    rw [B6n, Ai9, J7 k x g, Option.bind_some]
    generalize A6 ([110, 111, 100, 101] : List Int) ((o.length : Nat) : Int) 12 x = y at *
    simp only
    cases y.1
    ·simp only [cond_false]
     rw [L0 k y.2 gb, Option.bind_some, Iw k y.2 gb, Option.bind_some]
     have J20 : ∀ (w : RS) (a b : Int) (st : List YT7), EndT w.1 → (Da k).J 20 [] (Rx (0, 0, 0, 0, 0, 0, 0, w.1, w.2.1, w.2.2, r1.1, r2.1, r3.1, r4.1.1, r4.1.2, a, b, o, st)) =
       bif (bif (hd w.1).1 != 0 then A2 50 w else w).2.1 != 0 then some (0, 0, 0, 0, 0, 0, 0, (bif (hd w.1).1 != 0 then A2 50 w else w).2.1, (bif (hd w.1).1 != 0 then A2 50 w else w).2.2, [], []) else some (r1.1, r2.1, r3.1, r4.1.1, r4.1.2, a, b, 0, 0, o, st) := by
      intro w a b st gw
      rw [B6m, Ai8, A3 gw.ne, Kf k w gw, Option.bind_some]
      cases (hd w.1).1 != 0
      ·simp only [cond_false]
       rw [A7w, W7]
      ·simp only [cond_true]
       rw [A7w, W7]
     cases Ay ([97, 114, 116, 101, 114, 121] : List Int) y.2
     ·simp only [cond_false]
      exact J20 y.2 0 0 [] gb
     ·have hn := Eh y.2
      have ln := hn.l
      simp only [cond_true]
      rw [Bo4 k hk _ (hn.g gb) (by omega), Option.bind_some]
      exact J20 (B5 (A1 y.2)).2 _ _ _ ((Aph _).g (hn.g gb))
    ·simp only [cond_true]
     rw [Ccr k hk _ gb (by omega), Option.bind_some, Ce (by simp; omega) (by simp; omega)]) k hk
  have E := L q g6 (by omega)
  simp only at E
  refine E.trans ?_
  generalize Aw ([110, 111, 100, 101] : List Int) 12 Bv q = m
  generalize (bif Ay ([97, 114, 116, 101, 114, 121] : List Int) m.2 then B5 (A1 m.2) else (([], 0, 0), m.2)) = t
  generalize (bif (hd t.2.1).1 != 0 then A2 50 t.2 else t.2) = z
  cases z.2.1 != 0 <;> rfl
 ·rw [show ((toks b).1 != 0) = true by simpa using h0]
  rfl
end
end Go.Proofs.YtipcabmhdokfjaaGreatDoorV
