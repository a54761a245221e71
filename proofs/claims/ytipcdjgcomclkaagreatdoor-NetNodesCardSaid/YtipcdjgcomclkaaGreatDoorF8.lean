import Derived.Test.YtipcdjgcomclkaaGreatDoorF7
import Derived.Test.YtipcdjgcomclkaaGreatDoorF5
/-! Joined, names shortened: QC, QE, QD, SR3, SF, XJ, ST, SX, SY, SZ, SW, NT, NU, PL, PM, PN, PQ, PR, PS, PT, PU, PV, PW, QI. -/
set_option linter.unusedVariables false
set_option linter.unusedSimpArgs false
set_option maxRecDepth 100000
namespace Go.Proofs.YtipcdjgcomclkaaGreatDoorV
open Go Go.RowKit
theorem Bhu (k : Nat) (hk : 200000 ≤ k) {l0 : List Tk} (r0 : Rdy l0) (m0 : l0.length ≤ 100000) (a1 : _) (a2 : _) : Sim (O7 k ((16 : Int), a1, a2, l0)) (fun o => (o.1, o.2.1, o.2.2.1, o.2.2.2.2.2.2.1)) (B3 (16 : Int) (l0, 0, 0)).2 (fun r => (r.2.2.2.1, r.2.2.2.2.1, r.2.2.2.2.2.1, r.2.2.2.2.2.2.2) = ((16 : Int), a1, a2, (B3 (16 : Int) (l0, 0, 0)).1)) := by
 rw [Bbz, Yp]
 have hz : ((((([] : List (List Int)).length : Nat) : Int) == (16 : Int)) && ((hd l0).1 == 1 && !(resB (hd l0).2.1))) = false := rfl
 have h := Abi (16 : Int) (fun j l o => (Fk k).L 1 [] j (Ke ((16 : Int), a1, a2, l, o))) (fun o => (o.1, o.2.1, o.2.2.1, o.2.2.2.2.2.2.1)) (fun r o => (r.2.2.2.1, r.2.2.2.2.1, r.2.2.2.2.2.1, r.2.2.2.2.2.2.2) = ((16 : Int), a1, a2, o)) (fun j l o r ho hmo hn => ?_) (fun j l o r ho hn => ?_) (fun j l o r rn ho hmo hn hc => ?_) (fun j l o r rn ho hmo hn hc => ?_) ((Ai (l0, 0, 0)).2.1.length + 1) k l0 [] r0 ?_ (by omega) (by rw [List.length_nil]; omega)
 ·rw [hz, cond_false] at h
  exact h
 ·rw [Ql, Kf, hmo, beq_self_eq_true, cond_true, Rt k r, Option.bind_some, hn, cond_true, Bb k r, Option.bind_some]
  exact ⟨_, rfl, rfl⟩
 ·rw [Ql, Kf, Rt k r, hn]
  simp only [Option.bind_some, cond_false, ite_self, Kb, I3, Ka, I2, K5 k r, Cl, hn]
  cases (((o.length : Nat) : Int) == (16 : Int)) <;> exact ⟨_, rfl, rfl⟩
 ·have hmo2 : (((o.length : Nat) : Int) == (16 : Int)) = false := by simpa using hmo
  have hc2 : ((hd (nx l)).2.1 == [44]) = false := by simpa using hc
  rw [Ql, Kf, hmo2]
  simp only [Option.bind_some, cond_false, Kb, I3, Ka, I2, K5 k r, Cl, hn, cond_true, beq_self_eq_true, Bool.not_true]
  rw [Ec (by rw [List.length_singleton]; omega) (by rw [List.length_singleton]; omega)]
  simp only [Bo k rn, Option.bind_some, hc2, Bool.not_false, cond_true, Eh, Dz, Air, X1, Bj k rn [59] ⟨_, _, rfl, rfl⟩]
  have s := Bi rn [59]
  generalize Aj [59] (nx l, 0, 0) = y at s ⊢
  rcases s with ⟨l2, e, p, h⟩ | ⟨l2, r2, n2⟩
  ·have he : (e == 0) = false := by simpa using h
   simp only [he, Bool.not_false, cond_true, Option.bind_some]
   exact ⟨_, rfl, rfl, rfl⟩
  ·simp only [beq_self_eq_true, Bool.not_true, cond_false, Option.bind_some]
   exact ⟨_, rfl, rfl, rfl⟩
 ·have hmo2 : (((o.length : Nat) : Int) == (16 : Int)) = false := by simpa using hmo
  have hc2 : ((hd (nx l)).2.1 == [44]) = true := by simpa using hc
  rw [Ql, Kf, hmo2]
  simp only [Option.bind_some, cond_false, Kb, I3, Ka, I2, K5 k r, Cl, hn, cond_true, beq_self_eq_true, Bool.not_true]
  rw [Ec (by rw [List.length_singleton]; omega) (by rw [List.length_singleton]; omega)]
  simp only [Bo k rn, Option.bind_some, hc2, Bool.not_true, cond_false, A6 k rn]
 ·rw [Cl]
  cases hn : (hd l0).1 == 1 && !(resB (hd l0).2.1)
  ·show l0.length ≤ l0.length + 1
   omega
  ·show l0.length ≤ (nx l0).length + 1
   have := Ri r0 (by simp only [Bool.and_eq_true, beq_iff_eq] at hn; omega)
   omega
theorem Bht (k : Nat) (hk : 200000 ≤ k) {l0 : List Tk} (r0 : Rdy l0) (m0 : l0.length ≤ 100000) (a1 : _) : Sim (O8 k ((4 : Int), a1, l0)) (fun o => (o.1, o.2.1, o.2.2.1, o.2.2.2.2.2.1)) (B3 (4 : Int) (l0, 0, 0)).2 (fun r => (r.2.2.2.1, r.2.2.2.2.1, r.2.2.2.2.2.2) = ((4 : Int), a1, (B3 (4 : Int) (l0, 0, 0)).1)) := by
 rw [Bbx, Yl]
 have hz : ((((([] : List (List Int)).length : Nat) : Int) == (4 : Int)) && ((hd l0).1 == 1 && !(resB (hd l0).2.1))) = false := rfl
 have h := Abi (4 : Int) (fun j l o => (Fl k).L 1 [] j (Kc ((4 : Int), a1, l, o))) (fun o => (o.1, o.2.1, o.2.2.1, o.2.2.2.2.2.1)) (fun r o => (r.2.2.2.1, r.2.2.2.2.1, r.2.2.2.2.2.2) = ((4 : Int), a1, o)) (fun j l o r ho hmo hn => ?_) (fun j l o r ho hn => ?_) (fun j l o r rn ho hmo hn hc => ?_) (fun j l o r rn ho hmo hn hc => ?_) ((Ai (l0, 0, 0)).2.1.length + 1) k l0 [] r0 ?_ (by omega) (by rw [List.length_nil]; omega)
 ·rw [hz, cond_false] at h
  exact h
 ·rw [Qk, Kd, hmo, beq_self_eq_true, cond_true, Rt k r, Option.bind_some, hn, cond_true, Bb k r, Option.bind_some]
  exact ⟨_, rfl, rfl⟩
 ·rw [Qk, Kd, Rt k r, hn]
  simp only [Option.bind_some, cond_false, ite_self, Kb, I3, Ka, I2, K5 k r, Cl, hn]
  cases (((o.length : Nat) : Int) == (4 : Int)) <;> exact ⟨_, rfl, rfl⟩
 ·have hmo2 : (((o.length : Nat) : Int) == (4 : Int)) = false := by simpa using hmo
  have hc2 : ((hd (nx l)).2.1 == [44]) = false := by simpa using hc
  rw [Qk, Kd, hmo2]
  simp only [Option.bind_some, cond_false, Kb, I3, Ka, I2, K5 k r, Cl, hn, cond_true, beq_self_eq_true, Bool.not_true]
  rw [Ec (by rw [List.length_singleton]; omega) (by rw [List.length_singleton]; omega)]
  simp only [Bo k rn, Option.bind_some, hc2, Bool.not_false, cond_true, Eh, Dz, Air, X1, Bj k rn [59] ⟨_, _, rfl, rfl⟩]
  have s := Bi rn [59]
  generalize Aj [59] (nx l, 0, 0) = y at s ⊢
  rcases s with ⟨l2, e, p, h⟩ | ⟨l2, r2, n2⟩
  ·have he : (e == 0) = false := by simpa using h
   simp only [he, Bool.not_false, cond_true, Option.bind_some]
   exact ⟨_, rfl, rfl, rfl⟩
  ·simp only [beq_self_eq_true, Bool.not_true, cond_false, Option.bind_some]
   exact ⟨_, rfl, rfl, rfl⟩
 ·have hmo2 : (((o.length : Nat) : Int) == (4 : Int)) = false := by simpa using hmo
  have hc2 : ((hd (nx l)).2.1 == [44]) = true := by simpa using hc
  rw [Qk, Kd, hmo2]
  simp only [Option.bind_some, cond_false, Kb, I3, Ka, I2, K5 k r, Cl, hn, cond_true, beq_self_eq_true, Bool.not_true]
  rw [Ec (by rw [List.length_singleton]; omega) (by rw [List.length_singleton]; omega)]
  simp only [Bo k rn, Option.bind_some, hc2, Bool.not_true, cond_false, A6 k rn]
 ·rw [Cl]
  cases hn : (hd l0).1 == 1 && !(resB (hd l0).2.1)
  ·show l0.length ≤ l0.length + 1
   omega
  ·show l0.length ≤ (nx l0).length + 1
   have := Ri r0 (by simp only [Bool.and_eq_true, beq_iff_eq] at hn; omega)
   omega
theorem Bg9 (k : Nat) (hk : 200000 ≤ k) {l0 : List Tk} (r0 : Rdy l0) (m0 : l0.length ≤ 100000) (a1 : _) (a2 : _) (a3 : _) (a4 : _) (a5 : _) (a6 : _) (a7 : _) : Sim (Ot k (l0, a1, a2, a3, a4, a5, a6, a7)) (fun o => (o.1, o.2.1, o.2.2.1, o.2.2.2.1)) (Dc (l0, 0, 0)).2 (fun o => (o.2.2.2.2.1, o.2.2.2.2.2.1, o.2.2.2.2.2.2.1, o.2.2.2.2.2.2.2.1, o.2.2.2.2.2.2.2.2.1, o.2.2.2.2.2.2.2.2.2.1, o.2.2.2.2.2.2.2.2.2.2) = (a1, a2, a3, (Dc (l0, 0, 0)).1.1, (Dc (l0, 0, 0)).1.2, a6, a7)) := by
 rw [Bai, Ajg]
 simp only [Bcf, Aob, Eh, Dz, Bcg, Aof, Option.bind_some]
 refine G7 (pr := (fun o => (o.1, o.2.1, o.2.2.1, o.2.2.2.1))) (fun o => rfl) ?_
 rw [A9x, Ah5]
 unfold Dc
 rw [Bic k r0]
 simp only [Option.bind_some]
 have s0 := Cn r0
 generalize numC (l0, 0, 0) = o0 at s0 ⊢
 rcases s0 with ⟨v0, l, e, p, h⟩ | ⟨v0, l1, r1, n0⟩
 ·exact As h rfl (by simp only [Am h, Aq h, Ao h, Au h, Ar h, Av h, An h, Al h, Ak h, cond_false])
 have m1 := Nat.le_trans n0 m0
 simp only [beq_self_eq_true, Bool.not_true, cond_false, cond_true]
 rw [Bj k r1 ([47] : List Int) ⟨_, _, rfl, rfl⟩]
 simp only [Option.bind_some]
 have s1 := Bi r1 ([47] : List Int)
 generalize Aj ([47] : List Int) (l1, 0, 0) = o1 at s1 ⊢
 rcases s1 with ⟨l, e, p, h⟩ | ⟨l2, r2, n1⟩
 ·exact As h rfl (by simp only [Am h, Aq h, Ao h, Au h, Ar h, Av h, An h, Al h, Ak h, cond_false])
 have m2 := Nat.le_trans n1 m1
 simp only [beq_self_eq_true, Bool.not_true, cond_false, cond_true]
 rw [Bid k r2]
 simp only [Option.bind_some]
 have s2 := Cn r2
 generalize numC (l2, 0, 0) = o2 at s2 ⊢
 rcases s2 with ⟨v2, l, e, p, h⟩ | ⟨v2, l3, r3, n2⟩
 ·exact As h rfl (by simp only [Am h, Aq h, Ao h, Au h, Ar h, Av h, An h, Al h, Ak h, cond_false])
 have m3 := Nat.le_trans n2 m2
 simp only [beq_self_eq_true, Bool.not_true, cond_false, cond_true]
 exact Es rfl fun _ => rfl
theorem Bg8 (k : Nat) (hk : 200000 ≤ k) {l0 : List Tk} (r0 : Rdy l0) (m0 : l0.length ≤ 100000) (a1 : _) (a2 : _) (a3 : _) (a4 : _) (a5 : _) (a6 : _) (a7 : _) (a8 : _) (a9 : _) (a10 : _) (a11 : _) : Sim (Ou k (l0, a1, a2, a3, a4, a5, a6, a7, a8, a9, a10, a11)) (fun o => (o.1, o.2.1, o.2.2.1, o.2.2.2.1)) (Dc (l0, 0, 0)).2 (fun o => (o.2.2.2.2.1, o.2.2.2.2.2.1, o.2.2.2.2.2.2.1, o.2.2.2.2.2.2.2.1, o.2.2.2.2.2.2.2.2.1, o.2.2.2.2.2.2.2.2.2.1, o.2.2.2.2.2.2.2.2.2.2.1, o.2.2.2.2.2.2.2.2.2.2.2.1, o.2.2.2.2.2.2.2.2.2.2.2.2.1, o.2.2.2.2.2.2.2.2.2.2.2.2.2.1, o.2.2.2.2.2.2.2.2.2.2.2.2.2.2) = (a1, a2, a3, (Dc (l0, 0, 0)).1.1, (Dc (l0, 0, 0)).1.2, a6, a7, a8, a9, a10, a11)) := by
 rw [Bag, Ajd]
 simp only [Bb4, Am1, Eh, Dz, Bb5, Am5, Option.bind_some]
 refine G7 (pr := (fun o => (o.1, o.2.1, o.2.2.1, o.2.2.2.1))) (fun o => rfl) ?_
 rw [A93, Aif]
 unfold Dc
 rw [Big k r0]
 simp only [Option.bind_some]
 have s0 := Cn r0
 generalize numC (l0, 0, 0) = o0 at s0 ⊢
 rcases s0 with ⟨v0, l, e, p, h⟩ | ⟨v0, l1, r1, n0⟩
 ·exact As h rfl (by simp only [Am h, Aq h, Ao h, Au h, Ar h, Av h, An h, Al h, Ak h, cond_false])
 have m1 := Nat.le_trans n0 m0
 simp only [beq_self_eq_true, Bool.not_true, cond_false, cond_true]
 rw [Bj k r1 ([47] : List Int) ⟨_, _, rfl, rfl⟩]
 simp only [Option.bind_some]
 have s1 := Bi r1 ([47] : List Int)
 generalize Aj ([47] : List Int) (l1, 0, 0) = o1 at s1 ⊢
 rcases s1 with ⟨l, e, p, h⟩ | ⟨l2, r2, n1⟩
 ·exact As h rfl (by simp only [Am h, Aq h, Ao h, Au h, Ar h, Av h, An h, Al h, Ak h, cond_false])
 have m2 := Nat.le_trans n1 m1
 simp only [beq_self_eq_true, Bool.not_true, cond_false, cond_true]
 rw [Bih k r2]
 simp only [Option.bind_some]
 have s2 := Cn r2
 generalize numC (l2, 0, 0) = o2 at s2 ⊢
 rcases s2 with ⟨v2, l, e, p, h⟩ | ⟨v2, l3, r3, n2⟩
 ·exact As h rfl (by simp only [Am h, Aq h, Ao h, Au h, Ar h, Av h, An h, Al h, Ak h, cond_false])
 have m3 := Nat.le_trans n2 m2
 simp only [beq_self_eq_true, Bool.not_true, cond_false, cond_true]
 exact Es rfl fun _ => rfl
theorem Bhe (k : Nat) (hk : 200000 ≤ k) {l0 : List Tk} (r0 : Rdy l0) (m0 : l0.length ≤ 100000) : Sim (cphead k l0) (fun o => (o.2.2.2.2.2.2.2.2.2.2.2.1, o.2.2.2.2.2.2.2.2.2.2.2.2.1, o.2.2.2.2.2.2.2.2.2.2.2.2.2.1, o.2.2.2.2.2.2.2.2.2.2.2.2.2.2)) (Cf (l0, 0, 0)).2 (fun o => (o.1, (o.2.1, (o.2.2.1, ((o.2.2.2.1, (o.2.2.2.2.1, ())), (o.2.2.2.2.2.1, (o.2.2.2.2.2.2.1, (o.2.2.2.2.2.2.2.1, (o.2.2.2.2.2.2.2.2.1, (o.2.2.2.2.2.2.2.2.2.1, (o.2.2.2.2.2.2.2.2.2.2.1, ())))))))))) = (Cf (l0, 0, 0)).1) := by
 rw [Bam, Ajn]
 simp only [Bdt, Aqy, Baw, Ake, Eh, Dz, Bch, Aoj, Bci, Aon, Bae, Ai9, Bcj, Aor, Bao, Aju, Bck, Aov, Bcl, Aoz, Bb2, Amt, Bb3, Amx, Option.bind_some]
 refine Bjw (pr := (fun o => (o.1, o.2.1, o.2.2.1, o.2.2.2.1))) (fun o => rfl) (fun o => rfl) ?_
 rw [A91, Aic]
 simp only [Cf, F7, F8, F4]
 rw [Bil k r0]
 simp only [Option.bind_some]
 rw [Bhk k r0]
 simp only [Option.bind_some]
 have s0 := Ga r0
 generalize Ai (l0, 0, 0) = o0 at s0 ⊢
 rcases s0 with ⟨v0, l, e, p, h⟩ | ⟨v0, l1, r1, n0⟩
 ·exact As h rfl (by simp only [Am h, Aq h, Ao h, Au h, Ar h, Av h, An h, Al h, Ak h, cond_false])
 have m1 := Nat.le_trans n0 m0
 simp only [beq_self_eq_true, Bool.not_true, cond_false, cond_true]
 rw [Bj k r1 ([118, 111, 108, 117, 109, 101] : List Int) ⟨_, _, rfl, rfl⟩]
 simp only [Option.bind_some]
 have s1 := Bi r1 ([118, 111, 108, 117, 109, 101] : List Int)
 generalize Aj ([118, 111, 108, 117, 109, 101] : List Int) (l1, 0, 0) = o1 at s1 ⊢
 rcases s1 with ⟨l, e, p, h⟩ | ⟨l2, r2, n1⟩
 ·exact As h rfl (by simp only [Am h, Aq h, Ao h, Au h, Ar h, Av h, An h, Al h, Ak h, cond_false])
 have m2 := Nat.le_trans n1 m1
 simp only [beq_self_eq_true, Bool.not_true, cond_false, cond_true]
 rw [Bie k r2]
 simp only [Option.bind_some]
 have s2 := Cn r2
 generalize numC (l2, 0, 0) = o2 at s2 ⊢
 rcases s2 with ⟨v2, l, e, p, h⟩ | ⟨v2, l3, r3, n2⟩
 ·exact As h rfl (by simp only [Am h, Aq h, Ao h, Au h, Ar h, Av h, An h, Al h, Ak h, cond_false])
 have m3 := Nat.le_trans n2 m2
 simp only [beq_self_eq_true, Bool.not_true, cond_false, cond_true]
 rw [Bj k r3 ([102, 108, 111, 119] : List Int) ⟨_, _, rfl, rfl⟩]
 simp only [Option.bind_some]
 have s3 := Bi r3 ([102, 108, 111, 119] : List Int)
 generalize Aj ([102, 108, 111, 119] : List Int) (l3, 0, 0) = o3 at s3 ⊢
 rcases s3 with ⟨l, e, p, h⟩ | ⟨l4, r4, n3⟩
 ·exact As h rfl (by simp only [Am h, Aq h, Ao h, Au h, Ar h, Av h, An h, Al h, Ak h, cond_false])
 have m4 := Nat.le_trans n3 m3
 simp only [beq_self_eq_true, Bool.not_true, cond_false, cond_true]
 rw [Bif k r4]
 simp only [Option.bind_some]
 have s4 := Cn r4
 generalize numC (l4, 0, 0) = o4 at s4 ⊢
 rcases s4 with ⟨v4, l, e, p, h⟩ | ⟨v4, l5, r5, n4⟩
 ·exact As h rfl (by simp only [Am h, Aq h, Ao h, Au h, Ar h, Av h, An h, Al h, Ak h, cond_false])
 have m5 := Nat.le_trans n4 m4
 simp only [beq_self_eq_true, Bool.not_true, cond_false, cond_true]
 rw [Bj k r5 ([117, 115, 101] : List Int) ⟨_, _, rfl, rfl⟩]
 simp only [Option.bind_some]
 have s5 := Bi r5 ([117, 115, 101] : List Int)
 generalize Aj ([117, 115, 101] : List Int) (l5, 0, 0) = o5 at s5 ⊢
 rcases s5 with ⟨l, e, p, h⟩ | ⟨l6, r6, n5⟩
 ·exact As h rfl (by simp only [Am h, Aq h, Ao h, Au h, Ar h, Av h, An h, Al h, Ak h, cond_false])
 have m6 := Nat.le_trans n5 m5
 simp only [beq_self_eq_true, Bool.not_true, cond_false, cond_true]
 refine Dt (Bg8 k hk r6 m6 _ _ _ _ _ _ _ _ _ _ _) fun q hp hd => ?_
 obtain ⟨q0, q1, q2, q3, q4, q5, q6, q7, q8, q9, q10, q11, q12, q13, q14⟩ := q
 simp only [Prod.mk.injEq] at hp hd
 obtain ⟨rfl, rfl, rfl, rfl⟩ := hp
 have s6 := Avr r6
 generalize Dc (l6, 0, 0) = o6 at s6 hd ⊢
 rcases s6 with ⟨v6, l, e, p, h⟩ | ⟨v6, l7, r7, n6⟩
 ·exact As h rfl (by simp only [Am h, Aq h, Ao h, Au h, Ar h, Av h, An h, Al h, Ak h, cond_false])
 have m7 := Nat.le_trans n6 m6
 obtain ⟨rfl, rfl, rfl, rfl, rfl, rfl, rfl, rfl, rfl, rfl, rfl⟩ := hd rfl
 simp only [beq_self_eq_true, Bool.not_true, cond_false, cond_true]
 rw [Bj k r7 ([115, 112, 101, 101, 100] : List Int) ⟨_, _, rfl, rfl⟩]
 simp only [Option.bind_some]
 have s7 := Bi r7 ([115, 112, 101, 101, 100] : List Int)
 generalize Aj ([115, 112, 101, 101, 100] : List Int) (l7, 0, 0) = o7 at s7 ⊢
 rcases s7 with ⟨l, e, p, h⟩ | ⟨l8, r8, n7⟩
 ·exact As h rfl (by simp only [Am h, Aq h, Ao h, Au h, Ar h, Av h, An h, Al h, Ak h, cond_false])
 have m8 := Nat.le_trans n7 m7
 simp only [beq_self_eq_true, Bool.not_true, cond_false, cond_true]
 rw [Bii k r8]
 simp only [Option.bind_some]
 have s8 := Cn r8
 generalize numC (l8, 0, 0) = o8 at s8 ⊢
 rcases s8 with ⟨v8, l, e, p, h⟩ | ⟨v8, l9, r9, n8⟩
 ·exact As h rfl (by simp only [Am h, Aq h, Ao h, Au h, Ar h, Av h, An h, Al h, Ak h, cond_false])
 have m9 := Nat.le_trans n8 m8
 simp only [beq_self_eq_true, Bool.not_true, cond_false, cond_true]
 rw [Bj k r9 ([103, 114, 97, 100, 101] : List Int) ⟨_, _, rfl, rfl⟩]
 simp only [Option.bind_some]
 have s9 := Bi r9 ([103, 114, 97, 100, 101] : List Int)
 generalize Aj ([103, 114, 97, 100, 101] : List Int) (l9, 0, 0) = o9 at s9 ⊢
 rcases s9 with ⟨l, e, p, h⟩ | ⟨l10, r10, n9⟩
 ·exact As h rfl (by simp only [Am h, Aq h, Ao h, Au h, Ar h, Av h, An h, Al h, Ak h, cond_false])
 have m10 := Nat.le_trans n9 m9
 simp only [beq_self_eq_true, Bool.not_true, cond_false, cond_true]
 rw [Awk k r10 ([45] : List Int) _ ⟨_, _, rfl, rfl⟩]
 simp only [Option.bind_some]
 obtain ⟨l11, q10, r11, n10⟩ := Abe r10 ([45] : List Int)
 simp only [q10]
 have m11 := Nat.le_trans n10 m10
 rw [Bhz k r11]
 simp only [Option.bind_some]
 have s11 := Cn r11
 generalize numC (l11, 0, 0) = o11 at s11 ⊢
 rcases s11 with ⟨v11, l, e, p, h⟩ | ⟨v11, l12, r12, n11⟩
 ·exact As h rfl (by simp only [Am h, Aq h, Ao h, Au h, Ar h, Av h, An h, Al h, Ak h, cond_false])
 have m12 := Nat.le_trans n11 m11
 simp only [beq_self_eq_true, Bool.not_true, cond_false, cond_true]
 rw [Bj k r12 ([119, 105, 100, 116, 104] : List Int) ⟨_, _, rfl, rfl⟩]
 simp only [Option.bind_some]
 have s12 := Bi r12 ([119, 105, 100, 116, 104] : List Int)
 generalize Aj ([119, 105, 100, 116, 104] : List Int) (l12, 0, 0) = o12 at s12 ⊢
 rcases s12 with ⟨l, e, p, h⟩ | ⟨l13, r13, n12⟩
 ·exact As h rfl (by simp only [Am h, Aq h, Ao h, Au h, Ar h, Av h, An h, Al h, Ak h, cond_false])
 have m13 := Nat.le_trans n12 m12
 simp only [beq_self_eq_true, Bool.not_true, cond_false, cond_true]
 rw [Bh0 k r13]
 simp only [Option.bind_some]
 have s13 := Cn r13
 generalize numC (l13, 0, 0) = o13 at s13 ⊢
 rcases s13 with ⟨v13, l, e, p, h⟩ | ⟨v13, l14, r14, n13⟩
 ·exact As h rfl (by simp only [Am h, Aq h, Ao h, Au h, Ar h, Av h, An h, Al h, Ak h, cond_false])
 have m14 := Nat.le_trans n13 m13
 simp only [beq_self_eq_true, Bool.not_true, cond_false, cond_true]
 rw [Bj k r14 ([108, 101, 110, 103, 116, 104] : List Int) ⟨_, _, rfl, rfl⟩]
 simp only [Option.bind_some]
 have s14 := Bi r14 ([108, 101, 110, 103, 116, 104] : List Int)
 generalize Aj ([108, 101, 110, 103, 116, 104] : List Int) (l14, 0, 0) = o14 at s14 ⊢
 rcases s14 with ⟨l, e, p, h⟩ | ⟨l15, r15, n14⟩
 ·exact As h rfl (by simp only [Am h, Aq h, Ao h, Au h, Ar h, Av h, An h, Al h, Ak h, cond_false])
 have m15 := Nat.le_trans n14 m14
 simp only [beq_self_eq_true, Bool.not_true, cond_false, cond_true]
 rw [Bh1 k r15]
 simp only [Option.bind_some]
 have s15 := Cn r15
 generalize numC (l15, 0, 0) = o15 at s15 ⊢
 rcases s15 with ⟨v15, l, e, p, h⟩ | ⟨v15, l16, r16, n15⟩
 ·exact As h rfl (by simp only [Am h, Aq h, Ao h, Au h, Ar h, Av h, An h, Al h, Ak h, cond_false])
 have m16 := Nat.le_trans n15 m15
 simp only [beq_self_eq_true, Bool.not_true, cond_false, cond_true]
 rw [Bj k r16 ([103, 114, 101, 101, 110] : List Int) ⟨_, _, rfl, rfl⟩]
 simp only [Option.bind_some]
 have s16 := Bi r16 ([103, 114, 101, 101, 110] : List Int)
 generalize Aj ([103, 114, 101, 101, 110] : List Int) (l16, 0, 0) = o16 at s16 ⊢
 rcases s16 with ⟨l, e, p, h⟩ | ⟨l17, r17, n16⟩
 ·exact As h rfl (by simp only [Am h, Aq h, Ao h, Au h, Ar h, Av h, An h, Al h, Ak h, cond_false])
 have m17 := Nat.le_trans n16 m16
 simp only [beq_self_eq_true, Bool.not_true, cond_false, cond_true]
 rw [Bh2 k r17]
 simp only [Option.bind_some]
 have s17 := Cn r17
 generalize numC (l17, 0, 0) = o17 at s17 ⊢
 rcases s17 with ⟨v17, l, e, p, h⟩ | ⟨v17, l18, r18, n17⟩
 ·exact As h rfl (by simp only [Am h, Aq h, Ao h, Au h, Ar h, Av h, An h, Al h, Ak h, cond_false])
 have m18 := Nat.le_trans n17 m17
 simp only [beq_self_eq_true, Bool.not_true, cond_false, cond_true]
 rw [Bj k r18 ([59] : List Int) ⟨_, _, rfl, rfl⟩]
 simp only [Option.bind_some]
 have s18 := Bi r18 ([59] : List Int)
 generalize Aj ([59] : List Int) (l18, 0, 0) = o18 at s18 ⊢
 rcases s18 with ⟨l, e, p, h⟩ | ⟨l19, r19, n18⟩
 ·exact As h rfl (by simp only [Am h, Aq h, Ao h, Au h, Ar h, Av h, An h, Al h, Ak h, cond_false])
 have m19 := Nat.le_trans n18 m18
 simp only [beq_self_eq_true, Bool.not_true, cond_false, cond_true]
 exact Es rfl fun _ => by cases Aw ([45] : List Int) (l10, 0, 0) <;> rfl
theorem Bgd (k : Nat) (hk : 200000 ≤ k) {l0 : List Tk} (r0 : Rdy l0) (m0 : l0.length ≤ 100000) (a3 : _) (a4 : _) : Sim (Oi k ([104, 101, 97, 100], (16 : Int), l0, a3, a4)) (fun o => (o.1, o.2.1, o.2.2.1, o.2.2.2.2.2.1)) (Ay [104, 101, 97, 100] (16 : Int) Cf (l0, 0, 0)).2 (fun r => (r.2.2.2.1, r.2.2.2.2.1, r.2.2.2.2.2.2.1, r.2.2.2.2.2.2.2.1, r.2.2.2.2.2.2.2.2) = ([104, 101, 97, 100], (16 : Int), a3, a4, (Ay [104, 101, 97, 100] (16 : Int) Cf (l0, 0, 0)).1)) := by
 rw [A84, Wz]
 refine G6 [104, 101, 97, 100] ⟨_, _, rfl, rfl⟩ (16 : Int) Cf Sd Acj Acv (fun j l o => (Fe k).L 1 [] j (Mj ([104, 101, 97, 100], (16 : Int), l, a3, a4, o))) (fun o => (o.1, o.2.1, o.2.2.1, o.2.2.2.2.2.1)) (fun r o => (r.2.2.2.1, r.2.2.2.2.1, r.2.2.2.2.2.2.1, r.2.2.2.2.2.2.2.1, r.2.2.2.2.2.2.2.2) = ([104, 101, 97, 100], (16 : Int), a3, a4, o)) (fun j l o r hc => ?_) (fun j l o r hc hm => ?_) (fun j l o r rn hl hl2 ho hc hm => ?_) (l0.length + 1) k l0 [] r0 (by omega) (by omega) (by rw [List.length_nil]; omega)
 ·have hc2 : ((hd l).2.1 == [104, 101, 97, 100]) = false := by simpa using hc
  rw [Wy, Mk, Bo k r, Option.bind_some, hc2, cond_false]
  exact ⟨_, rfl, rfl, rfl⟩
 ·rw [Wy, Mk, Bo k r, Option.bind_some, hc, beq_self_eq_true, cond_true, hm, beq_self_eq_true, cond_true, Bb k r, Option.bind_some]
  exact ⟨_, rfl, rfl⟩
 ·have hm2 : (((o.length : Nat) : Int) == (16 : Int)) = false := by simpa using hm
  rw [Wy, Mk, Bo k r, Option.bind_some, hc, beq_self_eq_true, cond_true, hm2, cond_false, A6 k r, Option.bind_some]
  simp only []
  obtain ⟨q, e1, e2, e3⟩ := Bhe k hk rn hl2
  rw [e1, Option.bind_some]
  obtain ⟨q0, q1, q2, q3, q4, q5, q6, q7, q8, q9, q10, q11, q12, q13, q14⟩ := q
  simp only [Prod.mk.injEq] at e2 e3
  obtain ⟨rfl, rfl, rfl, rfl⟩ := e2
  refine ⟨fun he => ?_, fun he => ?_⟩
  ·have he2 : ((Cf (nx l, 0, 0)).2.2.1 == 0) = false := by simpa using he
   simp only [he2, Bool.not_false, cond_true]
   exact ⟨_, rfl, rfl⟩
  ·simp only [he, beq_self_eq_true, Bool.not_true, cond_false]
   rw [Ec (by rw [List.length_singleton]; omega) (by rw [List.length_singleton]; omega), e3 he]
theorem Bix (k : Nat) (hk : 200000 ≤ k) {l0 : List Tk} (r0 : Rdy l0) (m0 : l0.length ≤ 100000) : Sim (cpwalk k l0) (fun o => (o.2.2.2.2.2.2.1, o.2.2.2.2.2.2.2.1, o.2.2.2.2.2.2.2.2.1, o.2.2.2.2.2.2.2.2.2)) (Ci (l0, 0, 0)).2 (fun o => (o.1, (o.2.1, (o.2.2.1, (o.2.2.2.1, (o.2.2.2.2.1, (o.2.2.2.2.2.1, ())))))) = (Ci (l0, 0, 0)).1) := by
 rw [Bec, Asg]
 simp only [Bdu, Aq2, Bax, Aki, Eh, Dz, Bay, Akm, Bb6, Am9, Bb7, Ane, Bb8, Ani, Option.bind_some]
 refine G7 (pr := (fun o => (o.1, o.2.1, o.2.2.1, o.2.2.2.1))) (fun o => rfl) ?_
 rw [A95, Aii]
 simp only [Ci, F7, F8, F4]
 rw [Bim k r0]
 simp only [Option.bind_some]
 rw [Bhl k r0]
 simp only [Option.bind_some]
 have s0 := Ga r0
 generalize Ai (l0, 0, 0) = o0 at s0 ⊢
 rcases s0 with ⟨v0, l, e, p, h⟩ | ⟨v0, l1, r1, n0⟩
 ·exact As h rfl (by simp only [Am h, Aq h, Ao h, Au h, Ar h, Av h, An h, Al h, Ak h, cond_false])
 have m1 := Nat.le_trans n0 m0
 simp only [beq_self_eq_true, Bool.not_true, cond_false, cond_true]
 rw [Bj k r1 ([119, 105, 116, 104] : List Int) ⟨_, _, rfl, rfl⟩]
 simp only [Option.bind_some]
 have s1 := Bi r1 ([119, 105, 116, 104] : List Int)
 generalize Aj ([119, 105, 116, 104] : List Int) (l1, 0, 0) = o1 at s1 ⊢
 rcases s1 with ⟨l, e, p, h⟩ | ⟨l2, r2, n1⟩
 ·exact As h rfl (by simp only [Am h, Aq h, Ao h, Au h, Ar h, Av h, An h, Al h, Ak h, cond_false])
 have m2 := Nat.le_trans n1 m1
 simp only [beq_self_eq_true, Bool.not_true, cond_false, cond_true]
 rw [Bhm k r2]
 simp only [Option.bind_some]
 have s2 := Ga r2
 generalize Ai (l2, 0, 0) = o2 at s2 ⊢
 rcases s2 with ⟨v2, l, e, p, h⟩ | ⟨v2, l3, r3, n2⟩
 ·exact As h rfl (by simp only [Am h, Aq h, Ao h, Au h, Ar h, Av h, An h, Al h, Ak h, cond_false])
 have m3 := Nat.le_trans n2 m2
 simp only [beq_self_eq_true, Bool.not_true, cond_false, cond_true]
 rw [Bj k r3 ([108, 111, 110, 103] : List Int) ⟨_, _, rfl, rfl⟩]
 simp only [Option.bind_some]
 have s3 := Bi r3 ([108, 111, 110, 103] : List Int)
 generalize Aj ([108, 111, 110, 103] : List Int) (l3, 0, 0) = o3 at s3 ⊢
 rcases s3 with ⟨l, e, p, h⟩ | ⟨l4, r4, n3⟩
 ·exact As h rfl (by simp only [Am h, Aq h, Ao h, Au h, Ar h, Av h, An h, Al h, Ak h, cond_false])
 have m4 := Nat.le_trans n3 m3
 simp only [beq_self_eq_true, Bool.not_true, cond_false, cond_true]
 rw [Bh3 k r4]
 simp only [Option.bind_some]
 have s4 := Cn r4
 generalize numC (l4, 0, 0) = o4 at s4 ⊢
 rcases s4 with ⟨v4, l, e, p, h⟩ | ⟨v4, l5, r5, n4⟩
 ·exact As h rfl (by simp only [Am h, Aq h, Ao h, Au h, Ar h, Av h, An h, Al h, Ak h, cond_false])
 have m5 := Nat.le_trans n4 m4
 simp only [beq_self_eq_true, Bool.not_true, cond_false, cond_true]
 rw [Bj k r5 ([112, 97, 99, 101] : List Int) ⟨_, _, rfl, rfl⟩]
 simp only [Option.bind_some]
 have s5 := Bi r5 ([112, 97, 99, 101] : List Int)
 generalize Aj ([112, 97, 99, 101] : List Int) (l5, 0, 0) = o5 at s5 ⊢
 rcases s5 with ⟨l, e, p, h⟩ | ⟨l6, r6, n5⟩
 ·exact As h rfl (by simp only [Am h, Aq h, Ao h, Au h, Ar h, Av h, An h, Al h, Ak h, cond_false])
 have m6 := Nat.le_trans n5 m5
 simp only [beq_self_eq_true, Bool.not_true, cond_false, cond_true]
 rw [Bh4 k r6]
 simp only [Option.bind_some]
 have s6 := Cn r6
 generalize numC (l6, 0, 0) = o6 at s6 ⊢
 rcases s6 with ⟨v6, l, e, p, h⟩ | ⟨v6, l7, r7, n6⟩
 ·exact As h rfl (by simp only [Am h, Aq h, Ao h, Au h, Ar h, Av h, An h, Al h, Ak h, cond_false])
 have m7 := Nat.le_trans n6 m6
 simp only [beq_self_eq_true, Bool.not_true, cond_false, cond_true]
 rw [Bj k r7 ([108, 101, 97, 115, 116] : List Int) ⟨_, _, rfl, rfl⟩]
 simp only [Option.bind_some]
 have s7 := Bi r7 ([108, 101, 97, 115, 116] : List Int)
 generalize Aj ([108, 101, 97, 115, 116] : List Int) (l7, 0, 0) = o7 at s7 ⊢
 rcases s7 with ⟨l, e, p, h⟩ | ⟨l8, r8, n7⟩
 ·exact As h rfl (by simp only [Am h, Aq h, Ao h, Au h, Ar h, Av h, An h, Al h, Ak h, cond_false])
 have m8 := Nat.le_trans n7 m7
 simp only [beq_self_eq_true, Bool.not_true, cond_false, cond_true]
 rw [Bh5 k r8]
 simp only [Option.bind_some]
 have s8 := Cn r8
 generalize numC (l8, 0, 0) = o8 at s8 ⊢
 rcases s8 with ⟨v8, l, e, p, h⟩ | ⟨v8, l9, r9, n8⟩
 ·exact As h rfl (by simp only [Am h, Aq h, Ao h, Au h, Ar h, Av h, An h, Al h, Ak h, cond_false])
 have m9 := Nat.le_trans n8 m8
 simp only [beq_self_eq_true, Bool.not_true, cond_false, cond_true]
 rw [Bj k r9 ([59] : List Int) ⟨_, _, rfl, rfl⟩]
 simp only [Option.bind_some]
 have s9 := Bi r9 ([59] : List Int)
 generalize Aj ([59] : List Int) (l9, 0, 0) = o9 at s9 ⊢
 rcases s9 with ⟨l, e, p, h⟩ | ⟨l10, r10, n9⟩
 ·exact As h rfl (by simp only [Am h, Aq h, Ao h, Au h, Ar h, Av h, An h, Al h, Ak h, cond_false])
 have m10 := Nat.le_trans n9 m9
 simp only [beq_self_eq_true, Bool.not_true, cond_false, cond_true]
 exact Es rfl fun _ => rfl
theorem Bgf (k : Nat) (hk : 200000 ≤ k) {l0 : List Tk} (r0 : Rdy l0) (m0 : l0.length ≤ 100000) (a3 : _) (a4 : _) (a5 : _) : Sim (Ok k ([119, 97, 108, 107], (8 : Int), l0, a3, a4, a5)) (fun o => (o.1, o.2.1, o.2.2.1, o.2.2.2.2.2.1)) (Ay [119, 97, 108, 107] (8 : Int) Ci (l0, 0, 0)).2 (fun r => (r.2.2.2.1, r.2.2.2.2.1, r.2.2.2.2.2.2.1, r.2.2.2.2.2.2.2.1, r.2.2.2.2.2.2.2.2.1, r.2.2.2.2.2.2.2.2.2) = ([119, 97, 108, 107], (8 : Int), a3, a4, a5, (Ay [119, 97, 108, 107] (8 : Int) Ci (l0, 0, 0)).1)) := by
 rw [A9a, W9]
 refine G6 [119, 97, 108, 107] ⟨_, _, rfl, rfl⟩ (8 : Int) Ci Sl Acp Ac1 (fun j l o => (Fg k).L 1 [] j (Mn ([119, 97, 108, 107], (8 : Int), l, a3, a4, a5, o))) (fun o => (o.1, o.2.1, o.2.2.1, o.2.2.2.2.2.1)) (fun r o => (r.2.2.2.1, r.2.2.2.2.1, r.2.2.2.2.2.2.1, r.2.2.2.2.2.2.2.1, r.2.2.2.2.2.2.2.2.1, r.2.2.2.2.2.2.2.2.2) = ([119, 97, 108, 107], (8 : Int), a3, a4, a5, o)) (fun j l o r hc => ?_) (fun j l o r hc hm => ?_) (fun j l o r rn hl hl2 ho hc hm => ?_) (l0.length + 1) k l0 [] r0 (by omega) (by omega) (by rw [List.length_nil]; omega)
 ·have hc2 : ((hd l).2.1 == [119, 97, 108, 107]) = false := by simpa using hc
  rw [W8, Mo, Bo k r, Option.bind_some, hc2, cond_false]
  exact ⟨_, rfl, rfl, rfl⟩
 ·rw [W8, Mo, Bo k r, Option.bind_some, hc, beq_self_eq_true, cond_true, hm, beq_self_eq_true, cond_true, Bb k r, Option.bind_some]
  exact ⟨_, rfl, rfl⟩
 ·have hm2 : (((o.length : Nat) : Int) == (8 : Int)) = false := by simpa using hm
  rw [W8, Mo, Bo k r, Option.bind_some, hc, beq_self_eq_true, cond_true, hm2, cond_false, A6 k r, Option.bind_some]
  simp only []
  obtain ⟨q, e1, e2, e3⟩ := Bix k hk rn hl2
  rw [e1, Option.bind_some]
  obtain ⟨q0, q1, q2, q3, q4, q5, q6, q7, q8, q9⟩ := q
  simp only [Prod.mk.injEq] at e2 e3
  obtain ⟨rfl, rfl, rfl, rfl⟩ := e2
  refine ⟨fun he => ?_, fun he => ?_⟩
  ·have he2 : ((Ci (nx l, 0, 0)).2.2.1 == 0) = false := by simpa using he
   simp only [he2, Bool.not_false, cond_true]
   exact ⟨_, rfl, rfl⟩
  ·simp only [he, beq_self_eq_true, Bool.not_true, cond_false]
   rw [Ec (by rw [List.length_singleton]; omega) (by rw [List.length_singleton]; omega), e3 he]
theorem Bik (k : Nat) (hk : 200000 ≤ k) {l0 : List Tk} (r0 : Rdy l0) (m0 : l0.length ≤ 100000) : Sim (cpphase k l0) (fun o => (o.2.2.1, o.2.2.2.1, o.2.2.2.2.1, o.2.2.2.2.2.1)) (Cq (l0, 0, 0)).2 (fun o => (o.1, (o.2.2.2.2.2.2, (o.2.1, ()))) = (Cq (l0, 0, 0)).1) := by
 rw [Bds, Aqw]
 simp only [Bdv, Aq6, Baz, Akq, Eh, Dz, Bb0, Amo, Option.bind_some]
 refine G7 (pr := (fun o => (o.1, o.2.1, o.2.2.1, o.2.2.2.1))) (fun o => rfl) ?_
 rw [A97, Ail]
 simp only [Cq, F7, F8, F4]
 rw [Bin k r0]
 simp only [Option.bind_some]
 rw [Bhn k r0]
 simp only [Option.bind_some]
 have s0 := Ga r0
 generalize Ai (l0, 0, 0) = o0 at s0 ⊢
 rcases s0 with ⟨v0, l, e, p, h⟩ | ⟨v0, l1, r1, n0⟩
 ·exact As h rfl (by simp only [Am h, Aq h, Ao h, Au h, Ar h, Av h, An h, Al h, Ak h, cond_false])
 have m1 := Nat.le_trans n0 m0
 simp only [beq_self_eq_true, Bool.not_true, cond_false, cond_true]
 rw [Bj k r1 ([58] : List Int) ⟨_, _, rfl, rfl⟩]
 simp only [Option.bind_some]
 have s1 := Bi r1 ([58] : List Int)
 generalize Aj ([58] : List Int) (l1, 0, 0) = o1 at s1 ⊢
 rcases s1 with ⟨l, e, p, h⟩ | ⟨l2, r2, n1⟩
 ·exact As h rfl (by simp only [Am h, Aq h, Ao h, Au h, Ar h, Av h, An h, Al h, Ak h, cond_false])
 have m2 := Nat.le_trans n1 m1
 simp only [beq_self_eq_true, Bool.not_true, cond_false, cond_true]
 refine Dt (Bhu k hk r2 m2 _ _) fun q hp hd => ?_
 obtain ⟨q0, q1, q2, q3, q4, q5, q6, q7⟩ := q
 simp only [Prod.mk.injEq] at hp hd
 obtain ⟨rfl, rfl, rfl, rfl⟩ := hp
 have s2 := Avs r2 (16 : Int)
 generalize B3 (16 : Int) (l2, 0, 0) = o2 at s2 hd ⊢
 rcases s2 with ⟨v2, l, e, p, h⟩ | ⟨v2, l3, r3, n2⟩
 ·exact As h rfl (by simp only [Am h, Aq h, Ao h, Au h, Ar h, Av h, An h, Al h, Ak h, cond_false])
 have m3 := Nat.le_trans n2 m2
 obtain ⟨rfl, rfl, rfl, rfl⟩ := hd rfl
 simp only [beq_self_eq_true, Bool.not_true, cond_false, cond_true]
 exact Es rfl fun _ => rfl
theorem Bgg (k : Nat) (hk : 200000 ≤ k) {l0 : List Tk} (r0 : Rdy l0) (m0 : l0.length ≤ 100000) (a3 : _) (a4 : _) (a5 : _) (a6 : _) : Sim (Ol k ([112, 104, 97, 115, 101], (16 : Int), l0, a3, a4, a5, a6)) (fun o => (o.1, o.2.1, o.2.2.1, o.2.2.2.2.2.1)) (Ay [112, 104, 97, 115, 101] (16 : Int) Cq (l0, 0, 0)).2 (fun r => (r.2.2.2.1, r.2.2.2.2.1, r.2.2.2.2.2.2.1, r.2.2.2.2.2.2.2.1, r.2.2.2.2.2.2.2.2.1, r.2.2.2.2.2.2.2.2.2.1, r.2.2.2.2.2.2.2.2.2.2) = ([112, 104, 97, 115, 101], (16 : Int), a3, a4, a5, a6, (Ay [112, 104, 97, 115, 101] (16 : Int) Cq (l0, 0, 0)).1)) := by
 rw [A9d, Xe]
 refine G6 [112, 104, 97, 115, 101] ⟨_, _, rfl, rfl⟩ (16 : Int) Cq Sh Acm Acy (fun j l o => (Fh k).L 1 [] j (Mp ([112, 104, 97, 115, 101], (16 : Int), l, a3, a4, a5, a6, o))) (fun o => (o.1, o.2.1, o.2.2.1, o.2.2.2.2.2.1)) (fun r o => (r.2.2.2.1, r.2.2.2.2.1, r.2.2.2.2.2.2.1, r.2.2.2.2.2.2.2.1, r.2.2.2.2.2.2.2.2.1, r.2.2.2.2.2.2.2.2.2.1, r.2.2.2.2.2.2.2.2.2.2) = ([112, 104, 97, 115, 101], (16 : Int), a3, a4, a5, a6, o)) (fun j l o r hc => ?_) (fun j l o r hc hm => ?_) (fun j l o r rn hl hl2 ho hc hm => ?_) (l0.length + 1) k l0 [] r0 (by omega) (by omega) (by rw [List.length_nil]; omega)
 ·have hc2 : ((hd l).2.1 == [112, 104, 97, 115, 101]) = false := by simpa using hc
  rw [Xd, Mq, Bo k r, Option.bind_some, hc2, cond_false]
  exact ⟨_, rfl, rfl, rfl⟩
 ·rw [Xd, Mq, Bo k r, Option.bind_some, hc, beq_self_eq_true, cond_true, hm, beq_self_eq_true, cond_true, Bb k r, Option.bind_some]
  exact ⟨_, rfl, rfl⟩
 ·have hm2 : (((o.length : Nat) : Int) == (16 : Int)) = false := by simpa using hm
  rw [Xd, Mq, Bo k r, Option.bind_some, hc, beq_self_eq_true, cond_true, hm2, cond_false, A6 k r, Option.bind_some]
  simp only []
  obtain ⟨q, e1, e2, e3⟩ := Bik k hk rn hl2
  rw [e1, Option.bind_some]
  obtain ⟨q0, q1, q2, q3, q4, q5, q6⟩ := q
  simp only [Prod.mk.injEq] at e2 e3
  obtain ⟨rfl, rfl, rfl, rfl⟩ := e2
  refine ⟨fun he => ?_, fun he => ?_⟩
  ·have he2 : ((Cq (nx l, 0, 0)).2.2.1 == 0) = false := by simpa using he
   simp only [he2, Bool.not_false, cond_true]
   exact ⟨_, rfl, rfl⟩
  ·simp only [he, beq_self_eq_true, Bool.not_true, cond_false]
   rw [Ec (by rw [List.length_singleton]; omega) (by rw [List.length_singleton]; omega), e3 he]
theorem Bir (k : Nat) (hk : 200000 ≤ k) {l0 : List Tk} (r0 : Rdy l0) (m0 : l0.length ≤ 100000) : Sim (cpring k l0) (fun o => (o.2.1, o.2.2.1, o.2.2.2.1, o.2.2.2.2.1)) (B0 (l0, 0, 0)).2 (fun o => (o.1, (o.2.2.2.2.2, ())) = (B0 (l0, 0, 0)).1) := by
 rw [Bd5, Ar2]
 simp only [Bap, Ajy, Bbv, Ami, Option.bind_some]
 refine G7 (pr := (fun o => (o.1, o.2.1, o.2.2.1, o.2.2.2.1))) (fun o => rfl) ?_
 rw [A9n, Aho]
 simp only [B0, F7, F8, F4]
 rw [Bhi k r0 ([102, 114, 101, 101] : List Int) _ ⟨_, _, rfl, rfl⟩]
 simp only [Option.bind_some]
 obtain ⟨l1, q0, r1, n0⟩ := Abe r0 ([102, 114, 101, 101] : List Int)
 simp only [q0]
 have m1 := Nat.le_trans n0 m0
 refine Dt (Bht k hk r1 m1 _) fun q hp hd => ?_
 obtain ⟨q0, q1, q2, q3, q4, q5, q6⟩ := q
 simp only [Prod.mk.injEq] at hp hd
 obtain ⟨rfl, rfl, rfl, rfl⟩ := hp
 have s1 := Avs r1 (4 : Int)
 generalize B3 (4 : Int) (l1, 0, 0) = o1 at s1 hd ⊢
 rcases s1 with ⟨v1, l, e, p, h⟩ | ⟨v1, l2, r2, n1⟩
 ·exact As h rfl (by simp only [Am h, Aq h, Ao h, Au h, Ar h, Av h, An h, Al h, Ak h, cond_false])
 have m2 := Nat.le_trans n1 m1
 obtain ⟨rfl, rfl, rfl⟩ := hd rfl
 simp only [beq_self_eq_true, Bool.not_true, cond_false, cond_true]
 exact Es rfl fun _ => by cases Aw ([102, 114, 101, 101] : List Int) (l0, 0, 0) <;> rfl
theorem Bgh (k : Nat) (hk : 200000 ≤ k) {l0 : List Tk} (r0 : Rdy l0) (m0 : l0.length ≤ 100000) : Sim (Om k ([114, 105, 110, 103], (2 : Int), l0)) (fun o => (o.1, o.2.1, o.2.2.1, o.2.2.2.2.2.1)) (Ay [114, 105, 110, 103] (2 : Int) B0 (l0, 0, 0)).2 (fun r => (r.2.2.2.1, r.2.2.2.2.1, r.2.2.2.2.2.2) = ([114, 105, 110, 103], (2 : Int), (Ay [114, 105, 110, 103] (2 : Int) B0 (l0, 0, 0)).1)) := by
 rw [A9g, Xj]
 refine G6 [114, 105, 110, 103] ⟨_, _, rfl, rfl⟩ (2 : Int) B0 Si Acn Acz (fun j l o => (Fi k).L 1 [] j (Mr ([114, 105, 110, 103], (2 : Int), l, o))) (fun o => (o.1, o.2.1, o.2.2.1, o.2.2.2.2.2.1)) (fun r o => (r.2.2.2.1, r.2.2.2.2.1, r.2.2.2.2.2.2) = ([114, 105, 110, 103], (2 : Int), o)) (fun j l o r hc => ?_) (fun j l o r hc hm => ?_) (fun j l o r rn hl hl2 ho hc hm => ?_) (l0.length + 1) k l0 [] r0 (by omega) (by omega) (by rw [List.length_nil]; omega)
 ·have hc2 : ((hd l).2.1 == [114, 105, 110, 103]) = false := by simpa using hc
  rw [Xi, Ms, Bo k r, Option.bind_some, hc2, cond_false]
  exact ⟨_, rfl, rfl, rfl⟩
 ·rw [Xi, Ms, Bo k r, Option.bind_some, hc, beq_self_eq_true, cond_true, hm, beq_self_eq_true, cond_true, Bb k r, Option.bind_some]
  exact ⟨_, rfl, rfl⟩
 ·have hm2 : (((o.length : Nat) : Int) == (2 : Int)) = false := by simpa using hm
  rw [Xi, Ms, Bo k r, Option.bind_some, hc, beq_self_eq_true, cond_true, hm2, cond_false, A6 k r, Option.bind_some]
  simp only []
  obtain ⟨q, e1, e2, e3⟩ := Bir k hk rn hl2
  rw [e1, Option.bind_some]
  obtain ⟨q0, q1, q2, q3, q4, q5⟩ := q
  simp only [Prod.mk.injEq] at e2 e3
  obtain ⟨rfl, rfl, rfl, rfl⟩ := e2
  refine ⟨fun he => ?_, fun he => ?_⟩
  ·have he2 : ((B0 (nx l, 0, 0)).2.2.1 == 0) = false := by simpa using he
   simp only [he2, Bool.not_false, cond_true]
   exact ⟨_, rfl, rfl⟩
  ·simp only [he, beq_self_eq_true, Bool.not_true, cond_false]
   rw [Ec (by rw [List.length_singleton]; omega) (by rw [List.length_singleton]; omega), e3 he]
theorem Bha (k : Nat) (hk : 200000 ≤ k) {l0 : List Tk} (r0 : Rdy l0) (m0 : l0.length ≤ 100000) : Sim (cpgroup k l0) (fun o => (o.1, o.2.1, o.2.2.1, o.2.2.2.1)) (Ce (l0, 0, 0)).2 (fun o => (o.2.2.2.2, ()) = (Ce (l0, 0, 0)).1) := by
 rw [Bal, Ajl]
 simp only [Eh, Dz, Bd8, Ar7, A9h, Ahd, Option.bind_some]
 refine G7 (pr := (fun o => (o.1, o.2.1, o.2.2.1, o.2.2.2.1))) (fun o => rfl) ?_
 rw [Bab, Aiu]
 simp only [Ce, F7, F8, F4]
 rw [Bj k r0 ([123] : List Int) ⟨_, _, rfl, rfl⟩]
 simp only [Option.bind_some]
 have s0 := Bi r0 ([123] : List Int)
 generalize Aj ([123] : List Int) (l0, 0, 0) = o0 at s0 ⊢
 rcases s0 with ⟨l, e, p, h⟩ | ⟨l1, r1, n0⟩
 ·exact As h rfl (by simp only [Am h, Aq h, Ao h, Au h, Ar h, Av h, An h, Al h, Ak h, cond_false])
 have m1 := Nat.le_trans n0 m0
 simp only [beq_self_eq_true, Bool.not_true, cond_false, cond_true]
 rw [Bis k r1 ([114, 105, 110, 103] : List Int) ⟨_, _, rfl, rfl⟩]
 simp only [Option.bind_some]
 have s1 := ok_sees r1 ([114, 105, 110, 103] : List Int)
 generalize (bif Aw ([114, 105, 110, 103] : List Int) (l1, 0, 0) then (l1, 0, 0) else A5 50 (l1, 0, 0)) = o1 at s1 ⊢
 rcases s1 with ⟨l, e, p, h⟩ | ⟨l2, r2, n1⟩
 ·exact As h rfl (by simp only [Am h, Aq h, Ao h, Au h, Ar h, Av h, An h, Al h, Ak h, cond_false])
 have m2 := Nat.le_trans n1 m1
 simp only [beq_self_eq_true, Bool.not_true, cond_false, cond_true]
 refine Dt (Bgh k hk r2 m2) fun q hp hd => ?_
 obtain ⟨q0, q1, q2, q3, q4, q5, q6⟩ := q
 simp only [Prod.mk.injEq] at hp hd
 obtain ⟨rfl, rfl, rfl, rfl⟩ := hp
 have s2 := Hy r2 ([114, 105, 110, 103] : List Int) (2 : Int) Si Acn Acz
 generalize Ay ([114, 105, 110, 103] : List Int) (2 : Int) B0 (l2, 0, 0) = o2 at s2 hd ⊢
 rcases s2 with ⟨v2, l, e, p, h⟩ | ⟨v2, l3, r3, n2⟩
 ·exact As h rfl (by simp only [Am h, Aq h, Ao h, Au h, Ar h, Av h, An h, Al h, Ak h, cond_false])
 have m3 := Nat.le_trans n2 m2
 obtain ⟨rfl, rfl, rfl⟩ := hd rfl
 simp only [beq_self_eq_true, Bool.not_true, cond_false, cond_true]
 rw [Bj k r3 ([125] : List Int) ⟨_, _, rfl, rfl⟩]
 simp only [Option.bind_some]
 have s3 := Bi r3 ([125] : List Int)
 generalize Aj ([125] : List Int) (l3, 0, 0) = o3 at s3 ⊢
 rcases s3 with ⟨l, e, p, h⟩ | ⟨l4, r4, n3⟩
 ·exact As h rfl (by simp only [Am h, Aq h, Ao h, Au h, Ar h, Av h, An h, Al h, Ak h, cond_false])
 have m4 := Nat.le_trans n3 m3
 simp only [beq_self_eq_true, Bool.not_true, cond_false, cond_true]
 exact Es rfl fun _ => rfl
theorem Bgc (k : Nat) (hk : 200000 ≤ k) {l0 : List Tk} (r0 : Rdy l0) (m0 : l0.length ≤ 100000) (a3 : _) (a4 : _) (a5 : _) (a6 : _) (a7 : _) : Sim (Oh k ([103, 114, 111, 117, 112], (4 : Int), l0, a3, a4, a5, a6, a7)) (fun o => (o.1, o.2.1, o.2.2.1, o.2.2.2.2.2.1)) (Ay [103, 114, 111, 117, 112] (4 : Int) Ce (l0, 0, 0)).2 (fun r => (r.2.2.2.1, r.2.2.2.2.1, r.2.2.2.2.2.2.1, r.2.2.2.2.2.2.2.1, r.2.2.2.2.2.2.2.2.1, r.2.2.2.2.2.2.2.2.2.1, r.2.2.2.2.2.2.2.2.2.2.1, r.2.2.2.2.2.2.2.2.2.2.2) = ([103, 114, 111, 117, 112], (4 : Int), a3, a4, a5, a6, a7, (Ay [103, 114, 111, 117, 112] (4 : Int) Ce (l0, 0, 0)).1)) := by
 rw [A81, Wu]
 refine G6 [103, 114, 111, 117, 112] ⟨_, _, rfl, rfl⟩ (4 : Int) Ce Sc Aci Acu (fun j l o => (Fd k).L 1 [] j (Mh ([103, 114, 111, 117, 112], (4 : Int), l, a3, a4, a5, a6, a7, o))) (fun o => (o.1, o.2.1, o.2.2.1, o.2.2.2.2.2.1)) (fun r o => (r.2.2.2.1, r.2.2.2.2.1, r.2.2.2.2.2.2.1, r.2.2.2.2.2.2.2.1, r.2.2.2.2.2.2.2.2.1, r.2.2.2.2.2.2.2.2.2.1, r.2.2.2.2.2.2.2.2.2.2.1, r.2.2.2.2.2.2.2.2.2.2.2) = ([103, 114, 111, 117, 112], (4 : Int), a3, a4, a5, a6, a7, o)) (fun j l o r hc => ?_) (fun j l o r hc hm => ?_) (fun j l o r rn hl hl2 ho hc hm => ?_) (l0.length + 1) k l0 [] r0 (by omega) (by omega) (by rw [List.length_nil]; omega)
 ·have hc2 : ((hd l).2.1 == [103, 114, 111, 117, 112]) = false := by simpa using hc
  rw [Wt, Mi, Bo k r, Option.bind_some, hc2, cond_false]
  exact ⟨_, rfl, rfl, rfl⟩
 ·rw [Wt, Mi, Bo k r, Option.bind_some, hc, beq_self_eq_true, cond_true, hm, beq_self_eq_true, cond_true, Bb k r, Option.bind_some]
  exact ⟨_, rfl, rfl⟩
 ·have hm2 : (((o.length : Nat) : Int) == (4 : Int)) = false := by simpa using hm
  rw [Wt, Mi, Bo k r, Option.bind_some, hc, beq_self_eq_true, cond_true, hm2, cond_false, A6 k r, Option.bind_some]
  simp only []
  obtain ⟨q, e1, e2, e3⟩ := Bha k hk rn hl2
  rw [e1, Option.bind_some]
  obtain ⟨q0, q1, q2, q3, q4⟩ := q
  simp only [Prod.mk.injEq] at e2 e3
  obtain ⟨rfl, rfl, rfl, rfl⟩ := e2
  refine ⟨fun he => ?_, fun he => ?_⟩
  ·have he2 : ((Ce (nx l, 0, 0)).2.2.1 == 0) = false := by simpa using he
   simp only [he2, Bool.not_false, cond_true]
   exact ⟨_, rfl, rfl⟩
  ·simp only [he, beq_self_eq_true, Bool.not_true, cond_false]
   rw [Ec (by rw [List.length_singleton]; omega) (by rw [List.length_singleton]; omega), e3 he]
theorem Bg7 (k : Nat) (hk : 200000 ≤ k) {l0 : List Tk} (r0 : Rdy l0) (m0 : l0.length ≤ 100000) : Sim (cpfoe k l0) (fun o => (o.2.2.2.1, o.2.2.2.2.1, o.2.2.2.2.2.1, o.2.2.2.2.2.2)) (foeR (l0, 0, 0)).2 (fun o => (o.1, (o.2.1, (o.2.2.1, ()))) = (foeR (l0, 0, 0)).1) := by
 rw [fpfoe_e, Ai7]
 simp only [Bdw, Ara, Ba0, Akx, Ba1, Ak1, Eh, Dz, Option.bind_some]
 refine G7 (pr := (fun o => (o.1, o.2.1, o.2.2.1, o.2.2.2.1))) (fun o => rfl) ?_
 rw [A9p, Ahs]
 simp only [foeR, F7, F8, F4]
 rw [Bio k r0]
 simp only [Option.bind_some]
 rw [Bho k r0]
 simp only [Option.bind_some]
 have s0 := Ga r0
 generalize Ai (l0, 0, 0) = o0 at s0 ⊢
 rcases s0 with ⟨v0, l, e, p, h⟩ | ⟨v0, l1, r1, n0⟩
 ·exact As h rfl (by simp only [Am h, Aq h, Ao h, Au h, Ar h, Av h, An h, Al h, Ak h, cond_false])
 have m1 := Nat.le_trans n0 m0
 simp only [beq_self_eq_true, Bool.not_true, cond_false, cond_true]
 rw [Bhp k r1]
 simp only [Option.bind_some]
 have s1 := Ga r1
 generalize Ai (l1, 0, 0) = o1 at s1 ⊢
 rcases s1 with ⟨v1, l, e, p, h⟩ | ⟨v1, l2, r2, n1⟩
 ·exact As h rfl (by simp only [Am h, Aq h, Ao h, Au h, Ar h, Av h, An h, Al h, Ak h, cond_false])
 have m2 := Nat.le_trans n1 m1
 simp only [beq_self_eq_true, Bool.not_true, cond_false, cond_true]
 rw [Bj k r2 ([59] : List Int) ⟨_, _, rfl, rfl⟩]
 simp only [Option.bind_some]
 have s2 := Bi r2 ([59] : List Int)
 generalize Aj ([59] : List Int) (l2, 0, 0) = o2 at s2 ⊢
 rcases s2 with ⟨l, e, p, h⟩ | ⟨l3, r3, n2⟩
 ·exact As h rfl (by simp only [Am h, Aq h, Ao h, Au h, Ar h, Av h, An h, Al h, Ak h, cond_false])
 have m3 := Nat.le_trans n2 m2
 simp only [beq_self_eq_true, Bool.not_true, cond_false, cond_true]
 exact Es rfl fun _ => rfl
theorem Bgb (k : Nat) (hk : 200000 ≤ k) {l0 : List Tk} (r0 : Rdy l0) (m0 : l0.length ≤ 100000) (a3 : _) (a4 : _) (a5 : _) (a6 : _) (a7 : _) (a8 : _) : Sim (Og k ([102, 111, 101], (64 : Int), l0, a3, a4, a5, a6, a7, a8)) (fun o => (o.1, o.2.1, o.2.2.1, o.2.2.2.2.2.1)) (Ay [102, 111, 101] (64 : Int) foeR (l0, 0, 0)).2 (fun r => (r.2.2.2.1, r.2.2.2.2.1, r.2.2.2.2.2.2.1, r.2.2.2.2.2.2.2.1, r.2.2.2.2.2.2.2.2.1, r.2.2.2.2.2.2.2.2.2.1, r.2.2.2.2.2.2.2.2.2.2.1, r.2.2.2.2.2.2.2.2.2.2.2.1, r.2.2.2.2.2.2.2.2.2.2.2.2) = ([102, 111, 101], (64 : Int), a3, a4, a5, a6, a7, a8, (Ay [102, 111, 101] (64 : Int) foeR (l0, 0, 0)).1)) := by
 rw [A8y, Wp]
 refine G6 [102, 111, 101] ⟨_, _, rfl, rfl⟩ (64 : Int) foeR Sb Ach Acs (fun j l o => (Fc k).L 1 [] j (Mf ([102, 111, 101], (64 : Int), l, a3, a4, a5, a6, a7, a8, o))) (fun o => (o.1, o.2.1, o.2.2.1, o.2.2.2.2.2.1)) (fun r o => (r.2.2.2.1, r.2.2.2.2.1, r.2.2.2.2.2.2.1, r.2.2.2.2.2.2.2.1, r.2.2.2.2.2.2.2.2.1, r.2.2.2.2.2.2.2.2.2.1, r.2.2.2.2.2.2.2.2.2.2.1, r.2.2.2.2.2.2.2.2.2.2.2.1, r.2.2.2.2.2.2.2.2.2.2.2.2) = ([102, 111, 101], (64 : Int), a3, a4, a5, a6, a7, a8, o)) (fun j l o r hc => ?_) (fun j l o r hc hm => ?_) (fun j l o r rn hl hl2 ho hc hm => ?_) (l0.length + 1) k l0 [] r0 (by omega) (by omega) (by rw [List.length_nil]; omega)
 ·have hc2 : ((hd l).2.1 == [102, 111, 101]) = false := by simpa using hc
  rw [Wo, Mg, Bo k r, Option.bind_some, hc2, cond_false]
  exact ⟨_, rfl, rfl, rfl⟩
 ·rw [Wo, Mg, Bo k r, Option.bind_some, hc, beq_self_eq_true, cond_true, hm, beq_self_eq_true, cond_true, Bb k r, Option.bind_some]
  exact ⟨_, rfl, rfl⟩
 ·have hm2 : (((o.length : Nat) : Int) == (64 : Int)) = false := by simpa using hm
  rw [Wo, Mg, Bo k r, Option.bind_some, hc, beq_self_eq_true, cond_true, hm2, cond_false, A6 k r, Option.bind_some]
  simp only []
  obtain ⟨q, e1, e2, e3⟩ := Bg7 k hk rn hl2
  rw [e1, Option.bind_some]
  obtain ⟨q0, q1, q2, q3, q4, q5, q6⟩ := q
  simp only [Prod.mk.injEq] at e2 e3
  obtain ⟨rfl, rfl, rfl, rfl⟩ := e2
  refine ⟨fun he => ?_, fun he => ?_⟩
  ·have he2 : ((foeR (nx l, 0, 0)).2.2.1 == 0) = false := by simpa using he
   simp only [he2, Bool.not_false, cond_true]
   exact ⟨_, rfl, rfl⟩
  ·simp only [he, beq_self_eq_true, Bool.not_true, cond_false]
   rw [Ec (by rw [List.length_singleton]; omega) (by rw [List.length_singleton]; omega), e3 he]
theorem Bhy (k : Nat) (hk : 200000 ≤ k) {l0 : List Tk} (r0 : Rdy l0) (m0 : l0.length ≤ 100000) : Sim (cpnode k l0) (fun o => (o.2.2.1, o.2.2.2.1, o.2.2.2.2.1, o.2.2.2.2.2.1)) (Bu (l0, 0, 0)).2 (fun o => (o.1, (o.2.2.2.2.2.2.1, (o.2.2.2.2.2.2.2.1, (o.2.2.2.2.2.2.2.2.1, (o.2.2.2.2.2.2.2.2.2.1, (o.2.2.2.2.2.2.2.2.2.2, (o.2.1, ()))))))) = (Bu (l0, 0, 0)).1) := by
 rw [Bb1, Amr]
 simp only [Bd4, Ar0, Bbq, Ama, Eh, Dz, A85, Agt, A9b, Ag3, A9e, Ag8, A82, Ago, A8z, Agj, Option.bind_some]
 refine G7 (pr := (fun o => (o.1, o.2.1, o.2.2.1, o.2.2.2.1))) (fun o => rfl) ?_
 rw [A9z, Ah8]
 simp only [Bu, F7, F8, F4]
 rw [Biq k r0]
 simp only [Option.bind_some]
 rw [Bhs k r0]
 simp only [Option.bind_some]
 have s0 := Ga r0
 generalize Ai (l0, 0, 0) = o0 at s0 ⊢
 rcases s0 with ⟨v0, l, e, p, h⟩ | ⟨v0, l1, r1, n0⟩
 ·exact As h rfl (by simp only [Am h, Aq h, Ao h, Au h, Ar h, Av h, An h, Al h, Ak h, cond_false])
 have m1 := Nat.le_trans n0 m0
 simp only [beq_self_eq_true, Bool.not_true, cond_false, cond_true]
 rw [Bj k r1 ([123] : List Int) ⟨_, _, rfl, rfl⟩]
 simp only [Option.bind_some]
 have s1 := Bi r1 ([123] : List Int)
 generalize Aj ([123] : List Int) (l1, 0, 0) = o1 at s1 ⊢
 rcases s1 with ⟨l, e, p, h⟩ | ⟨l2, r2, n1⟩
 ·exact As h rfl (by simp only [Am h, Aq h, Ao h, Au h, Ar h, Av h, An h, Al h, Ak h, cond_false])
 have m2 := Nat.le_trans n1 m1
 simp only [beq_self_eq_true, Bool.not_true, cond_false, cond_true]
 refine Dt (Bgd k hk r2 m2 _ _) fun q hp hd => ?_
 obtain ⟨q0, q1, q2, q3, q4, q5, q6, q7, q8⟩ := q
 simp only [Prod.mk.injEq] at hp hd
 obtain ⟨rfl, rfl, rfl, rfl⟩ := hp
 have s2 := Hy r2 ([104, 101, 97, 100] : List Int) (16 : Int) Sd Acj Acv
 generalize Ay ([104, 101, 97, 100] : List Int) (16 : Int) Cf (l2, 0, 0) = o2 at s2 hd ⊢
 rcases s2 with ⟨v2, l, e, p, h⟩ | ⟨v2, l3, r3, n2⟩
 ·exact As h rfl (by simp only [Am h, Aq h, Ao h, Au h, Ar h, Av h, An h, Al h, Ak h, cond_false])
 have m3 := Nat.le_trans n2 m2
 obtain ⟨rfl, rfl, rfl, rfl, rfl⟩ := hd rfl
 simp only [beq_self_eq_true, Bool.not_true, cond_false, cond_true]
 refine Dt (Bgf k hk r3 m3 _ _ _) fun q hp hd => ?_
 obtain ⟨q0, q1, q2, q3, q4, q5, q6, q7, q8, q9⟩ := q
 simp only [Prod.mk.injEq] at hp hd
 obtain ⟨rfl, rfl, rfl, rfl⟩ := hp
 have s3 := Hy r3 ([119, 97, 108, 107] : List Int) (8 : Int) Sl Acp Ac1
 generalize Ay ([119, 97, 108, 107] : List Int) (8 : Int) Ci (l3, 0, 0) = o3 at s3 hd ⊢
 rcases s3 with ⟨v3, l, e, p, h⟩ | ⟨v3, l4, r4, n3⟩
 ·exact As h rfl (by simp only [Am h, Aq h, Ao h, Au h, Ar h, Av h, An h, Al h, Ak h, cond_false])
 have m4 := Nat.le_trans n3 m3
 obtain ⟨rfl, rfl, rfl, rfl, rfl, rfl⟩ := hd rfl
 simp only [beq_self_eq_true, Bool.not_true, cond_false, cond_true]
 refine Dt (Bgg k hk r4 m4 _ _ _ _) fun q hp hd => ?_
 obtain ⟨q0, q1, q2, q3, q4, q5, q6, q7, q8, q9, q10⟩ := q
 simp only [Prod.mk.injEq] at hp hd
 obtain ⟨rfl, rfl, rfl, rfl⟩ := hp
 have s4 := Hy r4 ([112, 104, 97, 115, 101] : List Int) (16 : Int) Sh Acm Acy
 generalize Ay ([112, 104, 97, 115, 101] : List Int) (16 : Int) Cq (l4, 0, 0) = o4 at s4 hd ⊢
 rcases s4 with ⟨v4, l, e, p, h⟩ | ⟨v4, l5, r5, n4⟩
 ·exact As h rfl (by simp only [Am h, Aq h, Ao h, Au h, Ar h, Av h, An h, Al h, Ak h, cond_false])
 have m5 := Nat.le_trans n4 m4
 obtain ⟨rfl, rfl, rfl, rfl, rfl, rfl, rfl⟩ := hd rfl
 simp only [beq_self_eq_true, Bool.not_true, cond_false, cond_true]
 refine Dt (Bgc k hk r5 m5 _ _ _ _ _) fun q hp hd => ?_
 obtain ⟨q0, q1, q2, q3, q4, q5, q6, q7, q8, q9, q10, q11⟩ := q
 simp only [Prod.mk.injEq] at hp hd
 obtain ⟨rfl, rfl, rfl, rfl⟩ := hp
 have s5 := Hy r5 ([103, 114, 111, 117, 112] : List Int) (4 : Int) Sc Aci Acu
 generalize Ay ([103, 114, 111, 117, 112] : List Int) (4 : Int) Ce (l5, 0, 0) = o5 at s5 hd ⊢
 rcases s5 with ⟨v5, l, e, p, h⟩ | ⟨v5, l6, r6, n5⟩
 ·exact As h rfl (by simp only [Am h, Aq h, Ao h, Au h, Ar h, Av h, An h, Al h, Ak h, cond_false])
 have m6 := Nat.le_trans n5 m5
 obtain ⟨rfl, rfl, rfl, rfl, rfl, rfl, rfl, rfl⟩ := hd rfl
 simp only [beq_self_eq_true, Bool.not_true, cond_false, cond_true]
 refine Dt (Bgb k hk r6 m6 _ _ _ _ _ _) fun q hp hd => ?_
 obtain ⟨q0, q1, q2, q3, q4, q5, q6, q7, q8, q9, q10, q11, q12⟩ := q
 simp only [Prod.mk.injEq] at hp hd
 obtain ⟨rfl, rfl, rfl, rfl⟩ := hp
 have s6 := Hy r6 ([102, 111, 101] : List Int) (64 : Int) Sb Ach Acs
 generalize Ay ([102, 111, 101] : List Int) (64 : Int) foeR (l6, 0, 0) = o6 at s6 hd ⊢
 rcases s6 with ⟨v6, l, e, p, h⟩ | ⟨v6, l7, r7, n6⟩
 ·exact As h rfl (by simp only [Am h, Aq h, Ao h, Au h, Ar h, Av h, An h, Al h, Ak h, cond_false])
 have m7 := Nat.le_trans n6 m6
 obtain ⟨rfl, rfl, rfl, rfl, rfl, rfl, rfl, rfl, rfl⟩ := hd rfl
 simp only [beq_self_eq_true, Bool.not_true, cond_false, cond_true]
 rw [Bj k r7 ([125] : List Int) ⟨_, _, rfl, rfl⟩]
 simp only [Option.bind_some]
 have s7 := Bi r7 ([125] : List Int)
 generalize Aj ([125] : List Int) (l7, 0, 0) = o7 at s7 ⊢
 rcases s7 with ⟨l, e, p, h⟩ | ⟨l8, r8, n7⟩
 ·exact As h rfl (by simp only [Am h, Aq h, Ao h, Au h, Ar h, Av h, An h, Al h, Ak h, cond_false])
 have m8 := Nat.le_trans n7 m7
 simp only [beq_self_eq_true, Bool.not_true, cond_false, cond_true]
 exact Es rfl fun _ => rfl
theorem Bge (k : Nat) (hk : 200000 ≤ k) {l0 : List Tk} (r0 : Rdy l0) (m0 : l0.length ≤ 100000) (a3 : _) (a4 : _) (a5 : _) (a6 : _) (a7 : _) (a8 : _) (a9 : _) : Sim (Oj k ([110, 111, 100, 101], (12 : Int), l0, a3, a4, a5, a6, a7, a8, a9)) (fun o => (o.1, o.2.1, o.2.2.1, o.2.2.2.2.2.1)) (Ay [110, 111, 100, 101] (12 : Int) Bu (l0, 0, 0)).2 (fun r => (r.2.2.2.1, r.2.2.2.2.1, r.2.2.2.2.2.2.1, r.2.2.2.2.2.2.2.1, r.2.2.2.2.2.2.2.2.1, r.2.2.2.2.2.2.2.2.2.1, r.2.2.2.2.2.2.2.2.2.2.1, r.2.2.2.2.2.2.2.2.2.2.2.1, r.2.2.2.2.2.2.2.2.2.2.2.2.1, r.2.2.2.2.2.2.2.2.2.2.2.2.2) = ([110, 111, 100, 101], (12 : Int), a3, a4, a5, a6, a7, a8, a9, (Ay [110, 111, 100, 101] (12 : Int) Bu (l0, 0, 0)).1)) := by
 rw [A87, W4]
 refine G6 [110, 111, 100, 101] ⟨_, _, rfl, rfl⟩ (12 : Int) Bu Sf Acl Acx (fun j l o => (Ff k).L 1 [] j (Ml ([110, 111, 100, 101], (12 : Int), l, a3, a4, a5, a6, a7, a8, a9, o))) (fun o => (o.1, o.2.1, o.2.2.1, o.2.2.2.2.2.1)) (fun r o => (r.2.2.2.1, r.2.2.2.2.1, r.2.2.2.2.2.2.1, r.2.2.2.2.2.2.2.1, r.2.2.2.2.2.2.2.2.1, r.2.2.2.2.2.2.2.2.2.1, r.2.2.2.2.2.2.2.2.2.2.1, r.2.2.2.2.2.2.2.2.2.2.2.1, r.2.2.2.2.2.2.2.2.2.2.2.2.1, r.2.2.2.2.2.2.2.2.2.2.2.2.2) = ([110, 111, 100, 101], (12 : Int), a3, a4, a5, a6, a7, a8, a9, o)) (fun j l o r hc => ?_) (fun j l o r hc hm => ?_) (fun j l o r rn hl hl2 ho hc hm => ?_) (l0.length + 1) k l0 [] r0 (by omega) (by omega) (by rw [List.length_nil]; omega)
 ·have hc2 : ((hd l).2.1 == [110, 111, 100, 101]) = false := by simpa using hc
  rw [W3, Mm, Bo k r, Option.bind_some, hc2, cond_false]
  exact ⟨_, rfl, rfl, rfl⟩
 ·rw [W3, Mm, Bo k r, Option.bind_some, hc, beq_self_eq_true, cond_true, hm, beq_self_eq_true, cond_true, Bb k r, Option.bind_some]
  exact ⟨_, rfl, rfl⟩
 ·have hm2 : (((o.length : Nat) : Int) == (12 : Int)) = false := by simpa using hm
  rw [W3, Mm, Bo k r, Option.bind_some, hc, beq_self_eq_true, cond_true, hm2, cond_false, A6 k r, Option.bind_some]
  simp only []
  obtain ⟨q, e1, e2, e3⟩ := Bhy k hk rn hl2
  rw [e1, Option.bind_some]
  obtain ⟨q0, q1, q2, q3, q4, q5, q6, q7, q8, q9, q10⟩ := q
  simp only [Prod.mk.injEq] at e2 e3
  obtain ⟨rfl, rfl, rfl, rfl⟩ := e2
  refine ⟨fun he => ?_, fun he => ?_⟩
  ·have he2 : ((Bu (nx l, 0, 0)).2.2.1 == 0) = false := by simpa using he
   simp only [he2, Bool.not_false, cond_true]
   exact ⟨_, rfl, rfl⟩
  ·simp only [he, beq_self_eq_true, Bool.not_true, cond_false]
   rw [Ec (by rw [List.length_singleton]; omega) (by rw [List.length_singleton]; omega), e3 he]
theorem Bit (k : Nat) (hk : 200000 ≤ k) {l0 : List Tk} (r0 : Rdy l0) (m0 : l0.length ≤ 100000) : Sim (cpstop k l0) (fun o => (o.2.2.2.2.2.2.1, o.2.2.2.2.2.2.2.1, o.2.2.2.2.2.2.2.2.1, o.2.2.2.2.2.2.2.2.2)) (Cg (l0, 0, 0)).2 (fun o => (o.1, (o.2.1, (o.2.2.1, (o.2.2.2.1, (o.2.2.2.2.1, (o.2.2.2.2.2.1, ())))))) = (Cg (l0, 0, 0)).1) := by
 rw [Bd9, Ar9]
 simp only [Bdx, Are, Ba2, Ak5, Eh, Dz, Ba3, Ak9, Bav, Aka, Bcb, Anu, Bcd, An3, Option.bind_some]
 refine G7 (pr := (fun o => (o.1, o.2.1, o.2.2.1, o.2.2.2.1))) (fun o => rfl) ?_
 rw [A9t, Ahz]
 simp only [Cg, F7, F8, F4]
 rw [Bip k r0]
 simp only [Option.bind_some]
 rw [Bhq k r0]
 simp only [Option.bind_some]
 have s0 := Ga r0
 generalize Ai (l0, 0, 0) = o0 at s0 ⊢
 rcases s0 with ⟨v0, l, e, p, h⟩ | ⟨v0, l1, r1, n0⟩
 ·exact As h rfl (by simp only [Am h, Aq h, Ao h, Au h, Ar h, Av h, An h, Al h, Ak h, cond_false])
 have m1 := Nat.le_trans n0 m0
 simp only [beq_self_eq_true, Bool.not_true, cond_false, cond_true]
 rw [Bj k r1 ([111, 117, 116] : List Int) ⟨_, _, rfl, rfl⟩]
 simp only [Option.bind_some]
 have s1 := Bi r1 ([111, 117, 116] : List Int)
 generalize Aj ([111, 117, 116] : List Int) (l1, 0, 0) = o1 at s1 ⊢
 rcases s1 with ⟨l, e, p, h⟩ | ⟨l2, r2, n1⟩
 ·exact As h rfl (by simp only [Am h, Aq h, Ao h, Au h, Ar h, Av h, An h, Al h, Ak h, cond_false])
 have m2 := Nat.le_trans n1 m1
 simp only [beq_self_eq_true, Bool.not_true, cond_false, cond_true]
 rw [Bhr k r2]
 simp only [Option.bind_some]
 have s2 := Ga r2
 generalize Ai (l2, 0, 0) = o2 at s2 ⊢
 rcases s2 with ⟨v2, l, e, p, h⟩ | ⟨v2, l3, r3, n2⟩
 ·exact As h rfl (by simp only [Am h, Aq h, Ao h, Au h, Ar h, Av h, An h, Al h, Ak h, cond_false])
 have m3 := Nat.le_trans n2 m2
 simp only [beq_self_eq_true, Bool.not_true, cond_false, cond_true]
 rw [Bj k r3 ([105, 110] : List Int) ⟨_, _, rfl, rfl⟩]
 simp only [Option.bind_some]
 have s3 := Bi r3 ([105, 110] : List Int)
 generalize Aj ([105, 110] : List Int) (l3, 0, 0) = o3 at s3 ⊢
 rcases s3 with ⟨l, e, p, h⟩ | ⟨l4, r4, n3⟩
 ·exact As h rfl (by simp only [Am h, Aq h, Ao h, Au h, Ar h, Av h, An h, Al h, Ak h, cond_false])
 have m4 := Nat.le_trans n3 m3
 simp only [beq_self_eq_true, Bool.not_true, cond_false, cond_true]
 rw [Bhj k r4]
 simp only [Option.bind_some]
 have s4 := Ga r4
 generalize Ai (l4, 0, 0) = o4 at s4 ⊢
 rcases s4 with ⟨v4, l, e, p, h⟩ | ⟨v4, l5, r5, n4⟩
 ·exact As h rfl (by simp only [Am h, Aq h, Ao h, Au h, Ar h, Av h, An h, Al h, Ak h, cond_false])
 have m5 := Nat.le_trans n4 m4
 simp only [beq_self_eq_true, Bool.not_true, cond_false, cond_true]
 rw [Bj k r5 ([97, 104, 101, 97, 100] : List Int) ⟨_, _, rfl, rfl⟩]
 simp only [Option.bind_some]
 have s5 := Bi r5 ([97, 104, 101, 97, 100] : List Int)
 generalize Aj ([97, 104, 101, 97, 100] : List Int) (l5, 0, 0) = o5 at s5 ⊢
 rcases s5 with ⟨l, e, p, h⟩ | ⟨l6, r6, n5⟩
 ·exact As h rfl (by simp only [Am h, Aq h, Ao h, Au h, Ar h, Av h, An h, Al h, Ak h, cond_false])
 have m6 := Nat.le_trans n5 m5
 simp only [beq_self_eq_true, Bool.not_true, cond_false, cond_true]
 rw [Bh6 k r6]
 simp only [Option.bind_some]
 have s6 := Cn r6
 generalize numC (l6, 0, 0) = o6 at s6 ⊢
 rcases s6 with ⟨v6, l, e, p, h⟩ | ⟨v6, l7, r7, n6⟩
 ·exact As h rfl (by simp only [Am h, Aq h, Ao h, Au h, Ar h, Av h, An h, Al h, Ak h, cond_false])
 have m7 := Nat.le_trans n6 m6
 simp only [beq_self_eq_true, Bool.not_true, cond_false, cond_true]
 rw [Bj k r7 ([98, 97, 99, 107] : List Int) ⟨_, _, rfl, rfl⟩]
 simp only [Option.bind_some]
 have s7 := Bi r7 ([98, 97, 99, 107] : List Int)
 generalize Aj ([98, 97, 99, 107] : List Int) (l7, 0, 0) = o7 at s7 ⊢
 rcases s7 with ⟨l, e, p, h⟩ | ⟨l8, r8, n7⟩
 ·exact As h rfl (by simp only [Am h, Aq h, Ao h, Au h, Ar h, Av h, An h, Al h, Ak h, cond_false])
 have m8 := Nat.le_trans n7 m7
 simp only [beq_self_eq_true, Bool.not_true, cond_false, cond_true]
 rw [Bh7 k r8]
 simp only [Option.bind_some]
 have s8 := Cn r8
 generalize numC (l8, 0, 0) = o8 at s8 ⊢
 rcases s8 with ⟨v8, l, e, p, h⟩ | ⟨v8, l9, r9, n8⟩
 ·exact As h rfl (by simp only [Am h, Aq h, Ao h, Au h, Ar h, Av h, An h, Al h, Ak h, cond_false])
 have m9 := Nat.le_trans n8 m8
 simp only [beq_self_eq_true, Bool.not_true, cond_false, cond_true]
 rw [Bj k r9 ([59] : List Int) ⟨_, _, rfl, rfl⟩]
 simp only [Option.bind_some]
 have s9 := Bi r9 ([59] : List Int)
 generalize Aj ([59] : List Int) (l9, 0, 0) = o9 at s9 ⊢
 rcases s9 with ⟨l, e, p, h⟩ | ⟨l10, r10, n9⟩
 ·exact As h rfl (by simp only [Am h, Aq h, Ao h, Au h, Ar h, Av h, An h, Al h, Ak h, cond_false])
 have m10 := Nat.le_trans n9 m9
 simp only [beq_self_eq_true, Bool.not_true, cond_false, cond_true]
 exact Es rfl fun _ => rfl
theorem Bgi (k : Nat) (hk : 200000 ≤ k) {l0 : List Tk} (r0 : Rdy l0) (m0 : l0.length ≤ 100000) (a3 : _) (a4 : _) (a5 : _) (a6 : _) (a7 : _) (a8 : _) (a9 : _) (a10 : _) : Sim (On k ([115, 116, 111, 112], (12 : Int), l0, a3, a4, a5, a6, a7, a8, a9, a10)) (fun o => (o.1, o.2.1, o.2.2.1, o.2.2.2.2.2.1)) (Ay [115, 116, 111, 112] (12 : Int) Cg (l0, 0, 0)).2 (fun r => (r.2.2.2.1, r.2.2.2.2.1, r.2.2.2.2.2.2.1, r.2.2.2.2.2.2.2.1, r.2.2.2.2.2.2.2.2.1, r.2.2.2.2.2.2.2.2.2.1, r.2.2.2.2.2.2.2.2.2.2.1, r.2.2.2.2.2.2.2.2.2.2.2.1, r.2.2.2.2.2.2.2.2.2.2.2.2.1, r.2.2.2.2.2.2.2.2.2.2.2.2.2.1, r.2.2.2.2.2.2.2.2.2.2.2.2.2.2) = ([115, 116, 111, 112], (12 : Int), a3, a4, a5, a6, a7, a8, a9, a10, (Ay [115, 116, 111, 112] (12 : Int) Cg (l0, 0, 0)).1)) := by
 rw [A9j, Xo]
 refine G6 [115, 116, 111, 112] ⟨_, _, rfl, rfl⟩ (12 : Int) Cg Sj Aco Ac0 (fun j l o => (Fj k).L 1 [] j (Mt ([115, 116, 111, 112], (12 : Int), l, a3, a4, a5, a6, a7, a8, a9, a10, o))) (fun o => (o.1, o.2.1, o.2.2.1, o.2.2.2.2.2.1)) (fun r o => (r.2.2.2.1, r.2.2.2.2.1, r.2.2.2.2.2.2.1, r.2.2.2.2.2.2.2.1, r.2.2.2.2.2.2.2.2.1, r.2.2.2.2.2.2.2.2.2.1, r.2.2.2.2.2.2.2.2.2.2.1, r.2.2.2.2.2.2.2.2.2.2.2.1, r.2.2.2.2.2.2.2.2.2.2.2.2.1, r.2.2.2.2.2.2.2.2.2.2.2.2.2.1, r.2.2.2.2.2.2.2.2.2.2.2.2.2.2) = ([115, 116, 111, 112], (12 : Int), a3, a4, a5, a6, a7, a8, a9, a10, o)) (fun j l o r hc => ?_) (fun j l o r hc hm => ?_) (fun j l o r rn hl hl2 ho hc hm => ?_) (l0.length + 1) k l0 [] r0 (by omega) (by omega) (by rw [List.length_nil]; omega)
 ·have hc2 : ((hd l).2.1 == [115, 116, 111, 112]) = false := by simpa using hc
  rw [Xn, Mu, Bo k r, Option.bind_some, hc2, cond_false]
  exact ⟨_, rfl, rfl, rfl⟩
 ·rw [Xn, Mu, Bo k r, Option.bind_some, hc, beq_self_eq_true, cond_true, hm, beq_self_eq_true, cond_true, Bb k r, Option.bind_some]
  exact ⟨_, rfl, rfl⟩
 ·have hm2 : (((o.length : Nat) : Int) == (12 : Int)) = false := by simpa using hm
  rw [Xn, Mu, Bo k r, Option.bind_some, hc, beq_self_eq_true, cond_true, hm2, cond_false, A6 k r, Option.bind_some]
  simp only []
  obtain ⟨q, e1, e2, e3⟩ := Bit k hk rn hl2
  rw [e1, Option.bind_some]
  obtain ⟨q0, q1, q2, q3, q4, q5, q6, q7, q8, q9⟩ := q
  simp only [Prod.mk.injEq] at e2 e3
  obtain ⟨rfl, rfl, rfl, rfl⟩ := e2
  refine ⟨fun he => ?_, fun he => ?_⟩
  ·have he2 : ((Cg (nx l, 0, 0)).2.2.1 == 0) = false := by simpa using he
   simp only [he2, Bool.not_false, cond_true]
   exact ⟨_, rfl, rfl⟩
  ·simp only [he, beq_self_eq_true, Bool.not_true, cond_false]
   rw [Ec (by rw [List.length_singleton]; omega) (by rw [List.length_singleton]; omega), e3 he]
def Dd (x : RS) : (Int × Int × Int × Int × Int × List YT6 × Bool) × RS :=
 let a := numR [99, 121, 99, 108, 101] x
 let b := numR [116, 111] a.2
 let c := numR [98, 121] b.2
 let p := C1 [112, 101, 97, 107] (Aj [59] c.2)
 let n := Ay [110, 111, 100, 101] 12 Bu (Aj [59] p.2)
 ((a.1, b.1, c.1, p.1.1, p.1.2, n.1, Aw [97, 114, 116, 101, 114, 121] n.2), bif Aw [97, 114, 116, 101, 114, 121] n.2 then A0 n.2 else n.2)
def Je (o : (Int × Int × Int × Int × Int × List YT6 × Bool) × RS) : NetT × RS :=
 let t := bif o.1.2.2.2.2.2.2 then Bf o.2 else (([], 0, 0), o.2)
 ((o.1.1, o.1.2.1, o.1.2.2.1, o.1.2.2.2.1, o.1.2.2.2.2.1, o.1.2.2.2.2.2.1, t.1.1, t.1.2.1, t.1.2.2), bif (hd t.2.1).1 != 0 then A5 50 t.2 else t.2)
theorem Avl (x : RS) : netR x = Je (Dd x) := by
 unfold netR Je Dd
 simp only []
 generalize Ay [110, 111, 100, 101] 12 Bu _ = n
 cases Aw [97, 114, 116, 101, 114, 121] n.2 <;> rfl
theorem A1o (x : RS) : Adv x (Dd x).2 := (Cz _ _).trans ((Cz _ _).trans ((Cz _ _).trans ((Cb _ _).trans ((Ada _ _).trans ((Cb _ _).trans ((Gq Sf _).trans (Gp (Ew _) (.refl _))))))))
theorem Bkb (x : RS) : Suf x (Dd x).2 := (C5 _ _).trans ((C5 _ _).trans ((C5 _ _).trans ((Ch _ _).trans ((A0z _ _).trans ((Ch _ _).trans ((G9 Acl _).trans (G8 (D8 _) (Dl _))))))))
theorem A1k (x : RS) (h : Zr x) : Zr (Dd x).2 :=
 have q := Hd [110, 111, 100, 101] 12 Bu Acx _ (Ca [59] _ (A1h [112, 101, 97, 107] _ (Ca [59] _ (C6 [98, 121] _ (C6 [116, 111] _ (C6 [99, 121, 99, 108, 101] x h))))))
 Gl (Fv _ q) q
theorem ok_net1 {l : List Tk} (r : Rdy l) : OK l (Dd (l, 0, 0)) := .of r (A1o _) (Bkb _) (A1k _ zr0)
theorem Bj8 (x : RS) : Suf x (Bf x).2 := (Ch _ _).trans ((G9 Aco _).trans ((C5 _ _).trans ((C5 _ _).trans ((Ch _ _).trans (Ch _ _)))))
theorem A1g (x : RS) (h : Zr x) : Zr (Bf x).2 := Ca _ _ (Ca _ _ (C6 _ _ (C6 _ _ (Hd _ _ _ Ac0 _ (Ca _ _ h)))))
theorem Bgp {l : List Tk} (r : Rdy l) : OK l (Bf (l, 0, 0)) := .of r (A1m _) (Bj8 _) (A1g _ zr0)
theorem Bj1 {l : List Tk} {e p : Int} (h : e ≠ 0) : (Bf (l, e, p)).2 = (l, e, p) := by
 unfold Bf
 simp only [Am h, Ar h, stk_num h]
theorem Avk {v : Int × Int × Int × Int × Int × List YT6 × Bool} {l : List Tk} {e p : Int} (h : e ≠ 0) : (Je (v, l, e, p)).2 = (l, e, p) := by
 unfold Je
 simp only []
 have ht : (bif v.2.2.2.2.2.2 then Bf (l, e, p) else (([], 0, 0), l, e, p)).2 = (l, e, p) := by
  cases v.2.2.2.2.2.2
  ·rfl
  ·exact Bj1 h
 rw [ht, Ak h]
 cases (hd l).1 != 0 <;> rfl
theorem Bhv (k : Nat) (hk : 200000 ≤ k) {l0 : List Tk} (r0 : Rdy l0) (m0 : l0.length ≤ 100000) : Sim (cpall k (([99, 121, 99, 108, 101] : List Int), ([116, 111] : List Int), ([98, 121] : List Int), ([59] : List Int), ([112, 101, 97, 107] : List Int), ([59] : List Int), ([110, 111, 100, 101] : List Int), (12 : Int), ([97, 114, 116, 101, 114, 121] : List Int), (0 : Int), (0 : Int), (0 : Int), (0 : Int), (0 : Int), (0 : Int), (0 : Int), false, l0)) (fun o => (o.1, o.2.1, o.2.2.1, o.2.2.2.1)) (Dd (l0, 0, 0)).2 (fun o => (o.2.2.2.2.2.2.2.2.2.2.2.2.2.1, o.2.2.2.2.2.2.2.2.2.2.2.2.2.2.1, o.2.2.2.2.2.2.2.2.2.2.2.2.2.2.2.1, o.2.2.2.2.2.2.2.2.2.2.2.2.2.2.2.2.1, o.2.2.2.2.2.2.2.2.2.2.2.2.2.2.2.2.2.1, o.2.2.2.2.2.2.2.2.2.2.2.2.2.2.2.2.2.2.1, o.2.2.2.2.2.2.2.2.2.2.2.2.2.2.2.2.2.2.2.1, o.2.2.2.2.2.2.2.2.2.2.2.2.2.2.2.2.2.2.2.2.2, o.2.2.2.2.2.2.2.2.2.2.2.2.2.2.2.2.2.2.2.2.1) = ((Dd (l0, 0, 0)).1.1, (Dd (l0, 0, 0)).1.2.1, (Dd (l0, 0, 0)).1.2.2.1, (Dd (l0, 0, 0)).1.2.2.2.1, (Dd (l0, 0, 0)).1.2.2.2.2.1, 0, 0, (Dd (l0, 0, 0)).1.2.2.2.2.2.1, (Dd (l0, 0, 0)).1.2.2.2.2.2.2)) := by
 rw [fpall_e, Aiy]
 simp only [Dd, F7, F8, F4]
 rw [Biy k r0 ([99, 121, 99, 108, 101] : List Int) ⟨_, _, rfl, rfl⟩]
 simp only [Option.bind_some]
 have s0 := Bi r0 ([99, 121, 99, 108, 101] : List Int)
 generalize Aj ([99, 121, 99, 108, 101] : List Int) (l0, 0, 0) = o0 at s0 ⊢
 rcases s0 with ⟨l, e, p, h⟩ | ⟨l1, r1, n0⟩
 ·exact As h rfl (by simp only [Am h, Aq h, Ao h, Au h, Ar h, Av h, An h, Al h, Ak h, cond_false])
 have m1 := Nat.le_trans n0 m0
 simp only [beq_self_eq_true, Bool.not_true, cond_false, cond_true]
 rw [Bij k r1]
 simp only [Option.bind_some]
 have s1 := Cn r1
 generalize numC (l1, 0, 0) = o1 at s1 ⊢
 rcases s1 with ⟨v1, l, e, p, h⟩ | ⟨v1, l2, r2, n1⟩
 ·exact As h rfl (by simp only [Am h, Aq h, Ao h, Au h, Ar h, Av h, An h, Al h, Ak h, cond_false])
 have m2 := Nat.le_trans n1 m1
 simp only [beq_self_eq_true, Bool.not_true, cond_false, cond_true]
 rw [Bj k r2 ([116, 111] : List Int) ⟨_, _, rfl, rfl⟩]
 simp only [Option.bind_some]
 have s2 := Bi r2 ([116, 111] : List Int)
 generalize Aj ([116, 111] : List Int) (l2, 0, 0) = o2 at s2 ⊢
 rcases s2 with ⟨l, e, p, h⟩ | ⟨l3, r3, n2⟩
 ·exact As h rfl (by simp only [Am h, Aq h, Ao h, Au h, Ar h, Av h, An h, Al h, Ak h, cond_false])
 have m3 := Nat.le_trans n2 m2
 simp only [beq_self_eq_true, Bool.not_true, cond_false, cond_true]
 rw [Bh9 k r3]
 simp only [Option.bind_some]
 have s3 := Cn r3
 generalize numC (l3, 0, 0) = o3 at s3 ⊢
 rcases s3 with ⟨v3, l, e, p, h⟩ | ⟨v3, l4, r4, n3⟩
 ·exact As h rfl (by simp only [Am h, Aq h, Ao h, Au h, Ar h, Av h, An h, Al h, Ak h, cond_false])
 have m4 := Nat.le_trans n3 m3
 simp only [beq_self_eq_true, Bool.not_true, cond_false, cond_true]
 rw [Bj k r4 ([98, 121] : List Int) ⟨_, _, rfl, rfl⟩]
 simp only [Option.bind_some]
 have s4 := Bi r4 ([98, 121] : List Int)
 generalize Aj ([98, 121] : List Int) (l4, 0, 0) = o4 at s4 ⊢
 rcases s4 with ⟨l, e, p, h⟩ | ⟨l5, r5, n4⟩
 ·exact As h rfl (by simp only [Am h, Aq h, Ao h, Au h, Ar h, Av h, An h, Al h, Ak h, cond_false])
 have m5 := Nat.le_trans n4 m4
 simp only [beq_self_eq_true, Bool.not_true, cond_false, cond_true]
 rw [Bib k r5]
 simp only [Option.bind_some]
 have s5 := Cn r5
 generalize numC (l5, 0, 0) = o5 at s5 ⊢
 rcases s5 with ⟨v5, l, e, p, h⟩ | ⟨v5, l6, r6, n5⟩
 ·exact As h rfl (by simp only [Am h, Aq h, Ao h, Au h, Ar h, Av h, An h, Al h, Ak h, cond_false])
 have m6 := Nat.le_trans n5 m5
 simp only [beq_self_eq_true, Bool.not_true, cond_false, cond_true]
 rw [Bj k r6 ([59] : List Int) ⟨_, _, rfl, rfl⟩]
 simp only [Option.bind_some]
 have s6 := Bi r6 ([59] : List Int)
 generalize Aj ([59] : List Int) (l6, 0, 0) = o6 at s6 ⊢
 rcases s6 with ⟨l, e, p, h⟩ | ⟨l7, r7, n6⟩
 ·exact As h rfl (by simp only [Am h, Aq h, Ao h, Au h, Ar h, Av h, An h, Al h, Ak h, cond_false])
 have m7 := Nat.le_trans n6 m6
 simp only [beq_self_eq_true, Bool.not_true, cond_false, cond_true]
 rw [Bj k r7 ([112, 101, 97, 107] : List Int) ⟨_, _, rfl, rfl⟩]
 simp only [Option.bind_some]
 have s7 := Bi r7 ([112, 101, 97, 107] : List Int)
 generalize Aj ([112, 101, 97, 107] : List Int) (l7, 0, 0) = o7 at s7 ⊢
 rcases s7 with ⟨l, e, p, h⟩ | ⟨l8, r8, n7⟩
 ·exact As h rfl (by simp only [Am h, Aq h, Ao h, Au h, Ar h, Av h, An h, Al h, Ak h, cond_false])
 have m8 := Nat.le_trans n7 m7
 simp only [beq_self_eq_true, Bool.not_true, cond_false, cond_true]
 refine Dt (Bg9 k hk r8 m8 _ _ _ _ _ _ _) fun q hp hd => ?_
 obtain ⟨q0, q1, q2, q3, q4, q5, q6, q7, q8, q9, q10⟩ := q
 simp only [Prod.mk.injEq] at hp hd
 obtain ⟨rfl, rfl, rfl, rfl⟩ := hp
 have s8 := Avr r8
 generalize Dc (l8, 0, 0) = o8 at s8 hd ⊢
 rcases s8 with ⟨v8, l, e, p, h⟩ | ⟨v8, l9, r9, n8⟩
 ·exact As h rfl (by simp only [Am h, Aq h, Ao h, Au h, Ar h, Av h, An h, Al h, Ak h, cond_false])
 have m9 := Nat.le_trans n8 m8
 obtain ⟨rfl, rfl, rfl, rfl, rfl, rfl, rfl⟩ := hd rfl
 simp only [beq_self_eq_true, Bool.not_true, cond_false, cond_true]
 rw [Bj k r9 ([59] : List Int) ⟨_, _, rfl, rfl⟩]
 simp only [Option.bind_some]
 have s9 := Bi r9 ([59] : List Int)
 generalize Aj ([59] : List Int) (l9, 0, 0) = o9 at s9 ⊢
 rcases s9 with ⟨l, e, p, h⟩ | ⟨l10, r10, n9⟩
 ·exact As h rfl (by simp only [Am h, Aq h, Ao h, Au h, Ar h, Av h, An h, Al h, Ak h, cond_false])
 have m10 := Nat.le_trans n9 m9
 simp only [beq_self_eq_true, Bool.not_true, cond_false, cond_true]
 refine Dt (Bge k hk r10 m10 _ _ _ _ _ _ _) fun q hp hd => ?_
 obtain ⟨q0, q1, q2, q3, q4, q5, q6, q7, q8, q9, q10, q11, q12, q13⟩ := q
 simp only [Prod.mk.injEq] at hp hd
 obtain ⟨rfl, rfl, rfl, rfl⟩ := hp
 have s10 := Hy r10 ([110, 111, 100, 101] : List Int) (12 : Int) Sf Acl Acx
 generalize Ay ([110, 111, 100, 101] : List Int) (12 : Int) Bu (l10, 0, 0) = o10 at s10 hd ⊢
 rcases s10 with ⟨v10, l, e, p, h⟩ | ⟨v10, l11, r11, n10⟩
 ·exact As h rfl (by simp only [Am h, Aq h, Ao h, Au h, Ar h, Av h, An h, Al h, Ak h, cond_false])
 have m11 := Nat.le_trans n10 m10
 obtain ⟨rfl, rfl, rfl, rfl, rfl, rfl, rfl, rfl, rfl, rfl⟩ := hd rfl
 simp only [beq_self_eq_true, Bool.not_true, cond_false, cond_true]
 rw [Awk k r11 ([97, 114, 116, 101, 114, 121] : List Int) _ ⟨_, _, rfl, rfl⟩]
 simp only [Option.bind_some]
 obtain ⟨l12, q11, r12, n11⟩ := Abe r11 ([97, 114, 116, 101, 114, 121] : List Int)
 simp only [q11]
 have m12 := Nat.le_trans n11 m11
 exact Es rfl fun _ => by cases Aw ([97, 114, 116, 101, 114, 121] : List Int) (l11, 0, 0) <;> rfl
theorem Bhw (k : Nat) (hk : 200000 ≤ k) {l0 : List Tk} (r0 : Rdy l0) (m0 : l0.length ≤ 100000) (x13 : _) (x14 : _) (x15 : _) (x16 : _) (x17 : _) (x18 : _) (x19 : _) (x21 : _) : Sim (Oo k (l0, ([123] : List Int), ([115, 116, 111, 112] : List Int), (12 : Int), ([119, 101, 105, 103, 104, 116, 115] : List Int), ([59] : List Int), ([125] : List Int), x13, x14, x15, x16, x17, x18, x19, x21)) (fun o => (o.1, o.2.1, o.2.2.1, o.2.2.2.1)) (Bf (l0, 0, 0)).2 (fun o => (o.2.2.2.2.2.2.2.2.2.2.1, o.2.2.2.2.2.2.2.2.2.2.2.1, o.2.2.2.2.2.2.2.2.2.2.2.2.1, o.2.2.2.2.2.2.2.2.2.2.2.2.2.1, o.2.2.2.2.2.2.2.2.2.2.2.2.2.2.1, o.2.2.2.2.2.2.2.2.2.2.2.2.2.2.2.1, o.2.2.2.2.2.2.2.2.2.2.2.2.2.2.2.2.1, o.2.2.2.2.2.2.2.2.2.2.2.2.2.2.2.2.2.1, o.2.2.2.2.2.2.2.2.2.2.2.2.2.2.2.2.2.2) = (x13, x14, x15, x16, x17, (Bf (l0, 0, 0)).1.2.1, (Bf (l0, 0, 0)).1.2.2, x21, (Bf (l0, 0, 0)).1.1)) := by
 rw [A9r, Ahv]
 simp only [Bf, F7, F8, F4]
 rw [Bj k r0 ([123] : List Int) ⟨_, _, rfl, rfl⟩]
 simp only [Option.bind_some]
 have s0 := Bi r0 ([123] : List Int)
 generalize Aj ([123] : List Int) (l0, 0, 0) = o0 at s0 ⊢
 rcases s0 with ⟨l, e, p, h⟩ | ⟨l1, r1, n0⟩
 ·exact As h rfl (by simp only [Am h, Aq h, Ao h, Au h, Ar h, Av h, An h, Al h, Ak h, cond_false])
 have m1 := Nat.le_trans n0 m0
 simp only [beq_self_eq_true, Bool.not_true, cond_false, cond_true]
 refine Dt (Bgi k hk r1 m1 _ _ _ _ _ _ _ _) fun q hp hd => ?_
 obtain ⟨q0, q1, q2, q3, q4, q5, q6, q7, q8, q9, q10, q11, q12, q13, q14⟩ := q
 simp only [Prod.mk.injEq] at hp hd
 obtain ⟨rfl, rfl, rfl, rfl⟩ := hp
 have s1 := Hy r1 ([115, 116, 111, 112] : List Int) (12 : Int) Sj Aco Ac0
 generalize Ay ([115, 116, 111, 112] : List Int) (12 : Int) Cg (l1, 0, 0) = o1 at s1 hd ⊢
 rcases s1 with ⟨v1, l, e, p, h⟩ | ⟨v1, l2, r2, n1⟩
 ·exact As h rfl (by simp only [Am h, Aq h, Ao h, Au h, Ar h, Av h, An h, Al h, Ak h, cond_false])
 have m2 := Nat.le_trans n1 m1
 obtain ⟨rfl, rfl, rfl, rfl, rfl, rfl, rfl, rfl, rfl, rfl, rfl⟩ := hd rfl
 simp only [beq_self_eq_true, Bool.not_true, cond_false, cond_true]
 rw [Bj k r2 ([119, 101, 105, 103, 104, 116, 115] : List Int) ⟨_, _, rfl, rfl⟩]
 simp only [Option.bind_some]
 have s2 := Bi r2 ([119, 101, 105, 103, 104, 116, 115] : List Int)
 generalize Aj ([119, 101, 105, 103, 104, 116, 115] : List Int) (l2, 0, 0) = o2 at s2 ⊢
 rcases s2 with ⟨l, e, p, h⟩ | ⟨l3, r3, n2⟩
 ·exact As h rfl (by simp only [Am h, Aq h, Ao h, Au h, Ar h, Av h, An h, Al h, Ak h, cond_false])
 have m3 := Nat.le_trans n2 m2
 simp only [beq_self_eq_true, Bool.not_true, cond_false, cond_true]
 rw [Bh8 k r3]
 simp only [Option.bind_some]
 have s3 := Cn r3
 generalize numC (l3, 0, 0) = o3 at s3 ⊢
 rcases s3 with ⟨v3, l, e, p, h⟩ | ⟨v3, l4, r4, n3⟩
 ·exact As h rfl (by simp only [Am h, Aq h, Ao h, Au h, Ar h, Av h, An h, Al h, Ak h, cond_false])
 have m4 := Nat.le_trans n3 m3
 simp only [beq_self_eq_true, Bool.not_true, cond_false, cond_true]
 rw [Bia k r4]
 simp only [Option.bind_some]
 have s4 := Cn r4
 generalize numC (l4, 0, 0) = o4 at s4 ⊢
 rcases s4 with ⟨v4, l, e, p, h⟩ | ⟨v4, l5, r5, n4⟩
 ·exact As h rfl (by simp only [Am h, Aq h, Ao h, Au h, Ar h, Av h, An h, Al h, Ak h, cond_false])
 have m5 := Nat.le_trans n4 m4
 simp only [beq_self_eq_true, Bool.not_true, cond_false, cond_true]
 rw [Bj k r5 ([59] : List Int) ⟨_, _, rfl, rfl⟩]
 simp only [Option.bind_some]
 have s5 := Bi r5 ([59] : List Int)
 generalize Aj ([59] : List Int) (l5, 0, 0) = o5 at s5 ⊢
 rcases s5 with ⟨l, e, p, h⟩ | ⟨l6, r6, n5⟩
 ·exact As h rfl (by simp only [Am h, Aq h, Ao h, Au h, Ar h, Av h, An h, Al h, Ak h, cond_false])
 have m6 := Nat.le_trans n5 m5
 simp only [beq_self_eq_true, Bool.not_true, cond_false, cond_true]
 rw [Bj k r6 ([125] : List Int) ⟨_, _, rfl, rfl⟩]
 simp only [Option.bind_some]
 have s6 := Bi r6 ([125] : List Int)
 generalize Aj ([125] : List Int) (l6, 0, 0) = o6 at s6 ⊢
 rcases s6 with ⟨l, e, p, h⟩ | ⟨l7, r7, n6⟩
 ·exact As h rfl (by simp only [Am h, Aq h, Ao h, Au h, Ar h, Av h, An h, Al h, Ak h, cond_false])
 have m7 := Nat.le_trans n6 m6
 simp only [beq_self_eq_true, Bool.not_true, cond_false, cond_true]
 exact Es rfl fun _ => rfl
theorem Awb (k : Nat) {l0 : List Tk} (r0 : Rdy l0) : Oq k l0 = some ((bif (hd l0).1 != 0 then A5 50 (l0, 0, 0) else (l0, 0, 0)).2.1 == 0, (bif (hd l0).1 != 0 then A5 50 (l0, 0, 0) else (l0, 0, 0)).2.1, (bif (hd l0).1 != 0 then A5 50 (l0, 0, 0) else (l0, 0, 0)).2.2, (bif (hd l0).1 != 0 then A5 50 (l0, 0, 0) else (l0, 0, 0)).1) := by
 rw [A9v, Ah2, Bg5 k r0, Option.bind_some]
 cases (hd l0).1 != 0 <;> rfl
theorem Bhx (k : Nat) (hk : 200000 ≤ k) {l0 : List Tk} (r0 : Rdy l0) (m0 : l0.length ≤ 100000) :
  Sim (cpnet k l0) (fun o => (o.2.2.2.2.2.2.2.1, o.2.2.2.2.2.2.2.2.1, o.2.2.2.2.2.2.2.2.2.1, o.2.2.2.2.2.2.2.2.2.2.1)) (netR (l0, 0, 0)).2
   (fun o => (o.1, o.2.1, o.2.2.1, o.2.2.2.1, o.2.2.2.2.1, o.2.2.2.2.2.2.2.2.2.2.2.1, o.2.2.2.2.2.2.2.2.2.2.2.2, o.2.2.2.2.2.1, o.2.2.2.2.2.2.1) = (netR (l0, 0, 0)).1) := by
 rw [fpnet_e, Yt]
 simp only [Beh, Ass, fpnum_e, Aqu, Bcc, Anz, Bce, An7, Baj, Ajj, A88, Agy, Bau, Aj8, Option.bind_some]
 refine Dt (Bhv k hk r0 m0) fun q hp hq => ?_
 obtain ⟨q0, q1, q2, q3, q4, q5, q6, q7, q8, q9, q10, q11, q12, q13, q14, q15, q16, q17, q18, q19, q20, q21⟩ := q
 simp only [Prod.mk.injEq] at hp hq
 obtain ⟨rfl, rfl, rfl, rfl⟩ := hp
 rw [Avl]
 have s := ok_net1 r0
 generalize Dd (l0, 0, 0) = o at s hq ⊢
 rcases s with ⟨v, l, e, p, h⟩ | ⟨⟨v0, v1, v2, v3, v4, v5, v6⟩, l1, r1, n1⟩
 ·have he : (e == 0) = false := by simpa using h
  simp only [he, cond_false]
  rw [Qm, Kg, cond_false]
  refine ⟨_, rfl, ?_, fun h3 => ?_⟩
  ·rw [Avk h, he]
  ·rw [Avk h] at h3
   exact absurd h3 h
 ·have m1 := Nat.le_trans n1 m0
  obtain ⟨rfl, rfl, rfl, rfl, rfl, rfl, rfl, rfl, rfl⟩ := hq rfl
  simp only [beq_self_eq_true, cond_true]
  cases q20 with
  | false =>
   simp only [cond_false]
   rw [Qm, Kg]
   simp only [cond_true]
   rw [Awb k r1]
   simp only [Option.bind_some, Je, cond_false]
   exact ⟨_, rfl, rfl, fun _ => rfl⟩
  | true =>
   simp only [cond_true, Eh, Dz, A9k, Ahi, Bb9, Anm, Bca, Anq, Option.bind_some]
   refine Dt (Bhw k hk r1 m1 _ _ _ _ _ _ _ _) fun q hp hq => ?_
   obtain ⟨q0, q1, q2, q3, q4, q5, q6, q7, q8, q9, q10, q11, q12, q13, q14, q15, q16, q17, q18⟩ := q
   simp only [Prod.mk.injEq] at hp hq
   obtain ⟨rfl, rfl, rfl, rfl⟩ := hp
   simp only [Je, cond_true]
   have s := Bgp r1
   generalize Bf (l1, 0, 0) = o at s hq ⊢
   rcases s with ⟨v, l, e, p, h⟩ | ⟨⟨w0, w1, w2⟩, l2, r2, n2⟩
   ·have he : (e == 0) = false := by simpa using h
    simp only [he]
    rw [Qm, Kg, cond_false]
    have hf : (bif (hd l).1 != 0 then A5 50 (l, e, p) else (l, e, p)) = (l, e, p) := by
     rw [Ak h]
     cases (hd l).1 != 0 <;> rfl
    refine ⟨_, rfl, ?_, fun h3 => ?_⟩
    ·simp only [hf, he]
    ·simp only [hf] at h3
     exact absurd h3 h
   ·obtain ⟨rfl, rfl, rfl, rfl, rfl, rfl, rfl, rfl, rfl⟩ := hq rfl
    simp only [beq_self_eq_true]
    rw [Qm, Kg]
    simp only [cond_true]
    rw [Awb k r2]
    simp only [Option.bind_some]
    exact ⟨_, rfl, rfl, fun _ => rfl⟩
theorem Aul (k : Nat) (n p m : Int) : S1 k (false, n, p, m) = some (n == m) := rfl
theorem as_some (k : Nat) (z : Bool) (n p : Int) : S0 k (z, n, p) = some (!z, z, n, p) := rfl
theorem Bgm (k : Nat) (hk : 1000 ≤ k) (n p : Int) (hn : n = 50 ∨ n = 4) : cnetnumber k (false, n, p) = some n := by
 obtain ⟨j, hj⟩ : ∃ j, k = j + 2 := ⟨k - 2, by omega⟩
 have e1 : (decide ((0 : Int) < ((List.length ([(50 : Int), (4 : Int)] : List Int) : Nat) : Int))) = true := by decide
 have e2 : inB (0 : Int) (List.length ([(50 : Int), (4 : Int)] : List Int)) = true := by decide
 have e3 : rdI ([(50 : Int), (4 : Int)] : List Int) (Int.toNat 0) = 50 := rfl
 have f0 : IntKind.wrap .i64 ((0 : Int) + (1 : Int)) = 1 := w64 (by omega)
 have f1 : (decide ((1 : Int) < ((List.length ([(50 : Int), (4 : Int)] : List Int) : Nat) : Int))) = true := by decide
 have f2 : inB (1 : Int) (List.length ([(50 : Int), (4 : Int)] : List Int)) = true := by decide
 have f3 : rdI ([(50 : Int), (4 : Int)] : List Int) (Int.toNat 1) = 4 := rfl
 rw [A8w, Wm]
 have hL : (fnetnumber k).L 2 [] (j + 2) (Me (false, n, p, ((List.length ([(50 : Int), (4 : Int)] : List Int) : Nat) : Int), (0 : Int), ([(50 : Int), (4 : Int)] : List Int))) = some n := by
  rw [Agf, Qj, e1, e2, e3, cond_true, cond_true, Aul, Option.bind_some, f0, Agf, Qj, f1, f2, f3, cond_true, cond_true, Aul, Option.bind_some]
  rcases hn with rfl | rfl <;> rfl
 rw [← hL, ← hj]
theorem tok1_w (s : List Int) : TokW ((tok1 s).2.1, (tok1 s).2.2.1, (tok1 s).2.2.2.1, 0, ()) := by
 cases s with
 | nil => exact ⟨fun _ => rfl, fun h => (by cases h)⟩
 | cons x r =>
  simp only [tok1]
  split
  ·split
   ·exact ⟨fun _ => rfl, fun h => (by cases h)⟩
   ·exact ⟨fun h => (by cases h), fun h => (by cases h)⟩
  ·split
   ·split
    ·exact ⟨fun _ => rfl, fun h => (by cases h)⟩
    ·exact ⟨fun h => (by cases h), fun _ c hc => Jd hc⟩
   ·split
    ·exact ⟨fun h => (by cases h), fun h => (by cases h)⟩
    ·exact ⟨fun _ => rfl, fun h => (by cases h)⟩
theorem lx_w (n : Nat) : ∀ (f : Nat) (s : List Int), ∀ t ∈ (lx n f s).2.2, TokW t
 | 0, s, t, h => by cases h
 | f + 1, s, t, h => by
  rw [lx] at h
  cases hd : drp false s with
  | nil =>
   rw [hd] at h
   rcases List.mem_cons.1 h with rfl | h
   ·exact ⟨fun _ => rfl, fun h => (by cases h)⟩
   ·cases h
  | cons x r =>
   rw [hd] at h
   simp only [] at h
   split at h
   ·split at h
    ·rcases List.mem_cons.1 h with rfl | h
     ·exact tok1_w (x :: r)
     ·exact lx_w n f _ t h
    ·cases h
   ·cases h
theorem Bkj {b : List Int} (h : (toks b).1 = 0) : Rdy (toks b).2.2 ∧ (toks b).2.2.length ≤ 100000 := by
 have h1 := Bki h
 unfold toks at h h1 ⊢
 split at h
 ·simp at h
 ·rename_i hl
  rw [if_neg hl] at h1 ⊢
  exact ⟨⟨h1.1, lx_w _ _ _⟩, by omega⟩
theorem zr_net (x : RS) (h : Zr x) : Zr (netR x).2 := by
 rw [Avl]
 have h1 := A1k x h
 generalize Dd x = o at h1 ⊢
 unfold Je
 simp only []
 have h2 : Zr (bif o.1.2.2.2.2.2.2 then Bf o.2 else (([], 0, 0), o.2)).2 := by
  cases o.1.2.2.2.2.2.2
  ·exact h1
  ·exact A1g _ h1
 generalize (bif o.1.2.2.2.2.2.2 then Bf o.2 else (([], 0, 0), o.2)) = t at h2 ⊢
 exact Gl (Ij 50 (by decide) _ h2) h2
theorem Rf (k : Nat) (hk : 200000 ≤ k) (b : List Int) (hb : b.length < k) (hm : b.length < 1000000) :
  Ir k b = some ((Cp b).1.1, (Cp b).1.2.1, (Cp b).1.2.2.1, (Cp b).1.2.2.2.1, (Cp b).1.2.2.2.2.1, (Cp b).1.2.2.2.2.2.2.2.1, (Cp b).1.2.2.2.2.2.2.2.2, (Cp b).2.1, (Cp b).2.2, (Cp b).1.2.2.2.2.2.1, (Cp b).1.2.2.2.2.2.2.1) := by
 rw [A8u, Agc, Bkh k b hb hm, Option.bind_some]
 unfold Cp
 by_cases h0 : (toks b).1 = 0
 ·have hb0 : ((toks b).1 != 0) = false := by simpa using h0
  obtain ⟨r, hl⟩ := Bkj h0
  obtain ⟨q, e1, e2, e3⟩ := Bhx k hk r hl
  have hz := zr_net ((toks b).2.2, 0, 0) zr0
  rw [hb0]
  simp only [cond_false]
  rw [e1, Option.bind_some]
  generalize netR ((toks b).2.2, 0, 0) = o at e2 e3 hz ⊢
  obtain ⟨q0, q1, q2, q3, q4, q5, q6, q7, q8, q9, q10, q11, q12⟩ := q
  simp only [Prod.mk.injEq] at e2
  obtain ⟨rfl, rfl, rfl, rfl⟩ := e2
  obtain ⟨m, l, e, p⟩ := o
  simp only
  rw [as_some, Option.bind_some]
  rcases hz.2 with he | he
  ·have he : e = 0 := he
   subst he
   have e4 := e3 rfl
   simp only at e4
   subst e4
   rfl
  ·have he : e = 50 ∨ e = 4 := he
   have h1 : (e == 0) = false := by simp; omega
   have h2 : (e != 0) = true := by simp; omega
   simp only [h1, h2, Bool.not_false, cond_true]
   rw [Bgm k (by omega) e p he]
   rfl
 ·have hb0 : ((toks b).1 != 0) = true := by simpa using h0
  rw [hb0]
  rfl
section
variable {R : Type}
end
section
variable (k : Nat) (hk : 1000 ≤ k)
include hk
end
section
variable (k : Nat) (hk : 1000 ≤ k)
include hk
end
def byB (l : List Int) : Prop := ∀ x ∈ l, 0 ≤ x ∧ x ≤ 255
def Q7 (sep : List Int) : List (List Int) → List Int
 | [] => []
 | [x] => x
 | x :: y :: r => x ++ (sep ++ Q7 sep (y :: r))
def digN : Nat → Nat → List Int
 | 0, _ => []
 | f + 1, n => if n < 10 then [((48 + n : Nat) : Int)] else digN f (n / 10) ++ [((48 + n % 10 : Nat) : Int)]
def numT (n : Int) : List Int := if n < 0 then 45 :: digN 18 n.natAbs else digN 18 n.natAbs
theorem Aeo : ∀ (f n : Nat), (digN f n).length ≤ f
 | 0, _ => Nat.zero_le _
 | f + 1, n => by
  rw [digN]
  have := Aeo f (n / 10)
  split <;> simp <;> omega
theorem Qb : ∀ (f n : Nat), ∀ x ∈ digN f n, A1 x = true
 | 0, _, x, h => by cases h
 | f + 1, n, x, h => by
  rw [digN] at h
  unfold A1
  split at h
  ·simp at h; simp; omega
  ·rcases List.mem_append.1 h with h | h
   ·exact Qb f _ x h
   ·simp at h; simp; omega
theorem digN_ne (f n : Nat) : digN (f + 1) n ≠ [] := by
 rw [digN]; split <;> simp
theorem Aep {x : Int} (h : A1 x = true) : 0 ≤ x ∧ x ≤ 255 := by
 unfold A1 at h; simp at h; omega
theorem Avo (n : Int) : byB (numT n) := by
 intro x hx
 unfold numT at hx
 split at hx
 ·rcases List.mem_cons.1 hx with rfl | hx
  ·omega
  ·exact Aep (Qb _ _ x hx)
 ·exact Aep (Qb _ _ x hx)
def inM (n : Int) : Prop := -999999999999999999 ≤ n ∧ n ≤ 999999999999999999
theorem Cv {n : Int} (h : numB n = true) : inM n := by
 unfold numB at h; unfold inM; simp at h; omega
def My (a b : Int) : List Int := numT a ++ ([47] : List Int) ++ numT b
def headP (h : YT1) : List (List Int) :=
 [([32, 32, 104, 101, 97, 100, 32] : List Int), h.1, ([32, 118, 111, 108, 117, 109, 101, 32] : List Int), numT h.2.1, ([32, 102, 108, 111, 119, 32] : List Int), numT h.2.2.1, ([32, 117, 115, 101, 32] : List Int), My h.2.2.2.1.1 h.2.2.2.1.2.1, ([32, 115, 112, 101, 101, 100, 32] : List Int), numT h.2.2.2.2.1, ([32, 103, 114, 97, 100, 101, 32] : List Int), numT h.2.2.2.2.2.1,
  ([32, 119, 105, 100, 116, 104, 32] : List Int), numT h.2.2.2.2.2.2.1, ([32, 108, 101, 110, 103, 116, 104, 32] : List Int), numT h.2.2.2.2.2.2.2.1, ([32, 103, 114, 101, 101, 110, 32] : List Int), numT h.2.2.2.2.2.2.2.2.1, ([59, 10] : List Int)]
def pedP (p : YT2) : List (List Int) := [([32, 32, 119, 97, 108, 107, 32] : List Int), p.1, ([32, 119, 105, 116, 104, 32] : List Int), p.2.1, ([32, 108, 111, 110, 103, 32] : List Int), numT p.2.2.1, ([32, 112, 97, 99, 101, 32] : List Int), numT p.2.2.2.1, ([32, 108, 101, 97, 115, 116, 32] : List Int), numT p.2.2.2.2.1, ([59, 10] : List Int)]
def Kt (h : YT1) : List Int := (headP h).flatten
def pedT (p : YT2) : List Int := (pedP p).flatten
def M3 (l : List (List Int)) : List Int := Q7 ([44, 32] : List Int) l
def Awc (x : YT3) : List (List Int) := [([32, 32, 112, 104, 97, 115, 101, 32] : List Int), x.1, ([58, 32] : List Int), M3 x.2.1, ([59, 10] : List Int)]
def K4 (x : YT3) : List Int := (Awc x).flatten
def ringT (r : YT4) : List Int := ([32, 32, 32, 32, 114, 105, 110, 103, 32] : List Int) ++ ((bif r.1 then ([102, 114, 101, 101, 32] : List Int) else []) ++ (M3 r.2.1 ++ ([59, 10] : List Int)))
def Aa3 (g : List YT4 × Unit) : List Int := ([32, 32, 103, 114, 111, 117, 112, 32, 123, 10] : List Int) ++ (g.1.flatMap ringT ++ ([32, 32, 125, 10] : List Int))
def foeP (f : YT5) : List (List Int) := [([32, 32, 102, 111, 101, 32] : List Int), f.1, ([32] : List Int), f.2.1, ([59, 10] : List Int)]
def foeT (f : YT5) : List Int := (foeP f).flatten
def Abr (n : YT6) : List Int := n.2.1.flatMap Kt ++ (n.2.2.1.flatMap pedT ++ (n.2.2.2.1.flatMap K4 ++ (n.2.2.2.2.1.flatMap Aa3 ++ n.2.2.2.2.2.1.flatMap foeT)))
def Jf (n : YT6) : List Int := ([110, 111, 100, 101, 32] : List Int) ++ (n.1 ++ (([32, 123, 10] : List Int) ++ (Abr n ++ ([125, 10] : List Int))))
def stopP (s : YT7) : List (List Int) := [([32, 32, 115, 116, 111, 112, 32] : List Int), s.1, ([32, 111, 117, 116, 32] : List Int), s.2.1, ([32, 105, 110, 32] : List Int), s.2.2.1, ([32, 97, 104, 101, 97, 100, 32] : List Int), numT s.2.2.2.1, ([32, 98, 97, 99, 107, 32] : List Int), numT s.2.2.2.2.1, ([59, 10] : List Int)]
def La (s : YT7) : List Int := (stopP s).flatten
def A1d (a b : Int) : List Int := [([32, 32, 119, 101, 105, 103, 104, 116, 115, 32] : List Int), numT a, ([32] : List Int), numT b, ([59, 10] : List Int)].flatten
def artB (n : NetT) : Bool := (decide (((n.2.2.2.2.2.2.1.length : Nat) : Int) > 0) || n.2.2.2.2.2.2.2.1 != 0) || n.2.2.2.2.2.2.2.2 != 0
def artT (n : NetT) : List Int := bif artB n then ([97, 114, 116, 101, 114, 121, 32, 123, 10] : List Int) ++ (n.2.2.2.2.2.2.1.flatMap La ++ (A1d n.2.2.2.2.2.2.2.1 n.2.2.2.2.2.2.2.2 ++ ([125, 10] : List Int))) else []
def P8 (a b c d e : Int) : List Int := [([99, 121, 99, 108, 101, 32] : List Int), numT a, ([32, 116, 111, 32] : List Int), numT b, ([32, 98, 121, 32] : List Int), numT c, ([59, 10, 112, 101, 97, 107, 32] : List Int), My d e, ([59, 10] : List Int)].flatten
def netT (n : NetT) : List Int := P8 n.1 n.2.1 n.2.2.1 n.2.2.2.1 n.2.2.2.2.1 ++ (n.2.2.2.2.2.1.flatMap Jf ++ artT n)
theorem Bf7 {s : List Int} (h : Bq s = true) : byB s ∧ s.length ≤ 24 ∧ s ≠ [] ∧ (∀ x ∈ s, Bd x = true) ∧ (∃ c r, s = c :: r ∧ Bot c = true) := by
 unfold Bq Ge at h
 simp only [Bool.and_eq_true, decide_eq_true_eq] at h
 obtain ⟨⟨h0, h1, h2⟩, _⟩ := h
 cases s with
 | nil => exact absurd rfl h0
 | cons c r =>
  have hs := Ng (x := c) (r := r) (by rw [h2])
  rw [h2] at hs
  have hw : ∀ x ∈ c :: r, Bd x = true := by
   intro x hx
   have h3 : (c :: r).takeWhile Bd = c :: r ∧ Bot c = true := by
    simp only [tok1] at h2
    split at h2
    ·rename_i hc
     split at h2
     ·simp at h2
     ·simp only [Prod.mk.injEq] at h2
      exact ⟨h2.2.2.1, hc⟩
    ·split at h2
     ·split at h2 <;> simp at h2
     ·split at h2 <;> simp at h2
   rw [← h3.1] at hx
   exact Jd hx
  have hc : Bot c = true := by
   simp only [tok1] at h2
   split at h2
   ·rename_i hc; exact hc
   ·split at h2
    ·split at h2 <;> simp at h2
    ·split at h2 <;> simp at h2
  refine ⟨fun x hx => ?_, hs.2.2.2, by simp, hw, c, r, rfl, hc⟩
  have := hw x hx
  unfold Bd Bot A1 at this
  simp at this
  omega
theorem Rx {m : Nat} {l : List (List Int)} (h : rowB m l = true) : (1 ≤ l.length ∧ l.length ≤ m) ∧ ∀ s ∈ l, Bq s = true := by
 unfold rowB at h
 simp only [Bool.and_eq_true, decide_eq_true_eq, List.all_eq_true] at h
 exact ⟨⟨h.1, h.2.1⟩, h.2.2⟩
theorem Jb {α : Type} {l : List α} {m : Int} (h : leB l m = true) : ((l.length : Nat) : Int) ≤ m := by
 unfold leB at h; simp at h; exact h
theorem gr_inM {n : Int} (h1 : (!decide (n < -999999999999999999)) = true) (h2 : (!decide (n > 999999999999999999)) = true) : inM n := by
 unfold inM; simp at h1 h2; omega
theorem Aud {h : YT1} (hb : Hu h = true) : Bq h.1 = true ∧ inM h.2.1 ∧ inM h.2.2.1 ∧ inM h.2.2.2.1.1 ∧ inM h.2.2.2.1.2.1 ∧ inM h.2.2.2.2.1 ∧ inM h.2.2.2.2.2.1 ∧ inM h.2.2.2.2.2.2.1 ∧ inM h.2.2.2.2.2.2.2.1 ∧ inM h.2.2.2.2.2.2.2.2.1 := by
 unfold Hu at hb
 simp only [Bool.and_eq_true] at hb
 obtain ⟨h0, h1, h2, ⟨h3, h4⟩, h5, h6, h7, h8, h9, h10, -⟩ := hb
 exact ⟨h0, Cv h1, Cv h2, Cv h3, Cv h4, Cv h5, gr_inM h6 h7, Cv h8, Cv h9, Cv h10⟩
theorem Bg3 {p : YT2} (hb : pedB p = true) : Bq p.1 = true ∧ Bq p.2.1 = true ∧ inM p.2.2.1 ∧ inM p.2.2.2.1 ∧ inM p.2.2.2.2.1 := by
 unfold pedB at hb
 simp only [Bool.and_eq_true] at hb
 exact ⟨hb.1, hb.2.1, Cv hb.2.2.1, Cv hb.2.2.2.1, Cv hb.2.2.2.2.1⟩
theorem Bj4 {s : YT7} (hb : Gh s = true) : Bq s.1 = true ∧ Bq s.2.1 = true ∧ Bq s.2.2.1 = true ∧ inM s.2.2.2.1 ∧ inM s.2.2.2.2.1 := by
 unfold Gh at hb
 simp only [Bool.and_eq_true] at hb
 exact ⟨hb.1, hb.2.1, hb.2.2.1, Cv hb.2.2.2.1, Cv hb.2.2.2.2.1⟩
section
variable (k : Nat) (hk : 1000 ≤ k)
include hk
end
def ind : Nat → List Int
 | 0 => []
 | d + 1 => 32 :: 32 :: ind d
def lineT (d : Nat) (ws : List (List Int)) (e : List Int) : List Int := ind d ++ (Q7 ([32] : List Int) ws ++ (e ++ ([10] : List Int)))
theorem by_lit {l : List Int} (h : l.all (fun x => decide (0 ≤ x) && decide (x ≤ 255)) = true) : byB l := by
 intro x hx
 have := List.all_eq_true.1 h x hx
 simp at this
 omega
theorem Adz {a b : List Int} (ha : byB a) (hb : byB b) : byB (a ++ b) := fun x hx => by
 rcases List.mem_append.1 hx with h | h
 ·exact ha x h
 ·exact hb x h
theorem fracT_by (a b : Int) : byB (My a b) := Adz (Adz (Avo a) (by_lit (by decide))) (Avo b)
section
variable (k : Nat)
end
theorem cycle_ne (a b c d e : Int) (r : List Int) : P8 a b c d e ++ r ≠ [] := by
 unfold P8
 rw [List.flatten_cons]
 simp
section
variable (k : Nat) (hk : 1000 ≤ k)
include hk
end
theorem Au6 {α R : Type} (w : List Int) (most : Int) (item : RS → α × RS) (hi : ∀ x, Adv x (item x).2) (F : Nat → RS → List α → Option R) (cont : RS → List α → Option R)
  (hF : ∀ j x o, EndT x.1 → o.length + x.1.length ≤ 100000 → F (j + 1) x o = bif (A3 w ((o.length : Nat) : Int) most x).1 then F j (item (A3 w ((o.length : Nat) : Int) most x).2).2 (o ++ [(item (A3 w ((o.length : Nat) : Int) most x).2).1]) else cont (A3 w ((o.length : Nat) : Int) most x).2 o) :
  ∀ (f j : Nat) (x : RS) (o : List α), x.1.length < f → x.1.length < j → EndT x.1 → o.length + x.1.length ≤ 100000 → F j x o = cont (Bl w most item f x o).2 (Bl w most item f x o).1
 | 0, j, x, o, h, _, _, _ => by omega
 | f + 1, 0, x, o, _, h, _, _ => by omega
 | f + 1, j + 1, x, o, hf, hj, g, hm => by
  rw [hF j x o g hm, Bl]
  have hb := Ac9 w ((o.length : Nat) : Int) most x
  cases hc : (A3 w ((o.length : Nat) : Int) most x).1
  ·rfl
  ·have hlt := A1u hc g
   have ha := hi (A3 w ((o.length : Nat) : Int) most x).2
   have hl := ha.l
   simp only [cond_true]
   exact Au6 w most item hi F cont hF f j _ _ (by omega) (by omega) (ha.g (hb.g g)) (by simp; omega)
theorem many_run {α R : Type} {w : List Int} {most : Int} {item : RS → α × RS} (hi : ∀ x, Adv x (item x).2) (F : Nat → RS → List α → Option R) (cont : RS → List α → Option R)
  (hF : ∀ j x o, EndT x.1 → o.length + x.1.length ≤ 100000 → F (j + 1) x o = bif (A3 w ((o.length : Nat) : Int) most x).1 then F j (item (A3 w ((o.length : Nat) : Int) most x).2).2 (o ++ [(item (A3 w ((o.length : Nat) : Int) most x).2).1]) else cont (A3 w ((o.length : Nat) : Int) most x).2 o)
  (k : Nat) (hk : 200000 ≤ k) (x : RS) (g : EndT x.1) (hm : x.1.length ≤ 100000) : F k x [] = cont (Ay w most item x).2 (Ay w most item x).1 :=
 Au6 w most item hi F cont hF _ k x [] (by omega) (by omega) g (by simpa using hm)
section
variable (k : Nat) (hk : 200000 ≤ k)
include hk
end
section
variable (k : Nat) (hk : 200000 ≤ k)
include hk
end
abbrev T3 := Int × List Int × Int
def strip (t : Tk) : T3 := (t.1, t.2.1, t.2.2.1)
def Lexes (s : List Int) (A : List T3) : Prop := ∀ n f, s.length < f → (lx n f s).1 = 0 ∧ (lx n f s).2.2.map strip = A
theorem Bfw : Lexes [] [(0, [], 0)] := by
 intro n f hf
 obtain ⟨f, rfl⟩ : ∃ g, f = g + 1 := ⟨f - 1, by simp at hf; omega⟩
 rw [lx]
 exact ⟨rfl, rfl⟩
theorem B7 {c : Int} {s : List Int} {A : List T3} (hc : Bz c = true) (h : Lexes s A) : Lexes (c :: s) A := by
 intro n f hf
 obtain ⟨g, rfl⟩ : ∃ g, f = g + 1 := ⟨f - 1, by simp at hf; omega⟩
 rw [List.length_cons] at hf
 have hd : drp false (c :: s) = drp false s := by
  rw [drp]
  have h35 : c ≠ 35 := by
   intro e
   rw [e] at hc
   simp [Bz] at hc
  rw [if_neg h35, if_pos hc]
 have := h n (g + 1) (by omega)
 rw [lx] at this ⊢
 rw [hd]
 exact this
theorem Rc {x : Int} {r s : List Int} {kd v : Int} {tx : List Int} {A : List T3} (h1 : drp false (x :: r) = x :: r) (h2 : tok1 (x :: r) = (0, kd, tx, v, s)) (h : Lexes s A) : Lexes (x :: r) ((kd, tx, v) :: A) := by
 intro n f hf
 obtain ⟨g, rfl⟩ : ∃ g, f = g + 1 := ⟨f - 1, by simp at hf; omega⟩
 have hr := Jo (x := x) (r := r) (by rw [h2])
 rw [h2] at hr
 simp only [] at hr
 rw [List.length_cons] at hf
 have hs := h n g (by omega)
 rw [lx, h1]
 simp only []
 rw [h2]
 simp only [if_true]
 rw [if_pos hs.1]
 refine ⟨rfl, ?_⟩
 rw [List.map_cons, hs.2]
 rfl
theorem Ek {c : Int} {s : List Int} {A : List T3} (hc : D3 c = true) (h : Lexes s A) : Lexes (c :: s) ((3, [c], 0) :: A) := by
 have e1 : Bot c = false ∧ A1 c = false ∧ Bz c = false ∧ c ≠ 35 := by
  unfold D3 at hc
  simp only [decide_eq_true_eq] at hc
  unfold Bot A1 Bz
  simp
  omega
 refine Rc ?_ ?_ h
 ·rw [drp, if_neg e1.2.2.2, e1.2.2.1]; rfl
 ·rw [tok1, e1.1, e1.2.1, hc]; rfl
def Cuts : List Int → Prop
 | [] => True
 | c :: _ => Bd c = false
theorem Lc {p : Int → Bool} : ∀ {l : List Int}, (∀ x ∈ l, p x = true) → ∀ {s : List Int}, (∀ c r, s = c :: r → p c = false) → (l ++ s).takeWhile p = l ∧ (l ++ s).dropWhile p = s
 | [], _, [], _ => ⟨rfl, rfl⟩
 | [], _, c :: s, hs => by
  have := hs c s rfl
  simp [List.takeWhile_cons, List.dropWhile_cons, this]
 | x :: l, hl, s, hs => by
  have IH := Lc (fun y hy => hl y (List.mem_cons_of_mem _ hy)) hs
  have := hl x (by simp)
  simp [List.takeWhile_cons, List.dropWhile_cons, this, IH.1, IH.2]
theorem Bfv {w s : List Int} {A : List T3} (hw : Bq w = true) (hs : Cuts s) (h : Lexes s A) : Lexes (w ++ s) ((1, w, 0) :: A) := by
 obtain ⟨-, hl, hne, hall, c, r, rfl, hc⟩ := Bf7 hw
 have hcut : ∀ d q, s = d :: q → Bd d = false := by rintro d q rfl; exact hs
 obtain ⟨t1, t2⟩ := Lc hall hcut
 have e : c ≠ 35 ∧ Bz c = false := by
  unfold Bot at hc
  unfold Bz
  simp at hc ⊢
  omega
 refine Rc (x := c) (r := r ++ s) ?_ ?_ h
 ·rw [drp, if_neg e.1, e.2]; rfl
 ·rw [List.cons_append] at t1 t2
  rw [tok1, hc, if_pos rfl, t1, t2, if_neg (by omega)]
theorem Bfy {d s : List Int} {A : List T3} (hd : ∀ x ∈ d, A1 x = true) (hne : d ≠ []) (hl : d.length ≤ 18) (hs : Cuts s) (h : Lexes s A) : Lexes (d ++ s) ((2, d, valD d) :: A) := by
 cases d with
 | nil => exact absurd rfl hne
 | cons c r =>
  have hcut : ∀ e q, s = e :: q → A1 e = false := by rintro e q rfl; exact Acr hs
  obtain ⟨t1, t2⟩ := Lc hd hcut
  have hc := hd c (by simp)
  have e : c ≠ 35 ∧ Bz c = false ∧ Bot c = false := by
   unfold A1 at hc
   unfold Bz Bot
   simp at hc ⊢
   omega
  refine Rc (x := c) (r := r ++ s) ?_ ?_ h
  ·rw [drp, if_neg e.1, e.2.1]; rfl
  ·rw [List.cons_append] at t1 t2
   rw [tok1, e.2.2, hc]
   simp only [Bool.false_eq_true, if_false, if_true]
   rw [t1, t2, if_neg (by omega)]
theorem Bkp (l : List Int) (c : Int) : valD (l ++ [c]) = 10 * valD l + (c - 48) := by
 unfold valD
 rw [List.foldl_append]
 rfl
theorem A1a : ∀ (f n : Nat), n < 10 ^ f → 1 ≤ f → valD (digN f n) = n
 | 0, n, _, h => by omega
 | f + 1, n, h, _ => by
  rw [digN]
  by_cases h10 : n < 10
  ·rw [if_pos h10]
   simp [valD]
   omega
  ·rw [if_neg h10, Bkp, A1a f (n / 10) (by rw [Nat.pow_succ] at h; omega) (by
    rcases f with _ | f
    ·simp at h; omega
    ·omega)]
   omega
def numK (n : Int) : List T3 := bif decide (n < 0) then [(3, ([45] : List Int), 0), (2, digN 18 n.natAbs, -n)] else [(2, digN 18 n.natAbs, n)]
theorem Bfz {n : Int} (hn : inM n) {s : List Int} {A : List T3} (hs : Cuts s) (h : Lexes s A) : Lexes (numT n ++ s) (numK n ++ A) := by
 unfold inM at hn
 have L := Bfy (d := digN 18 n.natAbs) (Qb _ _) (digN_ne 17 _) (Aeo _ _) hs h
 rw [A1a 18 _ (by omega) (by omega)] at L
 unfold numT numK
 by_cases h0 : n < 0
 ·rw [if_pos h0, show decide (n < 0) = true by simpa using h0]
  have e : ((n.natAbs : Nat) : Int) = -n := by omega
  rw [e] at L
  exact Ek (by decide) L
 ·rw [if_neg h0, show decide (n < 0) = false by simpa using h0]
  have e : ((n.natAbs : Nat) : Int) = n := by omega
  rw [e] at L
  exact L
def wd (s : List Int) : T3 := (1, s, 0)
def sg (s : List Int) : T3 := (3, s, 0)
def Ko (a b : Int) : List T3 := numK a ++ (sg ([47] : List Int) :: numK b)
def El : List (List Int) → List T3
 | [] => []
 | [x] => [wd x]
 | x :: y :: r => wd x :: sg ([44] : List Int) :: El (y :: r)
def Ks (h : YT1) : List T3 :=
 wd ([104, 101, 97, 100] : List Int) :: wd h.1 :: wd ([118, 111, 108, 117, 109, 101] : List Int) :: (numK h.2.1 ++ (wd ([102, 108, 111, 119] : List Int) :: (numK h.2.2.1 ++ (wd ([117, 115, 101] : List Int) :: (Ko h.2.2.2.1.1 h.2.2.2.1.2.1 ++ (wd ([115, 112, 101, 101, 100] : List Int) :: (numK h.2.2.2.2.1 ++ (wd ([103, 114, 97, 100, 101] : List Int) :: (numK h.2.2.2.2.2.1 ++
  (wd ([119, 105, 100, 116, 104] : List Int) :: (numK h.2.2.2.2.2.2.1 ++ (wd ([108, 101, 110, 103, 116, 104] : List Int) :: (numK h.2.2.2.2.2.2.2.1 ++ (wd ([103, 114, 101, 101, 110] : List Int) :: (numK h.2.2.2.2.2.2.2.2.1 ++ [sg ([59] : List Int)])))))))))))))))
def pedK (p : YT2) : List T3 := wd ([119, 97, 108, 107] : List Int) :: wd p.1 :: wd ([119, 105, 116, 104] : List Int) :: wd p.2.1 :: wd ([108, 111, 110, 103] : List Int) :: (numK p.2.2.1 ++ (wd ([112, 97, 99, 101] : List Int) :: (numK p.2.2.2.1 ++ (wd ([108, 101, 97, 115, 116] : List Int) :: (numK p.2.2.2.2.1 ++ [sg ([59] : List Int)])))))
def K3 (x : YT3) : List T3 := wd ([112, 104, 97, 115, 101] : List Int) :: wd x.1 :: sg ([58] : List Int) :: (El x.2.1 ++ [sg ([59] : List Int)])
def Rw (r : YT4) : List T3 := wd ([114, 105, 110, 103] : List Int) :: ((bif r.1 then [wd ([102, 114, 101, 101] : List Int)] else []) ++ (El r.2.1 ++ [sg ([59] : List Int)]))
def I7 (g : List YT4 × Unit) : List T3 := wd ([103, 114, 111, 117, 112] : List Int) :: sg ([123] : List Int) :: (g.1.flatMap Rw ++ [sg ([125] : List Int)])
def foeK (f : YT5) : List T3 := [wd ([102, 111, 101] : List Int), wd f.1, wd f.2.1, sg ([59] : List Int)]
def K0 (n : YT6) : List T3 := wd ([110, 111, 100, 101] : List Int) :: wd n.1 :: sg ([123] : List Int) :: (n.2.1.flatMap Ks ++ (n.2.2.1.flatMap pedK ++ (n.2.2.2.1.flatMap K3 ++ (n.2.2.2.2.1.flatMap I7 ++ (n.2.2.2.2.2.1.flatMap foeK ++ [sg ([125] : List Int)])))))
def R2 (s : YT7) : List T3 := wd ([115, 116, 111, 112] : List Int) :: wd s.1 :: wd ([111, 117, 116] : List Int) :: wd s.2.1 :: wd ([105, 110] : List Int) :: wd s.2.2.1 :: wd ([97, 104, 101, 97, 100] : List Int) :: (numK s.2.2.2.1 ++ (wd ([98, 97, 99, 107] : List Int) :: (numK s.2.2.2.2.1 ++ [sg ([59] : List Int)])))
def artK (n : NetT) : List T3 := bif artB n then wd ([97, 114, 116, 101, 114, 121] : List Int) :: sg ([123] : List Int) :: (n.2.2.2.2.2.2.1.flatMap R2 ++ (wd ([119, 101, 105, 103, 104, 116, 115] : List Int) :: (numK n.2.2.2.2.2.2.2.1 ++ (numK n.2.2.2.2.2.2.2.2 ++ [sg ([59] : List Int), sg ([125] : List Int)])))) else []
def netK (n : NetT) : List T3 :=
 wd ([99, 121, 99, 108, 101] : List Int) :: (numK n.1 ++ (wd ([116, 111] : List Int) :: (numK n.2.1 ++ (wd ([98, 121] : List Int) :: (numK n.2.2.1 ++ (sg ([59] : List Int) :: wd ([112, 101, 97, 107] : List Int) :: (Ko n.2.2.2.1 n.2.2.2.2.1 ++ (sg ([59] : List Int) :: (n.2.2.2.2.2.1.flatMap K0 ++ (artK n ++ [(0, [], 0)]))))))))))
def Nl : List Int → Bool
 | [] => false
 | c :: r => Bot c && (r.all Bd && decide (r.length < 24))
theorem Au0 {w s : List Int} {A : List T3} (hw : Nl w = true) (hs : Cuts s) (h : Lexes s A) : Lexes (w ++ s) (wd w :: A) := by
 cases w with
 | nil => cases hw
 | cons c r =>
  unfold Nl at hw
  simp only [Bool.and_eq_true, List.all_eq_true, decide_eq_true_eq] at hw
  obtain ⟨hc, hr, hl⟩ := hw
  have hall : ∀ x ∈ c :: r, Bd x = true := by
   intro x hx
   rcases List.mem_cons.1 hx with rfl | hx
   ·simp [Bd, hc]
   ·exact hr x hx
  have hcut : ∀ d q, s = d :: q → Bd d = false := by rintro d q rfl; exact hs
  obtain ⟨t1, t2⟩ := Lc hall hcut
  have e : c ≠ 35 ∧ Bz c = false := by
   unfold Bot at hc
   unfold Bz
   simp at hc ⊢
   omega
  refine Rc (x := c) (r := r ++ s) ?_ ?_ h
  ·rw [drp, if_neg e.1, e.2]; rfl
  ·rw [List.cons_append] at t1 t2
   rw [tok1, hc, if_pos rfl, t1, t2, if_neg (by rw [List.length_cons]; omega)]
theorem kw (w : List Int) (hw : Nl w = true) {s : List Int} {A : List T3} (h : Lexes s A) : Lexes (32 :: (w ++ 32 :: s)) (wd w :: A) :=
 B7 (by decide) (Au0 hw (show Bd 32 = false by decide) (B7 (by decide) h))
theorem kw2 (w : List Int) (hw : Nl w = true) {s : List Int} {A : List T3} (h : Lexes s A) : Lexes (32 :: 32 :: (w ++ 32 :: s)) (wd w :: A) := B7 (by decide) (kw w hw h)
theorem kw0 (w : List Int) (hw : Nl w = true) {s : List Int} {A : List T3} (h : Lexes s A) : Lexes (w ++ 32 :: s) (wd w :: A) := Au0 hw (show Bd 32 = false by decide) (B7 (by decide) h)
theorem semi {s : List Int} {A : List T3} (h : Lexes s A) : Lexes (59 :: 10 :: s) (sg ([59] : List Int) :: A) := Ek (by decide) (B7 (by decide) h)
theorem nm {w s : List Int} {A : List T3} (hw : Bq w = true) {c : Int} (hc : Bd c = false) (h : Lexes (c :: s) A) : Lexes (w ++ c :: s) (wd w :: A) := Bfv hw hc h
theorem nu {n : Int} (hn : inM n) {c : Int} {s : List Int} {A : List T3} (hc : Bd c = false) (h : Lexes (c :: s) A) : Lexes (numT n ++ c :: s) (numK n ++ A) := Bfz hn hc h
theorem Aux {a b : Int} (ha : inM a) (hb : inM b) {c : Int} {s : List Int} {A : List T3} (hc : Bd c = false) (h : Lexes (c :: s) A) : Lexes (My a b ++ c :: s) (Ko a b ++ A) := by
 unfold My Ko
 simp only [List.append_assoc, List.cons_append, List.nil_append]
 exact nu ha (by decide) (Ek (by decide) (nu hb hc h))
theorem Bfu {h : YT1} (hb : Hu h = true) {s : List Int} {A : List T3} (hs : Lexes s A) : Lexes (Kt h ++ s) (Ks h ++ A) := by
 obtain ⟨q0, q1, q2, q3, q4, q5, q6, q7, q8, q9⟩ := Aud hb
 unfold Kt headP Ks
 simp only [List.flatten_cons, List.flatten_nil, List.append_nil, List.append_assoc, List.cons_append, List.nil_append]
 exact kw2 ([104, 101, 97, 100] : List Int) (by decide) (nm q0 (by decide) (kw ([118, 111, 108, 117, 109, 101] : List Int) (by decide) (nu q1 (by decide) (kw ([102, 108, 111, 119] : List Int) (by decide) (nu q2 (by decide) (kw ([117, 115, 101] : List Int) (by decide) (Aux q3 q4 (by decide) (kw ([115, 112, 101, 101, 100] : List Int) (by decide) (nu q5 (by decide) (kw ([103, 114, 97, 100, 101] : List Int) (by decide) (nu q6 (by decide)
  (kw ([119, 105, 100, 116, 104] : List Int) (by decide) (nu q7 (by decide) (kw ([108, 101, 110, 103, 116, 104] : List Int) (by decide) (nu q8 (by decide) (kw ([103, 114, 101, 101, 110] : List Int) (by decide) (nu q9 (by decide) (semi hs))))))))))))))))))
theorem Bf0 {p : YT2} (hb : pedB p = true) {s : List Int} {A : List T3} (hs : Lexes s A) : Lexes (pedT p ++ s) (pedK p ++ A) := by
 obtain ⟨q0, q1, q2, q3, q4⟩ := Bg3 hb
 unfold pedT pedP pedK
 simp only [List.flatten_cons, List.flatten_nil, List.append_nil, List.append_assoc, List.cons_append, List.nil_append]
 exact kw2 ([119, 97, 108, 107] : List Int) (by decide) (nm q0 (by decide) (kw ([119, 105, 116, 104] : List Int) (by decide) (nm q1 (by decide) (kw ([108, 111, 110, 103] : List Int) (by decide) (nu q2 (by decide) (kw ([112, 97, 99, 101] : List Int) (by decide) (nu q3 (by decide) (kw ([108, 101, 97, 115, 116] : List Int) (by decide) (nu q4 (by decide) (semi hs))))))))))
theorem Auy : ∀ (l : List (List Int)), l ≠ [] → (∀ w ∈ l, Bq w = true) → ∀ {c : Int} {s : List Int} {A : List T3}, Bd c = false → Lexes (c :: s) A → Lexes (M3 l ++ c :: s) (El l ++ A)
 | [], h, _, _, _, _, _, _ => absurd rfl h
 | [x], _, hw, c, s, A, hc, h => nm (hw x (by simp)) hc h
 | x :: y :: r, _, hw, c, s, A, hc, h => by
  have IH := Auy (y :: r) (by simp) (fun w hw2 => hw w (List.mem_cons_of_mem _ hw2)) hc h
  unfold M3 at IH ⊢
  rw [Q7]
  simp only [List.append_assoc, List.cons_append, List.nil_append, El]
  exact nm (hw x (by simp)) (by decide) (Ek (by decide) (B7 (by decide) IH))
theorem Aba {m : Nat} {l : List (List Int)} (hb : rowB m l = true) {s : List Int} {A : List T3} (hs : Lexes s A) : Lexes (M3 l ++ 59 :: 10 :: s) (El l ++ sg ([59] : List Int) :: A) := by
 obtain ⟨⟨h1, _⟩, h2⟩ := Rx hb
 exact Auy l (by rintro rfl; simp at h1) h2 (by decide) (semi hs)
theorem Bf1 {x : YT3} (hb : Jl x = true) {s : List Int} {A : List T3} (hs : Lexes s A) : Lexes (K4 x ++ s) (K3 x ++ A) := by
 unfold Jl at hb
 simp only [Bool.and_eq_true] at hb
 unfold K4 Awc K3
 simp only [List.flatten_cons, List.flatten_nil, List.append_nil, List.append_assoc, List.cons_append, List.nil_append]
 exact kw2 ([112, 104, 97, 115, 101] : List Int) (by decide) (nm hb.1 (by decide) (Ek (by decide) (B7 (by decide) (Aba hb.2.1 hs))))
theorem Bf2 {r : YT4} (hb : K8 r = true) {s : List Int} {A : List T3} (hs : Lexes s A) : Lexes (ringT r ++ s) (Rw r ++ A) := by
 unfold K8 at hb
 unfold ringT Rw
 cases r.1
 ·simp only [cond_false, List.append_assoc, List.cons_append, List.nil_append]
  exact B7 (by decide) (B7 (by decide) (kw2 ([114, 105, 110, 103] : List Int) (by decide) (Aba hb hs)))
 ·simp only [cond_true, List.append_assoc, List.cons_append, List.nil_append]
  exact B7 (by decide) (B7 (by decide) (kw2 ([114, 105, 110, 103] : List Int) (by decide) (kw0 ([102, 114, 101, 101] : List Int) (by decide) (Aba hb hs))))
theorem Gw {α : Type} {f : α → List Int} {g : α → List T3} : ∀ {l : List α}, (∀ x ∈ l, ∀ {s A}, Lexes s A → Lexes (f x ++ s) (g x ++ A)) → ∀ {s A}, Lexes s A → Lexes (l.flatMap f ++ s) (l.flatMap g ++ A)
 | [], _, _, _, h => h
 | x :: r, hx, s, A, h => by
  rw [List.flatMap_cons, List.flatMap_cons, List.append_assoc, List.append_assoc]
  exact hx x (by simp) (Gw (fun y hy => hx y (List.mem_cons_of_mem _ hy)) h)
theorem Bft {g : List YT4 × Unit} (hb : Gu g = true) {s : List Int} {A : List T3} (hs : Lexes s A) : Lexes (Aa3 g ++ s) (I7 g ++ A) := by
 unfold Gu at hb
 simp only [Bool.and_eq_true, Bool.not_eq_true', decide_eq_false_iff_not, List.all_eq_true] at hb
 unfold Aa3 I7
 simp only [List.append_assoc, List.cons_append, List.nil_append]
 refine kw2 ([103, 114, 111, 117, 112] : List Int) (by decide) (Ek (by decide) (B7 (by decide) (Gw (fun r hr => Bf2 (hb.2.2 r hr)) ?_)))
 exact B7 (by decide) (B7 (by decide) (Ek (by decide) (B7 (by decide) hs)))
theorem Bfs {f : YT5} (hb : foeB f = true) {s : List Int} {A : List T3} (hs : Lexes s A) : Lexes (foeT f ++ s) (foeK f ++ A) := by
 unfold foeB at hb
 simp only [Bool.and_eq_true] at hb
 unfold foeT foeP foeK
 simp only [List.flatten_cons, List.flatten_nil, List.append_nil, List.append_assoc, List.cons_append, List.nil_append]
 exact kw2 ([102, 111, 101] : List Int) (by decide) (nm hb.1 (by decide) (B7 (by decide) (nm hb.2.1 (by decide) (semi hs))))
theorem Bfx {n : YT6} (hb : Gz n = true) {s : List Int} {A : List T3} (hs : Lexes s A) : Lexes (Jf n ++ s) (K0 n ++ A) := by
 unfold Gz at hb
 simp only [Bool.and_eq_true, List.all_eq_true] at hb
 obtain ⟨h0, h1, h2, h3, h4, h5, p1, p2, p3, p4, p5⟩ := hb
 unfold Jf Abr K0
 simp only [List.append_assoc, List.cons_append, List.nil_append]
 refine kw0 ([110, 111, 100, 101] : List Int) (by decide) (nm h0 (by decide) (B7 (by decide) (Ek (by decide) (B7 (by decide) ?_))))
 exact Gw (fun x hx => Bfu (p1 x hx)) (Gw (fun x hx => Bf0 (p2 x hx)) (Gw (fun x hx => Bf1 (p3 x hx)) (Gw (fun x hx => Bft (p4 x hx)) (Gw (fun x hx => Bfs (p5 x hx))
  (Ek (by decide) (B7 (by decide) hs))))))
theorem Bf3 {p : YT7} (hb : Gh p = true) {s : List Int} {A : List T3} (hs : Lexes s A) : Lexes (La p ++ s) (R2 p ++ A) := by
 obtain ⟨q0, q1, q2, q3, q4⟩ := Bj4 hb
 unfold La stopP R2
 simp only [List.flatten_cons, List.flatten_nil, List.append_nil, List.append_assoc, List.cons_append, List.nil_append]
 exact kw2 ([115, 116, 111, 112] : List Int) (by decide) (nm q0 (by decide) (kw ([111, 117, 116] : List Int) (by decide) (nm q1 (by decide) (kw ([105, 110] : List Int) (by decide) (nm q2 (by decide) (kw ([97, 104, 101, 97, 100] : List Int) (by decide) (nu q3 (by decide) (kw ([98, 97, 99, 107] : List Int) (by decide) (nu q4 (by decide) (semi hs))))))))))
theorem Bfr {n : NetT} (hb : netB n = true) {s : List Int} {A : List T3} (hs : Lexes s A) : Lexes (artT n ++ s) (artK n ++ A) := by
 unfold netB at hb
 simp only [Bool.and_eq_true, List.all_eq_true] at hb
 obtain ⟨q0, q1, q2, ⟨q3, q4⟩, q7, q8, h1, h2, p1, p2⟩ := hb
 unfold artT artK
 cases artB n
 ·exact hs
 ·unfold A1d
  simp only [cond_true, List.flatten_cons, List.flatten_nil, List.append_nil, List.append_assoc, List.cons_append, List.nil_append]
  refine kw0 ([97, 114, 116, 101, 114, 121] : List Int) (by decide) (Ek (by decide) (B7 (by decide) (Gw (fun x hx => Bf3 (p2 x hx)) ?_)))
  exact kw2 ([119, 101, 105, 103, 104, 116, 115] : List Int) (by decide) (nu (Cv q7) (by decide) (B7 (by decide) (nu (Cv q8) (by decide) (semi (Ek (by decide) (B7 (by decide) hs))))))
theorem Auz {n : NetT} (hb : netB n = true) : Lexes (netT n) (netK n) := by
 have ha := Bfr hb Bfw
 have hb0 := hb
 unfold netB at hb
 simp only [Bool.and_eq_true, List.all_eq_true] at hb
 obtain ⟨q0, q1, q2, ⟨q3, q4⟩, q7, q8, h1, h2, p1, p2⟩ := hb
 have hn := Gw (l := n.2.2.2.2.2.1) (fun x hx => Bfx (p1 x hx)) ha
 rw [List.append_nil] at hn
 unfold netT P8 netK
 simp only [List.flatten_cons, List.flatten_nil, List.append_nil, List.append_assoc, List.cons_append, List.nil_append]
 exact kw0 ([99, 121, 99, 108, 101] : List Int) (by decide) (nu (Cv q0) (by decide) (kw ([116, 111] : List Int) (by decide) (nu (Cv q1) (by decide) (kw ([98, 121] : List Int) (by decide) (nu (Cv q2) (by decide) (Ek (by decide) (B7 (by decide) (kw0 ([112, 101, 97, 107] : List Int) (by decide) (Aux (Cv q3) (Cv q4) (by decide) (semi hn))))))))))
structure At (x : RS) (A : List T3) : Prop where
 e : x.2.1 = 0
 t : x.1.map strip = A
theorem Lh {x : RS} {t : T3} {A : List T3} (h : At x (t :: A)) : (hd x.1).1 = t.1 ∧ (hd x.1).2.1 = t.2.1 ∧ (hd x.1).2.2.1 = t.2.2 ∧ x.1.tail.map strip = A := by
 have := h.t
 cases hx : x.1 with
 | nil => rw [hx] at this; cases this
 | cons y r =>
  rw [hx, List.map_cons] at this
  injection this with h1 h2
  subst h1
  exact ⟨rfl, rfl, rfl, h2⟩
theorem Er {x : RS} {t : T3} {A : List T3} (h : At x (t :: A)) (s : List Int) : Aw s x = (t.1 != 2 && (t.1 != 0 && t.2.1 == s)) := by
 obtain ⟨h1, h2, _, _⟩ := Lh h
 unfold Aw
 rw [h.e, h1, h2]
 rfl
theorem Hw {x : RS} {t : T3} {A : List T3} (h : At x (t :: A)) (h0 : (t.1 != 0) = true) : At (A0 x) A := by
 obtain ⟨h1, _, _, h4⟩ := Lh h
 unfold A0
 rw [h.e, h1, h0]
 exact ⟨rfl, h4⟩
theorem Cr {x : RS} {t : T3} {A : List T3} (s : List Int) (h : At x (t :: A)) (hs : (t.1 != 2 && (t.1 != 0 && t.2.1 == s)) = true) : At (Aj s x) A := by
 unfold Aj
 rw [Er h, hs]
 simp only [Bool.and_eq_true] at hs
 exact Hw h hs.2.1
theorem Eo {x : RS} {s : List Int} {A : List T3} (hs : Bq s = true) (h : At x (wd s :: A)) : (Ai x).1 = s ∧ At (Ai x).2 A := by
 obtain ⟨h1, h2, _, _⟩ := Lh h
 have h1 : (hd x.1).1 = 1 := h1
 have h2 : (hd x.1).2.1 = s := h2
 have hr : resB s = false := by
  unfold Bq at hs
  simp only [Bool.and_eq_true, Bool.not_eq_true'] at hs
  exact hs.2
 unfold Ai
 rw [h1, h2, hr]
 exact ⟨rfl, Hw h rfl⟩
theorem M7 {x : RS} {d : List Int} {v : Int} {A : List T3} (h : At x ((2, d, v) :: A)) : (numC x).1 = v ∧ At (numC x).2 A := by
 obtain ⟨h1, _, h3, _⟩ := Lh h
 have h1 : (hd x.1).1 = 2 := h1
 have h3 : (hd x.1).2.2.1 = v := h3
 unfold numC
 rw [h1, h3]
 exact ⟨rfl, Hw h rfl⟩
theorem Rh {n : Int} (h : 0 ≤ n) : numK n = [(2, digN 18 n.natAbs, n)] := by
 unfold numK
 rw [show decide (n < 0) = false by simpa using h]
 rfl
theorem Dh {w : List Int} {x : RS} {n : Int} {A : List T3} (hw : (w == []) = false) (hn : 0 ≤ n) (h : At x (wd w :: (numK n ++ A))) : (numR w x).1 = n ∧ At (numR w x).2 A := by
 unfold numR
 rw [hw, cond_false]
 rw [Rh hn] at h
 exact M7 (Cr w h (by simp [wd]))
theorem num_at0 {x : RS} {n : Int} {A : List T3} (hn : 0 ≤ n) (h : At x (numK n ++ A)) : (numR [] x).1 = n ∧ At (numR [] x).2 A := by
 unfold numR
 rw [Rh hn] at h
 exact M7 h
theorem Atn {w : List Int} {x : RS} {a b : Int} {A : List T3} (hw : (w == []) = false) (ha : 0 ≤ a) (hb : 0 ≤ b) (h : At x (wd w :: (Ko a b ++ A))) : (C1 w x).1 = (a, b) ∧ At (C1 w x).2 A := by
 unfold Ko at h
 rw [List.append_assoc] at h
 obtain ⟨e1, h1⟩ := Dh hw ha h
 have h2 : At (Aj ([47] : List Int) (numR w x).2) (numK b ++ A) := Cr ([47] : List Int) h1 (by decide)
 rw [Rh hb] at h2
 obtain ⟨e2, h3⟩ := M7 h2
 unfold C1
 refine ⟨?_, h3⟩
 rw [e1]
 exact congrArg (fun z => (a, z)) e2
theorem A1w {w : List Int} {a b : Int} {x : RS} {A : List T3} (hab : (a == b) = false) (h : At x (wd w :: A)) : (A3 w a b x).1 = true ∧ At (A3 w a b x).2 A := by
 unfold A3
 rw [Er h, hab, show ((wd w).1 != 2 && ((wd w).1 != 0 && (wd w).2.1 == w)) = true by simp [wd]]
 exact ⟨rfl, Hw h (by simp [wd])⟩
theorem A1v {w : List Int} {a b : Int} {x : RS} {t : T3} {A : List T3} (h : At x (t :: A)) (ht : (t.1 != 2 && (t.1 != 0 && t.2.1 == w)) = false) : A3 w a b x = (false, x) := by
 unfold A3
 rw [Er h, ht]
 rfl
theorem Au4 {α β : Type} (er : α → β) (w : List Int) (most : Nat) (item : RS → α × RS) (g : α → List T3) {t : T3} {A : List T3} (ht : (t.1 != 2 && (t.1 != 0 && t.2.1 == w)) = false) :
  ∀ (l : List α) (f : Nat) (x : RS) (o : List α), (∀ a ∈ l, ∀ {x A}, At x (g a ++ A) → er (item x).1 = er a ∧ At (item x).2 A) → l.length < f → o.length + l.length ≤ most → At x (l.flatMap (fun a => wd w :: g a) ++ t :: A) →
   (Bl w (most : Int) item f x o).1.map er = o.map er ++ l.map er ∧ At (Bl w (most : Int) item f x o).2 (t :: A)
 | _, 0, _, _, _, h, _, _ => by omega
 | [], f + 1, x, o, hi, hf, hm, h => by
  rw [Bl, A1v (w := w) (a := ((o.length : Nat) : Int)) (b := (most : Int)) h ht]
  exact ⟨by simp, h⟩
 | a :: l, f + 1, x, o, hi, hf, hm, h => by
  rw [List.length_cons] at hf hm
  rw [List.flatMap_cons, List.append_assoc, List.cons_append] at h
  obtain ⟨e1, h1⟩ := A1w (w := w) (a := ((o.length : Nat) : Int)) (b := (most : Int)) (by simp; omega) h
  obtain ⟨e2, h2⟩ := hi a (by simp) h1
  rw [Bl, e1, cond_true]
  obtain ⟨e3, h3⟩ := Au4 er w most item g ht l f _ (o ++ [(item (A3 w ((o.length : Nat) : Int) (most : Int) x).2).1]) (fun b hb => hi b (List.mem_cons_of_mem _ hb)) (by omega) (by rw [List.length_append, List.length_singleton]; omega) h2
  refine ⟨?_, h3⟩
  rw [e3, List.map_append, List.map_cons, List.map_nil, e2, List.append_assoc]
  rfl
theorem Ava {α β : Type} (er : α → β) {w : List Int} {most : Nat} {item : RS → α × RS} {g : α → List T3} {t : T3} {A : List T3} {l : List α} {x : RS} (ht : (t.1 != 2 && (t.1 != 0 && t.2.1 == w)) = false)
  (hi : ∀ a ∈ l, ∀ {x A}, At x (g a ++ A) → er (item x).1 = er a ∧ At (item x).2 A) (hm : l.length ≤ most) (h : At x (l.flatMap (fun a => wd w :: g a) ++ t :: A)) :
  (Ay w (most : Int) item x).1.map er = l.map er ∧ At (Ay w (most : Int) item x).2 (t :: A) := by
 have hlen : l.length < x.1.length + 1 := by
  have e := congrArg List.length h.t
  rw [List.length_map, List.length_append] at e
  have : ∀ m : List α, m.length ≤ (m.flatMap (fun a => wd w :: g a)).length := by
   intro m
   induction m with
   | nil => simp
   | cons y r ih => rw [List.flatMap_cons, List.length_append, List.length_cons, List.length_cons]; omega
  have := this l
  omega
 exact Au4 er w most item g ht l _ x [] hi hlen (by simpa using hm) h
def erH (h : YT1) : YT1 := (h.1, h.2.1, h.2.2.1, h.2.2.2.1, h.2.2.2.2.1, h.2.2.2.2.2.1, h.2.2.2.2.2.2.1, h.2.2.2.2.2.2.2.1, h.2.2.2.2.2.2.2.2.1, 0, ())
def erP (p : YT2) : YT2 := (p.1, p.2.1, p.2.2.1, p.2.2.2.1, p.2.2.2.2.1, 0, ())
def erX (x : YT3) : YT3 := (x.1, x.2.1, 0, ())
def erF (f : YT5) : YT5 := (f.1, f.2.1, 0, ())
def erS (s : YT7) : YT7 := (s.1, s.2.1, s.2.2.1, s.2.2.2.1, s.2.2.2.2.1, 0, ())
def erN (n : YT6) : YT6 := (n.1, n.2.1.map erH, n.2.2.1.map erP, n.2.2.2.1.map erX, n.2.2.2.2.1, n.2.2.2.2.2.1.map erF, 0, ())
def Cj (n : NetT) : NetT := (n.1, n.2.1, n.2.2.1, n.2.2.2.1, n.2.2.2.2.1, n.2.2.2.2.2.1.map erN, n.2.2.2.2.2.2.1.map erS, n.2.2.2.2.2.2.2.1, n.2.2.2.2.2.2.2.2)
theorem Cw {n : Int} (h : numB n = true) : 0 ≤ n := by
 unfold numB at h; simp at h; omega
theorem Abb (x : List Int) : ∀ r : List (List Int), El (x :: r) = wd x :: r.flatMap (fun y => [sg ([44] : List Int), wd y])
 | [] => rfl
 | y :: r => by
  rw [El, Abb y r, List.flatMap_cons]
  rfl
theorem Avh (most : Nat) : ∀ (r : List (List Int)) (f : Nat) (x : RS) (o : List (List Int)) {A : List T3}, (∀ w ∈ r, Bq w = true) → r.length < f → o.length + r.length ≤ most → At x (r.flatMap (fun y => [sg ([44] : List Int), wd y]) ++ sg ([59] : List Int) :: A) →
  (Bt (most : Int) f x o).1 = o ++ r ∧ At (Bt (most : Int) f x o).2 A
 | _, 0, _, _, _, _, h, _, _ => by omega
 | [], f + 1, x, o, A, hw, hf, hm, h => by
  have h : At x (sg ([59] : List Int) :: A) := h
  rw [Bt, Er h, show ((sg ([59] : List Int)).1 != 2 && ((sg ([59] : List Int)).1 != 0 && (sg ([59] : List Int)).2.1 == ([44] : List Int))) = false by decide]
  exact ⟨by simp, Cr ([59] : List Int) h (by decide)⟩
 | y :: r, f + 1, x, o, A, hw, hf, hm, h => by
  rw [List.length_cons] at hf hm
  have h : At x (sg ([44] : List Int) :: wd y :: (r.flatMap (fun y => [sg ([44] : List Int), wd y]) ++ sg ([59] : List Int) :: A)) := h
  have h1 := Hw h (by decide)
  obtain ⟨e2, h2⟩ := Eo (hw y (by simp)) h1
  rw [Bt, Er h, show ((sg ([44] : List Int)).1 != 2 && ((sg ([44] : List Int)).1 != 0 && (sg ([44] : List Int)).2.1 == ([44] : List Int))) = true by decide, cond_true]
  have hne : (((o.length : Nat) : Int) == (most : Int)) = false := by simp; omega
  simp only [hne, Bool.false_and, cond_false]
  rw [e2]
  obtain ⟨e3, h3⟩ := Avh most r f (Ai (A0 x)).2 (o ++ [y]) (fun w hw2 => hw w (List.mem_cons_of_mem _ hw2)) (by omega) (by rw [List.length_append, List.length_singleton]; omega) h2
  exact ⟨by rw [e3, List.append_assoc]; rfl, h3⟩
theorem Abh {most : Nat} {l : List (List Int)} {x : RS} {A : List T3} (hb : rowB most l = true) (h : At x (El l ++ sg ([59] : List Int) :: A)) : (B3 (most : Int) x).1 = l ∧ At (B3 (most : Int) x).2 A := by
 obtain ⟨⟨h1, h2⟩, hw⟩ := Rx hb
 cases l with
 | nil => simp at h1
 | cons y r =>
  rw [Abb] at h
  obtain ⟨e1, g1⟩ := Eo (hw y (by simp)) h
  have g1 : At (Ai x).2 (r.flatMap (fun y => [sg ([44] : List Int), wd y]) ++ sg ([59] : List Int) :: A) := g1
  unfold B3
  rw [e1]
  refine Avh most r _ (Ai x).2 [y] (fun w hw2 => hw w (List.mem_cons_of_mem _ hw2)) ?_ (by rw [List.length_singleton]; rw [List.length_cons] at h2; omega) g1
  have e := congrArg List.length g1.t
  rw [List.length_map, List.length_append] at e
  have : ∀ m : List (List Int), m.length ≤ (m.flatMap (fun y => [sg ([44] : List Int), wd y])).length := by
   intro m
   induction m with
   | nil => simp
   | cons y r ih => rw [List.flatMap_cons, List.length_append, List.length_cons, List.length_cons]; omega
  have := this r
  omega
theorem Bhc {a : YT3} (hb : Jl a = true) {x : RS} {A : List T3} (h : At x (wd a.1 :: sg ([58] : List Int) :: (El a.2.1 ++ [sg ([59] : List Int)]) ++ A)) : erX (Cq x).1 = erX a ∧ At (Cq x).2 A := by
 unfold Jl at hb
 simp only [Bool.and_eq_true] at hb
 simp only [List.append_assoc, List.cons_append, List.nil_append] at h
 obtain ⟨e1, h1⟩ := Eo hb.1 h
 have h2 := Cr ([58] : List Int) h1 (by decide)
 obtain ⟨e3, h3⟩ := Abh (most := 16) hb.2.1 h2
 refine ⟨?_, h3⟩
 show ((Ai x).1, (B3 16 (Aj ([58] : List Int) (Ai x).2)).1, (0 : Int), ()) = _
 rw [e1]
 exact congrArg (fun z => (a.1, z, (0 : Int), ())) e3
theorem foe_at {a : YT5} (hb : foeB a = true) {x : RS} {A : List T3} (h : At x ([wd a.1, wd a.2.1, sg ([59] : List Int)] ++ A)) : erF (foeR x).1 = erF a ∧ At (foeR x).2 A := by
 unfold foeB at hb
 simp only [Bool.and_eq_true] at hb
 simp only [List.cons_append, List.nil_append] at h
 obtain ⟨e1, h1⟩ := Eo hb.1 h
 obtain ⟨e2, h2⟩ := Eo hb.2.1 h1
 refine ⟨?_, Cr ([59] : List Int) h2 (by decide)⟩
 show ((Ai x).1, (Ai (Ai x).2).1, (0 : Int), ()) = _
 rw [e1, e2]
 rfl
theorem ped_at {a : YT2} (hb : pedB a = true) {x : RS} {A : List T3} (h : At x (wd a.1 :: wd ([119, 105, 116, 104] : List Int) :: wd a.2.1 :: wd ([108, 111, 110, 103] : List Int) :: (numK a.2.2.1 ++ (wd ([112, 97, 99, 101] : List Int) :: (numK a.2.2.2.1 ++ (wd ([108, 101, 97, 115, 116] : List Int) :: (numK a.2.2.2.2.1 ++ [sg ([59] : List Int)])))))  ++ A)) :
  erP (Ci x).1 = erP a ∧ At (Ci x).2 A := by
 unfold pedB at hb
 simp only [Bool.and_eq_true] at hb
 obtain ⟨n1, n2, q1, q2, q3, -⟩ := hb
 simp only [List.append_assoc, List.cons_append, List.nil_append] at h
 obtain ⟨e1, h1⟩ := Eo n1 h
 have h2 := Cr ([119, 105, 116, 104] : List Int) h1 (by decide)
 obtain ⟨e3, h3⟩ := Eo n2 h2
 obtain ⟨e4, h4⟩ := Dh (by decide) (Cw q1) h3
 obtain ⟨e5, h5⟩ := Dh (by decide) (Cw q2) h4
 obtain ⟨e6, h6⟩ := Dh (by decide) (Cw q3) h5
 refine ⟨?_, Cr ([59] : List Int) h6 (by decide)⟩
 unfold Ci erP
 simp only
 rw [e1, e3, e4, e5, e6]
theorem stop_at {a : YT7} (hb : Gh a = true) {x : RS} {A : List T3} (h : At x (wd a.1 :: wd ([111, 117, 116] : List Int) :: wd a.2.1 :: wd ([105, 110] : List Int) :: wd a.2.2.1 :: wd ([97, 104, 101, 97, 100] : List Int) :: (numK a.2.2.2.1 ++ (wd ([98, 97, 99, 107] : List Int) :: (numK a.2.2.2.2.1 ++ [sg ([59] : List Int)]))) ++ A)) :
  erS (Cg x).1 = erS a ∧ At (Cg x).2 A := by
 unfold Gh at hb
 simp only [Bool.and_eq_true] at hb
 obtain ⟨n1, n2, n3, q1, q2, -⟩ := hb
 simp only [List.append_assoc, List.cons_append, List.nil_append] at h
 obtain ⟨e1, h1⟩ := Eo n1 h
 have h2 := Cr ([111, 117, 116] : List Int) h1 (by decide)
 obtain ⟨e3, h3⟩ := Eo n2 h2
 have h4 := Cr ([105, 110] : List Int) h3 (by decide)
 obtain ⟨e5, h5⟩ := Eo n3 h4
 obtain ⟨e6, h6⟩ := Dh (by decide) (Cw q1) h5
 obtain ⟨e7, h7⟩ := Dh (by decide) (Cw q2) h6
 refine ⟨?_, Cr ([59] : List Int) h7 (by decide)⟩
 unfold Cg erS
 simp only
 rw [e1, e3, e5, e6, e7]
theorem ring_at {a : YT4} (hb : K8 a = true) {x : RS} {A : List T3} (h : At x ((bif a.1 then [wd ([102, 114, 101, 101] : List Int)] else []) ++ (El a.2.1 ++ [sg ([59] : List Int)]) ++ A)) : id (B0 x).1 = id a ∧ At (B0 x).2 A := by
 unfold K8 at hb
 obtain ⟨a0, a1, ⟨⟩⟩ := a
 obtain ⟨⟨h1, h2⟩, hw⟩ := Rx hb
 cases a0
 ·simp only [cond_false, List.append_assoc, List.cons_append, List.nil_append] at h
  have hs : Aw ([102, 114, 101, 101] : List Int) x = false := by
   cases a1 with
   | nil => simp at h1
   | cons y r =>
    rw [Abb] at h
    rw [Er h]
    have hy := hw y (by simp)
    have : (y == ([102, 114, 101, 101] : List Int)) = false := by
     cases hyf : y == ([102, 114, 101, 101] : List Int)
     ·rfl
     ·have : y = ([102, 114, 101, 101] : List Int) := by simpa using hyf
      subst this
      have : Bq ([102, 114, 101, 101] : List Int) = false := by rfl
      rw [this] at hy
      cases hy
    simp only [wd]
    rw [this]
    simp
  obtain ⟨e3, h3⟩ := Abh (most := 4) hb h
  unfold B0
  rw [hs]
  simp only [cond_false]
  exact ⟨congrArg (fun z => (false, z, ())) e3, h3⟩
 ·simp only [cond_true, List.append_assoc, List.cons_append, List.nil_append] at h
  have hs : Aw ([102, 114, 101, 101] : List Int) x = true := by rw [Er h]; decide
  obtain ⟨e3, h3⟩ := Abh (most := 4) hb (Hw h (by decide))
  unfold B0
  rw [hs]
  simp only [cond_true]
  exact ⟨congrArg (fun z => (true, z, ())) e3, h3⟩
theorem head_at {a : YT1} (hb : Hu a = true) {x : RS} {A : List T3} (h : At x ((Ks a).tail ++ A)) : erH (Cf x).1 = erH a ∧ At (Cf x).2 A := by
 have sp := Aud hb
 unfold Hu at hb
 simp only [Bool.and_eq_true] at hb
 obtain ⟨n0, q1, q2, ⟨q3, q4⟩, q5, -, -, q8, q9, q10, -⟩ := hb
 have hg := sp.2.2.2.2.2.2.1
 unfold Ks at h
 simp only [List.tail_cons, List.append_assoc, List.cons_append, List.nil_append] at h
 obtain ⟨e1, h1⟩ := Eo n0 h
 obtain ⟨e2, h2⟩ := Dh (by decide) (Cw q1) h1
 obtain ⟨e3, h3⟩ := Dh (by decide) (Cw q2) h2
 obtain ⟨e4, h4⟩ := Atn (by decide) (Cw q3) (Cw q4) h3
 obtain ⟨e5, h5⟩ := Dh (by decide) (Cw q5) h4
 have h6 := Cr ([103, 114, 97, 100, 101] : List Int) h5 (by decide)
 unfold Cf erH
 simp only
 generalize Ai x = n at *
 generalize numR ([118, 111, 108, 117, 109, 101] : List Int) n.2 = v at *
 generalize numR ([102, 108, 111, 119] : List Int) v.2 = s at *
 generalize C1 ([117, 115, 101] : List Int) s.2 = u at *
 generalize numR ([115, 112, 101, 101, 100] : List Int) u.2 = p at *
 generalize Aj ([103, 114, 97, 100, 101] : List Int) p.2 = q at *
 have rest : ∀ {g : Int × RS}, At g.2 (wd ([119, 105, 100, 116, 104] : List Int) :: (numK a.2.2.2.2.2.2.1 ++ (wd ([108, 101, 110, 103, 116, 104] : List Int) :: (numK a.2.2.2.2.2.2.2.1 ++ (wd ([103, 114, 101, 101, 110] : List Int) :: (numK a.2.2.2.2.2.2.2.2.1 ++ sg ([59] : List Int) :: A)))))) →
   (numR ([119, 105, 100, 116, 104] : List Int) g.2).1 = a.2.2.2.2.2.2.1 ∧ (numR ([108, 101, 110, 103, 116, 104] : List Int) (numR ([119, 105, 100, 116, 104] : List Int) g.2).2).1 = a.2.2.2.2.2.2.2.1 ∧ (numR ([103, 114, 101, 101, 110] : List Int) (numR ([108, 101, 110, 103, 116, 104] : List Int) (numR ([119, 105, 100, 116, 104] : List Int) g.2).2).2).1 = a.2.2.2.2.2.2.2.2.1 ∧ At (Aj ([59] : List Int) (numR ([103, 114, 101, 101, 110] : List Int) (numR ([108, 101, 110, 103, 116, 104] : List Int) (numR ([119, 105, 100, 116, 104] : List Int) g.2).2).2).2) A := by
  intro g hg
  obtain ⟨f1, g1⟩ := Dh (by decide) (Cw q8) hg
  obtain ⟨f2, g2⟩ := Dh (by decide) (Cw q9) g1
  obtain ⟨f3, g3⟩ := Dh (by decide) (Cw q10) g2
  exact ⟨f1, f2, f3, Cr ([59] : List Int) g3 (by decide)⟩
 by_cases hneg : a.2.2.2.2.2.1 < 0
 ·have hk : numK a.2.2.2.2.2.1 = [(3, ([45] : List Int), 0), (2, digN 18 (a.2.2.2.2.2.1).natAbs, -a.2.2.2.2.2.1)] := by
   unfold numK
   rw [show decide (a.2.2.2.2.2.1 < 0) = true by simpa using hneg]
   rfl
  rw [hk] at h6
  have h6 : At q ((3, ([45] : List Int), 0) :: (2, digN 18 (a.2.2.2.2.2.1).natAbs, -a.2.2.2.2.2.1) :: _) := h6
  have hs : Aw ([45] : List Int) q = true := by rw [Er h6]; decide
  have h7 := Hw h6 (by decide)
  obtain ⟨e7, h8⟩ := M7 h7
  have e7 : (numR [] (A0 q)).1 = -a.2.2.2.2.2.1 := e7
  have h8 : At (numR [] (A0 q)).2 _ := h8
  obtain ⟨f1, f2, f3, h9⟩ := rest h8
  rw [hs]
  simp only [cond_true]
  refine ⟨?_, h9⟩
  have en : negI .i64 (numR [] (A0 q)).1 = a.2.2.2.2.2.1 := by
   rw [e7]
   unfold negI
   rw [w64 (by unfold inM at hg; omega)]
   omega
  rw [e1, e2, e3, e5, en, f1, f2, f3, e4]
 ·rw [Rh (by omega)] at h6
  have h6 : At q ((2, digN 18 (a.2.2.2.2.2.1).natAbs, a.2.2.2.2.2.1) :: _) := h6
  have hs : Aw ([45] : List Int) q = false := by rw [Er h6]; rfl
  obtain ⟨e7, h8⟩ := M7 h6
  have e7 : (numR [] q).1 = a.2.2.2.2.2.1 := e7
  have h8 : At (numR [] q).2 _ := h8
  obtain ⟨f1, f2, f3, h9⟩ := rest h8
  rw [hs]
  simp only [cond_false]
  refine ⟨?_, h9⟩
  rw [e1, e2, e3, e5, e7, f1, f2, f3, e4]
theorem flat_wd {α : Type} {w : List Int} {g : α → List T3} {f : α → List T3} (h : ∀ a, f a = wd w :: g a) (l : List α) : l.flatMap f = l.flatMap (fun a => wd w :: g a) := by
 congr 1
 funext a
 exact h a
theorem Bfa {a : List YT4 × Unit} (hb : Gu a = true) {x : RS} {A : List T3} (h : At x (sg ([123] : List Int) :: (a.1.flatMap Rw ++ [sg ([125] : List Int)]) ++ A)) : id (Ce x).1 = id a ∧ At (Ce x).2 A := by
 unfold Gu at hb
 simp only [Bool.and_eq_true, Bool.not_eq_true', decide_eq_false_iff_not, List.all_eq_true] at hb
 simp only [List.append_assoc, List.cons_append, List.nil_append] at h
 have h1 := Cr ([123] : List Int) h (by decide)
 obtain ⟨l, ⟨⟩⟩ := a
 have hs : Aw ([114, 105, 110, 103] : List Int) (Aj ([123] : List Int) x) = true := by
  cases l with
  | nil => simp at hb
  | cons r l =>
   have h1 : At (Aj ([123] : List Int) x) (wd ([114, 105, 110, 103] : List Int) :: _) := h1
   rw [Er h1]
   decide
 unfold Ce
 simp only
 rw [hs]
 simp only [cond_true]
 obtain ⟨e2, h2⟩ := Ava id (w := ([114, 105, 110, 103] : List Int)) (most := 2) (item := B0) (g := fun r => (bif r.1 then [wd ([102, 114, 101, 101] : List Int)] else []) ++ (El r.2.1 ++ [sg ([59] : List Int)])) (t := sg ([125] : List Int)) (l := l) (by decide) (fun r hr {x A} hx => ring_at (hb.2.2 r hr) hx) (by have := hb.2.1; simp only at this; omega) h1
 rw [List.map_id, List.map_id] at e2
 refine ⟨congrArg (fun z => (z, ())) e2, Cr ([125] : List Int) h2 (by decide)⟩
def Stops (w : List Int) (A : List T3) : Prop := ∃ t B, A = t :: B ∧ (t.1 != 2 && (t.1 != 0 && t.2.1 == w)) = false
theorem Gj {α : Type} {w v : List Int} {g : α → List T3} {A : List T3} (hv : (v == w) = false) (h : Stops w A) : ∀ l : List α, Stops w (l.flatMap (fun a => wd v :: g a) ++ A)
 | [] => h
 | a :: l => ⟨wd v, _, rfl, by simp [wd, hv]⟩
theorem Jc {α β : Type} (er : α → β) {w : List Int} {most : Nat} {item : RS → α × RS} {g : α → List T3} {A : List T3} {l : List α} {x : RS} (ht : Stops w A)
  (hi : ∀ a ∈ l, ∀ {x A}, At x (g a ++ A) → er (item x).1 = er a ∧ At (item x).2 A) (hm : l.length ≤ most) (h : At x (l.flatMap (fun a => wd w :: g a) ++ A)) :
  (Ay w (most : Int) item x).1.map er = l.map er ∧ At (Ay w (most : Int) item x).2 A := by
 obtain ⟨t, B, rfl, hc⟩ := ht
 exact Ava er hc hi hm h
theorem node_at {a : YT6} (hb : Gz a = true) {x : RS} {A : List T3} (h : At x ((K0 a).tail ++ A)) : erN (Bu x).1 = erN a ∧ At (Bu x).2 A := by
 unfold Gz at hb
 simp only [Bool.and_eq_true, List.all_eq_true] at hb
 obtain ⟨n0, h1, h2, h3, h4, h5, p1, p2, p3, p4, p5⟩ := hb
 have h1 := Jb h1
 have h2 := Jb h2
 have h3 := Jb h3
 have h4 := Jb h4
 have h5 := Jb h5
 unfold K0 at h
 simp only [List.tail_cons, List.append_assoc, List.cons_append, List.nil_append] at h
 obtain ⟨e0, g0⟩ := Eo n0 h
 have g1 := Cr ([123] : List Int) g0 (by decide)
 have sE : ∀ w, ((([125] : List Int) : List Int) == w) = false → Stops w (sg ([125] : List Int) :: A) := fun w hw => ⟨_, _, rfl, by simp [sg, hw]⟩
 obtain ⟨r1, g2⟩ := Jc erH (w := ([104, 101, 97, 100] : List Int)) (most := 16) (item := Cf) (g := fun a => (Ks a).tail) (l := a.2.1) (Gj (v := ([119, 97, 108, 107] : List Int)) (g := fun a => (pedK a).tail) (by decide) (Gj (v := ([112, 104, 97, 115, 101] : List Int)) (g := fun a => (K3 a).tail) (by decide) (Gj (v := ([103, 114, 111, 117, 112] : List Int)) (g := fun a => (I7 a).tail) (by decide) (Gj (v := ([102, 111, 101] : List Int)) (g := fun a => (foeK a).tail) (by decide) (sE _ (by decide)) a.2.2.2.2.2.1) a.2.2.2.2.1) a.2.2.2.1) a.2.2.1) (fun y hy {x A} hx => head_at (p1 y hy) hx) (by omega) g1
 obtain ⟨r2, g3⟩ := Jc erP (w := ([119, 97, 108, 107] : List Int)) (most := 8) (item := Ci) (g := fun a => (pedK a).tail) (l := a.2.2.1) (Gj (v := ([112, 104, 97, 115, 101] : List Int)) (g := fun a => (K3 a).tail) (by decide) (Gj (v := ([103, 114, 111, 117, 112] : List Int)) (g := fun a => (I7 a).tail) (by decide) (Gj (v := ([102, 111, 101] : List Int)) (g := fun a => (foeK a).tail) (by decide) (sE _ (by decide)) a.2.2.2.2.2.1) a.2.2.2.2.1) a.2.2.2.1) (fun y hy {x A} hx => ped_at (p2 y hy) hx) (by omega) g2
 obtain ⟨r3, g4⟩ := Jc erX (w := ([112, 104, 97, 115, 101] : List Int)) (most := 16) (item := Cq) (g := fun a => (K3 a).tail) (l := a.2.2.2.1) (Gj (v := ([103, 114, 111, 117, 112] : List Int)) (g := fun a => (I7 a).tail) (by decide) (Gj (v := ([102, 111, 101] : List Int)) (g := fun a => (foeK a).tail) (by decide) (sE _ (by decide)) a.2.2.2.2.2.1) a.2.2.2.2.1) (fun y hy {x A} hx => Bhc (p3 y hy) hx) (by omega) g3
 obtain ⟨r4, g5⟩ := Jc id (w := ([103, 114, 111, 117, 112] : List Int)) (most := 4) (item := Ce) (g := fun a => (I7 a).tail) (l := a.2.2.2.2.1) (Gj (v := ([102, 111, 101] : List Int)) (g := fun a => (foeK a).tail) (by decide) (sE _ (by decide)) a.2.2.2.2.2.1) (fun y hy {x A} hx => Bfa (p4 y hy) hx) (by omega) g4
 obtain ⟨r5, g6⟩ := Jc erF (w := ([102, 111, 101] : List Int)) (most := 64) (item := foeR) (g := fun a => (foeK a).tail) (l := a.2.2.2.2.2.1) (sE _ (by decide)) (fun y hy {x A} hx => foe_at (p5 y hy) hx) (by omega) g5
 rw [List.map_id, List.map_id] at r4
 refine ⟨?_, Cr ([125] : List Int) g6 (by decide)⟩
 unfold Bu erN
 simp only
 exact Prod.ext e0 (Prod.ext r1 (Prod.ext r2 (Prod.ext r3 (Prod.ext r4 (Prod.ext r5 rfl)))))
theorem Avn {n : NetT} (hb : netB n = true) {x : RS} (h : At x (netK n)) : Cj (netR x).1 = Cj n ∧ At (netR x).2 [(0, [], 0)] := by
 unfold netB at hb
 simp only [Bool.and_eq_true, List.all_eq_true] at hb
 obtain ⟨q0, q1, q2, ⟨q3, q4⟩, q7, q8, h1, h2, p1, p2⟩ := hb
 have h1 := Jb h1
 have h2 := Jb h2
 unfold netK at h
 obtain ⟨e1, g1⟩ := Dh (by decide) (Cw q0) h
 obtain ⟨e2, g2⟩ := Dh (by decide) (Cw q1) g1
 obtain ⟨e3, g3⟩ := Dh (by decide) (Cw q2) g2
 have g4 := Cr ([59] : List Int) g3 (by decide)
 obtain ⟨e5, g5⟩ := Atn (by decide) (Cw q3) (Cw q4) g4
 have g6 := Cr ([59] : List Int) g5 (by decide)
 have sA : Stops ([110, 111, 100, 101] : List Int) (artK n ++ [(0, [], 0)]) := by
  unfold artK
  cases artB n
  ·exact ⟨_, _, rfl, by decide⟩
  ·exact ⟨_, _, rfl, by decide⟩
 obtain ⟨r1, g7⟩ := Jc erN (w := ([110, 111, 100, 101] : List Int)) (most := 12) (item := Bu) (g := fun a => (K0 a).tail) (l := n.2.2.2.2.2.1) sA (fun y hy {x A} hx => node_at (p1 y hy) hx) (by omega) g6
 unfold netR
 simp only
 generalize numR ([99, 121, 99, 108, 101] : List Int) x = c1 at *
 generalize numR ([116, 111] : List Int) c1.2 = c2 at *
 generalize numR ([98, 121] : List Int) c2.2 = c3 at *
 generalize C1 ([112, 101, 97, 107] : List Int) (Aj ([59] : List Int) c3.2) = c4 at *
 have r1 : (Ay ([110, 111, 100, 101] : List Int) 12 Bu (Aj ([59] : List Int) c4.2)).1.map erN = _ := r1
 have g7 : At (Ay ([110, 111, 100, 101] : List Int) 12 Bu (Aj ([59] : List Int) c4.2)).2 _ := g7
 generalize Ay ([110, 111, 100, 101] : List Int) 12 Bu (Aj ([59] : List Int) c4.2) = m at *
 have fin : ∀ {t : (List YT7 × Int × Int) × RS}, t.1.1.map erS = n.2.2.2.2.2.2.1.map erS → t.1.2.1 = n.2.2.2.2.2.2.2.1 → t.1.2.2 = n.2.2.2.2.2.2.2.2 → At t.2 [(0, [], 0)] →
   Cj (c1.1, c2.1, c3.1, c4.1.1, c4.1.2, m.1, t.1.1, t.1.2.1, t.1.2.2) = Cj n ∧ At (bif (hd t.2.1).1 != 0 then A5 50 t.2 else t.2) [(0, [], 0)] := by
  intro t f1 f2 f3 f4
  have hk : (hd t.2.1).1 = 0 := (Lh f4).1
  rw [hk]
  refine ⟨?_, f4⟩
  unfold Cj
  simp only
  rw [e1, e2, e3, e5, r1, f1, f2, f3]
 cases hA : artB n
 ·have hK : artK n = [] := by unfold artK; rw [hA]; rfl
  rw [hK] at g7
  have g7 : At m.2 [(0, [], 0)] := g7
  rw [show Aw ([97, 114, 116, 101, 114, 121] : List Int) m.2 = false by rw [Er g7]; decide]
  unfold artB at hA
  simp only [Bool.or_eq_false_iff, decide_eq_false_iff_not, bne_eq_false_iff_eq] at hA
  have h0 : n.2.2.2.2.2.2.1 = [] := List.eq_nil_of_length_eq_zero (by omega)
  exact fin (t := (([], 0, 0), m.2)) (by rw [h0]) hA.1.2.symm hA.2.symm g7
 ·unfold artK at g7
  rw [hA] at g7
  simp only [cond_true, List.append_assoc, List.cons_append, List.nil_append] at g7
  rw [show Aw ([97, 114, 116, 101, 114, 121] : List Int) m.2 = true by rw [Er g7]; rfl]
  have k1 := Hw g7 (by decide)
  have k2 := Cr ([123] : List Int) k1 (by decide)
  obtain ⟨s1, k3⟩ := Jc erS (w := ([115, 116, 111, 112] : List Int)) (most := 12) (item := Cg) (g := fun a => (R2 a).tail) (l := n.2.2.2.2.2.2.1) ⟨_, _, rfl, by decide⟩ (fun y hy {x A} hx => stop_at (p2 y hy) hx) (by omega) k2
  obtain ⟨s2, k4⟩ := Dh (by decide) (Cw q7) k3
  obtain ⟨s3, k5⟩ := num_at0 (Cw q8) k4
  have k6 := Cr ([59] : List Int) k5 (by decide)
  have k7 := Cr ([125] : List Int) k6 (by decide)
  exact fin (t := Bf (A0 m.2)) s1 s2 s3 k7
theorem Bga {m n : NetT} (hm : netB m = true) (hn : netB n = true) (h : netT m = netT n) : Cj m = Cj n := by
 have l1 := Auz hm (netT m).length ((netT m).length + 1) (by omega)
 have l2 := Auz hn (netT m).length ((netT m).length + 1) (by rw [h]; omega)
 rw [← h] at l2
 have a1 : At ((lx (netT m).length ((netT m).length + 1) (netT m)).2.2, 0, 0) (netK m) := ⟨rfl, l1.2⟩
 have a2 : At ((lx (netT m).length ((netT m).length + 1) (netT m)).2.2, 0, 0) (netK n) := ⟨rfl, l2.2⟩
 exact (Avn hm a1).1.symm.trans (Avn hn a2).1
noncomputable instance dec1 : DecidableEq YT1 := fun _ _ => Classical.propDecidable _
noncomputable instance dec2 : DecidableEq YT2 := fun _ _ => Classical.propDecidable _
noncomputable instance dec7 : DecidableEq YT7 := fun _ _ => Classical.propDecidable _
noncomputable instance decG : DecidableEq (List YT4 × Unit) := fun _ _ => Classical.propDecidable _
noncomputable instance dec6 : DecidableEq YT6 := fun _ _ => Classical.propDecidable _
noncomputable instance decN : DecidableEq NetT := fun _ _ => Classical.propDecidable _
theorem J8 {α : Type} (er : α → α) (f : α → List Int) (h : ∀ x, f (er x) = f x) (l : List α) : (l.map er).flatMap f = l.flatMap f := by
 rw [List.flatMap_map]
 simp only [h]
theorem Bfg (h : YT1) : Kt (erH h) = Kt h := rfl
theorem pedT_er (h : YT2) : pedT (erP h) = pedT h := rfl
theorem Bhb (h : YT3) : K4 (erX h) = K4 h := rfl
theorem foeT_er (h : YT5) : foeT (erF h) = foeT h := rfl
theorem Bj3 (h : YT7) : La (erS h) = La h := rfl
theorem Bgk (n : YT6) : Jf (erN n) = Jf n := by
 unfold Jf Abr erN
 simp only [J8 erH Kt Bfg, J8 erP pedT pedT_er, J8 erX K4 Bhb, J8 erF foeT foeT_er]
theorem Avm (n : NetT) : netT (Cj n) = netT n := by
 unfold netT artT artB Cj
 simp only [J8 erN Jf Bgk, J8 erS La Bj3, List.length_map]
theorem text_iff {m n : NetT} (hm : netB m = true) (hn : netB n = true) : netT m = netT n ↔ Cj m = Cj n :=
 ⟨Bga hm hn, fun h => by rw [← Avm m, ← Avm n, h]⟩
section
variable {α β R : Type} [DecidableEq β] (er : α → β) (a b : List α)
theorem A1f : ∀ (a b : List α), a.length = b.length → ((a.zip b).all (fun x => decide (er x.1 = er x.2)) = true ↔ a.map er = b.map er)
 | [], [], _ => by simp
 | x :: a, y :: b, h => by
  have := A1f a b (by simpa using h)
  rw [List.zip_cons_cons, List.all_cons, Bool.and_eq_true, this]
  simp
 | [], _ :: _, h => by simp at h
 | _ :: _, [], h => by simp at h
theorem Ha (F : Nat → Int → Option R) (hl : a.length = b.length) {r e : Option R}
  (h1 : ∀ j i x y, a[i]? = some x → b[i]? = some y → F (j + 1) ((i : Nat) : Int) = if er x = er y then F j ((i + 1 : Nat) : Int) else e) (h0 : ∀ j, F (j + 1) ((a.length : Nat) : Int) = r) (j : Nat) (hj : a.length < j) :
  F j 0 = if a.map er = b.map er then r else e := by
 have hz : (a.zip b).length = a.length := by rw [List.length_zip]; omega
 have L := Nq (a.zip b) (fun x => decide (er x.1 = er x.2)) F e r (fun j i x hx => ?_) (fun j => by rw [hz]; exact h0 j) j (by rw [hz]; exact hj)
 ·rw [L]
  have := A1f er a b hl
  by_cases hc : a.map er = b.map er
  ·rw [if_pos hc, if_pos (this.2 hc)]
  ·rw [if_neg hc, if_neg (fun h => hc (this.1 h))]
 ·obtain ⟨hx1, hx2⟩ := List.getElem?_zip_eq_some.1 hx
  rw [h1 j i x.1 x.2 hx1 hx2]
  simp
theorem Ie {c r e : Option R} (h : a.length = b.length → c = if a.map er = b.map er then r else e) : (bif (((List.length a : Nat) : Int) != ((List.length b : Nat) : Int)) then e else c) = if a.map er = b.map er then r else e := by
 by_cases hl : a.length = b.length
 ·rw [h hl, hl]
  simp
 ·have h2 : ¬ a.map er = b.map er := fun h => hl (by have := congrArg List.length h; simpa using this)
  rw [if_neg h2]
  have h3 : (((List.length a : Nat) : Int) != ((List.length b : Nat) : Int)) = true := by simp; omega
  rw [h3]
  rfl
end
theorem Gr {R : Type} {B : Bool} {p : Prop} [Decidable p] {X e : Option R} (h : B = true ↔ p) : (bif !B then e else X) = if p then X else e := by
 by_cases hp : p
 ·rw [if_pos hp, h.2 hp]; rfl
 ·rw [if_neg hp]
  cases B with
  | false => rfl
  | true => exact absurd (h.1 rfl) hp
theorem Q4 {R : Type} {p q : Prop} [Decidable p] [Decidable q] {X e : R} : (if p then (if q then X else e) else e) = if p ∧ q then X else e := by
 by_cases hp : p <;> by_cases hq : q <;> simp [hp, hq]
theorem Nx {R : Type} {p : Prop} [Decidable p] {X e : Option R} : ((if p then some true else some false).bind fun o => bif !o then e else X) = if p then X else e := by
 by_cases hp : p <;> simp [hp]
section
variable (k : Nat) (hk : 1000 ≤ k)
include hk
theorem Bfh (a b : List YT1) (ha : a.length < 1000) : Ly k (a, b, false) = if a.map erH = b.map erH then some true else some false := by
 rw [Bes, Z9]
 refine Ie erH a b fun hl => Ha erH a b (fun j i => (Fz k).L 4 [] j (Kk (a, b, false, i))) hl (fun j i x y hx hy => ?_) (fun j => ?_) k (by omega)
 ·rw [Atf, Qt, Em hx, Bw hx, Bw hy, Eu hx (by omega)]
  simp only [Bool.not_false, cond_true]
  refine Gr ?_
  simp [eqS, eqI, erH, Prod.ext_iff]
 ·rw [Atf, Qt, En]
theorem Bg4 (a b : List YT2) (ha : a.length < 1000) : Lz k (a, b, false) = if a.map erP = b.map erP then some true else some false := by
 rw [Bet, Aad]
 refine Ie erP a b fun hl => Ha erP a b (fun j i => (F0 k).L 4 [] j (Kl (a, b, false, i))) hl (fun j i x y hx hy => ?_) (fun j => ?_) k (by omega)
 ·rw [Ath, Qu, Em hx, Bw hx, Bw hy, Eu hx (by omega)]
  simp only [Bool.not_false, cond_true]
  refine Gr ?_
  simp [eqS, eqI, erP, Prod.ext_iff]
 ·rw [Ath, Qu, En]
theorem A9l (a b : List YT5) (ha : a.length < 1000) : Lx k (a, b, false) = if a.map erF = b.map erF then some true else some false := by
 rw [Ber, Z5]
 refine Ie erF a b fun hl => Ha erF a b (fun j i => (Fy k).L 4 [] j (Kj (a, b, false, i))) hl (fun j i x y hx hy => ?_) (fun j => ?_) k (by omega)
 ·rw [Atd, Qs, Em hx, Bw hx, Bw hy, Eu hx (by omega)]
  simp only [Bool.not_false, cond_true]
  refine Gr ?_
  simp [eqS, eqI, erF, Prod.ext_iff]
 ·rw [Atd, Qs, En]
theorem Bj5 (a b : List YT7) (ha : a.length < 1000) : P5 k (a, b, false) = if a.map erS = b.map erS then some true else some false := by
 rw [Bew, Aal]
 refine Ie erS a b fun hl => Ha erS a b (fun j i => (F3 k).L 4 [] j (Kn (a, b, false, i))) hl (fun j i x y hx hy => ?_) (fun j => ?_) k (by omega)
 ·rw [Atl, Qw, Em hx, Bw hx, Bw hy, Eu hx (by omega)]
  simp only [Bool.not_false, cond_true]
  refine Gr ?_
  simp [eqS, eqI, erS, Prod.ext_iff]
 ·rw [Atl, Qw, En]
theorem Avi (a b : List (List Int)) (ha : a.length < 1000) : Lw k (a, b) = if a = b then some true else some false := by
 rw [Beo, Zz]
 have h := Ie (c := (Fn k).L 4 [] k (Ki (a, b, (0 : Int)))) (r := some true) (e := some false) (id : List Int → List Int) a b fun hl => Ha id a b (fun j i => (Fn k).L 4 [] j (Ki (a, b, i))) hl (fun j i x y hx hy => ?_) (fun j => ?_) k (by omega)
 ·rw [List.map_id, List.map_id] at h
  exact h
 ·rw [As7, Qq, Em hx, Bw hx, Bw hy, Eu hx (by omega)]
  refine Gr ?_
  simp
 ·rw [As7, Qq, En]
theorem Bhd (a b : List YT3) (ha : a.length < 1000) (hx : ∀ x ∈ a, x.2.1.length < 1000) : L0 k (a, b, false) = if a.map erX = b.map erX then some true else some false := by
 rw [Bev, Aah]
 refine Ie erX a b fun hl => Ha erX a b (fun j i => (F2 k).L 4 [] j (Km (a, b, false, i))) hl (fun j i x y hx' hy => ?_) (fun j => ?_) k (by omega)
 ·rw [Atj, Qv, Em hx']
  simp only [Bw hx', Bw hy]
  rw [Eu hx' (by omega), Avi k hk _ _ (hx x (Hj hx'))]
  simp only [cond_false, Nx]
  rw [Gr (p := x.1 = y.1) (by simp), Q4]
  simp [erX, Prod.ext_iff]
 ·rw [Atj, Qv, En]
theorem Bi7 (a b : List (List YT4 × Unit)) (i j : Nat) (x y : List YT4 × Unit) (hx : a[i]? = some x) (hy : b[i]? = some y) (hl : a.length < 1000) (h1 : x.1.length < 1000) (h2 : ∀ r ∈ x.1, r.2.1.length < 1000) (hlen : x.1.length = y.1.length) :
  (C9 k).L 9 [j] k (Kh (a, b, (i : Int), (0 : Int))) = if x.1.map id = y.1.map id then (C9 k).L 4 [] j (I4 (a, b, ((i + 1 : Nat) : Int))) else some false := by
 refine Ha id x.1 y.1 (fun j' i' => (C9 k).L 9 [j] j' (Kh (a, b, (i : Int), i'))) hlen (fun j' i' r s hr hs => ?_) (fun j' => ?_) k (by omega)
 ·rw [As4, Qp]
  simp only [Bw hx, Bw hy, Bw hr, Bw hs]
  rw [Em hr, Eu hr (by omega), Avi k hk _ _ (h2 r (Hj hr)), Nx, Gr (p := r.1 = s.1) (by simp), Q4]
  simp [Prod.ext_iff]
 ·rw [As4, Qp]
  simp only [Bw hx, Bw hy]
  rw [En, Eu hx (by omega)]
theorem Bfc (a b : List (List YT4 × Unit)) (ha : a.length < 1000) (hx : ∀ x ∈ a, x.1.length < 1000 ∧ ∀ r ∈ x.1, r.2.1.length < 1000) : Lv k (a, b) = if a = b then some true else some false := by
 rw [Ben, Zv]
 have h := Ie (c := (C9 k).L 4 [] k (I4 (a, b, (0 : Int)))) (r := some true) (e := some false) (id : (List YT4 × Unit) → (List YT4 × Unit)) a b fun hl => Ha id a b (fun j i => (C9 k).L 4 [] j (I4 (a, b, i))) hl (fun j i x y hx' hy => ?_) (fun j => ?_) k (by omega)
 ·rw [List.map_id, List.map_id] at h
  exact h
 ·rw [As3, Qo, Em hx', Bw hx', Bw hy]
  rw [Ie id x.1 y.1 fun hl2 => Bi7 k hk a b i j x y hx' hy ha (hx x (Hj hx')).1 (hx x (Hj hx')).2 hl2]
  simp only [List.map_id, id]
  obtain ⟨x, ⟨⟩⟩ := x
  obtain ⟨y, ⟨⟩⟩ := y
  simp
 ·rw [As3, Qo, En]
theorem same_some (m n : NetT) (hS : NetS m) : Aeg k (m.1, m.2.1, m.2.2.1, m.2.2.2.1, m.2.2.2.2.1, m.2.2.2.2.2.1, m.2.2.2.2.2.2.1, m.2.2.2.2.2.2.2.1, m.2.2.2.2.2.2.2.2, n.1, n.2.1, n.2.2.1, n.2.2.2.1, n.2.2.2.2.1, n.2.2.2.2.2.1, n.2.2.2.2.2.2.1, n.2.2.2.2.2.2.2.1, n.2.2.2.2.2.2.2.2, false) = some (decide (Cj m = Cj n)) := by
 obtain ⟨a0, a1, a2, a3, a4, a5, a6, a7, a8⟩ := m
 obtain ⟨b0, b1, b2, b3, b4, b5, b6, b7, b8⟩ := n
 obtain ⟨s1, s2, s3, s4⟩ := hS
 simp only at s1 s2 s3 s4
 have hN : ∀ hl : a5.length = b5.length, (Fo k).L 4 [] k (I5 (false, (0 : Int), a0, a1, a2, a3, a4, a5, a6, a7, a8, b0, b1, b2, b3, b4, b5, b6, b7, b8)) = if a5.map erN = b5.map erN then some true else some false := by
  intro hl
  refine Ha erN a5 b5 (fun j i => (Fo k).L 4 [] j (I5 (false, i, a0, a1, a2, a3, a4, a5, a6, a7, a8, b0, b1, b2, b3, b4, b5, b6, b7, b8))) hl (fun j i x y hx hy => ?_) (fun j => ?_) k (by omega)
  ·have hS := s2 x (Hj hx)
   obtain ⟨-, h1, -, h3, -, h5, h6, h7, h8, h9, -⟩ := hS
   rw [As9, Qr, Em hx, Bw hx, Bw hy, Eu hx (by omega)]
   simp only [cond_false]
   rw [Bfh k hk _ _ (by omega), Bg4 k hk _ _ (by omega), Bhd k hk _ _ (by omega) (fun z hz => by have := (h6 z hz).2.1; omega),
    Bfc k hk _ _ (by omega) (fun z hz => ⟨by have := (h8 z hz).1; omega, fun r hr => by have := ((h8 z hz).2 r hr).1; omega⟩), A9l k hk _ _ (by omega)]
   simp only [Nx]
   rw [Gr (p := x.1 = y.1) (by simp)]
   simp only [Q4]
   simp [erN, Prod.ext_iff]
  ·rw [As9, Qr, En]
 rw [Beq, Z3]
 simp only
 rw [Bj5 k hk _ _ (by omega), Nx]
 have hb : ∀ (x y : Int) (X e : Option Bool), (bif x != y then e else X) = if x = y then X else e := by
  intro x y X e
  by_cases h : x = y
  ·simp [h]
  ·have : (x != y) = true := by simpa using h
   rw [this, if_neg h]
   rfl
 rw [Gr (p := a3 = b3 ∧ a4 = b4) (by simp [eqI])]
 simp only [hb]
 by_cases hl : a5.length = b5.length
 ·rw [hN hl, hl]
  simp only [Q4, Cj, Prod.ext_iff]
  by_cases h5 : a5.map erN = b5.map erN <;> by_cases h6 : a6.map erS = b6.map erS <;> simp [h5, h6] <;> (try (by_cases q0 : a0 = b0 <;> by_cases q1 : a1 = b1 <;> by_cases q2 : a2 = b2 <;> by_cases q3 : a3 = b3 <;> by_cases q4 : a4 = b4 <;> by_cases q7 : a7 = b7 <;> by_cases q8 : a8 = b8 <;> simp [q0, q1, q2, q3, q4, q7, q8]))
 ·have hd : decide (Cj (a0, a1, a2, a3, a4, a5, a6, a7, a8) = Cj (b0, b1, b2, b3, b4, b5, b6, b7, b8)) = false := by
   rw [decide_eq_false_iff_not]
   intro h
   simp only [Cj, Prod.mk.injEq] at h
   exact hl (by have := congrArg List.length h.2.2.2.2.2.1; simpa using this)
  rw [hd]
  have hl2 : ¬ ((a5.length : Nat) : Int) = ((b5.length : Nat) : Int) := by omega
  simp only [if_neg hl2, ite_self]
end
structure Eqp (x y : RS) : Prop where
 e : x.2.1 = y.2.1
 t : x.1.map strip = y.1.map strip
theorem Eqp.hd {x y : RS} (h : Eqp x y) : (hd x.1).1 = (hd y.1).1 ∧ (hd x.1).2.1 = (hd y.1).2.1 ∧ (hd x.1).2.2.1 = (hd y.1).2.2.1 := by
 have := h.t
 cases hx : x.1 <;> cases hy : y.1 <;> rw [hx, hy] at this <;> simp only [List.map_nil, List.map_cons, List.cons.injEq, reduceCtorEq] at this
 ·exact ⟨rfl, rfl, rfl⟩
 ·have := this.1
  unfold strip at this
  simp only [Prod.mk.injEq] at this
  exact this
theorem Eqp.len {x y : RS} (h : Eqp x y) : x.1.length = y.1.length := by
 have := congrArg List.length h.t
 simpa using this
theorem Iv {x y x' y' : RS} {c d : Bool} (hc : c = d) (h : Eqp x x') (h2 : Eqp y y') : Eqp (bif c then x else y) (bif d then x' else y') := by
 subst hc
 cases c <;> assumption
theorem Iw (c : Int) {x y : RS} (h : Eqp x y) : Eqp (A5 c x) (A5 c y) := by
 unfold A5
 rw [h.e]
 cases y.2.1 == 0
 ·exact h
 ·exact ⟨rfl, h.t⟩
theorem Ho {x y : RS} (h : Eqp x y) : Eqp (A0 x) (A0 y) := by
 unfold A0
 rw [h.e, h.hd.1]
 cases y.2.1 == 0 && (Go.Proofs.YtipcdjgcomclkaaGreatDoorV.hd y.1).1 != 0
 ·exact h
 ·refine ⟨rfl, ?_⟩
  have := congrArg List.tail h.t
  simpa [List.map_tail] using this
theorem Ix (s : List Int) {x y : RS} (h : Eqp x y) : Aw s x = Aw s y := by
 unfold Aw
 rw [h.e, h.hd.1, h.hd.2.1]
theorem Ct (s : List Int) {x y : RS} (h : Eqp x y) : Eqp (Aj s x) (Aj s y) := Ho (Iv (Ix s h) h (Iw 50 h))
theorem Ef {x y : RS} (h : Eqp x y) : (Ai x).1 = (Ai y).1 ∧ Eqp (Ai x).2 (Ai y).2 := by
 unfold Ai
 rw [h.hd.1, h.hd.2.1]
 cases (Go.Proofs.YtipcdjgcomclkaaGreatDoorV.hd y.1).1 == 1 && !(resB (Go.Proofs.YtipcdjgcomclkaaGreatDoorV.hd y.1).2.1)
 ·exact ⟨rfl, Iw 50 h⟩
 ·exact ⟨rfl, Ho h⟩
theorem eq_numC {x y : RS} (h : Eqp x y) : (numC x).1 = (numC y).1 ∧ Eqp (numC x).2 (numC y).2 := by
 unfold numC
 rw [h.hd.1, h.hd.2.2]
 cases (Go.Proofs.YtipcdjgcomclkaaGreatDoorV.hd y.1).1 == 2
 ·exact ⟨rfl, Iw 50 h⟩
 ·exact ⟨rfl, Ho h⟩
theorem Cd (w : List Int) {x y : RS} (h : Eqp x y) : (numR w x).1 = (numR w y).1 ∧ Eqp (numR w x).2 (numR w y).2 := eq_numC (Iv rfl h (Ct w h))
theorem eq_frac (w : List Int) {x y : RS} (h : Eqp x y) : (C1 w x).1 = (C1 w y).1 ∧ Eqp (C1 w x).2 (C1 w y).2 :=
 ⟨Prod.ext (Cd w h).1 (Cd _ (Cd w h).2).1, (Cd _ (Cd w h).2).2⟩
theorem A6p (w : List Int) (a m : Int) {x y : RS} (h : Eqp x y) : (A3 w a m x).1 = (A3 w a m y).1 ∧ Eqp (A3 w a m x).2 (A3 w a m y).2 := by
 unfold A3
 rw [Ix w h]
 cases Aw w y
 ·exact ⟨rfl, h⟩
 ·cases a == m
  ·exact ⟨rfl, Ho h⟩
  ·exact ⟨rfl, Iw 4 h⟩
theorem Ae0 {α β : Type} (er : α → β) (w : List Int) (most : Int) (item : RS → α × RS) (hi : ∀ {x y}, Eqp x y → er (item x).1 = er (item y).1 ∧ Eqp (item x).2 (item y).2) : ∀ (f : Nat) (x y : RS) (o o' : List α),
  Eqp x y → o.map er = o'.map er → (Bl w most item f x o).1.map er = (Bl w most item f y o').1.map er ∧ Eqp (Bl w most item f x o).2 (Bl w most item f y o').2
 | 0, x, y, o, o', h, ho => ⟨ho, h⟩
 | f + 1, x, y, o, o', h, ho => by
  have hl : o.length = o'.length := by simpa using congrArg List.length ho
  have hb := A6p w ((o'.length : Nat) : Int) most h
  rw [Bl, Bl, hl]
  generalize A3 w ((o'.length : Nat) : Int) most x = b at hb ⊢
  generalize A3 w ((o'.length : Nat) : Int) most y = c at hb ⊢
  rw [hb.1]
  cases c.1
  ·exact ⟨ho, hb.2⟩
  ·have h2 := hi hb.2
   exact Ae0 er w most item hi f _ _ _ _ h2.2 (by rw [List.map_append, List.map_append, ho]; simp [h2.1])
theorem Hn {α β : Type} (er : α → β) {w : List Int} {most : Int} {item : RS → α × RS} (hi : ∀ {x y}, Eqp x y → er (item x).1 = er (item y).1 ∧ Eqp (item x).2 (item y).2) {x y : RS} (h : Eqp x y) :
  (Ay w most item x).1.map er = (Ay w most item y).1.map er ∧ Eqp (Ay w most item x).2 (Ay w most item y).2 := by
 unfold Ay
 rw [h.len]
 exact Ae0 er w most item hi _ x y [] [] h rfl
theorem Ae2 (most : Int) : ∀ (f : Nat) (x y : RS) (o : List (List Int)), Eqp x y → (Bt most f x o).1 = (Bt most f y o).1 ∧ Eqp (Bt most f x o).2 (Bt most f y o).2
 | 0, x, y, o, h => ⟨rfl, h⟩
 | f + 1, x, y, o, h => by
  rw [Bt, Bt, Ix _ h]
  cases Aw ([44] : List Int) y
  ·exact ⟨rfl, Ct _ h⟩
  ·simp only [cond_true]
   have h2 := Ho h
   have h3 := Ef (Iv (c := ((o.length : Nat) : Int) == most && ((hd (A0 x).1).1 == 1 && !(resB (hd (A0 x).1).2.1))) (d := ((o.length : Nat) : Int) == most && ((hd (A0 y).1).1 == 1 && !(resB (hd (A0 y).1).2.1))) (by rw [h2.hd.1, h2.hd.2.1]) (Iw 4 h2) h2)
   rw [h3.1]
   exact Ae2 most f _ _ _ h3.2
theorem Ae1 (most : Int) {x y : RS} (h : Eqp x y) : (B3 most x).1 = (B3 most y).1 ∧ Eqp (B3 most x).2 (B3 most y).2 := by
 unfold B3
 have h2 := Ef h
 rw [h2.1, h2.2.len]
 exact Ae2 most _ _ _ _ h2.2
theorem eq_neg {c d : Bool} {a b : Int} (h : c = d) (h2 : a = b) : (bif c then negI .i64 a else a) = (bif d then negI .i64 b else b) := by rw [h, h2]
theorem eq_head {x y : RS} (h : Eqp x y) : erH (Cf x).1 = erH (Cf y).1 ∧ Eqp (Cf x).2 (Cf y).2 := by
 have n := Ef h
 have v := Cd ([118, 111, 108, 117, 109, 101] : List Int) n.2
 have s := Cd ([102, 108, 111, 119] : List Int) v.2
 have u := eq_frac ([117, 115, 101] : List Int) s.2
 have p := Cd ([115, 112, 101, 101, 100] : List Int) u.2
 have q := Ct ([103, 114, 97, 100, 101] : List Int) p.2
 have c := Ix ([45] : List Int) q
 have g := Cd [] (Iv c (Ho q) q)
 have a := Cd ([119, 105, 100, 116, 104] : List Int) g.2
 have l := Cd ([108, 101, 110, 103, 116, 104] : List Int) a.2
 have e := Cd ([103, 114, 101, 101, 110] : List Int) l.2
 refine ⟨?_, Ct _ e.2⟩
 refine Prod.ext n.1 (Prod.ext v.1 (Prod.ext s.1 (Prod.ext ?_ (Prod.ext p.1 (Prod.ext ?_ (Prod.ext a.1 (Prod.ext l.1 (Prod.ext e.1 rfl))))))))
 ·exact congrArg (fun p : Int × Int => (p.1, p.2, ())) u.1
 ·exact eq_neg c g.1
theorem eq_walk {x y : RS} (h : Eqp x y) : erP (Ci x).1 = erP (Ci y).1 ∧ Eqp (Ci x).2 (Ci y).2 := by
 have n := Ef h
 have p := Ef (Ct ([119, 105, 116, 104] : List Int) n.2)
 have a := Cd ([108, 111, 110, 103] : List Int) p.2
 have b := Cd ([112, 97, 99, 101] : List Int) a.2
 have c := Cd ([108, 101, 97, 115, 116] : List Int) b.2
 exact ⟨Prod.ext n.1 (Prod.ext p.1 (Prod.ext a.1 (Prod.ext b.1 (Prod.ext c.1 rfl)))), Ct _ c.2⟩
theorem A6r {x y : RS} (h : Eqp x y) : erX (Cq x).1 = erX (Cq y).1 ∧ Eqp (Cq x).2 (Cq y).2 := by
 have n := Ef h
 have l := Ae1 16 (Ct ([58] : List Int) n.2)
 exact ⟨Prod.ext n.1 (Prod.ext l.1 rfl), l.2⟩
theorem eq_ring {x y : RS} (h : Eqp x y) : id (B0 x).1 = id (B0 y).1 ∧ Eqp (B0 x).2 (B0 y).2 := by
 have c := Ix ([102, 114, 101, 101] : List Int) h
 have l := Ae1 4 (Iv c (Ho h) h)
 exact ⟨Prod.ext c (Prod.ext l.1 rfl), l.2⟩
theorem A6q {x y : RS} (h : Eqp x y) : id (Ce x).1 = id (Ce y).1 ∧ Eqp (Ce x).2 (Ce y).2 := by
 have a := Ct ([123] : List Int) h
 have r := Hn id eq_ring (w := ([114, 105, 110, 103] : List Int)) (most := 2) (Iv (Ix ([114, 105, 110, 103] : List Int) a) a (Iw 50 a))
 rw [List.map_id, List.map_id] at r
 exact ⟨Prod.ext r.1 rfl, Ct _ r.2⟩
theorem eq_foe {x y : RS} (h : Eqp x y) : erF (foeR x).1 = erF (foeR y).1 ∧ Eqp (foeR x).2 (foeR y).2 := by
 have n := Ef h
 have m := Ef n.2
 exact ⟨Prod.ext n.1 (Prod.ext m.1 rfl), Ct _ m.2⟩
theorem eq_stop {x y : RS} (h : Eqp x y) : erS (Cg x).1 = erS (Cg y).1 ∧ Eqp (Cg x).2 (Cg y).2 := by
 have n := Ef h
 have o := Ef (Ct ([111, 117, 116] : List Int) n.2)
 have i := Ef (Ct ([105, 110] : List Int) o.2)
 have a := Cd ([97, 104, 101, 97, 100] : List Int) i.2
 have b := Cd ([98, 97, 99, 107] : List Int) a.2
 exact ⟨Prod.ext n.1 (Prod.ext o.1 (Prod.ext i.1 (Prod.ext a.1 (Prod.ext b.1 rfl)))), Ct _ b.2⟩
theorem eq_node {x y : RS} (h : Eqp x y) : erN (Bu x).1 = erN (Bu y).1 ∧ Eqp (Bu x).2 (Bu y).2 := by
 have n := Ef h
 have a := Hn erH eq_head (w := ([104, 101, 97, 100] : List Int)) (most := 16) (Ct ([123] : List Int) n.2)
 have b := Hn erP eq_walk (w := ([119, 97, 108, 107] : List Int)) (most := 8) a.2
 have c := Hn erX A6r (w := ([112, 104, 97, 115, 101] : List Int)) (most := 16) b.2
 have d := Hn id A6q (w := ([103, 114, 111, 117, 112] : List Int)) (most := 4) c.2
 have e := Hn erF eq_foe (w := ([102, 111, 101] : List Int)) (most := 64) d.2
 rw [List.map_id, List.map_id] at d
 exact ⟨Prod.ext n.1 (Prod.ext a.1 (Prod.ext b.1 (Prod.ext c.1 (Prod.ext d.1 (Prod.ext e.1 rfl))))), Ct _ e.2⟩
theorem A6o {x y : RS} (h : Eqp x y) : (Bf x).1.1.map erS = (Bf y).1.1.map erS ∧ (Bf x).1.2 = (Bf y).1.2 ∧ Eqp (Bf x).2 (Bf y).2 := by
 have s := Hn erS eq_stop (w := ([115, 116, 111, 112] : List Int)) (most := 12) (Ct ([123] : List Int) h)
 have a := Cd ([119, 101, 105, 103, 104, 116, 115] : List Int) s.2
 have b := Cd [] a.2
 exact ⟨s.1, Prod.ext a.1 b.1, Ct _ (Ct _ b.2)⟩
theorem eq_art {x y : RS} (h : Eqp x y) : (bif Aw ([97, 114, 116, 101, 114, 121] : List Int) x then Bf (A0 x) else (([], 0, 0), x)).1.1.map erS = (bif Aw ([97, 114, 116, 101, 114, 121] : List Int) y then Bf (A0 y) else (([], 0, 0), y)).1.1.map erS ∧
  (bif Aw ([97, 114, 116, 101, 114, 121] : List Int) x then Bf (A0 x) else (([], 0, 0), x)).1.2 = (bif Aw ([97, 114, 116, 101, 114, 121] : List Int) y then Bf (A0 y) else (([], 0, 0), y)).1.2 ∧
  Eqp (bif Aw ([97, 114, 116, 101, 114, 121] : List Int) x then Bf (A0 x) else (([], 0, 0), x)).2 (bif Aw ([97, 114, 116, 101, 114, 121] : List Int) y then Bf (A0 y) else (([], 0, 0), y)).2 := by
 rw [Ix _ h]
 cases Aw ([97, 114, 116, 101, 114, 121] : List Int) y
 ·exact ⟨rfl, rfl, h⟩
 ·exact A6o (Ho h)
end Go.Proofs.YtipcdjgcomclkaaGreatDoorV
