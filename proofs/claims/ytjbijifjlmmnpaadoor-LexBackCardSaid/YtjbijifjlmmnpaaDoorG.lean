import Derived.Test.YtjbijifjlmmnpaaDoorX2
import Derived.Test.YtjbijifjlmmnpaaDoorProg
import Derived.Test.YtjbijifjlmmnpaaDoorV29
set_option linter.unusedVariables false
namespace Go.Proofs.YtjbijifjlmmnpaaDoorV
open Go Go.RowKit

/-! carrefour/lex.kind -/
def f33i : Sk := ⟨[.lf (.pv (.int .u8))], [], []⟩
def f33o : Sk := ⟨[.lf (.pv (.int .i64))], [], []⟩
def f33_k10 : Sk := ⟨sparse 36 [(17, .lf (.pv (.int .u8)))], [], []⟩
def f33_k14 : Sk := ⟨sparse 36 [(17, .lf (.pv (.int .u8)))], [], []⟩
noncomputable def f33E  : List (Nat × List Sig) := []
noncomputable def f33C  : Cfg := { P := Tryd.prog, env := lookS (f33E ), n := 84, npB := 0, npO := 0, hint := fun i => look none [(10, some f33_k10), (14, some f33_k14)] i, pops := [] }
def f33_s (a0 : Int) : St := { enc f33i 84 [⟨(.int .u8), a0⟩] with slots := encAs f33i.slots [⟨(.int .u8), a0⟩] ++ List.replicate 35 .dead }
def f33_s10 (a0 : Int) : St := enc f33_k10 84 [⟨(.int .u8), a0⟩]
def f33_s14 (a0 : Int) : St := enc f33_k14 84 [⟨(.int .u8), a0⟩]
noncomputable def f33 (k : Nat)  : (Int) → Option (Int) := fnOf f33C k Tryd.f33 f33i f33o
noncomputable def f33_j10 (k : Nat)   (a0 : Int) : Option (Int) := evAt f33C k (bodyOf Tryd.f33) [.r, .r, .l, .r, .b, .l, .b, .b, .l, .b, .l, .b, .l, .b, .l, .r] [] (retK f33C Tryd.f33.results f33o) (f33_s10 a0)
noncomputable def f33_j14 (k : Nat)   (a0 : Int) : Option (Int) := evAt f33C k (bodyOf Tryd.f33) [.r, .r, .l, .r, .b, .l, .b, .b, .l, .b, .l, .b, .l, .b, .l, .r, .r, .r, .r] [] (retK f33C Tryd.f33.results f33o) (f33_s14 a0)
def f33_t  (Jj10 : Int → Option (Int)) (a0 : Int) : Option (Int) :=
  bif (decide ((97 : Int) ≤ a0)) then (bif (decide (a0 ≤ (122 : Int))) then (some (3 : Int)) else (bif (decide ((48 : Int) ≤ a0)) then (bif (decide (a0 ≤ (57 : Int))) then (some (4 : Int)) else (bif (a0 == (32 : Int)) then (some (1 : Int)) else (bif (a0 == (9 : Int)) then (some (1 : Int)) else (bif (a0 == (10 : Int)) then (some (1 : Int)) else (bif (a0 == (13 : Int)) then (some (1 : Int)) else (Jj10 a0)))))) else (bif (a0 == (32 : Int)) then (some (1 : Int)) else (bif (a0 == (9 : Int)) then (some (1 : Int)) else (bif (a0 == (10 : Int)) then (some (1 : Int)) else (bif (a0 == (13 : Int)) then (some (1 : Int)) else (Jj10 a0))))))) else (bif (decide ((48 : Int) ≤ a0)) then (bif (decide (a0 ≤ (57 : Int))) then (some (4 : Int)) else (bif (a0 == (32 : Int)) then (some (1 : Int)) else (bif (a0 == (9 : Int)) then (some (1 : Int)) else (bif (a0 == (10 : Int)) then (some (1 : Int)) else (bif (a0 == (13 : Int)) then (some (1 : Int)) else (Jj10 a0)))))) else (bif (a0 == (32 : Int)) then (some (1 : Int)) else (bif (a0 == (9 : Int)) then (some (1 : Int)) else (bif (a0 == (10 : Int)) then (some (1 : Int)) else (bif (a0 == (13 : Int)) then (some (1 : Int)) else (Jj10 a0))))))
set_option maxRecDepth 100000 in
theorem f33_A  (Jj10 : St → Option (Int)) (Jj14 : St → Option (Int)) (a0 : Int) : evAtJ f33C [(10, Jj10), (14, Jj14)] [] (bodyOf Tryd.f33) [] (retK f33C Tryd.f33.results f33o) (f33_s a0) = f33_t  (fun a0 => Jj10 (f33_s10 a0)) a0 := by
  kernel_rfl
set_option maxRecDepth 100000 in
theorem f33_e (k : Nat)   (a0 : Int) : f33 k  (a0) = f33_t  (f33_j10 k  ) a0 := by
  have h0 : f33 k  (a0) = evAt f33C k (bodyOf Tryd.f33) [] [] (retK f33C Tryd.f33.results f33o) (f33_s a0) := by kernel_rfl
  have h1 : keep [10, 14] (jt f33C k (bodyOf Tryd.f33) [] [] (retK f33C Tryd.f33.results f33o)) = [(10, (fun s => evAt f33C k (bodyOf Tryd.f33) [.r, .r, .l, .r, .b, .l, .b, .b, .l, .b, .l, .b, .l, .b, .l, .r] [] (retK f33C Tryd.f33.results f33o) s)), (14, (fun s => evAt f33C k (bodyOf Tryd.f33) [.r, .r, .l, .r, .b, .l, .b, .b, .l, .b, .l, .b, .l, .b, .l, .r, .r, .r, .r] [] (retK f33C Tryd.f33.results f33o) s))] := by kernel_rfl
  have h2 : keep [] (lt f33C k (bodyOf Tryd.f33) [] [] (retK f33C Tryd.f33.results f33o)) = [] := by kernel_rfl
  exact h0.trans ((evAt_cut _ [10, 14] [] (by kernel_rfl) h1 h2 (by kernel_rfl) (by kernel_rfl) (by kernel_rfl)).trans (f33_A  (fun s => evAt f33C k (bodyOf Tryd.f33) [.r, .r, .l, .r, .b, .l, .b, .b, .l, .b, .l, .b, .l, .b, .l, .r] [] (retK f33C Tryd.f33.results f33o) s) (fun s => evAt f33C k (bodyOf Tryd.f33) [.r, .r, .l, .r, .b, .l, .b, .b, .l, .b, .l, .b, .l, .b, .l, .r, .r, .r, .r] [] (retK f33C Tryd.f33.results f33o) s) a0))
def f33_tj10  (Jj14 : Int → Option (Int)) (a0 : Int) : Option (Int) :=
  bif (a0 == (35 : Int)) then (some (2 : Int)) else (bif (a0 == (95 : Int)) then (some (6 : Int)) else (bif (a0 == (123 : Int)) then (some (5 : Int)) else (bif (a0 == (125 : Int)) then (some (5 : Int)) else (Jj14 a0))))
set_option maxRecDepth 100000 in
theorem f33_Aj10  (Jj10 : St → Option (Int)) (Jj14 : St → Option (Int)) (a0 : Int) : evAtJ f33C [(10, Jj10), (14, Jj14)] [] (bodyOf Tryd.f33) [.r, .r, .l, .r, .b, .l, .b, .b, .l, .b, .l, .b, .l, .b, .l, .r] (retK f33C Tryd.f33.results f33o) (f33_s10 a0) = f33_tj10  (fun a0 => Jj14 (f33_s14 a0)) a0 := by
  kernel_rfl
set_option maxRecDepth 100000 in
theorem f33_ej10 (k : Nat)   (a0 : Int) : f33_j10 k   a0 = f33_tj10  (f33_j14 k  ) a0 := by
  have h0 : f33_j10 k   a0 = evAt f33C k (bodyOf Tryd.f33) [.r, .r, .l, .r, .b, .l, .b, .b, .l, .b, .l, .b, .l, .b, .l, .r] [] (retK f33C Tryd.f33.results f33o) (f33_s10 a0) := by kernel_rfl
  have h1 : keep [10, 14] (jt f33C k (bodyOf Tryd.f33) [.r, .r, .l, .r, .b, .l, .b, .b, .l, .b, .l, .b, .l, .b, .l, .r] [] (retK f33C Tryd.f33.results f33o)) = [(10, (fun s => evAt f33C k (bodyOf Tryd.f33) [.r, .r, .l, .r, .b, .l, .b, .b, .l, .b, .l, .b, .l, .b, .l, .r] [] (retK f33C Tryd.f33.results f33o) s)), (14, (fun s => evAt f33C k (bodyOf Tryd.f33) [.r, .r, .l, .r, .b, .l, .b, .b, .l, .b, .l, .b, .l, .b, .l, .r, .r, .r, .r] [] (retK f33C Tryd.f33.results f33o) s))] := by kernel_rfl
  have h2 : keep [] (lt f33C k (bodyOf Tryd.f33) [.r, .r, .l, .r, .b, .l, .b, .b, .l, .b, .l, .b, .l, .b, .l, .r] [] (retK f33C Tryd.f33.results f33o)) = [] := by kernel_rfl
  exact h0.trans ((evAt_cut _ [10, 14] [] (by kernel_rfl) h1 h2 (by kernel_rfl) (by kernel_rfl) (by kernel_rfl)).trans (f33_Aj10  (fun s => evAt f33C k (bodyOf Tryd.f33) [.r, .r, .l, .r, .b, .l, .b, .b, .l, .b, .l, .b, .l, .b, .l, .r] [] (retK f33C Tryd.f33.results f33o) s) (fun s => evAt f33C k (bodyOf Tryd.f33) [.r, .r, .l, .r, .b, .l, .b, .b, .l, .b, .l, .b, .l, .b, .l, .r, .r, .r, .r] [] (retK f33C Tryd.f33.results f33o) s) a0))
def f33_tj14   (a0 : Int) : Option (Int) :=
  bif (a0 == (44 : Int)) then (some (5 : Int)) else (bif (a0 == (59 : Int)) then (some (5 : Int)) else (bif (a0 == (58 : Int)) then (some (5 : Int)) else (bif (a0 == (47 : Int)) then (some (5 : Int)) else (bif (a0 == (45 : Int)) then (some (5 : Int)) else (some (0 : Int))))))
set_option maxRecDepth 100000 in
theorem f33_Aj14  (Jj10 : St → Option (Int)) (Jj14 : St → Option (Int)) (a0 : Int) : evAtJ f33C [(10, Jj10), (14, Jj14)] [] (bodyOf Tryd.f33) [.r, .r, .l, .r, .b, .l, .b, .b, .l, .b, .l, .b, .l, .b, .l, .r, .r, .r, .r] (retK f33C Tryd.f33.results f33o) (f33_s14 a0) = f33_tj14   a0 := by
  kernel_rfl
set_option maxRecDepth 100000 in
theorem f33_ej14 (k : Nat)   (a0 : Int) : f33_j14 k   a0 = f33_tj14   a0 := by
  have h0 : f33_j14 k   a0 = evAt f33C k (bodyOf Tryd.f33) [.r, .r, .l, .r, .b, .l, .b, .b, .l, .b, .l, .b, .l, .b, .l, .r, .r, .r, .r] [] (retK f33C Tryd.f33.results f33o) (f33_s14 a0) := by kernel_rfl
  have h1 : keep [10, 14] (jt f33C k (bodyOf Tryd.f33) [.r, .r, .l, .r, .b, .l, .b, .b, .l, .b, .l, .b, .l, .b, .l, .r, .r, .r, .r] [] (retK f33C Tryd.f33.results f33o)) = [(10, (fun s => evAt f33C k (bodyOf Tryd.f33) [.r, .r, .l, .r, .b, .l, .b, .b, .l, .b, .l, .b, .l, .b, .l, .r] [] (retK f33C Tryd.f33.results f33o) s)), (14, (fun s => evAt f33C k (bodyOf Tryd.f33) [.r, .r, .l, .r, .b, .l, .b, .b, .l, .b, .l, .b, .l, .b, .l, .r, .r, .r, .r] [] (retK f33C Tryd.f33.results f33o) s))] := by kernel_rfl
  have h2 : keep [] (lt f33C k (bodyOf Tryd.f33) [.r, .r, .l, .r, .b, .l, .b, .b, .l, .b, .l, .b, .l, .b, .l, .r, .r, .r, .r] [] (retK f33C Tryd.f33.results f33o)) = [] := by kernel_rfl
  exact h0.trans ((evAt_cut _ [10, 14] [] (by kernel_rfl) h1 h2 (by kernel_rfl) (by kernel_rfl) (by kernel_rfl)).trans (f33_Aj14  (fun s => evAt f33C k (bodyOf Tryd.f33) [.r, .r, .l, .r, .b, .l, .b, .b, .l, .b, .l, .b, .l, .b, .l, .r] [] (retK f33C Tryd.f33.results f33o) s) (fun s => evAt f33C k (bodyOf Tryd.f33) [.r, .r, .l, .r, .b, .l, .b, .b, .l, .b, .l, .b, .l, .b, .l, .r, .r, .r, .r] [] (retK f33C Tryd.f33.results f33o) s) a0))
set_option maxRecDepth 100000 in
theorem f33_ok (k : Nat)   : SigOK Tryd.prog 33 ⟨f33i, f33o, mkFun f33i.tys f33o.tys (f33 k )⟩ :=
  fn_ok (C := f33C) (l := f33E ) rfl trivial (by kernel_rfl) k (fn := Tryd.f33) (by kernel_rfl) (by kernel_rfl) (by kernel_rfl) f33i f33o rfl rfl (show 0 ≤ 48 by decide) (show 0 ≤ 48 by decide)
noncomputable def c33 (k : Nat) : (Int) → Option (Int) := f33 k 
theorem c33_ok (k : Nat) : SigOK Tryd.prog 33 ⟨f33i, f33o, mkFun f33i.tys f33o.tys (c33 k)⟩ := f33_ok k  

/-! (*carrefour/lex.scanner).kind -/
def f24i : Sk := ⟨[.lf (.ptr 0 0)], [[.pv (.slice (.int .u8)), .pv (.int .i64)]], []⟩
def f24o : Sk := ⟨[.lf (.pv (.int .i64))], [[.pv (.slice (.int .u8)), .pv (.int .i64)]], []⟩
noncomputable def f24E (g33 : (Int) → Option (Int)) : List (Nat × List Sig) := [(33, [⟨f33i, f33o, mkFun f33i.tys f33o.tys g33⟩])]
noncomputable def f24C (g33 : (Int) → Option (Int)) : Cfg := { P := Tryd.prog, env := lookS (f24E g33), n := 62, npB := 1, npO := 0, hint := fun i => look none [] i, pops := [] }
def f24_s (a0 : List (Int)) (a1 : Int) : St := { enc f24i 62 [⟨(.slice (.int .u8)), a0⟩, ⟨(.int .i64), a1⟩] with slots := encAs f24i.slots [⟨(.slice (.int .u8)), a0⟩, ⟨(.int .i64), a1⟩] ++ List.replicate 13 .dead }
noncomputable def f24 (k : Nat) (g33 : (Int) → Option (Int)) : ((List (Int)) × (Int)) → Option ((Int) × (List (Int)) × (Int)) := fnOf (f24C g33) k Tryd.f24 f24i f24o
def f24_t (g33 : (Int) → Option (Int))  (a0 : List (Int)) (a1 : Int) : Option ((Int) × (List (Int)) × (Int)) :=
  bif (inB a1 (List.length a0)) then (g33 ((rdI a0 (Int.toNat a1)))).bind fun o1 => some (o1, a0, a1) else none
set_option maxRecDepth 100000 in
theorem f24_A (g33 : (Int) → Option (Int))  (a0 : List (Int)) (a1 : Int) : evAtJ (f24C g33) [] [] (bodyOf Tryd.f24) [] (retK (f24C g33) Tryd.f24.results f24o) (f24_s a0 a1) = f24_t g33  a0 a1 := by
  kernel_rfl
set_option maxRecDepth 100000 in
theorem f24_e (k : Nat) (g33 : (Int) → Option (Int))  (a0 : List (Int)) (a1 : Int) : f24 k g33 (a0, a1) = f24_t g33  a0 a1 := by
  have h0 : f24 k g33 (a0, a1) = evAt (f24C g33) k (bodyOf Tryd.f24) [] [] (retK (f24C g33) Tryd.f24.results f24o) (f24_s a0 a1) := by kernel_rfl
  have h1 : keep [] (jt (f24C g33) k (bodyOf Tryd.f24) [] [] (retK (f24C g33) Tryd.f24.results f24o)) = [] := by kernel_rfl
  have h2 : keep [] (lt (f24C g33) k (bodyOf Tryd.f24) [] [] (retK (f24C g33) Tryd.f24.results f24o)) = [] := by kernel_rfl
  exact h0.trans ((evAt_cut _ [] [] (by kernel_rfl) h1 h2 (by kernel_rfl) (by kernel_rfl) (by kernel_rfl)).trans (f24_A g33  a0 a1))
set_option maxRecDepth 100000 in
theorem f24_ok (k : Nat) (g33 : (Int) → Option (Int)) (hg33 : SigOK Tryd.prog 33 ⟨f33i, f33o, mkFun f33i.tys f33o.tys g33⟩) : SigOK Tryd.prog 24 ⟨f24i, f24o, mkFun f24i.tys f24o.tys (f24 k g33)⟩ :=
  fn_ok (C := (f24C g33)) (l := f24E g33) rfl ⟨⟨hg33, trivial⟩, trivial⟩ (by kernel_rfl) k (fn := Tryd.f24) (by kernel_rfl) (by kernel_rfl) (by kernel_rfl) f24i f24o rfl rfl (show 1 ≤ 48 by decide) (show 0 ≤ 48 by decide)
noncomputable def c24 (k : Nat) : ((List (Int)) × (Int)) → Option ((Int) × (List (Int)) × (Int)) := f24 k (c33 k)
theorem c24_ok (k : Nat) : SigOK Tryd.prog 24 ⟨f24i, f24o, mkFun f24i.tys f24o.tys (c24 k)⟩ := f24_ok k (c33 k) (c33_ok k)

/-! slices.Index[[]byte,byte] -/
def f25i : Sk := ⟨[.lf (.pv (.slice (.int .u8))), .lf (.pv (.int .u8))], [], []⟩
def f25o : Sk := ⟨[.lf (.pv (.int .i64))], [], []⟩
def f25_k2 : Sk := ⟨sparse 19 [(0, .lf (.pv (.slice (.int .u8)))), (1, .lf (.pv (.int .u8))), (7, .lf (.pv (.int .i64))), (8, .lf (.pv (.int .i64)))], [], []⟩
noncomputable def f25E  : List (Nat × List Sig) := []
noncomputable def f25C  : Cfg := { P := Tryd.prog, env := lookS (f25E ), n := 67, npB := 0, npO := 0, hint := fun i => look none [(2, some f25_k2)] i, pops := [] }
def f25_s (a0 : List (Int)) (a1 : Int) : St := { enc f25i 67 [⟨(.slice (.int .u8)), a0⟩, ⟨(.int .u8), a1⟩] with slots := encAs f25i.slots [⟨(.slice (.int .u8)), a0⟩, ⟨(.int .u8), a1⟩] ++ List.replicate 17 .dead }
def f25_s2 (a0 : List (Int)) (a1 : Int) (a2 : Int) (a3 : Int) : St := enc f25_k2 67 [⟨(.slice (.int .u8)), a0⟩, ⟨(.int .u8), a1⟩, ⟨(.int .i64), a2⟩, ⟨(.int .i64), a3⟩]
noncomputable def f25 (k : Nat)  : ((List (Int)) × (Int)) → Option (Int) := fnOf f25C k Tryd.f25 f25i f25o
noncomputable def f25_l2 (k : Nat)  (j2 : Nat) (a0 : List (Int)) (a1 : Int) (a2 : Int) (a3 : Int) : Option (Int) := loopAt f25C k (bodyOf Tryd.f25) [.r, .l, .r, .b] [] j2 (retK f25C Tryd.f25.results f25o) (f25_s2 a0 a1 a2 a3)
def f25_t  (Jl2 : (List (Int)) → Int → Int → Int → Option (Int)) (a0 : List (Int)) (a1 : Int) : Option (Int) :=
  Jl2 a0 a1 ((List.length a0 : Nat) : Int) (0 : Int)
set_option maxRecDepth 100000 in
theorem f25_A  (Jl2 : St → Option (Int)) (a0 : List (Int)) (a1 : Int) : evAtJ f25C [] [(2, Jl2)] (bodyOf Tryd.f25) [] (retK f25C Tryd.f25.results f25o) (f25_s a0 a1) = f25_t  (fun a0 a1 a2 a3 => Jl2 (f25_s2 a0 a1 a2 a3)) a0 a1 := by
  kernel_rfl
set_option maxRecDepth 100000 in
theorem f25_e (k : Nat)   (a0 : List (Int)) (a1 : Int) : f25 k  (a0, a1) = f25_t  (f25_l2 k   k) a0 a1 := by
  have h0 : f25 k  (a0, a1) = evAt f25C k (bodyOf Tryd.f25) [] [] (retK f25C Tryd.f25.results f25o) (f25_s a0 a1) := by kernel_rfl
  have h1 : keep [] (jt f25C k (bodyOf Tryd.f25) [] [] (retK f25C Tryd.f25.results f25o)) = [] := by kernel_rfl
  have h2 : keep [2] (lt f25C k (bodyOf Tryd.f25) [] [] (retK f25C Tryd.f25.results f25o)) = [(2, (fun s => loopAt f25C k (bodyOf Tryd.f25) [.r, .l, .r, .b] [] k (retK f25C Tryd.f25.results f25o) s))] := by kernel_rfl
  exact h0.trans ((evAt_cut _ [] [2] (by kernel_rfl) h1 h2 (by kernel_rfl) (by kernel_rfl) (by kernel_rfl)).trans (f25_A  (fun s => loopAt f25C k (bodyOf Tryd.f25) [.r, .l, .r, .b] [] k (retK f25C Tryd.f25.results f25o) s) a0 a1))
def f25_tl2  (Jl2 : (List (Int)) → Int → Int → Int → Option (Int)) (a0 : List (Int)) (a1 : Int) (a2 : Int) (a3 : Int) : Option (Int) :=
  bif (decide (a3 < a2)) then (bif (inB a3 (List.length a0)) then bif (a1 == (rdI a0 (Int.toNat a3))) then (some a3) else (Jl2 a0 a1 a2 (IntKind.wrap .i64 (a3 + (1 : Int)))) else none) else (some (-1 : Int))
set_option maxRecDepth 100000 in
theorem f25_Al2  (Jl2 : St → Option (Int)) (a0 : List (Int)) (a1 : Int) (a2 : Int) (a3 : Int) : evAtJ f25C [] [(2, Jl2)] (bodyOf Tryd.f25) [.r, .l, .r, .b, .b] (retK f25C Tryd.f25.results f25o) (f25_s2 a0 a1 a2 a3) = f25_tl2  (fun a0 a1 a2 a3 => Jl2 (f25_s2 a0 a1 a2 a3)) a0 a1 a2 a3 := by
  kernel_rfl
set_option maxRecDepth 100000 in
theorem f25_el2 (k : Nat)  (j2 : Nat) (a0 : List (Int)) (a1 : Int) (a2 : Int) (a3 : Int) : f25_l2 k  (j2 + 1) a0 a1 a2 a3 = f25_tl2  (f25_l2 k   j2) a0 a1 a2 a3 := by
  have h0 : f25_l2 k  (j2 + 1) a0 a1 a2 a3 = evAt f25C k (bodyOf Tryd.f25) [.r, .l, .r, .b, .b] [j2] (retK f25C Tryd.f25.results f25o) (f25_s2 a0 a1 a2 a3) := by kernel_rfl
  have h1 : keep [] (jt f25C k (bodyOf Tryd.f25) [.r, .l, .r, .b, .b] [j2] (retK f25C Tryd.f25.results f25o)) = [] := by kernel_rfl
  have h2 : keep [2] (lt f25C k (bodyOf Tryd.f25) [.r, .l, .r, .b, .b] [j2] (retK f25C Tryd.f25.results f25o)) = [(2, (fun s => loopAt f25C k (bodyOf Tryd.f25) [.r, .l, .r, .b] [] j2 (retK f25C Tryd.f25.results f25o) s))] := by kernel_rfl
  exact h0.trans ((evAt_cut _ [] [2] (by kernel_rfl) h1 h2 (by kernel_rfl) (by kernel_rfl) (by kernel_rfl)).trans (f25_Al2  (fun s => loopAt f25C k (bodyOf Tryd.f25) [.r, .l, .r, .b] [] j2 (retK f25C Tryd.f25.results f25o) s) a0 a1 a2 a3))
set_option maxRecDepth 100000 in
theorem f25_ok (k : Nat)   : SigOK Tryd.prog 25 ⟨f25i, f25o, mkFun f25i.tys f25o.tys (f25 k )⟩ :=
  fn_ok (C := f25C) (l := f25E ) rfl trivial (by kernel_rfl) k (fn := Tryd.f25) (by kernel_rfl) (by kernel_rfl) (by kernel_rfl) f25i f25o rfl rfl (show 0 ≤ 48 by decide) (show 0 ≤ 48 by decide)
noncomputable def c25 (k : Nat) : ((List (Int)) × (Int)) → Option (Int) := f25 k 
theorem c25_ok (k : Nat) : SigOK Tryd.prog 25 ⟨f25i, f25o, mkFun f25i.tys f25o.tys (c25 k)⟩ := f25_ok k  

/-! (*carrefour/lex.scanner).skip -/
def f18i : Sk := ⟨[.lf (.ptr 0 0)], [[.pv (.slice (.int .u8)), .pv (.int .i64)]], []⟩
def f18o : Sk := ⟨[], [[.pv (.slice (.int .u8)), .pv (.int .i64)]], []⟩
def f18_k0 : Sk := ⟨sparse 54 [(0, .lf (.ptr 0 0))], [[.pv (.slice (.int .u8)), .pv (.int .i64)]], []⟩
noncomputable def f18E (g24 : ((List (Int)) × (Int)) → Option ((Int) × (List (Int)) × (Int))) (g25 : ((List (Int)) × (Int)) → Option (Int)) : List (Nat × List Sig) := [(24, [⟨f24i, f24o, mkFun f24i.tys f24o.tys g24⟩]), (25, [⟨f25i, f25o, mkFun f25i.tys f25o.tys g25⟩])]
noncomputable def f18C (g24 : ((List (Int)) × (Int)) → Option ((Int) × (List (Int)) × (Int))) (g25 : ((List (Int)) × (Int)) → Option (Int)) : Cfg := { P := Tryd.prog, env := lookS (f18E g24 g25), n := 102, npB := 1, npO := 0, hint := fun i => look none [(0, some f18_k0)] i, pops := [] }
def f18_s (a0 : List (Int)) (a1 : Int) : St := { enc f18i 102 [⟨(.slice (.int .u8)), a0⟩, ⟨(.int .i64), a1⟩] with slots := encAs f18i.slots [⟨(.slice (.int .u8)), a0⟩, ⟨(.int .i64), a1⟩] ++ List.replicate 53 .dead }
def f18_s0 (a0 : List (Int)) (a1 : Int) : St := enc f18_k0 102 [⟨(.slice (.int .u8)), a0⟩, ⟨(.int .i64), a1⟩]
noncomputable def f18 (k : Nat) (g24 : ((List (Int)) × (Int)) → Option ((Int) × (List (Int)) × (Int))) (g25 : ((List (Int)) × (Int)) → Option (Int)) : ((List (Int)) × (Int)) → Option ((List (Int)) × (Int)) := fnOf (f18C g24 g25) k Tryd.f18 f18i f18o
noncomputable def f18_l0 (k : Nat) (g24 : ((List (Int)) × (Int)) → Option ((Int) × (List (Int)) × (Int))) (g25 : ((List (Int)) × (Int)) → Option (Int)) (j0 : Nat) (a0 : List (Int)) (a1 : Int) : Option ((List (Int)) × (Int)) := loopAt (f18C g24 g25) k (bodyOf Tryd.f18) [.b] [] j0 (retK (f18C g24 g25) Tryd.f18.results f18o) (f18_s0 a0 a1)
def f18_t (g24 : ((List (Int)) × (Int)) → Option ((Int) × (List (Int)) × (Int))) (g25 : ((List (Int)) × (Int)) → Option (Int)) (Jl0 : (List (Int)) → Int → Option ((List (Int)) × (Int))) (a0 : List (Int)) (a1 : Int) : Option ((List (Int)) × (Int)) :=
  Jl0 a0 a1
set_option maxRecDepth 100000 in
theorem f18_A (g24 : ((List (Int)) × (Int)) → Option ((Int) × (List (Int)) × (Int))) (g25 : ((List (Int)) × (Int)) → Option (Int)) (Jl0 : St → Option ((List (Int)) × (Int))) (a0 : List (Int)) (a1 : Int) : evAtJ (f18C g24 g25) [] [(0, Jl0)] (bodyOf Tryd.f18) [] (retK (f18C g24 g25) Tryd.f18.results f18o) (f18_s a0 a1) = f18_t g24 g25 (fun a0 a1 => Jl0 (f18_s0 a0 a1)) a0 a1 := by
  kernel_rfl
set_option maxRecDepth 100000 in
theorem f18_e (k : Nat) (g24 : ((List (Int)) × (Int)) → Option ((Int) × (List (Int)) × (Int))) (g25 : ((List (Int)) × (Int)) → Option (Int))  (a0 : List (Int)) (a1 : Int) : f18 k g24 g25 (a0, a1) = f18_t g24 g25 (f18_l0 k g24 g25  k) a0 a1 := by
  have h0 : f18 k g24 g25 (a0, a1) = evAt (f18C g24 g25) k (bodyOf Tryd.f18) [] [] (retK (f18C g24 g25) Tryd.f18.results f18o) (f18_s a0 a1) := by kernel_rfl
  have h1 : keep [] (jt (f18C g24 g25) k (bodyOf Tryd.f18) [] [] (retK (f18C g24 g25) Tryd.f18.results f18o)) = [] := by kernel_rfl
  have h2 : keep [0] (lt (f18C g24 g25) k (bodyOf Tryd.f18) [] [] (retK (f18C g24 g25) Tryd.f18.results f18o)) = [(0, (fun s => loopAt (f18C g24 g25) k (bodyOf Tryd.f18) [.b] [] k (retK (f18C g24 g25) Tryd.f18.results f18o) s))] := by kernel_rfl
  exact h0.trans ((evAt_cut _ [] [0] (by kernel_rfl) h1 h2 (by kernel_rfl) (by kernel_rfl) (by kernel_rfl)).trans (f18_A g24 g25 (fun s => loopAt (f18C g24 g25) k (bodyOf Tryd.f18) [.b] [] k (retK (f18C g24 g25) Tryd.f18.results f18o) s) a0 a1))
def f18_tl0 (g24 : ((List (Int)) × (Int)) → Option ((Int) × (List (Int)) × (Int))) (g25 : ((List (Int)) × (Int)) → Option (Int)) (Jl0 : (List (Int)) → Int → Option ((List (Int)) × (Int))) (a0 : List (Int)) (a1 : Int) : Option ((List (Int)) × (Int)) :=
  bif (decide (a1 < ((List.length a0 : Nat) : Int))) then ((g24 (a0, a1)).bind fun o1 => bif (o1.1 == (2 : Int)) then (bif (cutB o1.2.2 (((List.length o1.2.1) : Nat) : Int) (List.length o1.2.1)) then (g25 ((cutL o1.2.1 o1.2.2 (((List.length o1.2.1) : Nat) : Int)), (10 : Int))).bind fun o2 => bif (decide (o2 ≥ (0 : Int))) then (Jl0 (o1.2.1) (IntKind.wrap .i64 (o1.2.2 + o2))) else (Jl0 (o1.2.1) ((List.length o1.2.1 : Nat) : Int)) else none) else (bif (o1.1 == (1 : Int)) then (Jl0 (o1.2.1) (IntKind.wrap .i64 (o1.2.2 + (1 : Int)))) else (some (o1.2.1, o1.2.2)))) else (some (a0, a1))
set_option maxRecDepth 100000 in
theorem f18_Al0 (g24 : ((List (Int)) × (Int)) → Option ((Int) × (List (Int)) × (Int))) (g25 : ((List (Int)) × (Int)) → Option (Int)) (Jl0 : St → Option ((List (Int)) × (Int))) (a0 : List (Int)) (a1 : Int) : evAtJ (f18C g24 g25) [] [(0, Jl0)] (bodyOf Tryd.f18) [.b, .b] (retK (f18C g24 g25) Tryd.f18.results f18o) (f18_s0 a0 a1) = f18_tl0 g24 g25 (fun a0 a1 => Jl0 (f18_s0 a0 a1)) a0 a1 := by
  kernel_rfl
set_option maxRecDepth 100000 in
theorem f18_el0 (k : Nat) (g24 : ((List (Int)) × (Int)) → Option ((Int) × (List (Int)) × (Int))) (g25 : ((List (Int)) × (Int)) → Option (Int)) (j0 : Nat) (a0 : List (Int)) (a1 : Int) : f18_l0 k g24 g25 (j0 + 1) a0 a1 = f18_tl0 g24 g25 (f18_l0 k g24 g25  j0) a0 a1 := by
  have h0 : f18_l0 k g24 g25 (j0 + 1) a0 a1 = evAt (f18C g24 g25) k (bodyOf Tryd.f18) [.b, .b] [j0] (retK (f18C g24 g25) Tryd.f18.results f18o) (f18_s0 a0 a1) := by kernel_rfl
  have h1 : keep [] (jt (f18C g24 g25) k (bodyOf Tryd.f18) [.b, .b] [j0] (retK (f18C g24 g25) Tryd.f18.results f18o)) = [] := by kernel_rfl
  have h2 : keep [0] (lt (f18C g24 g25) k (bodyOf Tryd.f18) [.b, .b] [j0] (retK (f18C g24 g25) Tryd.f18.results f18o)) = [(0, (fun s => loopAt (f18C g24 g25) k (bodyOf Tryd.f18) [.b] [] j0 (retK (f18C g24 g25) Tryd.f18.results f18o) s))] := by kernel_rfl
  exact h0.trans ((evAt_cut _ [] [0] (by kernel_rfl) h1 h2 (by kernel_rfl) (by kernel_rfl) (by kernel_rfl)).trans (f18_Al0 g24 g25 (fun s => loopAt (f18C g24 g25) k (bodyOf Tryd.f18) [.b] [] j0 (retK (f18C g24 g25) Tryd.f18.results f18o) s) a0 a1))
set_option maxRecDepth 100000 in
theorem f18_ok (k : Nat) (g24 : ((List (Int)) × (Int)) → Option ((Int) × (List (Int)) × (Int))) (g25 : ((List (Int)) × (Int)) → Option (Int)) (hg24 : SigOK Tryd.prog 24 ⟨f24i, f24o, mkFun f24i.tys f24o.tys g24⟩) (hg25 : SigOK Tryd.prog 25 ⟨f25i, f25o, mkFun f25i.tys f25o.tys g25⟩) : SigOK Tryd.prog 18 ⟨f18i, f18o, mkFun f18i.tys f18o.tys (f18 k g24 g25)⟩ :=
  fn_ok (C := (f18C g24 g25)) (l := f18E g24 g25) rfl ⟨⟨hg24, trivial⟩, ⟨hg25, trivial⟩, trivial⟩ (by kernel_rfl) k (fn := Tryd.f18) (by kernel_rfl) (by kernel_rfl) (by kernel_rfl) f18i f18o rfl rfl (show 1 ≤ 48 by decide) (show 0 ≤ 48 by decide)
noncomputable def c18 (k : Nat) : ((List (Int)) × (Int)) → Option ((List (Int)) × (Int)) := f18 k (c24 k) (c25 k)
theorem c18_ok (k : Nat) : SigOK Tryd.prog 18 ⟨f18i, f18o, mkFun f18i.tys f18o.tys (c18 k)⟩ := f18_ok k (c24 k) (c25 k) (c24_ok k) (c25_ok k)

/-! (*carrefour/lex.scanner).kind -/
def f24ai : Sk := ⟨[.lf (.rpt [(.slice (.int .u8)), (.int .i64)])], [], []⟩
def f24ao : Sk := ⟨[.lf (.pv (.int .i64))], [], []⟩
noncomputable def f24aE (g33 : (Int) → Option (Int)) : List (Nat × List Sig) := [(33, [⟨f33i, f33o, mkFun f33i.tys f33o.tys g33⟩])]
noncomputable def f24aC (g33 : (Int) → Option (Int)) : Cfg := { P := Tryd.prog, env := lookS (f24aE g33), n := 62, npB := 0, npO := 0, hint := fun i => look none [] i, pops := [] }
def f24a_s (a0 : List (Int)) (a1 : Int) : St := { enc f24ai 62 [⟨(.slice (.int .u8)), a0⟩, ⟨(.int .i64), a1⟩] with slots := encAs f24ai.slots [⟨(.slice (.int .u8)), a0⟩, ⟨(.int .i64), a1⟩] ++ List.replicate 13 .dead }
noncomputable def f24a (k : Nat) (g33 : (Int) → Option (Int)) : ((List (Int)) × (Int)) → Option (Int) := fnOf (f24aC g33) k Tryd.f24 f24ai f24ao
def f24a_t (g33 : (Int) → Option (Int))  (a0 : List (Int)) (a1 : Int) : Option (Int) :=
  bif (inB a1 (List.length a0)) then (g33 ((rdI a0 (Int.toNat a1)))).bind fun o1 => some o1 else none
set_option maxRecDepth 100000 in
theorem f24a_A (g33 : (Int) → Option (Int))  (a0 : List (Int)) (a1 : Int) : evAtJ (f24aC g33) [] [] (bodyOf Tryd.f24) [] (retK (f24aC g33) Tryd.f24.results f24ao) (f24a_s a0 a1) = f24a_t g33  a0 a1 := by
  kernel_rfl
set_option maxRecDepth 100000 in
theorem f24a_e (k : Nat) (g33 : (Int) → Option (Int))  (a0 : List (Int)) (a1 : Int) : f24a k g33 (a0, a1) = f24a_t g33  a0 a1 := by
  have h0 : f24a k g33 (a0, a1) = evAt (f24aC g33) k (bodyOf Tryd.f24) [] [] (retK (f24aC g33) Tryd.f24.results f24ao) (f24a_s a0 a1) := by kernel_rfl
  have h1 : keep [] (jt (f24aC g33) k (bodyOf Tryd.f24) [] [] (retK (f24aC g33) Tryd.f24.results f24ao)) = [] := by kernel_rfl
  have h2 : keep [] (lt (f24aC g33) k (bodyOf Tryd.f24) [] [] (retK (f24aC g33) Tryd.f24.results f24ao)) = [] := by kernel_rfl
  exact h0.trans ((evAt_cut _ [] [] (by kernel_rfl) h1 h2 (by kernel_rfl) (by kernel_rfl) (by kernel_rfl)).trans (f24a_A g33  a0 a1))
set_option maxRecDepth 100000 in
theorem f24a_ok (k : Nat) (g33 : (Int) → Option (Int)) (hg33 : SigOK Tryd.prog 33 ⟨f33i, f33o, mkFun f33i.tys f33o.tys g33⟩) : SigOK Tryd.prog 24 ⟨f24ai, f24ao, mkFun f24ai.tys f24ao.tys (f24a k g33)⟩ :=
  fn_ok (C := (f24aC g33)) (l := f24aE g33) rfl ⟨⟨hg33, trivial⟩, trivial⟩ (by kernel_rfl) k (fn := Tryd.f24) (by kernel_rfl) (by kernel_rfl) (by kernel_rfl) f24ai f24ao rfl rfl (show 0 ≤ 48 by decide) (show 0 ≤ 48 by decide)
noncomputable def c24a (k : Nat) : ((List (Int)) × (Int)) → Option (Int) := f24a k (c33 k)
theorem c24a_ok (k : Nat) : SigOK Tryd.prog 24 ⟨f24ai, f24ao, mkFun f24ai.tys f24ao.tys (c24a k)⟩ := f24a_ok k (c33 k) (c33_ok k)

/-! (*carrefour/lex.scanner).word$1 -/
def f35i : Sk := ⟨[.lf (.pv (.int .i64))], [], []⟩
def f35o : Sk := ⟨[.lf (.pv .bool)], [], []⟩
noncomputable def f35E  : List (Nat × List Sig) := []
noncomputable def f35C  : Cfg := { P := Tryd.prog, env := lookS (f35E ), n := 61, npB := 0, npO := 0, hint := fun i => look none [] i, pops := [] }
def f35_s (a0 : Int) : St := { enc f35i 61 [⟨(.int .i64), a0⟩] with slots := encAs f35i.slots [⟨(.int .i64), a0⟩] ++ List.replicate 12 .dead }
noncomputable def f35 (k : Nat)  : (Int) → Option (Bool) := fnOf f35C k Tryd.f35 f35i f35o
def f35_t   (a0 : Int) : Option (Bool) :=
  bif (a0 == (3 : Int)) then (some true) else (bif (a0 == (4 : Int)) then (some true) else (some (a0 == (6 : Int))))
set_option maxRecDepth 100000 in
theorem f35_A   (a0 : Int) : evAtJ f35C [] [] (bodyOf Tryd.f35) [] (retK f35C Tryd.f35.results f35o) (f35_s a0) = f35_t   a0 := by
  kernel_rfl
set_option maxRecDepth 100000 in
theorem f35_e (k : Nat)   (a0 : Int) : f35 k  (a0) = f35_t   a0 := by
  have h0 : f35 k  (a0) = evAt f35C k (bodyOf Tryd.f35) [] [] (retK f35C Tryd.f35.results f35o) (f35_s a0) := by kernel_rfl
  have h1 : keep [] (jt f35C k (bodyOf Tryd.f35) [] [] (retK f35C Tryd.f35.results f35o)) = [] := by kernel_rfl
  have h2 : keep [] (lt f35C k (bodyOf Tryd.f35) [] [] (retK f35C Tryd.f35.results f35o)) = [] := by kernel_rfl
  exact h0.trans ((evAt_cut _ [] [] (by kernel_rfl) h1 h2 (by kernel_rfl) (by kernel_rfl) (by kernel_rfl)).trans (f35_A   a0))
set_option maxRecDepth 100000 in
theorem f35_ok (k : Nat)   : SigOK Tryd.prog 35 ⟨f35i, f35o, mkFun f35i.tys f35o.tys (f35 k )⟩ :=
  fn_ok (C := f35C) (l := f35E ) rfl trivial (by kernel_rfl) k (fn := Tryd.f35) (by kernel_rfl) (by kernel_rfl) (by kernel_rfl) f35i f35o rfl rfl (show 0 ≤ 48 by decide) (show 0 ≤ 48 by decide)
noncomputable def c35 (k : Nat) : (Int) → Option (Bool) := f35 k 
theorem c35_ok (k : Nat) : SigOK Tryd.prog 35 ⟨f35i, f35o, mkFun f35i.tys f35o.tys (c35 k)⟩ := f35_ok k  

/-! (*carrefour/lex.scanner).pass -/
def f34i : Sk := ⟨[.lf (.ptr 0 0), .lf (.fn 35 [] [])], [[.pv (.slice (.int .u8)), .pv (.int .i64)]], []⟩
def f34o : Sk := ⟨[.lf (.pv .str)], [[.pv (.slice (.int .u8)), .pv (.int .i64)]], []⟩
def f34_k2 : Sk := ⟨sparse 44 [(0, .lf (.ptr 0 0)), (1, .lf (.fn 35 [] [])), (5, .lf (.pv (.int .i64)))], [[.pv (.slice (.int .u8)), .pv (.int .i64)]], []⟩
noncomputable def f34E (g24a : ((List (Int)) × (Int)) → Option (Int)) (g35 : (Int) → Option (Bool)) : List (Nat × List Sig) := [(24, [⟨f24ai, f24ao, mkFun f24ai.tys f24ao.tys g24a⟩]), (35, [⟨f35i, f35o, mkFun f35i.tys f35o.tys g35⟩])]
noncomputable def f34C (g24a : ((List (Int)) × (Int)) → Option (Int)) (g35 : (Int) → Option (Bool)) : Cfg := { P := Tryd.prog, env := lookS (f34E g24a g35), n := 92, npB := 1, npO := 0, hint := fun i => look none [(2, some f34_k2)] i, pops := [] }
def f34_s (a0 : List (Int)) (a1 : Int) : St := { enc f34i 92 [⟨(.slice (.int .u8)), a0⟩, ⟨(.int .i64), a1⟩] with slots := encAs f34i.slots [⟨(.slice (.int .u8)), a0⟩, ⟨(.int .i64), a1⟩] ++ List.replicate 42 .dead }
def f34_s2 (a0 : Int) (a1 : List (Int)) (a2 : Int) : St := enc f34_k2 92 [⟨(.int .i64), a0⟩, ⟨(.slice (.int .u8)), a1⟩, ⟨(.int .i64), a2⟩]
noncomputable def f34 (k : Nat) (g24a : ((List (Int)) × (Int)) → Option (Int)) (g35 : (Int) → Option (Bool)) : ((List (Int)) × (Int)) → Option ((List Int) × (List (Int)) × (Int)) := fnOf (f34C g24a g35) k Tryd.f34 f34i f34o
noncomputable def f34_l2 (k : Nat) (g24a : ((List (Int)) × (Int)) → Option (Int)) (g35 : (Int) → Option (Bool)) (j2 : Nat) (a0 : Int) (a1 : List (Int)) (a2 : Int) : Option ((List Int) × (List (Int)) × (Int)) := loopAt (f34C g24a g35) k (bodyOf Tryd.f34) [.r, .r, .l, .b] [] j2 (retK (f34C g24a g35) Tryd.f34.results f34o) (f34_s2 a0 a1 a2)
def f34_t (g24a : ((List (Int)) × (Int)) → Option (Int)) (g35 : (Int) → Option (Bool)) (Jl2 : Int → (List (Int)) → Int → Option ((List Int) × (List (Int)) × (Int))) (a0 : List (Int)) (a1 : Int) : Option ((List Int) × (List (Int)) × (Int)) :=
  Jl2 a1 a0 a1
set_option maxRecDepth 100000 in
theorem f34_A (g24a : ((List (Int)) × (Int)) → Option (Int)) (g35 : (Int) → Option (Bool)) (Jl2 : St → Option ((List Int) × (List (Int)) × (Int))) (a0 : List (Int)) (a1 : Int) : evAtJ (f34C g24a g35) [] [(2, Jl2)] (bodyOf Tryd.f34) [] (retK (f34C g24a g35) Tryd.f34.results f34o) (f34_s a0 a1) = f34_t g24a g35 (fun a0 a1 a2 => Jl2 (f34_s2 a0 a1 a2)) a0 a1 := by
  kernel_rfl
set_option maxRecDepth 100000 in
theorem f34_e (k : Nat) (g24a : ((List (Int)) × (Int)) → Option (Int)) (g35 : (Int) → Option (Bool))  (a0 : List (Int)) (a1 : Int) : f34 k g24a g35 (a0, a1) = f34_t g24a g35 (f34_l2 k g24a g35  k) a0 a1 := by
  have h0 : f34 k g24a g35 (a0, a1) = evAt (f34C g24a g35) k (bodyOf Tryd.f34) [] [] (retK (f34C g24a g35) Tryd.f34.results f34o) (f34_s a0 a1) := by kernel_rfl
  have h1 : keep [] (jt (f34C g24a g35) k (bodyOf Tryd.f34) [] [] (retK (f34C g24a g35) Tryd.f34.results f34o)) = [] := by kernel_rfl
  have h2 : keep [2] (lt (f34C g24a g35) k (bodyOf Tryd.f34) [] [] (retK (f34C g24a g35) Tryd.f34.results f34o)) = [(2, (fun s => loopAt (f34C g24a g35) k (bodyOf Tryd.f34) [.r, .r, .l, .b] [] k (retK (f34C g24a g35) Tryd.f34.results f34o) s))] := by kernel_rfl
  exact h0.trans ((evAt_cut _ [] [2] (by kernel_rfl) h1 h2 (by kernel_rfl) (by kernel_rfl) (by kernel_rfl)).trans (f34_A g24a g35 (fun s => loopAt (f34C g24a g35) k (bodyOf Tryd.f34) [.r, .r, .l, .b] [] k (retK (f34C g24a g35) Tryd.f34.results f34o) s) a0 a1))
def f34_tl2 (g24a : ((List (Int)) × (Int)) → Option (Int)) (g35 : (Int) → Option (Bool)) (Jl2 : Int → (List (Int)) → Int → Option ((List Int) × (List (Int)) × (Int))) (a0 : Int) (a1 : List (Int)) (a2 : Int) : Option ((List Int) × (List (Int)) × (Int)) :=
  bif (decide (a2 < ((List.length a1 : Nat) : Int))) then ((g24a (a1, a2)).bind fun o1 => (g35 (o1)).bind fun o2 => bif o2 then (Jl2 a0 a1 (IntKind.wrap .i64 (a2 + (1 : Int)))) else (bif (cutB a0 a2 (List.length a1)) then some ((cutL a1 a0 a2), a1, a2) else none)) else (bif (cutB a0 a2 (List.length a1)) then some ((cutL a1 a0 a2), a1, a2) else none)
set_option maxRecDepth 100000 in
theorem f34_Al2 (g24a : ((List (Int)) × (Int)) → Option (Int)) (g35 : (Int) → Option (Bool)) (Jl2 : St → Option ((List Int) × (List (Int)) × (Int))) (a0 : Int) (a1 : List (Int)) (a2 : Int) : evAtJ (f34C g24a g35) [] [(2, Jl2)] (bodyOf Tryd.f34) [.r, .r, .l, .b, .b] (retK (f34C g24a g35) Tryd.f34.results f34o) (f34_s2 a0 a1 a2) = f34_tl2 g24a g35 (fun a0 a1 a2 => Jl2 (f34_s2 a0 a1 a2)) a0 a1 a2 := by
  kernel_rfl
set_option maxRecDepth 100000 in
theorem f34_el2 (k : Nat) (g24a : ((List (Int)) × (Int)) → Option (Int)) (g35 : (Int) → Option (Bool)) (j2 : Nat) (a0 : Int) (a1 : List (Int)) (a2 : Int) : f34_l2 k g24a g35 (j2 + 1) a0 a1 a2 = f34_tl2 g24a g35 (f34_l2 k g24a g35  j2) a0 a1 a2 := by
  have h0 : f34_l2 k g24a g35 (j2 + 1) a0 a1 a2 = evAt (f34C g24a g35) k (bodyOf Tryd.f34) [.r, .r, .l, .b, .b] [j2] (retK (f34C g24a g35) Tryd.f34.results f34o) (f34_s2 a0 a1 a2) := by kernel_rfl
  have h1 : keep [] (jt (f34C g24a g35) k (bodyOf Tryd.f34) [.r, .r, .l, .b, .b] [j2] (retK (f34C g24a g35) Tryd.f34.results f34o)) = [] := by kernel_rfl
  have h2 : keep [2] (lt (f34C g24a g35) k (bodyOf Tryd.f34) [.r, .r, .l, .b, .b] [j2] (retK (f34C g24a g35) Tryd.f34.results f34o)) = [(2, (fun s => loopAt (f34C g24a g35) k (bodyOf Tryd.f34) [.r, .r, .l, .b] [] j2 (retK (f34C g24a g35) Tryd.f34.results f34o) s))] := by kernel_rfl
  exact h0.trans ((evAt_cut _ [] [2] (by kernel_rfl) h1 h2 (by kernel_rfl) (by kernel_rfl) (by kernel_rfl)).trans (f34_Al2 g24a g35 (fun s => loopAt (f34C g24a g35) k (bodyOf Tryd.f34) [.r, .r, .l, .b] [] j2 (retK (f34C g24a g35) Tryd.f34.results f34o) s) a0 a1 a2))
set_option maxRecDepth 100000 in
theorem f34_ok (k : Nat) (g24a : ((List (Int)) × (Int)) → Option (Int)) (g35 : (Int) → Option (Bool)) (hg24a : SigOK Tryd.prog 24 ⟨f24ai, f24ao, mkFun f24ai.tys f24ao.tys g24a⟩) (hg35 : SigOK Tryd.prog 35 ⟨f35i, f35o, mkFun f35i.tys f35o.tys g35⟩) : SigOK Tryd.prog 34 ⟨f34i, f34o, mkFun f34i.tys f34o.tys (f34 k g24a g35)⟩ :=
  fn_ok (C := (f34C g24a g35)) (l := f34E g24a g35) rfl ⟨⟨hg24a, trivial⟩, ⟨hg35, trivial⟩, trivial⟩ (by kernel_rfl) k (fn := Tryd.f34) (by kernel_rfl) (by kernel_rfl) (by kernel_rfl) f34i f34o rfl rfl (show 1 ≤ 48 by decide) (show 0 ≤ 48 by decide)
noncomputable def c34 (k : Nat) : ((List (Int)) × (Int)) → Option ((List Int) × (List (Int)) × (Int)) := f34 k (c24a k) (c35 k)
theorem c34_ok (k : Nat) : SigOK Tryd.prog 34 ⟨f34i, f34o, mkFun f34i.tys f34o.tys (c34 k)⟩ := f34_ok k (c24a k) (c35 k) (c24a_ok k) (c35_ok k)

/-! (*carrefour/lex.scanner).word -/
def f26i : Sk := ⟨[.lf (.ptr 0 0)], [[.pv (.slice (.int .u8)), .pv (.int .i64)]], []⟩
def f26o : Sk := ⟨[.agg [.pv (.int .i64), .pv .str, .pv (.int .i64), .pv (.int .i64)], .lf (.pv (.int .i64))], [[.pv (.slice (.int .u8)), .pv (.int .i64)]], []⟩
noncomputable def f26E (g34 : ((List (Int)) × (Int)) → Option ((List Int) × (List (Int)) × (Int))) : List (Nat × List Sig) := [(34, [⟨f34i, f34o, mkFun f34i.tys f34o.tys g34⟩])]
noncomputable def f26C (g34 : ((List (Int)) × (Int)) → Option ((List Int) × (List (Int)) × (Int))) : Cfg := { P := Tryd.prog, env := lookS (f26E g34), n := 61, npB := 1, npO := 0, hint := fun i => look none [] i, pops := [] }
def f26_s (a0 : List (Int)) (a1 : Int) : St := { enc f26i 61 [⟨(.slice (.int .u8)), a0⟩, ⟨(.int .i64), a1⟩] with slots := encAs f26i.slots [⟨(.slice (.int .u8)), a0⟩, ⟨(.int .i64), a1⟩] ++ List.replicate 12 .dead }
noncomputable def f26 (k : Nat) (g34 : ((List (Int)) × (Int)) → Option ((List Int) × (List (Int)) × (Int))) : ((List (Int)) × (Int)) → Option ((Int) × (List Int) × (Int) × (Int) × (Int) × (List (Int)) × (Int)) := fnOf (f26C g34) k Tryd.f26 f26i f26o
def f26_t (g34 : ((List (Int)) × (Int)) → Option ((List Int) × (List (Int)) × (Int)))  (a0 : List (Int)) (a1 : Int) : Option ((Int) × (List Int) × (Int) × (Int) × (Int) × (List (Int)) × (Int)) :=
  (g34 (a0, a1)).bind fun o1 => bif (decide (((List.length o1.1 : Nat) : Int) > (24 : Int))) then (some ((0 : Int), ([] : List Int), (0 : Int), (0 : Int), (4 : Int), o1.2.1, o1.2.2)) else (some ((1 : Int), o1.1, (0 : Int), (0 : Int), (0 : Int), o1.2.1, o1.2.2))
set_option maxRecDepth 100000 in
theorem f26_A (g34 : ((List (Int)) × (Int)) → Option ((List Int) × (List (Int)) × (Int)))  (a0 : List (Int)) (a1 : Int) : evAtJ (f26C g34) [] [] (bodyOf Tryd.f26) [] (retK (f26C g34) Tryd.f26.results f26o) (f26_s a0 a1) = f26_t g34  a0 a1 := by
  kernel_rfl
set_option maxRecDepth 100000 in
theorem f26_e (k : Nat) (g34 : ((List (Int)) × (Int)) → Option ((List Int) × (List (Int)) × (Int)))  (a0 : List (Int)) (a1 : Int) : f26 k g34 (a0, a1) = f26_t g34  a0 a1 := by
  have h0 : f26 k g34 (a0, a1) = evAt (f26C g34) k (bodyOf Tryd.f26) [] [] (retK (f26C g34) Tryd.f26.results f26o) (f26_s a0 a1) := by kernel_rfl
  have h1 : keep [] (jt (f26C g34) k (bodyOf Tryd.f26) [] [] (retK (f26C g34) Tryd.f26.results f26o)) = [] := by kernel_rfl
  have h2 : keep [] (lt (f26C g34) k (bodyOf Tryd.f26) [] [] (retK (f26C g34) Tryd.f26.results f26o)) = [] := by kernel_rfl
  exact h0.trans ((evAt_cut _ [] [] (by kernel_rfl) h1 h2 (by kernel_rfl) (by kernel_rfl) (by kernel_rfl)).trans (f26_A g34  a0 a1))
set_option maxRecDepth 100000 in
theorem f26_ok (k : Nat) (g34 : ((List (Int)) × (Int)) → Option ((List Int) × (List (Int)) × (Int))) (hg34 : SigOK Tryd.prog 34 ⟨f34i, f34o, mkFun f34i.tys f34o.tys g34⟩) : SigOK Tryd.prog 26 ⟨f26i, f26o, mkFun f26i.tys f26o.tys (f26 k g34)⟩ :=
  fn_ok (C := (f26C g34)) (l := f26E g34) rfl ⟨⟨hg34, trivial⟩, trivial⟩ (by kernel_rfl) k (fn := Tryd.f26) (by kernel_rfl) (by kernel_rfl) (by kernel_rfl) f26i f26o rfl rfl (show 1 ≤ 48 by decide) (show 0 ≤ 48 by decide)
noncomputable def c26 (k : Nat) : ((List (Int)) × (Int)) → Option ((Int) × (List Int) × (Int) × (Int) × (Int) × (List (Int)) × (Int)) := f26 k (c34 k)
theorem c26_ok (k : Nat) : SigOK Tryd.prog 26 ⟨f26i, f26o, mkFun f26i.tys f26o.tys (c26 k)⟩ := f26_ok k (c34 k) (c34_ok k)

/-! (*carrefour/lex.scanner).number$1 -/
def f36i : Sk := ⟨[.lf (.pv (.int .i64))], [], []⟩
def f36o : Sk := ⟨[.lf (.pv .bool)], [], []⟩
noncomputable def f36E  : List (Nat × List Sig) := []
noncomputable def f36C  : Cfg := { P := Tryd.prog, env := lookS (f36E ), n := 53, npB := 0, npO := 0, hint := fun i => look none [] i, pops := [] }
def f36_s (a0 : Int) : St := { enc f36i 53 [⟨(.int .i64), a0⟩] with slots := encAs f36i.slots [⟨(.int .i64), a0⟩] ++ List.replicate 4 .dead }
noncomputable def f36 (k : Nat)  : (Int) → Option (Bool) := fnOf f36C k Tryd.f36 f36i f36o
def f36_t   (a0 : Int) : Option (Bool) :=
  some (a0 == (4 : Int))
set_option maxRecDepth 100000 in
theorem f36_A   (a0 : Int) : evAtJ f36C [] [] (bodyOf Tryd.f36) [] (retK f36C Tryd.f36.results f36o) (f36_s a0) = f36_t   a0 := by
  kernel_rfl
set_option maxRecDepth 100000 in
theorem f36_e (k : Nat)   (a0 : Int) : f36 k  (a0) = f36_t   a0 := by
  have h0 : f36 k  (a0) = evAt f36C k (bodyOf Tryd.f36) [] [] (retK f36C Tryd.f36.results f36o) (f36_s a0) := by kernel_rfl
  have h1 : keep [] (jt f36C k (bodyOf Tryd.f36) [] [] (retK f36C Tryd.f36.results f36o)) = [] := by kernel_rfl
  have h2 : keep [] (lt f36C k (bodyOf Tryd.f36) [] [] (retK f36C Tryd.f36.results f36o)) = [] := by kernel_rfl
  exact h0.trans ((evAt_cut _ [] [] (by kernel_rfl) h1 h2 (by kernel_rfl) (by kernel_rfl) (by kernel_rfl)).trans (f36_A   a0))
set_option maxRecDepth 100000 in
theorem f36_ok (k : Nat)   : SigOK Tryd.prog 36 ⟨f36i, f36o, mkFun f36i.tys f36o.tys (f36 k )⟩ :=
  fn_ok (C := f36C) (l := f36E ) rfl trivial (by kernel_rfl) k (fn := Tryd.f36) (by kernel_rfl) (by kernel_rfl) (by kernel_rfl) f36i f36o rfl rfl (show 0 ≤ 48 by decide) (show 0 ≤ 48 by decide)
noncomputable def c36 (k : Nat) : (Int) → Option (Bool) := f36 k 
theorem c36_ok (k : Nat) : SigOK Tryd.prog 36 ⟨f36i, f36o, mkFun f36i.tys f36o.tys (c36 k)⟩ := f36_ok k  

/-! (*carrefour/lex.scanner).pass -/
def f34ai : Sk := ⟨[.lf (.ptr 0 0), .lf (.fn 36 [] [])], [[.pv (.slice (.int .u8)), .pv (.int .i64)]], []⟩
def f34ao : Sk := ⟨[.lf (.pv .str)], [[.pv (.slice (.int .u8)), .pv (.int .i64)]], []⟩
def f34a_k2 : Sk := ⟨sparse 44 [(0, .lf (.ptr 0 0)), (1, .lf (.fn 36 [] [])), (5, .lf (.pv (.int .i64)))], [[.pv (.slice (.int .u8)), .pv (.int .i64)]], []⟩
noncomputable def f34aE (g24a : ((List (Int)) × (Int)) → Option (Int)) (g36 : (Int) → Option (Bool)) : List (Nat × List Sig) := [(24, [⟨f24ai, f24ao, mkFun f24ai.tys f24ao.tys g24a⟩]), (36, [⟨f36i, f36o, mkFun f36i.tys f36o.tys g36⟩])]
noncomputable def f34aC (g24a : ((List (Int)) × (Int)) → Option (Int)) (g36 : (Int) → Option (Bool)) : Cfg := { P := Tryd.prog, env := lookS (f34aE g24a g36), n := 92, npB := 1, npO := 0, hint := fun i => look none [(2, some f34a_k2)] i, pops := [] }
def f34a_s (a0 : List (Int)) (a1 : Int) : St := { enc f34ai 92 [⟨(.slice (.int .u8)), a0⟩, ⟨(.int .i64), a1⟩] with slots := encAs f34ai.slots [⟨(.slice (.int .u8)), a0⟩, ⟨(.int .i64), a1⟩] ++ List.replicate 42 .dead }
def f34a_s2 (a0 : Int) (a1 : List (Int)) (a2 : Int) : St := enc f34a_k2 92 [⟨(.int .i64), a0⟩, ⟨(.slice (.int .u8)), a1⟩, ⟨(.int .i64), a2⟩]
noncomputable def f34a (k : Nat) (g24a : ((List (Int)) × (Int)) → Option (Int)) (g36 : (Int) → Option (Bool)) : ((List (Int)) × (Int)) → Option ((List Int) × (List (Int)) × (Int)) := fnOf (f34aC g24a g36) k Tryd.f34 f34ai f34ao
noncomputable def f34a_l2 (k : Nat) (g24a : ((List (Int)) × (Int)) → Option (Int)) (g36 : (Int) → Option (Bool)) (j2 : Nat) (a0 : Int) (a1 : List (Int)) (a2 : Int) : Option ((List Int) × (List (Int)) × (Int)) := loopAt (f34aC g24a g36) k (bodyOf Tryd.f34) [.r, .r, .l, .b] [] j2 (retK (f34aC g24a g36) Tryd.f34.results f34ao) (f34a_s2 a0 a1 a2)
def f34a_t (g24a : ((List (Int)) × (Int)) → Option (Int)) (g36 : (Int) → Option (Bool)) (Jl2 : Int → (List (Int)) → Int → Option ((List Int) × (List (Int)) × (Int))) (a0 : List (Int)) (a1 : Int) : Option ((List Int) × (List (Int)) × (Int)) :=
  Jl2 a1 a0 a1
set_option maxRecDepth 100000 in
theorem f34a_A (g24a : ((List (Int)) × (Int)) → Option (Int)) (g36 : (Int) → Option (Bool)) (Jl2 : St → Option ((List Int) × (List (Int)) × (Int))) (a0 : List (Int)) (a1 : Int) : evAtJ (f34aC g24a g36) [] [(2, Jl2)] (bodyOf Tryd.f34) [] (retK (f34aC g24a g36) Tryd.f34.results f34ao) (f34a_s a0 a1) = f34a_t g24a g36 (fun a0 a1 a2 => Jl2 (f34a_s2 a0 a1 a2)) a0 a1 := by
  kernel_rfl
set_option maxRecDepth 100000 in
theorem f34a_e (k : Nat) (g24a : ((List (Int)) × (Int)) → Option (Int)) (g36 : (Int) → Option (Bool))  (a0 : List (Int)) (a1 : Int) : f34a k g24a g36 (a0, a1) = f34a_t g24a g36 (f34a_l2 k g24a g36  k) a0 a1 := by
  have h0 : f34a k g24a g36 (a0, a1) = evAt (f34aC g24a g36) k (bodyOf Tryd.f34) [] [] (retK (f34aC g24a g36) Tryd.f34.results f34ao) (f34a_s a0 a1) := by kernel_rfl
  have h1 : keep [] (jt (f34aC g24a g36) k (bodyOf Tryd.f34) [] [] (retK (f34aC g24a g36) Tryd.f34.results f34ao)) = [] := by kernel_rfl
  have h2 : keep [2] (lt (f34aC g24a g36) k (bodyOf Tryd.f34) [] [] (retK (f34aC g24a g36) Tryd.f34.results f34ao)) = [(2, (fun s => loopAt (f34aC g24a g36) k (bodyOf Tryd.f34) [.r, .r, .l, .b] [] k (retK (f34aC g24a g36) Tryd.f34.results f34ao) s))] := by kernel_rfl
  exact h0.trans ((evAt_cut _ [] [2] (by kernel_rfl) h1 h2 (by kernel_rfl) (by kernel_rfl) (by kernel_rfl)).trans (f34a_A g24a g36 (fun s => loopAt (f34aC g24a g36) k (bodyOf Tryd.f34) [.r, .r, .l, .b] [] k (retK (f34aC g24a g36) Tryd.f34.results f34ao) s) a0 a1))
def f34a_tl2 (g24a : ((List (Int)) × (Int)) → Option (Int)) (g36 : (Int) → Option (Bool)) (Jl2 : Int → (List (Int)) → Int → Option ((List Int) × (List (Int)) × (Int))) (a0 : Int) (a1 : List (Int)) (a2 : Int) : Option ((List Int) × (List (Int)) × (Int)) :=
  bif (decide (a2 < ((List.length a1 : Nat) : Int))) then ((g24a (a1, a2)).bind fun o1 => (g36 (o1)).bind fun o2 => bif o2 then (Jl2 a0 a1 (IntKind.wrap .i64 (a2 + (1 : Int)))) else (bif (cutB a0 a2 (List.length a1)) then some ((cutL a1 a0 a2), a1, a2) else none)) else (bif (cutB a0 a2 (List.length a1)) then some ((cutL a1 a0 a2), a1, a2) else none)
set_option maxRecDepth 100000 in
theorem f34a_Al2 (g24a : ((List (Int)) × (Int)) → Option (Int)) (g36 : (Int) → Option (Bool)) (Jl2 : St → Option ((List Int) × (List (Int)) × (Int))) (a0 : Int) (a1 : List (Int)) (a2 : Int) : evAtJ (f34aC g24a g36) [] [(2, Jl2)] (bodyOf Tryd.f34) [.r, .r, .l, .b, .b] (retK (f34aC g24a g36) Tryd.f34.results f34ao) (f34a_s2 a0 a1 a2) = f34a_tl2 g24a g36 (fun a0 a1 a2 => Jl2 (f34a_s2 a0 a1 a2)) a0 a1 a2 := by
  kernel_rfl
set_option maxRecDepth 100000 in
theorem f34a_el2 (k : Nat) (g24a : ((List (Int)) × (Int)) → Option (Int)) (g36 : (Int) → Option (Bool)) (j2 : Nat) (a0 : Int) (a1 : List (Int)) (a2 : Int) : f34a_l2 k g24a g36 (j2 + 1) a0 a1 a2 = f34a_tl2 g24a g36 (f34a_l2 k g24a g36  j2) a0 a1 a2 := by
  have h0 : f34a_l2 k g24a g36 (j2 + 1) a0 a1 a2 = evAt (f34aC g24a g36) k (bodyOf Tryd.f34) [.r, .r, .l, .b, .b] [j2] (retK (f34aC g24a g36) Tryd.f34.results f34ao) (f34a_s2 a0 a1 a2) := by kernel_rfl
  have h1 : keep [] (jt (f34aC g24a g36) k (bodyOf Tryd.f34) [.r, .r, .l, .b, .b] [j2] (retK (f34aC g24a g36) Tryd.f34.results f34ao)) = [] := by kernel_rfl
  have h2 : keep [2] (lt (f34aC g24a g36) k (bodyOf Tryd.f34) [.r, .r, .l, .b, .b] [j2] (retK (f34aC g24a g36) Tryd.f34.results f34ao)) = [(2, (fun s => loopAt (f34aC g24a g36) k (bodyOf Tryd.f34) [.r, .r, .l, .b] [] j2 (retK (f34aC g24a g36) Tryd.f34.results f34ao) s))] := by kernel_rfl
  exact h0.trans ((evAt_cut _ [] [2] (by kernel_rfl) h1 h2 (by kernel_rfl) (by kernel_rfl) (by kernel_rfl)).trans (f34a_Al2 g24a g36 (fun s => loopAt (f34aC g24a g36) k (bodyOf Tryd.f34) [.r, .r, .l, .b] [] j2 (retK (f34aC g24a g36) Tryd.f34.results f34ao) s) a0 a1 a2))
set_option maxRecDepth 100000 in
theorem f34a_ok (k : Nat) (g24a : ((List (Int)) × (Int)) → Option (Int)) (g36 : (Int) → Option (Bool)) (hg24a : SigOK Tryd.prog 24 ⟨f24ai, f24ao, mkFun f24ai.tys f24ao.tys g24a⟩) (hg36 : SigOK Tryd.prog 36 ⟨f36i, f36o, mkFun f36i.tys f36o.tys g36⟩) : SigOK Tryd.prog 34 ⟨f34ai, f34ao, mkFun f34ai.tys f34ao.tys (f34a k g24a g36)⟩ :=
  fn_ok (C := (f34aC g24a g36)) (l := f34aE g24a g36) rfl ⟨⟨hg24a, trivial⟩, ⟨hg36, trivial⟩, trivial⟩ (by kernel_rfl) k (fn := Tryd.f34) (by kernel_rfl) (by kernel_rfl) (by kernel_rfl) f34ai f34ao rfl rfl (show 1 ≤ 48 by decide) (show 0 ≤ 48 by decide)
noncomputable def c34a (k : Nat) : ((List (Int)) × (Int)) → Option ((List Int) × (List (Int)) × (Int)) := f34a k (c24a k) (c36 k)
theorem c34a_ok (k : Nat) : SigOK Tryd.prog 34 ⟨f34ai, f34ao, mkFun f34ai.tys f34ao.tys (c34a k)⟩ := f34a_ok k (c24a k) (c36 k) (c24a_ok k) (c36_ok k)

/-! strconv.ParseInt: given -/
def f37i : Sk := ⟨[.lf (.pv .str), .lf (.pv (.int .i64)), .lf (.pv (.int .i64))], [], []⟩
def f37o : Sk := ⟨[.lf (.pv (.int .i64)), .lf (.err)], [], []⟩
def c37 (k : Nat) : ((List Int) × (Int) × (Int)) → Option ((Int) × (Bool)) := parseInt
theorem c37_ok (k : Nat) : SigOK Tryd.prog 37 ⟨f37i, f37o, mkFun f37i.tys f37o.tys (c37 k)⟩ := parseInt_ok

/-! (*carrefour/lex.scanner).number -/
def f27i : Sk := ⟨[.lf (.ptr 0 0)], [[.pv (.slice (.int .u8)), .pv (.int .i64)]], []⟩
def f27o : Sk := ⟨[.agg [.pv (.int .i64), .pv .str, .pv (.int .i64), .pv (.int .i64)], .lf (.pv (.int .i64))], [[.pv (.slice (.int .u8)), .pv (.int .i64)]], []⟩
noncomputable def f27E (g34a : ((List (Int)) × (Int)) → Option ((List Int) × (List (Int)) × (Int))) (g37 : ((List Int) × (Int) × (Int)) → Option ((Int) × (Bool))) : List (Nat × List Sig) := [(34, [⟨f34ai, f34ao, mkFun f34ai.tys f34ao.tys g34a⟩]), (37, [⟨f37i, f37o, mkFun f37i.tys f37o.tys g37⟩])]
noncomputable def f27C (g34a : ((List (Int)) × (Int)) → Option ((List Int) × (List (Int)) × (Int))) (g37 : ((List Int) × (Int) × (Int)) → Option ((Int) × (Bool))) : Cfg := { P := Tryd.prog, env := lookS (f27E g34a g37), n := 69, npB := 1, npO := 0, hint := fun i => look none [] i, pops := [] }
def f27_s (a0 : List (Int)) (a1 : Int) : St := { enc f27i 69 [⟨(.slice (.int .u8)), a0⟩, ⟨(.int .i64), a1⟩] with slots := encAs f27i.slots [⟨(.slice (.int .u8)), a0⟩, ⟨(.int .i64), a1⟩] ++ List.replicate 20 .dead }
noncomputable def f27 (k : Nat) (g34a : ((List (Int)) × (Int)) → Option ((List Int) × (List (Int)) × (Int))) (g37 : ((List Int) × (Int) × (Int)) → Option ((Int) × (Bool))) : ((List (Int)) × (Int)) → Option ((Int) × (List Int) × (Int) × (Int) × (Int) × (List (Int)) × (Int)) := fnOf (f27C g34a g37) k Tryd.f27 f27i f27o
def f27_t (g34a : ((List (Int)) × (Int)) → Option ((List Int) × (List (Int)) × (Int))) (g37 : ((List Int) × (Int) × (Int)) → Option ((Int) × (Bool)))  (a0 : List (Int)) (a1 : Int) : Option ((Int) × (List Int) × (Int) × (Int) × (Int) × (List (Int)) × (Int)) :=
  (g34a (a0, a1)).bind fun o1 => bif (decide (((List.length o1.1 : Nat) : Int) > (18 : Int))) then (some ((0 : Int), ([] : List Int), (0 : Int), (0 : Int), (4 : Int), o1.2.1, o1.2.2)) else ((g37 (o1.1, (10 : Int), (64 : Int))).bind fun o2 => some ((2 : Int), o1.1, o2.1, (0 : Int), (0 : Int), o1.2.1, o1.2.2))
set_option maxRecDepth 100000 in
theorem f27_A (g34a : ((List (Int)) × (Int)) → Option ((List Int) × (List (Int)) × (Int))) (g37 : ((List Int) × (Int) × (Int)) → Option ((Int) × (Bool)))  (a0 : List (Int)) (a1 : Int) : evAtJ (f27C g34a g37) [] [] (bodyOf Tryd.f27) [] (retK (f27C g34a g37) Tryd.f27.results f27o) (f27_s a0 a1) = f27_t g34a g37  a0 a1 := by
  kernel_rfl
set_option maxRecDepth 100000 in
theorem f27_e (k : Nat) (g34a : ((List (Int)) × (Int)) → Option ((List Int) × (List (Int)) × (Int))) (g37 : ((List Int) × (Int) × (Int)) → Option ((Int) × (Bool)))  (a0 : List (Int)) (a1 : Int) : f27 k g34a g37 (a0, a1) = f27_t g34a g37  a0 a1 := by
  have h0 : f27 k g34a g37 (a0, a1) = evAt (f27C g34a g37) k (bodyOf Tryd.f27) [] [] (retK (f27C g34a g37) Tryd.f27.results f27o) (f27_s a0 a1) := by kernel_rfl
  have h1 : keep [] (jt (f27C g34a g37) k (bodyOf Tryd.f27) [] [] (retK (f27C g34a g37) Tryd.f27.results f27o)) = [] := by kernel_rfl
  have h2 : keep [] (lt (f27C g34a g37) k (bodyOf Tryd.f27) [] [] (retK (f27C g34a g37) Tryd.f27.results f27o)) = [] := by kernel_rfl
  exact h0.trans ((evAt_cut _ [] [] (by kernel_rfl) h1 h2 (by kernel_rfl) (by kernel_rfl) (by kernel_rfl)).trans (f27_A g34a g37  a0 a1))
set_option maxRecDepth 100000 in
theorem f27_ok (k : Nat) (g34a : ((List (Int)) × (Int)) → Option ((List Int) × (List (Int)) × (Int))) (g37 : ((List Int) × (Int) × (Int)) → Option ((Int) × (Bool))) (hg34a : SigOK Tryd.prog 34 ⟨f34ai, f34ao, mkFun f34ai.tys f34ao.tys g34a⟩) (hg37 : SigOK Tryd.prog 37 ⟨f37i, f37o, mkFun f37i.tys f37o.tys g37⟩) : SigOK Tryd.prog 27 ⟨f27i, f27o, mkFun f27i.tys f27o.tys (f27 k g34a g37)⟩ :=
  fn_ok (C := (f27C g34a g37)) (l := f27E g34a g37) rfl ⟨⟨hg34a, trivial⟩, ⟨hg37, trivial⟩, trivial⟩ (by kernel_rfl) k (fn := Tryd.f27) (by kernel_rfl) (by kernel_rfl) (by kernel_rfl) f27i f27o rfl rfl (show 1 ≤ 48 by decide) (show 0 ≤ 48 by decide)
noncomputable def c27 (k : Nat) : ((List (Int)) × (Int)) → Option ((Int) × (List Int) × (Int) × (Int) × (Int) × (List (Int)) × (Int)) := f27 k (c34a k) (c37 k)
theorem c27_ok (k : Nat) : SigOK Tryd.prog 27 ⟨f27i, f27o, mkFun f27i.tys f27o.tys (c27 k)⟩ := f27_ok k (c34a k) (c37 k) (c34a_ok k) (c37_ok k)

/-! (*carrefour/lex.scanner).token -/
def f19i : Sk := ⟨[.lf (.ptr 0 0)], [[.pv (.slice (.int .u8)), .pv (.int .i64)]], []⟩
def f19o : Sk := ⟨[.agg [.pv (.int .i64), .pv .str, .pv (.int .i64), .pv (.int .i64)], .lf (.pv (.int .i64))], [[.pv (.slice (.int .u8)), .pv (.int .i64)]], []⟩
noncomputable def f19E (g24 : ((List (Int)) × (Int)) → Option ((Int) × (List (Int)) × (Int))) (g26 : ((List (Int)) × (Int)) → Option ((Int) × (List Int) × (Int) × (Int) × (Int) × (List (Int)) × (Int))) (g27 : ((List (Int)) × (Int)) → Option ((Int) × (List Int) × (Int) × (Int) × (Int) × (List (Int)) × (Int))) : List (Nat × List Sig) := [(24, [⟨f24i, f24o, mkFun f24i.tys f24o.tys g24⟩]), (26, [⟨f26i, f26o, mkFun f26i.tys f26o.tys g26⟩]), (27, [⟨f27i, f27o, mkFun f27i.tys f27o.tys g27⟩])]
noncomputable def f19C (g24 : ((List (Int)) × (Int)) → Option ((Int) × (List (Int)) × (Int))) (g26 : ((List (Int)) × (Int)) → Option ((Int) × (List Int) × (Int) × (Int) × (Int) × (List (Int)) × (Int))) (g27 : ((List (Int)) × (Int)) → Option ((Int) × (List Int) × (Int) × (Int) × (Int) × (List (Int)) × (Int))) : Cfg := { P := Tryd.prog, env := lookS (f19E g24 g26 g27), n := 92, npB := 1, npO := 0, hint := fun i => look none [] i, pops := [] }
def f19_s (a0 : List (Int)) (a1 : Int) : St := { enc f19i 92 [⟨(.slice (.int .u8)), a0⟩, ⟨(.int .i64), a1⟩] with slots := encAs f19i.slots [⟨(.slice (.int .u8)), a0⟩, ⟨(.int .i64), a1⟩] ++ List.replicate 43 .dead }
noncomputable def f19 (k : Nat) (g24 : ((List (Int)) × (Int)) → Option ((Int) × (List (Int)) × (Int))) (g26 : ((List (Int)) × (Int)) → Option ((Int) × (List Int) × (Int) × (Int) × (Int) × (List (Int)) × (Int))) (g27 : ((List (Int)) × (Int)) → Option ((Int) × (List Int) × (Int) × (Int) × (Int) × (List (Int)) × (Int))) : ((List (Int)) × (Int)) → Option ((Int) × (List Int) × (Int) × (Int) × (Int) × (List (Int)) × (Int)) := fnOf (f19C g24 g26 g27) k Tryd.f19 f19i f19o
def f19_t (g24 : ((List (Int)) × (Int)) → Option ((Int) × (List (Int)) × (Int))) (g26 : ((List (Int)) × (Int)) → Option ((Int) × (List Int) × (Int) × (Int) × (Int) × (List (Int)) × (Int))) (g27 : ((List (Int)) × (Int)) → Option ((Int) × (List Int) × (Int) × (Int) × (Int) × (List (Int)) × (Int)))  (a0 : List (Int)) (a1 : Int) : Option ((Int) × (List Int) × (Int) × (Int) × (Int) × (List (Int)) × (Int)) :=
  (g24 (a0, a1)).bind fun o1 => bif (o1.1 == (3 : Int)) then ((g26 (o1.2.1, o1.2.2)).bind fun o2 => some (o2.1, o2.2.1, o2.2.2.1, o2.2.2.2.1, o2.2.2.2.2.1, o2.2.2.2.2.2.1, o2.2.2.2.2.2.2)) else (bif (o1.1 == (4 : Int)) then ((g27 (o1.2.1, o1.2.2)).bind fun o3 => some (o3.1, o3.2.1, o3.2.2.1, o3.2.2.2.1, o3.2.2.2.2.1, o3.2.2.2.2.2.1, o3.2.2.2.2.2.2)) else (bif (o1.1 == (5 : Int)) then (bif (cutB (IntKind.wrap .i64 ((IntKind.wrap .i64 (o1.2.2 + (1 : Int))) - (1 : Int))) (IntKind.wrap .i64 (o1.2.2 + (1 : Int))) (List.length o1.2.1)) then some ((3 : Int), (cutL o1.2.1 (IntKind.wrap .i64 ((IntKind.wrap .i64 (o1.2.2 + (1 : Int))) - (1 : Int))) (IntKind.wrap .i64 (o1.2.2 + (1 : Int)))), (0 : Int), (0 : Int), (0 : Int), o1.2.1, (IntKind.wrap .i64 (o1.2.2 + (1 : Int)))) else none) else (some ((0 : Int), ([] : List Int), (0 : Int), (0 : Int), (40 : Int), o1.2.1, o1.2.2))))
set_option maxRecDepth 100000 in
theorem f19_A (g24 : ((List (Int)) × (Int)) → Option ((Int) × (List (Int)) × (Int))) (g26 : ((List (Int)) × (Int)) → Option ((Int) × (List Int) × (Int) × (Int) × (Int) × (List (Int)) × (Int))) (g27 : ((List (Int)) × (Int)) → Option ((Int) × (List Int) × (Int) × (Int) × (Int) × (List (Int)) × (Int)))  (a0 : List (Int)) (a1 : Int) : evAtJ (f19C g24 g26 g27) [] [] (bodyOf Tryd.f19) [] (retK (f19C g24 g26 g27) Tryd.f19.results f19o) (f19_s a0 a1) = f19_t g24 g26 g27  a0 a1 := by
  kernel_rfl
set_option maxRecDepth 100000 in
theorem f19_e (k : Nat) (g24 : ((List (Int)) × (Int)) → Option ((Int) × (List (Int)) × (Int))) (g26 : ((List (Int)) × (Int)) → Option ((Int) × (List Int) × (Int) × (Int) × (Int) × (List (Int)) × (Int))) (g27 : ((List (Int)) × (Int)) → Option ((Int) × (List Int) × (Int) × (Int) × (Int) × (List (Int)) × (Int)))  (a0 : List (Int)) (a1 : Int) : f19 k g24 g26 g27 (a0, a1) = f19_t g24 g26 g27  a0 a1 := by
  have h0 : f19 k g24 g26 g27 (a0, a1) = evAt (f19C g24 g26 g27) k (bodyOf Tryd.f19) [] [] (retK (f19C g24 g26 g27) Tryd.f19.results f19o) (f19_s a0 a1) := by kernel_rfl
  have h1 : keep [] (jt (f19C g24 g26 g27) k (bodyOf Tryd.f19) [] [] (retK (f19C g24 g26 g27) Tryd.f19.results f19o)) = [] := by kernel_rfl
  have h2 : keep [] (lt (f19C g24 g26 g27) k (bodyOf Tryd.f19) [] [] (retK (f19C g24 g26 g27) Tryd.f19.results f19o)) = [] := by kernel_rfl
  exact h0.trans ((evAt_cut _ [] [] (by kernel_rfl) h1 h2 (by kernel_rfl) (by kernel_rfl) (by kernel_rfl)).trans (f19_A g24 g26 g27  a0 a1))
set_option maxRecDepth 100000 in
theorem f19_ok (k : Nat) (g24 : ((List (Int)) × (Int)) → Option ((Int) × (List (Int)) × (Int))) (g26 : ((List (Int)) × (Int)) → Option ((Int) × (List Int) × (Int) × (Int) × (Int) × (List (Int)) × (Int))) (g27 : ((List (Int)) × (Int)) → Option ((Int) × (List Int) × (Int) × (Int) × (Int) × (List (Int)) × (Int))) (hg24 : SigOK Tryd.prog 24 ⟨f24i, f24o, mkFun f24i.tys f24o.tys g24⟩) (hg26 : SigOK Tryd.prog 26 ⟨f26i, f26o, mkFun f26i.tys f26o.tys g26⟩) (hg27 : SigOK Tryd.prog 27 ⟨f27i, f27o, mkFun f27i.tys f27o.tys g27⟩) : SigOK Tryd.prog 19 ⟨f19i, f19o, mkFun f19i.tys f19o.tys (f19 k g24 g26 g27)⟩ :=
  fn_ok (C := (f19C g24 g26 g27)) (l := f19E g24 g26 g27) rfl ⟨⟨hg24, trivial⟩, ⟨hg26, trivial⟩, ⟨hg27, trivial⟩, trivial⟩ (by kernel_rfl) k (fn := Tryd.f19) (by kernel_rfl) (by kernel_rfl) (by kernel_rfl) f19i f19o rfl rfl (show 1 ≤ 48 by decide) (show 0 ≤ 48 by decide)
noncomputable def c19 (k : Nat) : ((List (Int)) × (Int)) → Option ((Int) × (List Int) × (Int) × (Int) × (Int) × (List (Int)) × (Int)) := f19 k (c24 k) (c26 k) (c27 k)
theorem c19_ok (k : Nat) : SigOK Tryd.prog 19 ⟨f19i, f19o, mkFun f19i.tys f19o.tys (c19 k)⟩ := f19_ok k (c24 k) (c26 k) (c27 k) (c24_ok k) (c26_ok k) (c27_ok k)

/-! carrefour/lex.Tokens -/
def f8i : Sk := ⟨[.lf (.pv (.slice (.int .u8)))], [], []⟩
def f8o : Sk := ⟨[.lf (.own 0), .lf (.pv (.int .i64)), .lf (.pv (.int .i64))], [], [some (29, (.cons (.int .i64) (.cons .str (.cons (.int .i64) (.cons (.int .i64) .nil)))))]⟩
def f8_k5 : Sk := ⟨sparse 46 [(0, .lf (.pv (.slice (.int .u8)))), (5, .lf (.ptr 0 0)), (6, .lf (.own 0))], [[.pv (.slice (.int .u8)), .pv (.int .i64)]], [some (29, (.cons (.int .i64) (.cons .str (.cons (.int .i64) (.cons (.int .i64) .nil)))))]⟩
noncomputable def f8E (g18 : ((List (Int)) × (Int)) → Option ((List (Int)) × (Int))) (g19 : ((List (Int)) × (Int)) → Option ((Int) × (List Int) × (Int) × (Int) × (Int) × (List (Int)) × (Int))) : List (Nat × List Sig) := [(18, [⟨f18i, f18o, mkFun f18i.tys f18o.tys g18⟩]), (19, [⟨f19i, f19o, mkFun f19i.tys f19o.tys g19⟩])]
noncomputable def f8C (g18 : ((List (Int)) × (Int)) → Option ((List (Int)) × (Int))) (g19 : ((List (Int)) × (Int)) → Option ((Int) × (List Int) × (Int) × (Int) × (Int) × (List (Int)) × (Int))) : Cfg := { P := Tryd.prog, env := lookS (f8E g18 g19), n := 94, npB := 0, npO := 0, hint := fun i => look none [(5, some f8_k5)] i, pops := [] }
def f8_s (a0 : List (Int)) : St := { enc f8i 94 [⟨(.slice (.int .u8)), a0⟩] with slots := encAs f8i.slots [⟨(.slice (.int .u8)), a0⟩] ++ List.replicate 45 .dead }
def f8_s5 (a0 : List (Int)) (a1 : List (Int)) (a2 : Int) (a3 : List ((Int) × ((List Int) × ((Int) × ((Int) × (Unit)))))) : St := enc f8_k5 94 [⟨(.slice (.int .u8)), a0⟩, ⟨(.slice (.int .u8)), a1⟩, ⟨(.int .i64), a2⟩, ⟨(.slice (.cons (.int .i64) (.cons .str (.cons (.int .i64) (.cons (.int .i64) .nil))))), a3⟩]
noncomputable def f8 (k : Nat) (g18 : ((List (Int)) × (Int)) → Option ((List (Int)) × (Int))) (g19 : ((List (Int)) × (Int)) → Option ((Int) × (List Int) × (Int) × (Int) × (Int) × (List (Int)) × (Int))) : (List (Int)) → Option ((Int) × (Int) × (List ((Int) × ((List Int) × ((Int) × ((Int) × (Unit))))))) := fnOf (f8C g18 g19) k Tryd.f8 f8i f8o
noncomputable def f8_l5 (k : Nat) (g18 : ((List (Int)) × (Int)) → Option ((List (Int)) × (Int))) (g19 : ((List (Int)) × (Int)) → Option ((Int) × (List Int) × (Int) × (Int) × (Int) × (List (Int)) × (Int))) (j5 : Nat) (a0 : List (Int)) (a1 : List (Int)) (a2 : Int) (a3 : List ((Int) × ((List Int) × ((Int) × ((Int) × (Unit)))))) : Option ((Int) × (Int) × (List ((Int) × ((List Int) × ((Int) × ((Int) × (Unit))))))) := loopAt (f8C g18 g19) k (bodyOf Tryd.f8) [.r, .r, .r, .r, .b] [] j5 (retK (f8C g18 g19) Tryd.f8.results f8o) (f8_s5 a0 a1 a2 a3)
def f8_t (g18 : ((List (Int)) × (Int)) → Option ((List (Int)) × (Int))) (g19 : ((List (Int)) × (Int)) → Option ((Int) × (List Int) × (Int) × (Int) × (Int) × (List (Int)) × (Int))) (Jl5 : (List (Int)) → (List (Int)) → Int → (List ((Int) × ((List Int) × ((Int) × ((Int) × (Unit)))))) → Option ((Int) × (Int) × (List ((Int) × ((List Int) × ((Int) × ((Int) × (Unit)))))))) (a0 : List (Int)) : Option ((Int) × (Int) × (List ((Int) × ((List Int) × ((Int) × ((Int) × (Unit))))))) :=
  bif (decide (((List.length a0 : Nat) : Int) > (65536 : Int))) then (some ((4 : Int), (65536 : Int), [])) else (Jl5 a0 a0 (0 : Int) ([]))
set_option maxRecDepth 100000 in
theorem f8_A (g18 : ((List (Int)) × (Int)) → Option ((List (Int)) × (Int))) (g19 : ((List (Int)) × (Int)) → Option ((Int) × (List Int) × (Int) × (Int) × (Int) × (List (Int)) × (Int))) (Jl5 : St → Option ((Int) × (Int) × (List ((Int) × ((List Int) × ((Int) × ((Int) × (Unit)))))))) (a0 : List (Int)) : evAtJ (f8C g18 g19) [] [(5, Jl5)] (bodyOf Tryd.f8) [] (retK (f8C g18 g19) Tryd.f8.results f8o) (f8_s a0) = f8_t g18 g19 (fun a0 a1 a2 a3 => Jl5 (f8_s5 a0 a1 a2 a3)) a0 := by
  kernel_rfl
set_option maxRecDepth 100000 in
theorem f8_e (k : Nat) (g18 : ((List (Int)) × (Int)) → Option ((List (Int)) × (Int))) (g19 : ((List (Int)) × (Int)) → Option ((Int) × (List Int) × (Int) × (Int) × (Int) × (List (Int)) × (Int)))  (a0 : List (Int)) : f8 k g18 g19 (a0) = f8_t g18 g19 (f8_l5 k g18 g19  k) a0 := by
  have h0 : f8 k g18 g19 (a0) = evAt (f8C g18 g19) k (bodyOf Tryd.f8) [] [] (retK (f8C g18 g19) Tryd.f8.results f8o) (f8_s a0) := by kernel_rfl
  have h1 : keep [] (jt (f8C g18 g19) k (bodyOf Tryd.f8) [] [] (retK (f8C g18 g19) Tryd.f8.results f8o)) = [] := by kernel_rfl
  have h2 : keep [5] (lt (f8C g18 g19) k (bodyOf Tryd.f8) [] [] (retK (f8C g18 g19) Tryd.f8.results f8o)) = [(5, (fun s => loopAt (f8C g18 g19) k (bodyOf Tryd.f8) [.r, .r, .r, .r, .b] [] k (retK (f8C g18 g19) Tryd.f8.results f8o) s))] := by kernel_rfl
  exact h0.trans ((evAt_cut _ [] [5] (by kernel_rfl) h1 h2 (by kernel_rfl) (by kernel_rfl) (by kernel_rfl)).trans (f8_A g18 g19 (fun s => loopAt (f8C g18 g19) k (bodyOf Tryd.f8) [.r, .r, .r, .r, .b] [] k (retK (f8C g18 g19) Tryd.f8.results f8o) s) a0))
def f8_tl5 (g18 : ((List (Int)) × (Int)) → Option ((List (Int)) × (Int))) (g19 : ((List (Int)) × (Int)) → Option ((Int) × (List Int) × (Int) × (Int) × (Int) × (List (Int)) × (Int))) (Jl5 : (List (Int)) → (List (Int)) → Int → (List ((Int) × ((List Int) × ((Int) × ((Int) × (Unit)))))) → Option ((Int) × (Int) × (List ((Int) × ((List Int) × ((Int) × ((Int) × (Unit)))))))) (a0 : List (Int)) (a1 : List (Int)) (a2 : Int) (a3 : List ((Int) × ((List Int) × ((Int) × ((Int) × (Unit)))))) : Option ((Int) × (Int) × (List ((Int) × ((List Int) × ((Int) × ((Int) × (Unit))))))) :=
  (g18 (a1, a2)).bind fun o1 => bif (o1.2 == ((List.length a0 : Nat) : Int)) then (bif (appB 40 (List.length a3) (List.length ([((0 : Int), (([] : List Int), ((0 : Int), (o1.2, ()))))] : List ((Int) × ((List Int) × ((Int) × ((Int) × (Unit)))))))) then some ((0 : Int), (0 : Int), (a3 ++ ([((0 : Int), (([] : List Int), ((0 : Int), (o1.2, ()))))] : List ((Int) × ((List Int) × ((Int) × ((Int) × (Unit)))))))) else none) else ((g19 (o1.1, o1.2)).bind fun o2 => bif (o2.2.2.2.2.1 != (0 : Int)) then (some (o2.2.2.2.2.1, o1.2, [])) else (bif (appB 40 (List.length a3) (List.length ([(o2.1, (o2.2.1, (o2.2.2.1, (o1.2, ()))))] : List ((Int) × ((List Int) × ((Int) × ((Int) × (Unit)))))))) then Jl5 a0 (o2.2.2.2.2.2.1) (o2.2.2.2.2.2.2) (a3 ++ ([(o2.1, (o2.2.1, (o2.2.2.1, (o1.2, ()))))] : List ((Int) × ((List Int) × ((Int) × ((Int) × (Unit))))))) else none))
set_option maxRecDepth 100000 in
theorem f8_Al5 (g18 : ((List (Int)) × (Int)) → Option ((List (Int)) × (Int))) (g19 : ((List (Int)) × (Int)) → Option ((Int) × (List Int) × (Int) × (Int) × (Int) × (List (Int)) × (Int))) (Jl5 : St → Option ((Int) × (Int) × (List ((Int) × ((List Int) × ((Int) × ((Int) × (Unit)))))))) (a0 : List (Int)) (a1 : List (Int)) (a2 : Int) (a3 : List ((Int) × ((List Int) × ((Int) × ((Int) × (Unit)))))) : evAtJ (f8C g18 g19) [] [(5, Jl5)] (bodyOf Tryd.f8) [.r, .r, .r, .r, .b, .b] (retK (f8C g18 g19) Tryd.f8.results f8o) (f8_s5 a0 a1 a2 a3) = f8_tl5 g18 g19 (fun a0 a1 a2 a3 => Jl5 (f8_s5 a0 a1 a2 a3)) a0 a1 a2 a3 := by
  kernel_rfl
set_option maxRecDepth 100000 in
theorem f8_el5 (k : Nat) (g18 : ((List (Int)) × (Int)) → Option ((List (Int)) × (Int))) (g19 : ((List (Int)) × (Int)) → Option ((Int) × (List Int) × (Int) × (Int) × (Int) × (List (Int)) × (Int))) (j5 : Nat) (a0 : List (Int)) (a1 : List (Int)) (a2 : Int) (a3 : List ((Int) × ((List Int) × ((Int) × ((Int) × (Unit)))))) : f8_l5 k g18 g19 (j5 + 1) a0 a1 a2 a3 = f8_tl5 g18 g19 (f8_l5 k g18 g19  j5) a0 a1 a2 a3 := by
  have h0 : f8_l5 k g18 g19 (j5 + 1) a0 a1 a2 a3 = evAt (f8C g18 g19) k (bodyOf Tryd.f8) [.r, .r, .r, .r, .b, .b] [j5] (retK (f8C g18 g19) Tryd.f8.results f8o) (f8_s5 a0 a1 a2 a3) := by kernel_rfl
  have h1 : keep [] (jt (f8C g18 g19) k (bodyOf Tryd.f8) [.r, .r, .r, .r, .b, .b] [j5] (retK (f8C g18 g19) Tryd.f8.results f8o)) = [] := by kernel_rfl
  have h2 : keep [5] (lt (f8C g18 g19) k (bodyOf Tryd.f8) [.r, .r, .r, .r, .b, .b] [j5] (retK (f8C g18 g19) Tryd.f8.results f8o)) = [(5, (fun s => loopAt (f8C g18 g19) k (bodyOf Tryd.f8) [.r, .r, .r, .r, .b] [] j5 (retK (f8C g18 g19) Tryd.f8.results f8o) s))] := by kernel_rfl
  exact h0.trans ((evAt_cut _ [] [5] (by kernel_rfl) h1 h2 (by kernel_rfl) (by kernel_rfl) (by kernel_rfl)).trans (f8_Al5 g18 g19 (fun s => loopAt (f8C g18 g19) k (bodyOf Tryd.f8) [.r, .r, .r, .r, .b] [] j5 (retK (f8C g18 g19) Tryd.f8.results f8o) s) a0 a1 a2 a3))
set_option maxRecDepth 100000 in
theorem f8_ok (k : Nat) (g18 : ((List (Int)) × (Int)) → Option ((List (Int)) × (Int))) (g19 : ((List (Int)) × (Int)) → Option ((Int) × (List Int) × (Int) × (Int) × (Int) × (List (Int)) × (Int))) (hg18 : SigOK Tryd.prog 18 ⟨f18i, f18o, mkFun f18i.tys f18o.tys g18⟩) (hg19 : SigOK Tryd.prog 19 ⟨f19i, f19o, mkFun f19i.tys f19o.tys g19⟩) : SigOK Tryd.prog 8 ⟨f8i, f8o, mkFun f8i.tys f8o.tys (f8 k g18 g19)⟩ :=
  fn_ok (C := (f8C g18 g19)) (l := f8E g18 g19) rfl ⟨⟨hg18, trivial⟩, ⟨hg19, trivial⟩, trivial⟩ (by kernel_rfl) k (fn := Tryd.f8) (by kernel_rfl) (by kernel_rfl) (by kernel_rfl) f8i f8o rfl rfl (show 0 ≤ 48 by decide) (show 0 ≤ 48 by decide)
noncomputable def c8 (k : Nat) : (List (Int)) → Option ((Int) × (Int) × (List ((Int) × ((List Int) × ((Int) × ((Int) × (Unit))))))) := f8 k (c18 k) (c19 k)
theorem c8_ok (k : Nat) : SigOK Tryd.prog 8 ⟨f8i, f8o, mkFun f8i.tys f8o.tys (c8 k)⟩ := f8_ok k (c18 k) (c19 k) (c18_ok k) (c19_ok k)

/-! strings.Join: given -/
def f23i : Sk := ⟨[.lf (.pv (.slice .str)), .lf (.pv .str)], [], []⟩
def f23o : Sk := ⟨[.lf (.pv .str)], [], []⟩
def c23 (k : Nat) : ((List (List Int)) × (List Int)) → Option (List Int) := joinS
theorem c23_ok (k : Nat) : SigOK Tryd.prog 23 ⟨f23i, f23o, mkFun f23i.tys f23o.tys (c23 k)⟩ := joinS_ok

/-! carrefour/lex.Spell -/
def f16i : Sk := ⟨[.lf (.pv (.slice (.cons (.int .i64) (.cons .str (.cons (.int .i64) (.cons (.int .i64) .nil))))))], [], []⟩
def f16o : Sk := ⟨[.lf (.pv .str)], [], []⟩
def f16_k3 : Sk := ⟨sparse 23 [(3, .lf (.own 0)), (6, .lf (.pv (.slice (.cons (.int .i64) (.cons .str (.cons (.int .i64) (.cons (.int .i64) .nil))))))), (7, .lf (.pv (.int .i64))), (8, .lf (.pv (.int .i64)))], [], [some (9, .str)]⟩
noncomputable def f16E (g23 : ((List (List Int)) × (List Int)) → Option (List Int)) : List (Nat × List Sig) := [(23, [⟨f23i, f23o, mkFun f23i.tys f23o.tys g23⟩])]
noncomputable def f16C (g23 : ((List (List Int)) × (List Int)) → Option (List Int)) : Cfg := { P := Tryd.prog, env := lookS (f16E g23), n := 71, npB := 0, npO := 0, hint := fun i => look none [(3, some f16_k3)] i, pops := [] }
def f16_s (a0 : List ((Int) × ((List Int) × ((Int) × ((Int) × (Unit)))))) : St := { enc f16i 71 [⟨(.slice (.cons (.int .i64) (.cons .str (.cons (.int .i64) (.cons (.int .i64) .nil))))), a0⟩] with slots := encAs f16i.slots [⟨(.slice (.cons (.int .i64) (.cons .str (.cons (.int .i64) (.cons (.int .i64) .nil))))), a0⟩] ++ List.replicate 22 .dead }
def f16_s3 (a0 : List ((Int) × ((List Int) × ((Int) × ((Int) × (Unit)))))) (a1 : Int) (a2 : Int) (a3 : List (List Int)) : St := enc f16_k3 71 [⟨(.slice (.cons (.int .i64) (.cons .str (.cons (.int .i64) (.cons (.int .i64) .nil))))), a0⟩, ⟨(.int .i64), a1⟩, ⟨(.int .i64), a2⟩, ⟨(.slice .str), a3⟩]
noncomputable def f16 (k : Nat) (g23 : ((List (List Int)) × (List Int)) → Option (List Int)) : (List ((Int) × ((List Int) × ((Int) × ((Int) × (Unit)))))) → Option (List Int) := fnOf (f16C g23) k Tryd.f16 f16i f16o
noncomputable def f16_l3 (k : Nat) (g23 : ((List (List Int)) × (List Int)) → Option (List Int)) (j3 : Nat) (a0 : List ((Int) × ((List Int) × ((Int) × ((Int) × (Unit)))))) (a1 : Int) (a2 : Int) (a3 : List (List Int)) : Option (List Int) := loopAt (f16C g23) k (bodyOf Tryd.f16) [.r, .r, .l, .r, .b] [] j3 (retK (f16C g23) Tryd.f16.results f16o) (f16_s3 a0 a1 a2 a3)
def f16_t (g23 : ((List (List Int)) × (List Int)) → Option (List Int)) (Jl3 : (List ((Int) × ((List Int) × ((Int) × ((Int) × (Unit)))))) → Int → Int → (List (List Int)) → Option (List Int)) (a0 : List ((Int) × ((List Int) × ((Int) × ((Int) × (Unit)))))) : Option (List Int) :=
  Jl3 a0 ((List.length a0 : Nat) : Int) (0 : Int) ([])
set_option maxRecDepth 100000 in
theorem f16_A (g23 : ((List (List Int)) × (List Int)) → Option (List Int)) (Jl3 : St → Option (List Int)) (a0 : List ((Int) × ((List Int) × ((Int) × ((Int) × (Unit)))))) : evAtJ (f16C g23) [] [(3, Jl3)] (bodyOf Tryd.f16) [] (retK (f16C g23) Tryd.f16.results f16o) (f16_s a0) = f16_t g23 (fun a0 a1 a2 a3 => Jl3 (f16_s3 a0 a1 a2 a3)) a0 := by
  kernel_rfl
set_option maxRecDepth 100000 in
theorem f16_e (k : Nat) (g23 : ((List (List Int)) × (List Int)) → Option (List Int))  (a0 : List ((Int) × ((List Int) × ((Int) × ((Int) × (Unit)))))) : f16 k g23 (a0) = f16_t g23 (f16_l3 k g23  k) a0 := by
  have h0 : f16 k g23 (a0) = evAt (f16C g23) k (bodyOf Tryd.f16) [] [] (retK (f16C g23) Tryd.f16.results f16o) (f16_s a0) := by kernel_rfl
  have h1 : keep [] (jt (f16C g23) k (bodyOf Tryd.f16) [] [] (retK (f16C g23) Tryd.f16.results f16o)) = [] := by kernel_rfl
  have h2 : keep [3] (lt (f16C g23) k (bodyOf Tryd.f16) [] [] (retK (f16C g23) Tryd.f16.results f16o)) = [(3, (fun s => loopAt (f16C g23) k (bodyOf Tryd.f16) [.r, .r, .l, .r, .b] [] k (retK (f16C g23) Tryd.f16.results f16o) s))] := by kernel_rfl
  exact h0.trans ((evAt_cut _ [] [3] (by kernel_rfl) h1 h2 (by kernel_rfl) (by kernel_rfl) (by kernel_rfl)).trans (f16_A g23 (fun s => loopAt (f16C g23) k (bodyOf Tryd.f16) [.r, .r, .l, .r, .b] [] k (retK (f16C g23) Tryd.f16.results f16o) s) a0))
def f16_tl3 (g23 : ((List (List Int)) × (List Int)) → Option (List Int)) (Jl3 : (List ((Int) × ((List Int) × ((Int) × ((Int) × (Unit)))))) → Int → Int → (List (List Int)) → Option (List Int)) (a0 : List ((Int) × ((List Int) × ((Int) × ((Int) × (Unit)))))) (a1 : Int) (a2 : Int) (a3 : List (List Int)) : Option (List Int) :=
  bif (decide (a2 < a1)) then (bif (inB a2 (List.length a0)) then bif ((rdA ((0 : Int), ([], ((0 : Int), ((0 : Int), ())))) a0 (Int.toNat a2)).1 != (0 : Int)) then (bif (appB 16 (List.length a3) (List.length ([(rdA ((0 : Int), ([], ((0 : Int), ((0 : Int), ())))) a0 (Int.toNat a2)).2.1] : List (List Int)))) then Jl3 a0 a1 (IntKind.wrap .i64 (a2 + (1 : Int))) (a3 ++ ([(rdA ((0 : Int), ([], ((0 : Int), ((0 : Int), ())))) a0 (Int.toNat a2)).2.1] : List (List Int))) else none) else (Jl3 a0 a1 (IntKind.wrap .i64 (a2 + (1 : Int))) a3) else none) else ((g23 (a3, ([32] : List Int))).bind fun o1 => some o1)
set_option maxRecDepth 100000 in
theorem f16_Al3 (g23 : ((List (List Int)) × (List Int)) → Option (List Int)) (Jl3 : St → Option (List Int)) (a0 : List ((Int) × ((List Int) × ((Int) × ((Int) × (Unit)))))) (a1 : Int) (a2 : Int) (a3 : List (List Int)) : evAtJ (f16C g23) [] [(3, Jl3)] (bodyOf Tryd.f16) [.r, .r, .l, .r, .b, .b] (retK (f16C g23) Tryd.f16.results f16o) (f16_s3 a0 a1 a2 a3) = f16_tl3 g23 (fun a0 a1 a2 a3 => Jl3 (f16_s3 a0 a1 a2 a3)) a0 a1 a2 a3 := by
  kernel_rfl
set_option maxRecDepth 100000 in
theorem f16_el3 (k : Nat) (g23 : ((List (List Int)) × (List Int)) → Option (List Int)) (j3 : Nat) (a0 : List ((Int) × ((List Int) × ((Int) × ((Int) × (Unit)))))) (a1 : Int) (a2 : Int) (a3 : List (List Int)) : f16_l3 k g23 (j3 + 1) a0 a1 a2 a3 = f16_tl3 g23 (f16_l3 k g23  j3) a0 a1 a2 a3 := by
  have h0 : f16_l3 k g23 (j3 + 1) a0 a1 a2 a3 = evAt (f16C g23) k (bodyOf Tryd.f16) [.r, .r, .l, .r, .b, .b] [j3] (retK (f16C g23) Tryd.f16.results f16o) (f16_s3 a0 a1 a2 a3) := by kernel_rfl
  have h1 : keep [] (jt (f16C g23) k (bodyOf Tryd.f16) [.r, .r, .l, .r, .b, .b] [j3] (retK (f16C g23) Tryd.f16.results f16o)) = [] := by kernel_rfl
  have h2 : keep [3] (lt (f16C g23) k (bodyOf Tryd.f16) [.r, .r, .l, .r, .b, .b] [j3] (retK (f16C g23) Tryd.f16.results f16o)) = [(3, (fun s => loopAt (f16C g23) k (bodyOf Tryd.f16) [.r, .r, .l, .r, .b] [] j3 (retK (f16C g23) Tryd.f16.results f16o) s))] := by kernel_rfl
  exact h0.trans ((evAt_cut _ [] [3] (by kernel_rfl) h1 h2 (by kernel_rfl) (by kernel_rfl) (by kernel_rfl)).trans (f16_Al3 g23 (fun s => loopAt (f16C g23) k (bodyOf Tryd.f16) [.r, .r, .l, .r, .b] [] j3 (retK (f16C g23) Tryd.f16.results f16o) s) a0 a1 a2 a3))
set_option maxRecDepth 100000 in
theorem f16_ok (k : Nat) (g23 : ((List (List Int)) × (List Int)) → Option (List Int)) (hg23 : SigOK Tryd.prog 23 ⟨f23i, f23o, mkFun f23i.tys f23o.tys g23⟩) : SigOK Tryd.prog 16 ⟨f16i, f16o, mkFun f16i.tys f16o.tys (f16 k g23)⟩ :=
  fn_ok (C := (f16C g23)) (l := f16E g23) rfl ⟨⟨hg23, trivial⟩, trivial⟩ (by kernel_rfl) k (fn := Tryd.f16) (by kernel_rfl) (by kernel_rfl) (by kernel_rfl) f16i f16o rfl rfl (show 0 ≤ 48 by decide) (show 0 ≤ 48 by decide)
noncomputable def c16 (k : Nat) : (List ((Int) × ((List Int) × ((Int) × ((Int) × (Unit)))))) → Option (List Int) := f16 k (c23 k)
theorem c16_ok (k : Nat) : SigOK Tryd.prog 16 ⟨f16i, f16o, mkFun f16i.tys f16o.tys (c16 k)⟩ := f16_ok k (c23 k) (c23_ok k)

/-! carrefour/lex.Reserved -/
def f13i : Sk := ⟨[.lf (.pv .str)], [], []⟩
def f13o : Sk := ⟨[.lf (.pv .bool)], [], []⟩
def f13_k16 : Sk := ⟨sparse 50 [(3, .lf (.pv .str))], [], []⟩
def f13_k26 : Sk := ⟨sparse 50 [(3, .lf (.pv .str))], [], []⟩
def f13_k33 : Sk := ⟨sparse 50 [(3, .lf (.pv .str))], [], []⟩
noncomputable def f13E  : List (Nat × List Sig) := []
noncomputable def f13C  : Cfg := { P := Tryd.prog, env := lookS (f13E ), n := 98, npB := 0, npO := 0, hint := fun i => look none [(16, some f13_k16), (26, some f13_k26), (33, some f13_k33)] i, pops := [] }
def f13_s (a0 : List Int) : St := { enc f13i 98 [⟨.str, a0⟩] with slots := encAs f13i.slots [⟨.str, a0⟩] ++ List.replicate 49 .dead }
def f13_s16 (a0 : List Int) : St := enc f13_k16 98 [⟨.str, a0⟩]
def f13_s26 (a0 : List Int) : St := enc f13_k26 98 [⟨.str, a0⟩]
def f13_s33 (a0 : List Int) : St := enc f13_k33 98 [⟨.str, a0⟩]
noncomputable def f13 (k : Nat)  : (List Int) → Option (Bool) := fnOf f13C k Tryd.f13 f13i f13o
noncomputable def f13_j16 (k : Nat)   (a0 : List Int) : Option (Bool) := evAt f13C k (bodyOf Tryd.f13) [.r, .l, .r, .b, .l, .b, .b, .b, .b, .l, .r] [] (retK f13C Tryd.f13.results f13o) (f13_s16 a0)
noncomputable def f13_j26 (k : Nat)   (a0 : List Int) : Option (Bool) := evAt f13C k (bodyOf Tryd.f13) [.r, .l, .r, .b, .l, .b, .b, .b, .b, .l, .r, .r] [] (retK f13C Tryd.f13.results f13o) (f13_s26 a0)
noncomputable def f13_j33 (k : Nat)   (a0 : List Int) : Option (Bool) := evAt f13C k (bodyOf Tryd.f13) [.r, .l, .r, .b, .l, .b, .b, .b, .b, .l, .r, .r, .r] [] (retK f13C Tryd.f13.results f13o) (f13_s33 a0)
def f13_t  (Jj16 : (List Int) → Option (Bool)) (a0 : List Int) : Option (Bool) :=
  bif (a0 == ([99, 121, 99, 108, 101] : List Int)) then (some true) else (bif (a0 == ([116, 111] : List Int)) then (some true) else (bif (a0 == ([98, 121] : List Int)) then (some true) else (bif (a0 == ([112, 101, 97, 107] : List Int)) then (some true) else (bif (a0 == ([110, 111, 100, 101] : List Int)) then (some true) else (bif (a0 == ([104, 101, 97, 100] : List Int)) then (some true) else (bif (a0 == ([118, 111, 108, 117, 109, 101] : List Int)) then (some true) else (bif (a0 == ([102, 108, 111, 119] : List Int)) then (some true) else (bif (a0 == ([117, 115, 101] : List Int)) then (some true) else (bif (a0 == ([115, 112, 101, 101, 100] : List Int)) then (some true) else (bif (a0 == ([103, 114, 97, 100, 101] : List Int)) then (some true) else (bif (a0 == ([119, 105, 100, 116, 104] : List Int)) then (some true) else (bif (a0 == ([108, 101, 110, 103, 116, 104] : List Int)) then (some true) else (bif (a0 == ([103, 114, 101, 101, 110] : List Int)) then (some true) else (Jj16 a0))))))))))))))
set_option maxRecDepth 100000 in
theorem f13_A  (Jj16 : St → Option (Bool)) (Jj26 : St → Option (Bool)) (Jj33 : St → Option (Bool)) (a0 : List Int) : evAtJ f13C [(16, Jj16), (26, Jj26), (33, Jj33)] [] (bodyOf Tryd.f13) [] (retK f13C Tryd.f13.results f13o) (f13_s a0) = f13_t  (fun a0 => Jj16 (f13_s16 a0)) a0 := by
  kernel_rfl
set_option maxRecDepth 100000 in
theorem f13_e (k : Nat)   (a0 : List Int) : f13 k  (a0) = f13_t  (f13_j16 k  ) a0 := by
  have h0 : f13 k  (a0) = evAt f13C k (bodyOf Tryd.f13) [] [] (retK f13C Tryd.f13.results f13o) (f13_s a0) := by kernel_rfl
  have h1 : keep [16, 26, 33] (jt f13C k (bodyOf Tryd.f13) [] [] (retK f13C Tryd.f13.results f13o)) = [(16, (fun s => evAt f13C k (bodyOf Tryd.f13) [.r, .l, .r, .b, .l, .b, .b, .b, .b, .l, .r] [] (retK f13C Tryd.f13.results f13o) s)), (26, (fun s => evAt f13C k (bodyOf Tryd.f13) [.r, .l, .r, .b, .l, .b, .b, .b, .b, .l, .r, .r] [] (retK f13C Tryd.f13.results f13o) s)), (33, (fun s => evAt f13C k (bodyOf Tryd.f13) [.r, .l, .r, .b, .l, .b, .b, .b, .b, .l, .r, .r, .r] [] (retK f13C Tryd.f13.results f13o) s))] := by kernel_rfl
  have h2 : keep [] (lt f13C k (bodyOf Tryd.f13) [] [] (retK f13C Tryd.f13.results f13o)) = [] := by kernel_rfl
  exact h0.trans ((evAt_cut _ [16, 26, 33] [] (by kernel_rfl) h1 h2 (by kernel_rfl) (by kernel_rfl) (by kernel_rfl)).trans (f13_A  (fun s => evAt f13C k (bodyOf Tryd.f13) [.r, .l, .r, .b, .l, .b, .b, .b, .b, .l, .r] [] (retK f13C Tryd.f13.results f13o) s) (fun s => evAt f13C k (bodyOf Tryd.f13) [.r, .l, .r, .b, .l, .b, .b, .b, .b, .l, .r, .r] [] (retK f13C Tryd.f13.results f13o) s) (fun s => evAt f13C k (bodyOf Tryd.f13) [.r, .l, .r, .b, .l, .b, .b, .b, .b, .l, .r, .r, .r] [] (retK f13C Tryd.f13.results f13o) s) a0))
def f13_tj16  (Jj26 : (List Int) → Option (Bool)) (a0 : List Int) : Option (Bool) :=
  bif (a0 == ([119, 97, 108, 107] : List Int)) then (some true) else (bif (a0 == ([119, 105, 116, 104] : List Int)) then (some true) else (bif (a0 == ([108, 111, 110, 103] : List Int)) then (some true) else (bif (a0 == ([112, 97, 99, 101] : List Int)) then (some true) else (bif (a0 == ([108, 101, 97, 115, 116] : List Int)) then (some true) else (bif (a0 == ([112, 104, 97, 115, 101] : List Int)) then (some true) else (bif (a0 == ([103, 114, 111, 117, 112] : List Int)) then (some true) else (bif (a0 == ([114, 105, 110, 103] : List Int)) then (some true) else (bif (a0 == ([102, 114, 101, 101] : List Int)) then (some true) else (bif (a0 == ([102, 111, 101] : List Int)) then (some true) else (Jj26 a0))))))))))
set_option maxRecDepth 100000 in
theorem f13_Aj16  (Jj16 : St → Option (Bool)) (Jj26 : St → Option (Bool)) (Jj33 : St → Option (Bool)) (a0 : List Int) : evAtJ f13C [(16, Jj16), (26, Jj26), (33, Jj33)] [] (bodyOf Tryd.f13) [.r, .l, .r, .b, .l, .b, .b, .b, .b, .l, .r] (retK f13C Tryd.f13.results f13o) (f13_s16 a0) = f13_tj16  (fun a0 => Jj26 (f13_s26 a0)) a0 := by
  kernel_rfl
set_option maxRecDepth 100000 in
theorem f13_ej16 (k : Nat)   (a0 : List Int) : f13_j16 k   a0 = f13_tj16  (f13_j26 k  ) a0 := by
  have h0 : f13_j16 k   a0 = evAt f13C k (bodyOf Tryd.f13) [.r, .l, .r, .b, .l, .b, .b, .b, .b, .l, .r] [] (retK f13C Tryd.f13.results f13o) (f13_s16 a0) := by kernel_rfl
  have h1 : keep [16, 26, 33] (jt f13C k (bodyOf Tryd.f13) [.r, .l, .r, .b, .l, .b, .b, .b, .b, .l, .r] [] (retK f13C Tryd.f13.results f13o)) = [(16, (fun s => evAt f13C k (bodyOf Tryd.f13) [.r, .l, .r, .b, .l, .b, .b, .b, .b, .l, .r] [] (retK f13C Tryd.f13.results f13o) s)), (26, (fun s => evAt f13C k (bodyOf Tryd.f13) [.r, .l, .r, .b, .l, .b, .b, .b, .b, .l, .r, .r] [] (retK f13C Tryd.f13.results f13o) s)), (33, (fun s => evAt f13C k (bodyOf Tryd.f13) [.r, .l, .r, .b, .l, .b, .b, .b, .b, .l, .r, .r, .r] [] (retK f13C Tryd.f13.results f13o) s))] := by kernel_rfl
  have h2 : keep [] (lt f13C k (bodyOf Tryd.f13) [.r, .l, .r, .b, .l, .b, .b, .b, .b, .l, .r] [] (retK f13C Tryd.f13.results f13o)) = [] := by kernel_rfl
  exact h0.trans ((evAt_cut _ [16, 26, 33] [] (by kernel_rfl) h1 h2 (by kernel_rfl) (by kernel_rfl) (by kernel_rfl)).trans (f13_Aj16  (fun s => evAt f13C k (bodyOf Tryd.f13) [.r, .l, .r, .b, .l, .b, .b, .b, .b, .l, .r] [] (retK f13C Tryd.f13.results f13o) s) (fun s => evAt f13C k (bodyOf Tryd.f13) [.r, .l, .r, .b, .l, .b, .b, .b, .b, .l, .r, .r] [] (retK f13C Tryd.f13.results f13o) s) (fun s => evAt f13C k (bodyOf Tryd.f13) [.r, .l, .r, .b, .l, .b, .b, .b, .b, .l, .r, .r, .r] [] (retK f13C Tryd.f13.results f13o) s) a0))
def f13_tj26  (Jj33 : (List Int) → Option (Bool)) (a0 : List Int) : Option (Bool) :=
  bif (a0 == ([97, 114, 116, 101, 114, 121] : List Int)) then (some true) else (bif (a0 == ([115, 116, 111, 112] : List Int)) then (some true) else (bif (a0 == ([111, 117, 116] : List Int)) then (some true) else (bif (a0 == ([105, 110] : List Int)) then (some true) else (bif (a0 == ([97, 104, 101, 97, 100] : List Int)) then (some true) else (bif (a0 == ([98, 97, 99, 107] : List Int)) then (some true) else (bif (a0 == ([119, 101, 105, 103, 104, 116, 115] : List Int)) then (some true) else (Jj33 a0)))))))
set_option maxRecDepth 100000 in
theorem f13_Aj26  (Jj16 : St → Option (Bool)) (Jj26 : St → Option (Bool)) (Jj33 : St → Option (Bool)) (a0 : List Int) : evAtJ f13C [(16, Jj16), (26, Jj26), (33, Jj33)] [] (bodyOf Tryd.f13) [.r, .l, .r, .b, .l, .b, .b, .b, .b, .l, .r, .r] (retK f13C Tryd.f13.results f13o) (f13_s26 a0) = f13_tj26  (fun a0 => Jj33 (f13_s33 a0)) a0 := by
  kernel_rfl
set_option maxRecDepth 100000 in
theorem f13_ej26 (k : Nat)   (a0 : List Int) : f13_j26 k   a0 = f13_tj26  (f13_j33 k  ) a0 := by
  have h0 : f13_j26 k   a0 = evAt f13C k (bodyOf Tryd.f13) [.r, .l, .r, .b, .l, .b, .b, .b, .b, .l, .r, .r] [] (retK f13C Tryd.f13.results f13o) (f13_s26 a0) := by kernel_rfl
  have h1 : keep [16, 26, 33] (jt f13C k (bodyOf Tryd.f13) [.r, .l, .r, .b, .l, .b, .b, .b, .b, .l, .r, .r] [] (retK f13C Tryd.f13.results f13o)) = [(16, (fun s => evAt f13C k (bodyOf Tryd.f13) [.r, .l, .r, .b, .l, .b, .b, .b, .b, .l, .r] [] (retK f13C Tryd.f13.results f13o) s)), (26, (fun s => evAt f13C k (bodyOf Tryd.f13) [.r, .l, .r, .b, .l, .b, .b, .b, .b, .l, .r, .r] [] (retK f13C Tryd.f13.results f13o) s)), (33, (fun s => evAt f13C k (bodyOf Tryd.f13) [.r, .l, .r, .b, .l, .b, .b, .b, .b, .l, .r, .r, .r] [] (retK f13C Tryd.f13.results f13o) s))] := by kernel_rfl
  have h2 : keep [] (lt f13C k (bodyOf Tryd.f13) [.r, .l, .r, .b, .l, .b, .b, .b, .b, .l, .r, .r] [] (retK f13C Tryd.f13.results f13o)) = [] := by kernel_rfl
  exact h0.trans ((evAt_cut _ [16, 26, 33] [] (by kernel_rfl) h1 h2 (by kernel_rfl) (by kernel_rfl) (by kernel_rfl)).trans (f13_Aj26  (fun s => evAt f13C k (bodyOf Tryd.f13) [.r, .l, .r, .b, .l, .b, .b, .b, .b, .l, .r] [] (retK f13C Tryd.f13.results f13o) s) (fun s => evAt f13C k (bodyOf Tryd.f13) [.r, .l, .r, .b, .l, .b, .b, .b, .b, .l, .r, .r] [] (retK f13C Tryd.f13.results f13o) s) (fun s => evAt f13C k (bodyOf Tryd.f13) [.r, .l, .r, .b, .l, .b, .b, .b, .b, .l, .r, .r, .r] [] (retK f13C Tryd.f13.results f13o) s) a0))
def f13_tj33   (a0 : List Int) : Option (Bool) :=
  bif (a0 == ([112, 108, 97, 110] : List Int)) then (some true) else (bif (a0 == ([111, 102, 102, 115, 101, 116] : List Int)) then (some true) else (bif (a0 == ([115, 117, 109] : List Int)) then (some true) else (bif (a0 == ([115, 112, 108, 105, 116] : List Int)) then (some true) else (bif (a0 == ([121, 101, 108, 108, 111, 119] : List Int)) then (some true) else (bif (a0 == ([114, 101, 100] : List Int)) then (some true) else (bif (a0 == ([102, 108, 97, 115, 104] : List Int)) then (some true) else (bif (a0 == ([98, 101, 115, 116] : List Int)) then (some true) else (bif (a0 == ([121, 101, 115] : List Int)) then (some true) else (bif (a0 == ([110, 111] : List Int)) then (some true) else (bif (a0 == ([115, 112, 101, 110, 116] : List Int)) then (some true) else (some false)))))))))))
set_option maxRecDepth 100000 in
theorem f13_Aj33  (Jj16 : St → Option (Bool)) (Jj26 : St → Option (Bool)) (Jj33 : St → Option (Bool)) (a0 : List Int) : evAtJ f13C [(16, Jj16), (26, Jj26), (33, Jj33)] [] (bodyOf Tryd.f13) [.r, .l, .r, .b, .l, .b, .b, .b, .b, .l, .r, .r, .r] (retK f13C Tryd.f13.results f13o) (f13_s33 a0) = f13_tj33   a0 := by
  kernel_rfl
set_option maxRecDepth 100000 in
theorem f13_ej33 (k : Nat)   (a0 : List Int) : f13_j33 k   a0 = f13_tj33   a0 := by
  have h0 : f13_j33 k   a0 = evAt f13C k (bodyOf Tryd.f13) [.r, .l, .r, .b, .l, .b, .b, .b, .b, .l, .r, .r, .r] [] (retK f13C Tryd.f13.results f13o) (f13_s33 a0) := by kernel_rfl
  have h1 : keep [16, 26, 33] (jt f13C k (bodyOf Tryd.f13) [.r, .l, .r, .b, .l, .b, .b, .b, .b, .l, .r, .r, .r] [] (retK f13C Tryd.f13.results f13o)) = [(16, (fun s => evAt f13C k (bodyOf Tryd.f13) [.r, .l, .r, .b, .l, .b, .b, .b, .b, .l, .r] [] (retK f13C Tryd.f13.results f13o) s)), (26, (fun s => evAt f13C k (bodyOf Tryd.f13) [.r, .l, .r, .b, .l, .b, .b, .b, .b, .l, .r, .r] [] (retK f13C Tryd.f13.results f13o) s)), (33, (fun s => evAt f13C k (bodyOf Tryd.f13) [.r, .l, .r, .b, .l, .b, .b, .b, .b, .l, .r, .r, .r] [] (retK f13C Tryd.f13.results f13o) s))] := by kernel_rfl
  have h2 : keep [] (lt f13C k (bodyOf Tryd.f13) [.r, .l, .r, .b, .l, .b, .b, .b, .b, .l, .r, .r, .r] [] (retK f13C Tryd.f13.results f13o)) = [] := by kernel_rfl
  exact h0.trans ((evAt_cut _ [16, 26, 33] [] (by kernel_rfl) h1 h2 (by kernel_rfl) (by kernel_rfl) (by kernel_rfl)).trans (f13_Aj33  (fun s => evAt f13C k (bodyOf Tryd.f13) [.r, .l, .r, .b, .l, .b, .b, .b, .b, .l, .r] [] (retK f13C Tryd.f13.results f13o) s) (fun s => evAt f13C k (bodyOf Tryd.f13) [.r, .l, .r, .b, .l, .b, .b, .b, .b, .l, .r, .r] [] (retK f13C Tryd.f13.results f13o) s) (fun s => evAt f13C k (bodyOf Tryd.f13) [.r, .l, .r, .b, .l, .b, .b, .b, .b, .l, .r, .r, .r] [] (retK f13C Tryd.f13.results f13o) s) a0))
set_option maxRecDepth 100000 in
theorem f13_ok (k : Nat)   : SigOK Tryd.prog 13 ⟨f13i, f13o, mkFun f13i.tys f13o.tys (f13 k )⟩ :=
  fn_ok (C := f13C) (l := f13E ) rfl trivial (by kernel_rfl) k (fn := Tryd.f13) (by kernel_rfl) (by kernel_rfl) (by kernel_rfl) f13i f13o rfl rfl (show 0 ≤ 48 by decide) (show 0 ≤ 48 by decide)
noncomputable def c13 (k : Nat) : (List Int) → Option (Bool) := f13 k 
theorem c13_ok (k : Nat) : SigOK Tryd.prog 13 ⟨f13i, f13o, mkFun f13i.tys f13o.tys (c13 k)⟩ := f13_ok k  

/-! carrefour/carrefourlaw04.awake -/
def f9i : Sk := ⟨[], [], []⟩
def f9o : Sk := ⟨[.lf (.pv .bool)], [], []⟩
noncomputable def f9E (g8 : (List (Int)) → Option ((Int) × (Int) × (List ((Int) × ((List Int) × ((Int) × ((Int) × (Unit)))))))) (g16 : (List ((Int) × ((List Int) × ((Int) × ((Int) × (Unit)))))) → Option (List Int)) (g13 : (List Int) → Option (Bool)) : List (Nat × List Sig) := [(8, [⟨f8i, f8o, mkFun f8i.tys f8o.tys g8⟩]), (16, [⟨f16i, f16o, mkFun f16i.tys f16o.tys g16⟩]), (13, [⟨f13i, f13o, mkFun f13i.tys f13o.tys g13⟩])]
noncomputable def f9C (g8 : (List (Int)) → Option ((Int) × (Int) × (List ((Int) × ((List Int) × ((Int) × ((Int) × (Unit)))))))) (g16 : (List ((Int) × ((List Int) × ((Int) × ((Int) × (Unit)))))) → Option (List Int)) (g13 : (List Int) → Option (Bool)) : Cfg := { P := Tryd.prog, env := lookS (f9E g8 g16 g13), n := 92, npB := 0, npO := 0, hint := fun i => look none [] i, pops := [] }
def f9_s  : St := { enc f9i 92 [] with slots := encAs f9i.slots [] ++ List.replicate 44 .dead }
noncomputable def f9 (k : Nat) (g8 : (List (Int)) → Option ((Int) × (Int) × (List ((Int) × ((List Int) × ((Int) × ((Int) × (Unit)))))))) (g16 : (List ((Int) × ((List Int) × ((Int) × ((Int) × (Unit)))))) → Option (List Int)) (g13 : (List Int) → Option (Bool)) : (Unit) → Option (Bool) := fnOf (f9C g8 g16 g13) k Tryd.f9 f9i f9o
def f9_t (g8 : (List (Int)) → Option ((Int) × (Int) × (List ((Int) × ((List Int) × ((Int) × ((Int) × (Unit)))))))) (g16 : (List ((Int) × ((List Int) × ((Int) × ((Int) × (Unit)))))) → Option (List Int)) (g13 : (List Int) → Option (Bool))   : Option (Bool) :=
  bif (decide (0 < List.length ([(104 : Int), (101 : Int), (97 : Int), (100 : Int), (32 : Int), (110 : Int), (49 : Int), (32 : Int), (118 : Int), (111 : Int), (108 : Int), (117 : Int), (109 : Int), (101 : Int), (32 : Int), (52 : Int), (48 : Int), (59 : Int), (32 : Int), (35 : Int), (32 : Int), (115 : Int), (111 : Int)] : List (Int)))) then (g8 (([(104 : Int), (101 : Int), (97 : Int), (100 : Int), (32 : Int), (110 : Int), (49 : Int), (32 : Int), (118 : Int), (111 : Int), (108 : Int), (117 : Int), (109 : Int), (101 : Int), (32 : Int), (52 : Int), (48 : Int), (59 : Int), (32 : Int), (35 : Int), (32 : Int), (115 : Int), (111 : Int)] : List (Int)))).bind fun o1 => bif (o1.1 == (0 : Int)) then (bif (((List.length o1.2.2 : Nat) : Int) == (6 : Int)) then (bif (inB (1 : Int) (List.length o1.2.2)) then bif ((rdA ((0 : Int), ([], ((0 : Int), ((0 : Int), ())))) o1.2.2 (Int.toNat (1 : Int))).1 == (1 : Int)) then (bif (inB (3 : Int) (List.length o1.2.2)) then bif ((rdA ((0 : Int), ([], ((0 : Int), ((0 : Int), ())))) o1.2.2 (Int.toNat (3 : Int))).2.2.1 == (40 : Int)) then ((g16 (o1.2.2)).bind fun o2 => bif (o2 == ([104, 101, 97, 100, 32, 110, 49, 32, 118, 111, 108, 117, 109, 101, 32, 52, 48, 32, 59] : List Int)) then ((g13 (([104, 101, 97, 100] : List Int))).bind fun o3 => bif o3 then ((g13 (([110, 49] : List Int))).bind fun o4 => some (!o4)) else (some false)) else (some false)) else (some false) else none) else (some false) else none) else (some false)) else (some false) else none
set_option maxRecDepth 100000 in
theorem f9_A (g8 : (List (Int)) → Option ((Int) × (Int) × (List ((Int) × ((List Int) × ((Int) × ((Int) × (Unit)))))))) (g16 : (List ((Int) × ((List Int) × ((Int) × ((Int) × (Unit)))))) → Option (List Int)) (g13 : (List Int) → Option (Bool))   : evAtJ (f9C g8 g16 g13) [] [] (bodyOf Tryd.f9) [] (retK (f9C g8 g16 g13) Tryd.f9.results f9o) (f9_s ) = f9_t g8 g16 g13   := by
  kernel_rfl
set_option maxRecDepth 100000 in
theorem f9_e (k : Nat) (g8 : (List (Int)) → Option ((Int) × (Int) × (List ((Int) × ((List Int) × ((Int) × ((Int) × (Unit)))))))) (g16 : (List ((Int) × ((List Int) × ((Int) × ((Int) × (Unit)))))) → Option (List Int)) (g13 : (List Int) → Option (Bool))   : f9 k g8 g16 g13 () = f9_t g8 g16 g13   := by
  have h0 : f9 k g8 g16 g13 () = evAt (f9C g8 g16 g13) k (bodyOf Tryd.f9) [] [] (retK (f9C g8 g16 g13) Tryd.f9.results f9o) (f9_s ) := by kernel_rfl
  have h1 : keep [] (jt (f9C g8 g16 g13) k (bodyOf Tryd.f9) [] [] (retK (f9C g8 g16 g13) Tryd.f9.results f9o)) = [] := by kernel_rfl
  have h2 : keep [] (lt (f9C g8 g16 g13) k (bodyOf Tryd.f9) [] [] (retK (f9C g8 g16 g13) Tryd.f9.results f9o)) = [] := by kernel_rfl
  exact h0.trans ((evAt_cut _ [] [] (by kernel_rfl) h1 h2 (by kernel_rfl) (by kernel_rfl) (by kernel_rfl)).trans (f9_A g8 g16 g13  ))
set_option maxRecDepth 100000 in
theorem f9_ok (k : Nat) (g8 : (List (Int)) → Option ((Int) × (Int) × (List ((Int) × ((List Int) × ((Int) × ((Int) × (Unit)))))))) (g16 : (List ((Int) × ((List Int) × ((Int) × ((Int) × (Unit)))))) → Option (List Int)) (g13 : (List Int) → Option (Bool)) (hg8 : SigOK Tryd.prog 8 ⟨f8i, f8o, mkFun f8i.tys f8o.tys g8⟩) (hg16 : SigOK Tryd.prog 16 ⟨f16i, f16o, mkFun f16i.tys f16o.tys g16⟩) (hg13 : SigOK Tryd.prog 13 ⟨f13i, f13o, mkFun f13i.tys f13o.tys g13⟩) : SigOK Tryd.prog 9 ⟨f9i, f9o, mkFun f9i.tys f9o.tys (f9 k g8 g16 g13)⟩ :=
  fn_ok (C := (f9C g8 g16 g13)) (l := f9E g8 g16 g13) rfl ⟨⟨hg8, trivial⟩, ⟨hg16, trivial⟩, ⟨hg13, trivial⟩, trivial⟩ (by kernel_rfl) k (fn := Tryd.f9) (by kernel_rfl) (by kernel_rfl) (by kernel_rfl) f9i f9o rfl rfl (show 0 ≤ 48 by decide) (show 0 ≤ 48 by decide)
noncomputable def c9 (k : Nat) : (Unit) → Option (Bool) := f9 k (c8 k) (c16 k) (c13 k)
theorem c9_ok (k : Nat) : SigOK Tryd.prog 9 ⟨f9i, f9o, mkFun f9i.tys f9o.tys (c9 k)⟩ := f9_ok k (c8 k) (c16 k) (c13 k) (c8_ok k) (c16_ok k) (c13_ok k)

/-! carrefour/carrefourlaw04.LexLong -/
def f4i : Sk := ⟨[], [], []⟩
def f4o : Sk := ⟨[.lf (.pv .bool)], [], []⟩
def f4_k3 : Sk := ⟨sparse 141 [(1, .lf (.own 0)), (2, .lf (.pv (.int .i64)))], [], [some (5, (.int .u8))]⟩
def f4_k10 : Sk := ⟨sparse 141 [(3, .lf (.own 0)), (4, .lf (.pv (.int .i64))), (7, .lf (.pv (.int .i64))), (8, .lf (.pv (.int .i64))), (9, .lf (.pv .str))], [], [some (29, (.cons (.int .i64) (.cons .str (.cons (.int .i64) (.cons (.int .i64) .nil)))))]⟩
def f4_k13 : Sk := ⟨sparse 141 [(3, .lf (.own 0)), (4, .lf (.pv (.int .i64))), (7, .lf (.pv (.int .i64))), (8, .lf (.pv (.int .i64))), (9, .lf (.pv .str)), (10, .lf (.pv .str))], [], [some (29, (.cons (.int .i64) (.cons .str (.cons (.int .i64) (.cons (.int .i64) .nil)))))]⟩
noncomputable def f4E (g8 : (List (Int)) → Option ((Int) × (Int) × (List ((Int) × ((List Int) × ((Int) × ((Int) × (Unit)))))))) (g9 : (Unit) → Option (Bool)) : List (Nat × List Sig) := [(8, [⟨f8i, f8o, mkFun f8i.tys f8o.tys g8⟩]), (9, [⟨f9i, f9o, mkFun f9i.tys f9o.tys g9⟩])]
noncomputable def f4C (g8 : (List (Int)) → Option ((Int) × (Int) × (List ((Int) × ((List Int) × ((Int) × ((Int) × (Unit)))))))) (g9 : (Unit) → Option (Bool)) : Cfg := { P := Tryd.prog, env := lookS (f4E g8 g9), n := 189, npB := 0, npO := 0, hint := fun i => look none [(3, some f4_k3), (10, some f4_k10), (13, some f4_k13)] i, pops := [] }
def f4_s  : St := { enc f4i 189 [] with slots := encAs f4i.slots [] ++ List.replicate 141 .dead }
def f4_s3 (a0 : Int) (a1 : List (Int)) : St := enc f4_k3 189 [⟨(.int .i64), a0⟩, ⟨(.slice (.int .u8)), a1⟩]
def f4_s10 (a0 : Int) (a1 : Int) (a2 : Int) (a3 : List Int) (a4 : List ((Int) × ((List Int) × ((Int) × ((Int) × (Unit)))))) : St := enc f4_k10 189 [⟨(.int .i64), a0⟩, ⟨(.int .i64), a1⟩, ⟨(.int .i64), a2⟩, ⟨.str, a3⟩, ⟨(.slice (.cons (.int .i64) (.cons .str (.cons (.int .i64) (.cons (.int .i64) .nil))))), a4⟩]
def f4_s13 (a0 : Int) (a1 : Int) (a2 : Int) (a3 : List Int) (a4 : List Int) (a5 : List ((Int) × ((List Int) × ((Int) × ((Int) × (Unit)))))) : St := enc f4_k13 189 [⟨(.int .i64), a0⟩, ⟨(.int .i64), a1⟩, ⟨(.int .i64), a2⟩, ⟨.str, a3⟩, ⟨.str, a4⟩, ⟨(.slice (.cons (.int .i64) (.cons .str (.cons (.int .i64) (.cons (.int .i64) .nil))))), a5⟩]
noncomputable def f4 (k : Nat) (g8 : (List (Int)) → Option ((Int) × (Int) × (List ((Int) × ((List Int) × ((Int) × ((Int) × (Unit)))))))) (g9 : (Unit) → Option (Bool)) : (Unit) → Option (Bool) := fnOf (f4C g8 g9) k Tryd.f4 f4i f4o
noncomputable def f4_l3 (k : Nat) (g8 : (List (Int)) → Option ((Int) × (Int) × (List ((Int) × ((List Int) × ((Int) × ((Int) × (Unit)))))))) (g9 : (Unit) → Option (Bool)) (j3 : Nat) (a0 : Int) (a1 : List (Int)) : Option (Bool) := loopAt (f4C g8 g9) k (bodyOf Tryd.f4) [.r, .r, .l, .r, .b] [] j3 (retK (f4C g8 g9) Tryd.f4.results f4o) (f4_s3 a0 a1)
noncomputable def f4_l10 (k : Nat) (g8 : (List (Int)) → Option ((Int) × (Int) × (List ((Int) × ((List Int) × ((Int) × ((Int) × (Unit)))))))) (g9 : (Unit) → Option (Bool)) (j10 : Nat) (a0 : Int) (a1 : Int) (a2 : Int) (a3 : List Int) (a4 : List ((Int) × ((List Int) × ((Int) × ((Int) × (Unit)))))) : Option (Bool) := loopAt (f4C g8 g9) k (bodyOf Tryd.f4) [.r, .r, .r, .r, .r, .r, .r, .l, .b] [] j10 (retK (f4C g8 g9) Tryd.f4.results f4o) (f4_s10 a0 a1 a2 a3 a4)
noncomputable def f4_l13 (k : Nat) (g8 : (List (Int)) → Option ((Int) × (Int) × (List ((Int) × ((List Int) × ((Int) × ((Int) × (Unit)))))))) (g9 : (Unit) → Option (Bool)) (j13 : Nat) (a0 : Int) (a1 : Int) (a2 : Int) (a3 : List Int) (a4 : List Int) (a5 : List ((Int) × ((List Int) × ((Int) × ((Int) × (Unit)))))) : Option (Bool) := loopAt (f4C g8 g9) k (bodyOf Tryd.f4) [.r, .r, .r, .r, .r, .r, .r, .r, .r, .l, .b] [] j13 (retK (f4C g8 g9) Tryd.f4.results f4o) (f4_s13 a0 a1 a2 a3 a4 a5)
def f4_t (g8 : (List (Int)) → Option ((Int) × (Int) × (List ((Int) × ((List Int) × ((Int) × ((Int) × (Unit)))))))) (g9 : (Unit) → Option (Bool)) (Jl3 : Int → (List (Int)) → Option (Bool))  : Option (Bool) :=
  bif (decide (0 ≤ (65536 : Int)) && decide ((65536 : Int) = (65536 : Int)) && decide (((1 : Nat) : Int) * (65536 : Int) ≤ 140737488355328) && decide ((65536 : Int) ≤ 9223372036854775807)) then Jl3 (0 : Int) (List.replicate (Int.toNat (65536 : Int)) (0 : Int)) else none
set_option maxRecDepth 100000 in
theorem f4_A (g8 : (List (Int)) → Option ((Int) × (Int) × (List ((Int) × ((List Int) × ((Int) × ((Int) × (Unit)))))))) (g9 : (Unit) → Option (Bool)) (Jl3 : St → Option (Bool)) (Jl10 : St → Option (Bool)) (Jl13 : St → Option (Bool))  : evAtJ (f4C g8 g9) [] [(3, Jl3), (10, Jl10), (13, Jl13)] (bodyOf Tryd.f4) [] (retK (f4C g8 g9) Tryd.f4.results f4o) (f4_s ) = f4_t g8 g9 (fun a0 a1 => Jl3 (f4_s3 a0 a1))  := by
  kernel_rfl
set_option maxRecDepth 100000 in
theorem f4_e (k : Nat) (g8 : (List (Int)) → Option ((Int) × (Int) × (List ((Int) × ((List Int) × ((Int) × ((Int) × (Unit)))))))) (g9 : (Unit) → Option (Bool))   : f4 k g8 g9 () = f4_t g8 g9 (f4_l3 k g8 g9  k)  := by
  have h0 : f4 k g8 g9 () = evAt (f4C g8 g9) k (bodyOf Tryd.f4) [] [] (retK (f4C g8 g9) Tryd.f4.results f4o) (f4_s ) := by kernel_rfl
  have h1 : keep [] (jt (f4C g8 g9) k (bodyOf Tryd.f4) [] [] (retK (f4C g8 g9) Tryd.f4.results f4o)) = [] := by kernel_rfl
  have h2 : keep [3, 10, 13] (lt (f4C g8 g9) k (bodyOf Tryd.f4) [] [] (retK (f4C g8 g9) Tryd.f4.results f4o)) = [(3, (fun s => loopAt (f4C g8 g9) k (bodyOf Tryd.f4) [.r, .r, .l, .r, .b] [] k (retK (f4C g8 g9) Tryd.f4.results f4o) s)), (10, (fun s => loopAt (f4C g8 g9) k (bodyOf Tryd.f4) [.r, .r, .r, .r, .r, .r, .r, .l, .b] [] k (retK (f4C g8 g9) Tryd.f4.results f4o) s)), (13, (fun s => loopAt (f4C g8 g9) k (bodyOf Tryd.f4) [.r, .r, .r, .r, .r, .r, .r, .r, .r, .l, .b] [] k (retK (f4C g8 g9) Tryd.f4.results f4o) s))] := by kernel_rfl
  exact h0.trans ((evAt_cut _ [] [3, 10, 13] (by kernel_rfl) h1 h2 (by kernel_rfl) (by kernel_rfl) (by kernel_rfl)).trans (f4_A g8 g9 (fun s => loopAt (f4C g8 g9) k (bodyOf Tryd.f4) [.r, .r, .l, .r, .b] [] k (retK (f4C g8 g9) Tryd.f4.results f4o) s) (fun s => loopAt (f4C g8 g9) k (bodyOf Tryd.f4) [.r, .r, .r, .r, .r, .r, .r, .l, .b] [] k (retK (f4C g8 g9) Tryd.f4.results f4o) s) (fun s => loopAt (f4C g8 g9) k (bodyOf Tryd.f4) [.r, .r, .r, .r, .r, .r, .r, .r, .r, .l, .b] [] k (retK (f4C g8 g9) Tryd.f4.results f4o) s) ))
def f4_tl3 (g8 : (List (Int)) → Option ((Int) × (Int) × (List ((Int) × ((List Int) × ((Int) × ((Int) × (Unit)))))))) (g9 : (Unit) → Option (Bool)) (Jl3 : Int → (List (Int)) → Option (Bool)) (Jl10 : Int → Int → Int → (List Int) → (List ((Int) × ((List Int) × ((Int) × ((Int) × (Unit)))))) → Option (Bool)) (a0 : Int) (a1 : List (Int)) : Option (Bool) :=
  bif (decide (a0 < ((List.length a1 : Nat) : Int))) then (bif (inB a0 (List.length a1)) then Jl3 (IntKind.wrap .i64 (a0 + (1 : Int))) (List.set a1 (Int.toNat a0) (32 : Int)) else none) else (bif (inB (0 : Int) (List.length a1)) then (g8 ((List.set a1 (Int.toNat (0 : Int)) (55 : Int)))).bind fun o1 => bif (appB 1 (List.length (List.set a1 (Int.toNat (0 : Int)) (55 : Int))) (List.length ([(32 : Int)] : List (Int)))) then (g8 (((List.set a1 (Int.toNat (0 : Int)) (55 : Int)) ++ ([(32 : Int)] : List (Int))))).bind fun o2 => Jl10 (o1.1) (o2.1) (o2.2.1) ([] : List Int) (o1.2.2) else none else none)
set_option maxRecDepth 100000 in
theorem f4_Al3 (g8 : (List (Int)) → Option ((Int) × (Int) × (List ((Int) × ((List Int) × ((Int) × ((Int) × (Unit)))))))) (g9 : (Unit) → Option (Bool)) (Jl3 : St → Option (Bool)) (Jl10 : St → Option (Bool)) (Jl13 : St → Option (Bool)) (a0 : Int) (a1 : List (Int)) : evAtJ (f4C g8 g9) [] [(3, Jl3), (10, Jl10), (13, Jl13)] (bodyOf Tryd.f4) [.r, .r, .l, .r, .b, .b] (retK (f4C g8 g9) Tryd.f4.results f4o) (f4_s3 a0 a1) = f4_tl3 g8 g9 (fun a0 a1 => Jl3 (f4_s3 a0 a1)) (fun a0 a1 a2 a3 a4 => Jl10 (f4_s10 a0 a1 a2 a3 a4)) a0 a1 := by
  kernel_rfl
set_option maxRecDepth 100000 in
theorem f4_el3 (k : Nat) (g8 : (List (Int)) → Option ((Int) × (Int) × (List ((Int) × ((List Int) × ((Int) × ((Int) × (Unit)))))))) (g9 : (Unit) → Option (Bool)) (j3 : Nat) (a0 : Int) (a1 : List (Int)) : f4_l3 k g8 g9 (j3 + 1) a0 a1 = f4_tl3 g8 g9 (f4_l3 k g8 g9  j3) (f4_l10 k g8 g9  k) a0 a1 := by
  have h0 : f4_l3 k g8 g9 (j3 + 1) a0 a1 = evAt (f4C g8 g9) k (bodyOf Tryd.f4) [.r, .r, .l, .r, .b, .b] [j3] (retK (f4C g8 g9) Tryd.f4.results f4o) (f4_s3 a0 a1) := by kernel_rfl
  have h1 : keep [] (jt (f4C g8 g9) k (bodyOf Tryd.f4) [.r, .r, .l, .r, .b, .b] [j3] (retK (f4C g8 g9) Tryd.f4.results f4o)) = [] := by kernel_rfl
  have h2 : keep [3, 10, 13] (lt (f4C g8 g9) k (bodyOf Tryd.f4) [.r, .r, .l, .r, .b, .b] [j3] (retK (f4C g8 g9) Tryd.f4.results f4o)) = [(3, (fun s => loopAt (f4C g8 g9) k (bodyOf Tryd.f4) [.r, .r, .l, .r, .b] [] j3 (retK (f4C g8 g9) Tryd.f4.results f4o) s)), (10, (fun s => loopAt (f4C g8 g9) k (bodyOf Tryd.f4) [.r, .r, .r, .r, .r, .r, .r, .l, .b] [] k (retK (f4C g8 g9) Tryd.f4.results f4o) s)), (13, (fun s => loopAt (f4C g8 g9) k (bodyOf Tryd.f4) [.r, .r, .r, .r, .r, .r, .r, .r, .r, .l, .b] [] k (retK (f4C g8 g9) Tryd.f4.results f4o) s))] := by kernel_rfl
  exact h0.trans ((evAt_cut _ [] [3, 10, 13] (by kernel_rfl) h1 h2 (by kernel_rfl) (by kernel_rfl) (by kernel_rfl)).trans (f4_Al3 g8 g9 (fun s => loopAt (f4C g8 g9) k (bodyOf Tryd.f4) [.r, .r, .l, .r, .b] [] j3 (retK (f4C g8 g9) Tryd.f4.results f4o) s) (fun s => loopAt (f4C g8 g9) k (bodyOf Tryd.f4) [.r, .r, .r, .r, .r, .r, .r, .l, .b] [] k (retK (f4C g8 g9) Tryd.f4.results f4o) s) (fun s => loopAt (f4C g8 g9) k (bodyOf Tryd.f4) [.r, .r, .r, .r, .r, .r, .r, .r, .r, .l, .b] [] k (retK (f4C g8 g9) Tryd.f4.results f4o) s) a0 a1))
def f4_tl10 (g8 : (List (Int)) → Option ((Int) × (Int) × (List ((Int) × ((List Int) × ((Int) × ((Int) × (Unit)))))))) (g9 : (Unit) → Option (Bool)) (Jl10 : Int → Int → Int → (List Int) → (List ((Int) × ((List Int) × ((Int) × ((Int) × (Unit)))))) → Option (Bool)) (Jl13 : Int → Int → Int → (List Int) → (List Int) → (List ((Int) × ((List Int) × ((Int) × ((Int) × (Unit)))))) → Option (Bool)) (a0 : Int) (a1 : Int) (a2 : Int) (a3 : List Int) (a4 : List ((Int) × ((List Int) × ((Int) × ((Int) × (Unit)))))) : Option (Bool) :=
  bif (decide (((List.length a3 : Nat) : Int) < (24 : Int))) then (bif (decide (List.length a3 + List.length ([97] : List Int) ≤ maxLen)) then Jl10 a0 a1 a2 (a3 ++ ([97] : List Int)) a4 else none) else (Jl13 a0 a1 a2 a3 ([] : List Int) a4)
set_option maxRecDepth 100000 in
theorem f4_Al10 (g8 : (List (Int)) → Option ((Int) × (Int) × (List ((Int) × ((List Int) × ((Int) × ((Int) × (Unit)))))))) (g9 : (Unit) → Option (Bool)) (Jl3 : St → Option (Bool)) (Jl10 : St → Option (Bool)) (Jl13 : St → Option (Bool)) (a0 : Int) (a1 : Int) (a2 : Int) (a3 : List Int) (a4 : List ((Int) × ((List Int) × ((Int) × ((Int) × (Unit)))))) : evAtJ (f4C g8 g9) [] [(3, Jl3), (10, Jl10), (13, Jl13)] (bodyOf Tryd.f4) [.r, .r, .r, .r, .r, .r, .r, .l, .b, .b] (retK (f4C g8 g9) Tryd.f4.results f4o) (f4_s10 a0 a1 a2 a3 a4) = f4_tl10 g8 g9 (fun a0 a1 a2 a3 a4 => Jl10 (f4_s10 a0 a1 a2 a3 a4)) (fun a0 a1 a2 a3 a4 a5 => Jl13 (f4_s13 a0 a1 a2 a3 a4 a5)) a0 a1 a2 a3 a4 := by
  kernel_rfl
set_option maxRecDepth 100000 in
theorem f4_el10 (k : Nat) (g8 : (List (Int)) → Option ((Int) × (Int) × (List ((Int) × ((List Int) × ((Int) × ((Int) × (Unit)))))))) (g9 : (Unit) → Option (Bool)) (j10 : Nat) (a0 : Int) (a1 : Int) (a2 : Int) (a3 : List Int) (a4 : List ((Int) × ((List Int) × ((Int) × ((Int) × (Unit)))))) : f4_l10 k g8 g9 (j10 + 1) a0 a1 a2 a3 a4 = f4_tl10 g8 g9 (f4_l10 k g8 g9  j10) (f4_l13 k g8 g9  k) a0 a1 a2 a3 a4 := by
  have h0 : f4_l10 k g8 g9 (j10 + 1) a0 a1 a2 a3 a4 = evAt (f4C g8 g9) k (bodyOf Tryd.f4) [.r, .r, .r, .r, .r, .r, .r, .l, .b, .b] [j10] (retK (f4C g8 g9) Tryd.f4.results f4o) (f4_s10 a0 a1 a2 a3 a4) := by kernel_rfl
  have h1 : keep [] (jt (f4C g8 g9) k (bodyOf Tryd.f4) [.r, .r, .r, .r, .r, .r, .r, .l, .b, .b] [j10] (retK (f4C g8 g9) Tryd.f4.results f4o)) = [] := by kernel_rfl
  have h2 : keep [3, 10, 13] (lt (f4C g8 g9) k (bodyOf Tryd.f4) [.r, .r, .r, .r, .r, .r, .r, .l, .b, .b] [j10] (retK (f4C g8 g9) Tryd.f4.results f4o)) = [(3, (fun s => loopAt (f4C g8 g9) k (bodyOf Tryd.f4) [.r, .r, .l, .r, .b] [] k (retK (f4C g8 g9) Tryd.f4.results f4o) s)), (10, (fun s => loopAt (f4C g8 g9) k (bodyOf Tryd.f4) [.r, .r, .r, .r, .r, .r, .r, .l, .b] [] j10 (retK (f4C g8 g9) Tryd.f4.results f4o) s)), (13, (fun s => loopAt (f4C g8 g9) k (bodyOf Tryd.f4) [.r, .r, .r, .r, .r, .r, .r, .r, .r, .l, .b] [] k (retK (f4C g8 g9) Tryd.f4.results f4o) s))] := by kernel_rfl
  exact h0.trans ((evAt_cut _ [] [3, 10, 13] (by kernel_rfl) h1 h2 (by kernel_rfl) (by kernel_rfl) (by kernel_rfl)).trans (f4_Al10 g8 g9 (fun s => loopAt (f4C g8 g9) k (bodyOf Tryd.f4) [.r, .r, .l, .r, .b] [] k (retK (f4C g8 g9) Tryd.f4.results f4o) s) (fun s => loopAt (f4C g8 g9) k (bodyOf Tryd.f4) [.r, .r, .r, .r, .r, .r, .r, .l, .b] [] j10 (retK (f4C g8 g9) Tryd.f4.results f4o) s) (fun s => loopAt (f4C g8 g9) k (bodyOf Tryd.f4) [.r, .r, .r, .r, .r, .r, .r, .r, .r, .l, .b] [] k (retK (f4C g8 g9) Tryd.f4.results f4o) s) a0 a1 a2 a3 a4))
def f4_tl13 (g8 : (List (Int)) → Option ((Int) × (Int) × (List ((Int) × ((List Int) × ((Int) × ((Int) × (Unit)))))))) (g9 : (Unit) → Option (Bool)) (Jl13 : Int → Int → Int → (List Int) → (List Int) → (List ((Int) × ((List Int) × ((Int) × ((Int) × (Unit)))))) → Option (Bool)) (a0 : Int) (a1 : Int) (a2 : Int) (a3 : List Int) (a4 : List Int) (a5 : List ((Int) × ((List Int) × ((Int) × ((Int) × (Unit)))))) : Option (Bool) :=
  bif (decide (((List.length a4 : Nat) : Int) < (18 : Int))) then (bif (decide (List.length a4 + List.length ([57] : List Int) ≤ maxLen)) then Jl13 a0 a1 a2 a3 (a4 ++ ([57] : List Int)) a5 else none) else (bif (decide (List.length a3 + List.length ([32] : List Int) ≤ maxLen)) then bif (decide (List.length (a3 ++ ([32] : List Int)) + List.length a4 ≤ maxLen)) then (g8 (((a3 ++ ([32] : List Int)) ++ a4))).bind fun o1 => bif (decide (List.length ([32, 32] : List Int) + List.length a3 ≤ maxLen)) then bif (decide (List.length (([32, 32] : List Int) ++ a3) + List.length ([98] : List Int) ≤ maxLen)) then (g8 (((([32, 32] : List Int) ++ a3) ++ ([98] : List Int)))).bind fun o2 => bif (decide (List.length ([44] : List Int) + List.length a4 ≤ maxLen)) then bif (decide (List.length (([44] : List Int) ++ a4) + List.length ([57] : List Int) ≤ maxLen)) then (g8 (((([44] : List Int) ++ a4) ++ ([57] : List Int)))).bind fun o3 => bif (a0 == (0 : Int)) then (bif (((List.length a5 : Nat) : Int) == (2 : Int)) then (bif (inB (1 : Int) (List.length a5)) then bif ((rdA ((0 : Int), ([], ((0 : Int), ((0 : Int), ())))) a5 (Int.toNat (1 : Int))).2.2.2.1 == (65536 : Int)) then (bif (a1 == (4 : Int)) then (bif (a2 == (65536 : Int)) then (bif (o1.1 == (0 : Int)) then (bif (((List.length o1.2.2 : Nat) : Int) == (3 : Int)) then (bif (inB (1 : Int) (List.length o1.2.2)) then bif ((rdA ((0 : Int), ([], ((0 : Int), ((0 : Int), ())))) o1.2.2 (Int.toNat (1 : Int))).2.2.1 == (999999999999999999 : Int)) then (bif (o2.1 == (4 : Int)) then (bif (o2.2.1 == (2 : Int)) then (bif (o3.1 == (4 : Int)) then (bif (o3.2.1 == (1 : Int)) then ((g9 (())).bind fun o4 => some o4) else (some false)) else (some false)) else (some false)) else (some false)) else (some false) else none) else (some false)) else (some false)) else (some false)) else (some false)) else (some false) else none) else (some false)) else (some false) else none else none else none else none else none else none)
set_option maxRecDepth 100000 in
theorem f4_Al13 (g8 : (List (Int)) → Option ((Int) × (Int) × (List ((Int) × ((List Int) × ((Int) × ((Int) × (Unit)))))))) (g9 : (Unit) → Option (Bool)) (Jl3 : St → Option (Bool)) (Jl10 : St → Option (Bool)) (Jl13 : St → Option (Bool)) (a0 : Int) (a1 : Int) (a2 : Int) (a3 : List Int) (a4 : List Int) (a5 : List ((Int) × ((List Int) × ((Int) × ((Int) × (Unit)))))) : evAtJ (f4C g8 g9) [] [(3, Jl3), (10, Jl10), (13, Jl13)] (bodyOf Tryd.f4) [.r, .r, .r, .r, .r, .r, .r, .r, .r, .l, .b, .b] (retK (f4C g8 g9) Tryd.f4.results f4o) (f4_s13 a0 a1 a2 a3 a4 a5) = f4_tl13 g8 g9 (fun a0 a1 a2 a3 a4 a5 => Jl13 (f4_s13 a0 a1 a2 a3 a4 a5)) a0 a1 a2 a3 a4 a5 := by
  kernel_rfl
set_option maxRecDepth 100000 in
theorem f4_el13 (k : Nat) (g8 : (List (Int)) → Option ((Int) × (Int) × (List ((Int) × ((List Int) × ((Int) × ((Int) × (Unit)))))))) (g9 : (Unit) → Option (Bool)) (j13 : Nat) (a0 : Int) (a1 : Int) (a2 : Int) (a3 : List Int) (a4 : List Int) (a5 : List ((Int) × ((List Int) × ((Int) × ((Int) × (Unit)))))) : f4_l13 k g8 g9 (j13 + 1) a0 a1 a2 a3 a4 a5 = f4_tl13 g8 g9 (f4_l13 k g8 g9  j13) a0 a1 a2 a3 a4 a5 := by
  have h0 : f4_l13 k g8 g9 (j13 + 1) a0 a1 a2 a3 a4 a5 = evAt (f4C g8 g9) k (bodyOf Tryd.f4) [.r, .r, .r, .r, .r, .r, .r, .r, .r, .l, .b, .b] [j13] (retK (f4C g8 g9) Tryd.f4.results f4o) (f4_s13 a0 a1 a2 a3 a4 a5) := by kernel_rfl
  have h1 : keep [] (jt (f4C g8 g9) k (bodyOf Tryd.f4) [.r, .r, .r, .r, .r, .r, .r, .r, .r, .l, .b, .b] [j13] (retK (f4C g8 g9) Tryd.f4.results f4o)) = [] := by kernel_rfl
  have h2 : keep [3, 10, 13] (lt (f4C g8 g9) k (bodyOf Tryd.f4) [.r, .r, .r, .r, .r, .r, .r, .r, .r, .l, .b, .b] [j13] (retK (f4C g8 g9) Tryd.f4.results f4o)) = [(3, (fun s => loopAt (f4C g8 g9) k (bodyOf Tryd.f4) [.r, .r, .l, .r, .b] [] k (retK (f4C g8 g9) Tryd.f4.results f4o) s)), (10, (fun s => loopAt (f4C g8 g9) k (bodyOf Tryd.f4) [.r, .r, .r, .r, .r, .r, .r, .l, .b] [] k (retK (f4C g8 g9) Tryd.f4.results f4o) s)), (13, (fun s => loopAt (f4C g8 g9) k (bodyOf Tryd.f4) [.r, .r, .r, .r, .r, .r, .r, .r, .r, .l, .b] [] j13 (retK (f4C g8 g9) Tryd.f4.results f4o) s))] := by kernel_rfl
  exact h0.trans ((evAt_cut _ [] [3, 10, 13] (by kernel_rfl) h1 h2 (by kernel_rfl) (by kernel_rfl) (by kernel_rfl)).trans (f4_Al13 g8 g9 (fun s => loopAt (f4C g8 g9) k (bodyOf Tryd.f4) [.r, .r, .l, .r, .b] [] k (retK (f4C g8 g9) Tryd.f4.results f4o) s) (fun s => loopAt (f4C g8 g9) k (bodyOf Tryd.f4) [.r, .r, .r, .r, .r, .r, .r, .l, .b] [] k (retK (f4C g8 g9) Tryd.f4.results f4o) s) (fun s => loopAt (f4C g8 g9) k (bodyOf Tryd.f4) [.r, .r, .r, .r, .r, .r, .r, .r, .r, .l, .b] [] j13 (retK (f4C g8 g9) Tryd.f4.results f4o) s) a0 a1 a2 a3 a4 a5))
set_option maxRecDepth 100000 in
theorem f4_ok (k : Nat) (g8 : (List (Int)) → Option ((Int) × (Int) × (List ((Int) × ((List Int) × ((Int) × ((Int) × (Unit)))))))) (g9 : (Unit) → Option (Bool)) (hg8 : SigOK Tryd.prog 8 ⟨f8i, f8o, mkFun f8i.tys f8o.tys g8⟩) (hg9 : SigOK Tryd.prog 9 ⟨f9i, f9o, mkFun f9i.tys f9o.tys g9⟩) : SigOK Tryd.prog 4 ⟨f4i, f4o, mkFun f4i.tys f4o.tys (f4 k g8 g9)⟩ :=
  fn_ok (C := (f4C g8 g9)) (l := f4E g8 g9) rfl ⟨⟨hg8, trivial⟩, ⟨hg9, trivial⟩, trivial⟩ (by kernel_rfl) k (fn := Tryd.f4) (by kernel_rfl) (by kernel_rfl) (by kernel_rfl) f4i f4o rfl rfl (show 0 ≤ 48 by decide) (show 0 ≤ 48 by decide)
noncomputable def c4 (k : Nat) : (Unit) → Option (Bool) := f4 k (c8 k) (c9 k)
theorem c4_ok (k : Nat) : SigOK Tryd.prog 4 ⟨f4i, f4o, mkFun f4i.tys f4o.tys (c4 k)⟩ := f4_ok k (c8 k) (c9 k) (c8_ok k) (c9_ok k)

/-! carrefour/carrefourref04.Same -/
def f10i : Sk := ⟨[.lf (.pv (.slice (.cons (.int .i64) (.cons .str (.cons (.int .i64) (.cons (.int .i64) .nil)))))), .lf (.pv (.slice (.cons (.int .i64) (.cons .str (.cons (.int .i64) (.cons (.int .i64) .nil)))))), .lf (.pv .bool)], [], []⟩
def f10o : Sk := ⟨[.lf (.pv .bool)], [], []⟩
def f10_k4 : Sk := ⟨sparse 72 [(0, .lf (.pv (.slice (.cons (.int .i64) (.cons .str (.cons (.int .i64) (.cons (.int .i64) .nil))))))), (1, .lf (.pv (.slice (.cons (.int .i64) (.cons .str (.cons (.int .i64) (.cons (.int .i64) .nil))))))), (2, .lf (.pv .bool)), (7, .lf (.pv (.int .i64)))], [], []⟩
noncomputable def f10E  : List (Nat × List Sig) := []
noncomputable def f10C  : Cfg := { P := Tryd.prog, env := lookS (f10E ), n := 120, npB := 0, npO := 0, hint := fun i => look none [(4, some f10_k4)] i, pops := [] }
def f10_s (a0 : List ((Int) × ((List Int) × ((Int) × ((Int) × (Unit)))))) (a1 : List ((Int) × ((List Int) × ((Int) × ((Int) × (Unit)))))) (a2 : Bool) : St := { enc f10i 120 [⟨(.slice (.cons (.int .i64) (.cons .str (.cons (.int .i64) (.cons (.int .i64) .nil))))), a0⟩, ⟨(.slice (.cons (.int .i64) (.cons .str (.cons (.int .i64) (.cons (.int .i64) .nil))))), a1⟩, ⟨.bool, a2⟩] with slots := encAs f10i.slots [⟨(.slice (.cons (.int .i64) (.cons .str (.cons (.int .i64) (.cons (.int .i64) .nil))))), a0⟩, ⟨(.slice (.cons (.int .i64) (.cons .str (.cons (.int .i64) (.cons (.int .i64) .nil))))), a1⟩, ⟨.bool, a2⟩] ++ List.replicate 69 .dead }
def f10_s4 (a0 : List ((Int) × ((List Int) × ((Int) × ((Int) × (Unit)))))) (a1 : List ((Int) × ((List Int) × ((Int) × ((Int) × (Unit)))))) (a2 : Bool) (a3 : Int) : St := enc f10_k4 120 [⟨(.slice (.cons (.int .i64) (.cons .str (.cons (.int .i64) (.cons (.int .i64) .nil))))), a0⟩, ⟨(.slice (.cons (.int .i64) (.cons .str (.cons (.int .i64) (.cons (.int .i64) .nil))))), a1⟩, ⟨.bool, a2⟩, ⟨(.int .i64), a3⟩]
noncomputable def f10 (k : Nat)  : ((List ((Int) × ((List Int) × ((Int) × ((Int) × (Unit)))))) × (List ((Int) × ((List Int) × ((Int) × ((Int) × (Unit)))))) × (Bool)) → Option (Bool) := fnOf f10C k Tryd.f10 f10i f10o
noncomputable def f10_l4 (k : Nat)  (j4 : Nat) (a0 : List ((Int) × ((List Int) × ((Int) × ((Int) × (Unit)))))) (a1 : List ((Int) × ((List Int) × ((Int) × ((Int) × (Unit)))))) (a2 : Bool) (a3 : Int) : Option (Bool) := loopAt f10C k (bodyOf Tryd.f10) [.r, .r, .l, .r, .b] [] j4 (retK f10C Tryd.f10.results f10o) (f10_s4 a0 a1 a2 a3)
def f10_t  (Jl4 : (List ((Int) × ((List Int) × ((Int) × ((Int) × (Unit)))))) → (List ((Int) × ((List Int) × ((Int) × ((Int) × (Unit)))))) → Bool → Int → Option (Bool)) (a0 : List ((Int) × ((List Int) × ((Int) × ((Int) × (Unit)))))) (a1 : List ((Int) × ((List Int) × ((Int) × ((Int) × (Unit)))))) (a2 : Bool) : Option (Bool) :=
  bif (((List.length a0 : Nat) : Int) != ((List.length a1 : Nat) : Int)) then (some false) else (Jl4 a0 a1 a2 (0 : Int))
set_option maxRecDepth 100000 in
theorem f10_A  (Jl4 : St → Option (Bool)) (a0 : List ((Int) × ((List Int) × ((Int) × ((Int) × (Unit)))))) (a1 : List ((Int) × ((List Int) × ((Int) × ((Int) × (Unit)))))) (a2 : Bool) : evAtJ f10C [] [(4, Jl4)] (bodyOf Tryd.f10) [] (retK f10C Tryd.f10.results f10o) (f10_s a0 a1 a2) = f10_t  (fun a0 a1 a2 a3 => Jl4 (f10_s4 a0 a1 a2 a3)) a0 a1 a2 := by
  kernel_rfl
set_option maxRecDepth 100000 in
theorem f10_e (k : Nat)   (a0 : List ((Int) × ((List Int) × ((Int) × ((Int) × (Unit)))))) (a1 : List ((Int) × ((List Int) × ((Int) × ((Int) × (Unit)))))) (a2 : Bool) : f10 k  (a0, a1, a2) = f10_t  (f10_l4 k   k) a0 a1 a2 := by
  have h0 : f10 k  (a0, a1, a2) = evAt f10C k (bodyOf Tryd.f10) [] [] (retK f10C Tryd.f10.results f10o) (f10_s a0 a1 a2) := by kernel_rfl
  have h1 : keep [] (jt f10C k (bodyOf Tryd.f10) [] [] (retK f10C Tryd.f10.results f10o)) = [] := by kernel_rfl
  have h2 : keep [4] (lt f10C k (bodyOf Tryd.f10) [] [] (retK f10C Tryd.f10.results f10o)) = [(4, (fun s => loopAt f10C k (bodyOf Tryd.f10) [.r, .r, .l, .r, .b] [] k (retK f10C Tryd.f10.results f10o) s))] := by kernel_rfl
  exact h0.trans ((evAt_cut _ [] [4] (by kernel_rfl) h1 h2 (by kernel_rfl) (by kernel_rfl) (by kernel_rfl)).trans (f10_A  (fun s => loopAt f10C k (bodyOf Tryd.f10) [.r, .r, .l, .r, .b] [] k (retK f10C Tryd.f10.results f10o) s) a0 a1 a2))
def f10_tl4  (Jl4 : (List ((Int) × ((List Int) × ((Int) × ((Int) × (Unit)))))) → (List ((Int) × ((List Int) × ((Int) × ((Int) × (Unit)))))) → Bool → Int → Option (Bool)) (a0 : List ((Int) × ((List Int) × ((Int) × ((Int) × (Unit)))))) (a1 : List ((Int) × ((List Int) × ((Int) × ((Int) × (Unit)))))) (a2 : Bool) (a3 : Int) : Option (Bool) :=
  bif (decide (a3 < ((List.length a0 : Nat) : Int))) then (bif (inB a3 (List.length a0)) then bif (inB a3 (List.length a1)) then bif ((rdA ((0 : Int), ([], ((0 : Int), ((0 : Int), ())))) a0 (Int.toNat a3)).1 != (rdA ((0 : Int), ([], ((0 : Int), ((0 : Int), ())))) a1 (Int.toNat a3)).1) then (some false) else (bif (inB a3 (List.length a0)) then bif (inB a3 (List.length a1)) then bif (!((rdA ((0 : Int), ([], ((0 : Int), ((0 : Int), ())))) a0 (Int.toNat a3)).2.1 == (rdA ((0 : Int), ([], ((0 : Int), ((0 : Int), ())))) a1 (Int.toNat a3)).2.1)) then (some false) else (bif (inB a3 (List.length a0)) then bif (inB a3 (List.length a1)) then bif ((rdA ((0 : Int), ([], ((0 : Int), ((0 : Int), ())))) a0 (Int.toNat a3)).2.2.1 != (rdA ((0 : Int), ([], ((0 : Int), ((0 : Int), ())))) a1 (Int.toNat a3)).2.2.1) then (some false) else (bif a2 then (bif (inB a3 (List.length a0)) then bif (inB a3 (List.length a1)) then bif ((rdA ((0 : Int), ([], ((0 : Int), ((0 : Int), ())))) a0 (Int.toNat a3)).2.2.2.1 != (rdA ((0 : Int), ([], ((0 : Int), ((0 : Int), ())))) a1 (Int.toNat a3)).2.2.2.1) then (some false) else (Jl4 a0 a1 a2 (IntKind.wrap .i64 (a3 + (1 : Int)))) else none else none) else (Jl4 a0 a1 a2 (IntKind.wrap .i64 (a3 + (1 : Int))))) else none else none) else none else none) else none else none) else (some true)
set_option maxRecDepth 100000 in
theorem f10_Al4  (Jl4 : St → Option (Bool)) (a0 : List ((Int) × ((List Int) × ((Int) × ((Int) × (Unit)))))) (a1 : List ((Int) × ((List Int) × ((Int) × ((Int) × (Unit)))))) (a2 : Bool) (a3 : Int) : evAtJ f10C [] [(4, Jl4)] (bodyOf Tryd.f10) [.r, .r, .l, .r, .b, .b] (retK f10C Tryd.f10.results f10o) (f10_s4 a0 a1 a2 a3) = f10_tl4  (fun a0 a1 a2 a3 => Jl4 (f10_s4 a0 a1 a2 a3)) a0 a1 a2 a3 := by
  kernel_rfl
set_option maxRecDepth 100000 in
theorem f10_el4 (k : Nat)  (j4 : Nat) (a0 : List ((Int) × ((List Int) × ((Int) × ((Int) × (Unit)))))) (a1 : List ((Int) × ((List Int) × ((Int) × ((Int) × (Unit)))))) (a2 : Bool) (a3 : Int) : f10_l4 k  (j4 + 1) a0 a1 a2 a3 = f10_tl4  (f10_l4 k   j4) a0 a1 a2 a3 := by
  have h0 : f10_l4 k  (j4 + 1) a0 a1 a2 a3 = evAt f10C k (bodyOf Tryd.f10) [.r, .r, .l, .r, .b, .b] [j4] (retK f10C Tryd.f10.results f10o) (f10_s4 a0 a1 a2 a3) := by kernel_rfl
  have h1 : keep [] (jt f10C k (bodyOf Tryd.f10) [.r, .r, .l, .r, .b, .b] [j4] (retK f10C Tryd.f10.results f10o)) = [] := by kernel_rfl
  have h2 : keep [4] (lt f10C k (bodyOf Tryd.f10) [.r, .r, .l, .r, .b, .b] [j4] (retK f10C Tryd.f10.results f10o)) = [(4, (fun s => loopAt f10C k (bodyOf Tryd.f10) [.r, .r, .l, .r, .b] [] j4 (retK f10C Tryd.f10.results f10o) s))] := by kernel_rfl
  exact h0.trans ((evAt_cut _ [] [4] (by kernel_rfl) h1 h2 (by kernel_rfl) (by kernel_rfl) (by kernel_rfl)).trans (f10_Al4  (fun s => loopAt f10C k (bodyOf Tryd.f10) [.r, .r, .l, .r, .b] [] j4 (retK f10C Tryd.f10.results f10o) s) a0 a1 a2 a3))
set_option maxRecDepth 100000 in
theorem f10_ok (k : Nat)   : SigOK Tryd.prog 10 ⟨f10i, f10o, mkFun f10i.tys f10o.tys (f10 k )⟩ :=
  fn_ok (C := f10C) (l := f10E ) rfl trivial (by kernel_rfl) k (fn := Tryd.f10) (by kernel_rfl) (by kernel_rfl) (by kernel_rfl) f10i f10o rfl rfl (show 0 ≤ 48 by decide) (show 0 ≤ 48 by decide)
noncomputable def c10 (k : Nat) : ((List ((Int) × ((List Int) × ((Int) × ((Int) × (Unit)))))) × (List ((Int) × ((List Int) × ((Int) × ((Int) × (Unit)))))) × (Bool)) → Option (Bool) := f10 k 
theorem c10_ok (k : Nat) : SigOK Tryd.prog 10 ⟨f10i, f10o, mkFun f10i.tys f10o.tys (c10 k)⟩ := f10_ok k  

/-! carrefour/carrefourlaw04.LexJoin -/
def f5i : Sk := ⟨[.lf (.pv (.slice (.int .u8))), .lf (.pv (.slice (.int .u8)))], [], []⟩
def f5o : Sk := ⟨[.lf (.pv .bool)], [], []⟩
def f5_k9 : Sk := ⟨sparse 98 [(5, .lf (.pv (.slice (.cons (.int .i64) (.cons .str (.cons (.int .i64) (.cons (.int .i64) .nil))))))), (8, .lf (.pv (.slice (.cons (.int .i64) (.cons .str (.cons (.int .i64) (.cons (.int .i64) .nil))))))), (12, .lf (.pv (.slice (.cons (.int .i64) (.cons .str (.cons (.int .i64) (.cons (.int .i64) .nil))))))), (13, .lf (.pv (.int .i64)))], [], []⟩
noncomputable def f5E (g8 : (List (Int)) → Option ((Int) × (Int) × (List ((Int) × ((List Int) × ((Int) × ((Int) × (Unit)))))))) (g9 : (Unit) → Option (Bool)) (g10 : ((List ((Int) × ((List Int) × ((Int) × ((Int) × (Unit)))))) × (List ((Int) × ((List Int) × ((Int) × ((Int) × (Unit)))))) × (Bool)) → Option (Bool)) : List (Nat × List Sig) := [(8, [⟨f8i, f8o, mkFun f8i.tys f8o.tys g8⟩]), (9, [⟨f9i, f9o, mkFun f9i.tys f9o.tys g9⟩]), (10, [⟨f10i, f10o, mkFun f10i.tys f10o.tys g10⟩])]
noncomputable def f5C (g8 : (List (Int)) → Option ((Int) × (Int) × (List ((Int) × ((List Int) × ((Int) × ((Int) × (Unit)))))))) (g9 : (Unit) → Option (Bool)) (g10 : ((List ((Int) × ((List Int) × ((Int) × ((Int) × (Unit)))))) × (List ((Int) × ((List Int) × ((Int) × ((Int) × (Unit)))))) × (Bool)) → Option (Bool)) : Cfg := { P := Tryd.prog, env := lookS (f5E g8 g9 g10), n := 146, npB := 0, npO := 0, hint := fun i => look none [(9, some f5_k9)] i, pops := [] }
def f5_s (a0 : List (Int)) (a1 : List (Int)) : St := { enc f5i 146 [⟨(.slice (.int .u8)), a0⟩, ⟨(.slice (.int .u8)), a1⟩] with slots := encAs f5i.slots [⟨(.slice (.int .u8)), a0⟩, ⟨(.slice (.int .u8)), a1⟩] ++ List.replicate 96 .dead }
def f5_s9 (a0 : List ((Int) × ((List Int) × ((Int) × ((Int) × (Unit)))))) (a1 : List ((Int) × ((List Int) × ((Int) × ((Int) × (Unit)))))) (a2 : List ((Int) × ((List Int) × ((Int) × ((Int) × (Unit)))))) (a3 : Int) : St := enc f5_k9 146 [⟨(.slice (.cons (.int .i64) (.cons .str (.cons (.int .i64) (.cons (.int .i64) .nil))))), a0⟩, ⟨(.slice (.cons (.int .i64) (.cons .str (.cons (.int .i64) (.cons (.int .i64) .nil))))), a1⟩, ⟨(.slice (.cons (.int .i64) (.cons .str (.cons (.int .i64) (.cons (.int .i64) .nil))))), a2⟩, ⟨(.int .i64), a3⟩]
noncomputable def f5 (k : Nat) (g8 : (List (Int)) → Option ((Int) × (Int) × (List ((Int) × ((List Int) × ((Int) × ((Int) × (Unit)))))))) (g9 : (Unit) → Option (Bool)) (g10 : ((List ((Int) × ((List Int) × ((Int) × ((Int) × (Unit)))))) × (List ((Int) × ((List Int) × ((Int) × ((Int) × (Unit)))))) × (Bool)) → Option (Bool)) : ((List (Int)) × (List (Int))) → Option (Bool) := fnOf (f5C g8 g9 g10) k Tryd.f5 f5i f5o
noncomputable def f5_j9 (k : Nat) (g8 : (List (Int)) → Option ((Int) × (Int) × (List ((Int) × ((List Int) × ((Int) × ((Int) × (Unit)))))))) (g9 : (Unit) → Option (Bool)) (g10 : ((List ((Int) × ((List Int) × ((Int) × ((Int) × (Unit)))))) × (List ((Int) × ((List Int) × ((Int) × ((Int) × (Unit)))))) × (Bool)) → Option (Bool))  (a0 : List ((Int) × ((List Int) × ((Int) × ((Int) × (Unit)))))) (a1 : List ((Int) × ((List Int) × ((Int) × ((Int) × (Unit)))))) (a2 : List ((Int) × ((List Int) × ((Int) × ((Int) × (Unit)))))) (a3 : Int) : Option (Bool) := evAt (f5C g8 g9 g10) k (bodyOf Tryd.f5) [.r, .r, .r, .r, .r, .r, .r] [] (retK (f5C g8 g9 g10) Tryd.f5.results f5o) (f5_s9 a0 a1 a2 a3)
def f5_t (g8 : (List (Int)) → Option ((Int) × (Int) × (List ((Int) × ((List Int) × ((Int) × ((Int) × (Unit)))))))) (g9 : (Unit) → Option (Bool)) (g10 : ((List ((Int) × ((List Int) × ((Int) × ((Int) × (Unit)))))) × (List ((Int) × ((List Int) × ((Int) × ((Int) × (Unit)))))) × (Bool)) → Option (Bool)) (Jj9 : (List ((Int) × ((List Int) × ((Int) × ((Int) × (Unit)))))) → (List ((Int) × ((List Int) × ((Int) × ((Int) × (Unit)))))) → (List ((Int) × ((List Int) × ((Int) × ((Int) × (Unit)))))) → Int → Option (Bool)) (a0 : List (Int)) (a1 : List (Int)) : Option (Bool) :=
  bif (decide (((List.length a0 : Nat) : Int) > (2000 : Int))) then (some true) else (bif (decide (((List.length a1 : Nat) : Int) > (2000 : Int))) then (some true) else ((g8 (a0)).bind fun o1 => (g8 (a1)).bind fun o2 => bif (o1.1 != (0 : Int)) then ((g9 (())).bind fun o3 => some o3) else (bif (o2.1 != (0 : Int)) then ((g9 (())).bind fun o4 => some o4) else (bif (appB 1 (List.length ([] : List (Int))) (List.length a0)) then bif (appB 1 (List.length (([] : List (Int)) ++ a0)) (List.length ([(10 : Int)] : List (Int)))) then bif (appB 1 (List.length ((([] : List (Int)) ++ a0) ++ ([(10 : Int)] : List (Int)))) (List.length a1)) then (g8 ((((([] : List (Int)) ++ a0) ++ ([(10 : Int)] : List (Int))) ++ a1))).bind fun o5 => Jj9 (o1.2.2) (o2.2.2) (o5.2.2) (o5.1) else none else none else none))))
set_option maxRecDepth 100000 in
theorem f5_A (g8 : (List (Int)) → Option ((Int) × (Int) × (List ((Int) × ((List Int) × ((Int) × ((Int) × (Unit)))))))) (g9 : (Unit) → Option (Bool)) (g10 : ((List ((Int) × ((List Int) × ((Int) × ((Int) × (Unit)))))) × (List ((Int) × ((List Int) × ((Int) × ((Int) × (Unit)))))) × (Bool)) → Option (Bool)) (Jj9 : St → Option (Bool)) (a0 : List (Int)) (a1 : List (Int)) : evAtJ (f5C g8 g9 g10) [(9, Jj9)] [] (bodyOf Tryd.f5) [] (retK (f5C g8 g9 g10) Tryd.f5.results f5o) (f5_s a0 a1) = f5_t g8 g9 g10 (fun a0 a1 a2 a3 => Jj9 (f5_s9 a0 a1 a2 a3)) a0 a1 := by
  kernel_rfl
set_option maxRecDepth 100000 in
theorem f5_e (k : Nat) (g8 : (List (Int)) → Option ((Int) × (Int) × (List ((Int) × ((List Int) × ((Int) × ((Int) × (Unit)))))))) (g9 : (Unit) → Option (Bool)) (g10 : ((List ((Int) × ((List Int) × ((Int) × ((Int) × (Unit)))))) × (List ((Int) × ((List Int) × ((Int) × ((Int) × (Unit)))))) × (Bool)) → Option (Bool))  (a0 : List (Int)) (a1 : List (Int)) : f5 k g8 g9 g10 (a0, a1) = f5_t g8 g9 g10 (f5_j9 k g8 g9 g10 ) a0 a1 := by
  have h0 : f5 k g8 g9 g10 (a0, a1) = evAt (f5C g8 g9 g10) k (bodyOf Tryd.f5) [] [] (retK (f5C g8 g9 g10) Tryd.f5.results f5o) (f5_s a0 a1) := by kernel_rfl
  have h1 : keep [9] (jt (f5C g8 g9 g10) k (bodyOf Tryd.f5) [] [] (retK (f5C g8 g9 g10) Tryd.f5.results f5o)) = [(9, (fun s => evAt (f5C g8 g9 g10) k (bodyOf Tryd.f5) [.r, .r, .r, .r, .r, .r, .r] [] (retK (f5C g8 g9 g10) Tryd.f5.results f5o) s))] := by kernel_rfl
  have h2 : keep [] (lt (f5C g8 g9 g10) k (bodyOf Tryd.f5) [] [] (retK (f5C g8 g9 g10) Tryd.f5.results f5o)) = [] := by kernel_rfl
  exact h0.trans ((evAt_cut _ [9] [] (by kernel_rfl) h1 h2 (by kernel_rfl) (by kernel_rfl) (by kernel_rfl)).trans (f5_A g8 g9 g10 (fun s => evAt (f5C g8 g9 g10) k (bodyOf Tryd.f5) [.r, .r, .r, .r, .r, .r, .r] [] (retK (f5C g8 g9 g10) Tryd.f5.results f5o) s) a0 a1))
def f5_tj9 (g8 : (List (Int)) → Option ((Int) × (Int) × (List ((Int) × ((List Int) × ((Int) × ((Int) × (Unit)))))))) (g9 : (Unit) → Option (Bool)) (g10 : ((List ((Int) × ((List Int) × ((Int) × ((Int) × (Unit)))))) × (List ((Int) × ((List Int) × ((Int) × ((Int) × (Unit)))))) × (Bool)) → Option (Bool))  (a0 : List ((Int) × ((List Int) × ((Int) × ((Int) × (Unit)))))) (a1 : List ((Int) × ((List Int) × ((Int) × ((Int) × (Unit)))))) (a2 : List ((Int) × ((List Int) × ((Int) × ((Int) × (Unit)))))) (a3 : Int) : Option (Bool) :=
  bif (a3 == (0 : Int)) then (bif (decide (((List.length a0 : Nat) : Int) > (0 : Int))) then (bif (((List.length a2 : Nat) : Int) == (IntKind.wrap .i64 ((IntKind.wrap .i64 (((List.length a0 : Nat) : Int) - (1 : Int))) + ((List.length a1 : Nat) : Int)))) then (bif (cutB (0 : Int) (IntKind.wrap .i64 (((List.length a0 : Nat) : Int) - (1 : Int))) (List.length a2)) then bif (cutB (0 : Int) (IntKind.wrap .i64 (((List.length a0 : Nat) : Int) - (1 : Int))) (List.length a0)) then (g10 ((cutL a2 (0 : Int) (IntKind.wrap .i64 (((List.length a0 : Nat) : Int) - (1 : Int)))), (cutL a0 (0 : Int) (IntKind.wrap .i64 (((List.length a0 : Nat) : Int) - (1 : Int)))), true)).bind fun o1 => bif o1 then (bif (cutB (IntKind.wrap .i64 (((List.length a0 : Nat) : Int) - (1 : Int))) (((List.length a2) : Nat) : Int) (List.length a2)) then (g10 ((cutL a2 (IntKind.wrap .i64 (((List.length a0 : Nat) : Int) - (1 : Int))) (((List.length a2) : Nat) : Int)), a1, false)).bind fun o2 => bif o2 then ((g9 (())).bind fun o3 => some o3) else (some false) else none) else (some false) else none else none) else (some false)) else (some false)) else (some false)
set_option maxRecDepth 100000 in
theorem f5_Aj9 (g8 : (List (Int)) → Option ((Int) × (Int) × (List ((Int) × ((List Int) × ((Int) × ((Int) × (Unit)))))))) (g9 : (Unit) → Option (Bool)) (g10 : ((List ((Int) × ((List Int) × ((Int) × ((Int) × (Unit)))))) × (List ((Int) × ((List Int) × ((Int) × ((Int) × (Unit)))))) × (Bool)) → Option (Bool)) (Jj9 : St → Option (Bool)) (a0 : List ((Int) × ((List Int) × ((Int) × ((Int) × (Unit)))))) (a1 : List ((Int) × ((List Int) × ((Int) × ((Int) × (Unit)))))) (a2 : List ((Int) × ((List Int) × ((Int) × ((Int) × (Unit)))))) (a3 : Int) : evAtJ (f5C g8 g9 g10) [(9, Jj9)] [] (bodyOf Tryd.f5) [.r, .r, .r, .r, .r, .r, .r] (retK (f5C g8 g9 g10) Tryd.f5.results f5o) (f5_s9 a0 a1 a2 a3) = f5_tj9 g8 g9 g10  a0 a1 a2 a3 := by
  kernel_rfl
set_option maxRecDepth 100000 in
theorem f5_ej9 (k : Nat) (g8 : (List (Int)) → Option ((Int) × (Int) × (List ((Int) × ((List Int) × ((Int) × ((Int) × (Unit)))))))) (g9 : (Unit) → Option (Bool)) (g10 : ((List ((Int) × ((List Int) × ((Int) × ((Int) × (Unit)))))) × (List ((Int) × ((List Int) × ((Int) × ((Int) × (Unit)))))) × (Bool)) → Option (Bool))  (a0 : List ((Int) × ((List Int) × ((Int) × ((Int) × (Unit)))))) (a1 : List ((Int) × ((List Int) × ((Int) × ((Int) × (Unit)))))) (a2 : List ((Int) × ((List Int) × ((Int) × ((Int) × (Unit)))))) (a3 : Int) : f5_j9 k g8 g9 g10  a0 a1 a2 a3 = f5_tj9 g8 g9 g10  a0 a1 a2 a3 := by
  have h0 : f5_j9 k g8 g9 g10  a0 a1 a2 a3 = evAt (f5C g8 g9 g10) k (bodyOf Tryd.f5) [.r, .r, .r, .r, .r, .r, .r] [] (retK (f5C g8 g9 g10) Tryd.f5.results f5o) (f5_s9 a0 a1 a2 a3) := by kernel_rfl
  have h1 : keep [9] (jt (f5C g8 g9 g10) k (bodyOf Tryd.f5) [.r, .r, .r, .r, .r, .r, .r] [] (retK (f5C g8 g9 g10) Tryd.f5.results f5o)) = [(9, (fun s => evAt (f5C g8 g9 g10) k (bodyOf Tryd.f5) [.r, .r, .r, .r, .r, .r, .r] [] (retK (f5C g8 g9 g10) Tryd.f5.results f5o) s))] := by kernel_rfl
  have h2 : keep [] (lt (f5C g8 g9 g10) k (bodyOf Tryd.f5) [.r, .r, .r, .r, .r, .r, .r] [] (retK (f5C g8 g9 g10) Tryd.f5.results f5o)) = [] := by kernel_rfl
  exact h0.trans ((evAt_cut _ [9] [] (by kernel_rfl) h1 h2 (by kernel_rfl) (by kernel_rfl) (by kernel_rfl)).trans (f5_Aj9 g8 g9 g10 (fun s => evAt (f5C g8 g9 g10) k (bodyOf Tryd.f5) [.r, .r, .r, .r, .r, .r, .r] [] (retK (f5C g8 g9 g10) Tryd.f5.results f5o) s) a0 a1 a2 a3))
set_option maxRecDepth 100000 in
theorem f5_ok (k : Nat) (g8 : (List (Int)) → Option ((Int) × (Int) × (List ((Int) × ((List Int) × ((Int) × ((Int) × (Unit)))))))) (g9 : (Unit) → Option (Bool)) (g10 : ((List ((Int) × ((List Int) × ((Int) × ((Int) × (Unit)))))) × (List ((Int) × ((List Int) × ((Int) × ((Int) × (Unit)))))) × (Bool)) → Option (Bool)) (hg8 : SigOK Tryd.prog 8 ⟨f8i, f8o, mkFun f8i.tys f8o.tys g8⟩) (hg9 : SigOK Tryd.prog 9 ⟨f9i, f9o, mkFun f9i.tys f9o.tys g9⟩) (hg10 : SigOK Tryd.prog 10 ⟨f10i, f10o, mkFun f10i.tys f10o.tys g10⟩) : SigOK Tryd.prog 5 ⟨f5i, f5o, mkFun f5i.tys f5o.tys (f5 k g8 g9 g10)⟩ :=
  fn_ok (C := (f5C g8 g9 g10)) (l := f5E g8 g9 g10) rfl ⟨⟨hg8, trivial⟩, ⟨hg9, trivial⟩, ⟨hg10, trivial⟩, trivial⟩ (by kernel_rfl) k (fn := Tryd.f5) (by kernel_rfl) (by kernel_rfl) (by kernel_rfl) f5i f5o rfl rfl (show 0 ≤ 48 by decide) (show 0 ≤ 48 by decide)
noncomputable def c5 (k : Nat) : ((List (Int)) × (List (Int))) → Option (Bool) := f5 k (c8 k) (c9 k) (c10 k)
theorem c5_ok (k : Nat) : SigOK Tryd.prog 5 ⟨f5i, f5o, mkFun f5i.tys f5o.tys (c5 k)⟩ := f5_ok k (c8 k) (c9 k) (c10 k) (c8_ok k) (c9_ok k) (c10_ok k)

/-! carrefour/lex.Right -/
def f11i : Sk := ⟨[.agg [.pv (.int .i64), .pv .str, .pv (.int .i64), .pv (.int .i64)]], [], []⟩
def f11o : Sk := ⟨[.lf (.pv .bool)], [], []⟩
noncomputable def f11E (g8 : (List (Int)) → Option ((Int) × (Int) × (List ((Int) × ((List Int) × ((Int) × ((Int) × (Unit)))))))) : List (Nat × List Sig) := [(8, [⟨f8i, f8o, mkFun f8i.tys f8o.tys g8⟩])]
noncomputable def f11C (g8 : (List (Int)) → Option ((Int) × (Int) × (List ((Int) × ((List Int) × ((Int) × ((Int) × (Unit)))))))) : Cfg := { P := Tryd.prog, env := lookS (f11E g8), n := 77, npB := 0, npO := 0, hint := fun i => look none [] i, pops := [] }
def f11_s (a0 : Int) (a1 : List Int) (a2 : Int) (a3 : Int) : St := { enc f11i 77 [⟨(.int .i64), a0⟩, ⟨.str, a1⟩, ⟨(.int .i64), a2⟩, ⟨(.int .i64), a3⟩] with slots := encAs f11i.slots [⟨(.int .i64), a0⟩, ⟨.str, a1⟩, ⟨(.int .i64), a2⟩, ⟨(.int .i64), a3⟩] ++ List.replicate 28 .dead }
noncomputable def f11 (k : Nat) (g8 : (List (Int)) → Option ((Int) × (Int) × (List ((Int) × ((List Int) × ((Int) × ((Int) × (Unit)))))))) : ((Int) × (List Int) × (Int) × (Int)) → Option (Bool) := fnOf (f11C g8) k Tryd.f11 f11i f11o
def f11_t (g8 : (List (Int)) → Option ((Int) × (Int) × (List ((Int) × ((List Int) × ((Int) × ((Int) × (Unit))))))))  (a0 : Int) (a1 : List Int) (a2 : Int) (a3 : Int) : Option (Bool) :=
  (g8 (a1)).bind fun o1 => bif (o1.1 == (0 : Int)) then (bif (((List.length o1.2.2 : Nat) : Int) == (2 : Int)) then (bif (inB (0 : Int) (List.length o1.2.2)) then some ((eqI (rdA ((0 : Int), ([], ((0 : Int), ((0 : Int), ())))) o1.2.2 (Int.toNat (0 : Int))).1 a0) && ((eqS (rdA ((0 : Int), ([], ((0 : Int), ((0 : Int), ())))) o1.2.2 (Int.toNat (0 : Int))).2.1 a1) && ((eqI (rdA ((0 : Int), ([], ((0 : Int), ((0 : Int), ())))) o1.2.2 (Int.toNat (0 : Int))).2.2.1 a2) && ((eqI (rdA ((0 : Int), ([], ((0 : Int), ((0 : Int), ())))) o1.2.2 (Int.toNat (0 : Int))).2.2.2.1 (0 : Int)) && true)))) else none) else (some false)) else (some false)
set_option maxRecDepth 100000 in
theorem f11_A (g8 : (List (Int)) → Option ((Int) × (Int) × (List ((Int) × ((List Int) × ((Int) × ((Int) × (Unit))))))))  (a0 : Int) (a1 : List Int) (a2 : Int) (a3 : Int) : evAtJ (f11C g8) [] [] (bodyOf Tryd.f11) [] (retK (f11C g8) Tryd.f11.results f11o) (f11_s a0 a1 a2 a3) = f11_t g8  a0 a1 a2 a3 := by
  kernel_rfl
set_option maxRecDepth 100000 in
theorem f11_e (k : Nat) (g8 : (List (Int)) → Option ((Int) × (Int) × (List ((Int) × ((List Int) × ((Int) × ((Int) × (Unit))))))))  (a0 : Int) (a1 : List Int) (a2 : Int) (a3 : Int) : f11 k g8 (a0, a1, a2, a3) = f11_t g8  a0 a1 a2 a3 := by
  have h0 : f11 k g8 (a0, a1, a2, a3) = evAt (f11C g8) k (bodyOf Tryd.f11) [] [] (retK (f11C g8) Tryd.f11.results f11o) (f11_s a0 a1 a2 a3) := by kernel_rfl
  have h1 : keep [] (jt (f11C g8) k (bodyOf Tryd.f11) [] [] (retK (f11C g8) Tryd.f11.results f11o)) = [] := by kernel_rfl
  have h2 : keep [] (lt (f11C g8) k (bodyOf Tryd.f11) [] [] (retK (f11C g8) Tryd.f11.results f11o)) = [] := by kernel_rfl
  exact h0.trans ((evAt_cut _ [] [] (by kernel_rfl) h1 h2 (by kernel_rfl) (by kernel_rfl) (by kernel_rfl)).trans (f11_A g8  a0 a1 a2 a3))
set_option maxRecDepth 100000 in
theorem f11_ok (k : Nat) (g8 : (List (Int)) → Option ((Int) × (Int) × (List ((Int) × ((List Int) × ((Int) × ((Int) × (Unit)))))))) (hg8 : SigOK Tryd.prog 8 ⟨f8i, f8o, mkFun f8i.tys f8o.tys g8⟩) : SigOK Tryd.prog 11 ⟨f11i, f11o, mkFun f11i.tys f11o.tys (f11 k g8)⟩ :=
  fn_ok (C := (f11C g8)) (l := f11E g8) rfl ⟨⟨hg8, trivial⟩, trivial⟩ (by kernel_rfl) k (fn := Tryd.f11) (by kernel_rfl) (by kernel_rfl) (by kernel_rfl) f11i f11o rfl rfl (show 0 ≤ 48 by decide) (show 0 ≤ 48 by decide)
noncomputable def c11 (k : Nat) : ((Int) × (List Int) × (Int) × (Int)) → Option (Bool) := f11 k (c8 k)
theorem c11_ok (k : Nat) : SigOK Tryd.prog 11 ⟨f11i, f11o, mkFun f11i.tys f11o.tys (c11 k)⟩ := f11_ok k (c8 k) (c8_ok k)

/-! carrefour/carrefourref04.skip -/
def f28i : Sk := ⟨[.lf (.pv (.slice (.int .u8))), .lf (.pv (.int .i64))], [], []⟩
def f28o : Sk := ⟨[.lf (.pv (.int .i64))], [], []⟩
def f28_k1 : Sk := ⟨sparse 57 [(0, .lf (.pv (.slice (.int .u8)))), (1, .lf (.pv (.int .i64)))], [], []⟩
def f28_k3 : Sk := ⟨sparse 57 [(0, .lf (.pv (.slice (.int .u8)))), (1, .lf (.pv (.int .i64)))], [], []⟩
noncomputable def f28E  : List (Nat × List Sig) := []
noncomputable def f28C  : Cfg := { P := Tryd.prog, env := lookS (f28E ), n := 105, npB := 0, npO := 0, hint := fun i => look none [(1, some f28_k1), (3, some f28_k3)] i, pops := [] }
def f28_s (a0 : List (Int)) (a1 : Int) : St := { enc f28i 105 [⟨(.slice (.int .u8)), a0⟩, ⟨(.int .i64), a1⟩] with slots := encAs f28i.slots [⟨(.slice (.int .u8)), a0⟩, ⟨(.int .i64), a1⟩] ++ List.replicate 55 .dead }
def f28_s1 (a0 : List (Int)) (a1 : Int) : St := enc f28_k1 105 [⟨(.slice (.int .u8)), a0⟩, ⟨(.int .i64), a1⟩]
def f28_s3 (a0 : List (Int)) (a1 : Int) : St := enc f28_k3 105 [⟨(.slice (.int .u8)), a0⟩, ⟨(.int .i64), a1⟩]
noncomputable def f28 (k : Nat)  : ((List (Int)) × (Int)) → Option (Int) := fnOf f28C k Tryd.f28 f28i f28o
noncomputable def f28_l1 (k : Nat)  (j1 : Nat) (a0 : List (Int)) (a1 : Int) : Option (Int) := loopAt f28C k (bodyOf Tryd.f28) [.r, .l, .b] [] j1 (retK f28C Tryd.f28.results f28o) (f28_s1 a0 a1)
noncomputable def f28_l3 (k : Nat)  (j1 : Nat) (j3 : Nat) (a0 : List (Int)) (a1 : Int) : Option (Int) := loopAt f28C k (bodyOf Tryd.f28) [.r, .l, .b, .b, .r, .b, .r, .t, .b] [j1] j3 (retK f28C Tryd.f28.results f28o) (f28_s3 a0 a1)
def f28_t  (Jl1 : (List (Int)) → Int → Option (Int)) (a0 : List (Int)) (a1 : Int) : Option (Int) :=
  Jl1 a0 a1
set_option maxRecDepth 100000 in
theorem f28_A  (Jl1 : St → Option (Int)) (a0 : List (Int)) (a1 : Int) : evAtJ f28C [] [(1, Jl1)] (bodyOf Tryd.f28) [] (retK f28C Tryd.f28.results f28o) (f28_s a0 a1) = f28_t  (fun a0 a1 => Jl1 (f28_s1 a0 a1)) a0 a1 := by
  kernel_rfl
set_option maxRecDepth 100000 in
theorem f28_e (k : Nat)   (a0 : List (Int)) (a1 : Int) : f28 k  (a0, a1) = f28_t  (f28_l1 k   k) a0 a1 := by
  have h0 : f28 k  (a0, a1) = evAt f28C k (bodyOf Tryd.f28) [] [] (retK f28C Tryd.f28.results f28o) (f28_s a0 a1) := by kernel_rfl
  have h1 : keep [] (jt f28C k (bodyOf Tryd.f28) [] [] (retK f28C Tryd.f28.results f28o)) = [] := by kernel_rfl
  have h2 : keep [1] (lt f28C k (bodyOf Tryd.f28) [] [] (retK f28C Tryd.f28.results f28o)) = [(1, (fun s => loopAt f28C k (bodyOf Tryd.f28) [.r, .l, .b] [] k (retK f28C Tryd.f28.results f28o) s))] := by kernel_rfl
  exact h0.trans ((evAt_cut _ [] [1] (by kernel_rfl) h1 h2 (by kernel_rfl) (by kernel_rfl) (by kernel_rfl)).trans (f28_A  (fun s => loopAt f28C k (bodyOf Tryd.f28) [.r, .l, .b] [] k (retK f28C Tryd.f28.results f28o) s) a0 a1))
def f28_tl1  (Jl1 : (List (Int)) → Int → Option (Int)) (Jl3 : (List (Int)) → Int → Option (Int)) (a0 : List (Int)) (a1 : Int) : Option (Int) :=
  bif (decide (a1 < ((List.length a0 : Nat) : Int))) then (bif (inB a1 (List.length a0)) then bif ((rdI a0 (Int.toNat a1)) == (35 : Int)) then (Jl3 a0 a1) else (bif (inB a1 (List.length a0)) then bif ((rdI a0 (Int.toNat a1)) == (32 : Int)) then (Jl1 a0 (IntKind.wrap .i64 (a1 + (1 : Int)))) else (bif (inB a1 (List.length a0)) then bif ((rdI a0 (Int.toNat a1)) == (9 : Int)) then (Jl1 a0 (IntKind.wrap .i64 (a1 + (1 : Int)))) else (bif (inB a1 (List.length a0)) then bif ((rdI a0 (Int.toNat a1)) == (10 : Int)) then (Jl1 a0 (IntKind.wrap .i64 (a1 + (1 : Int)))) else (bif (inB a1 (List.length a0)) then bif ((rdI a0 (Int.toNat a1)) == (13 : Int)) then (Jl1 a0 (IntKind.wrap .i64 (a1 + (1 : Int)))) else (some a1) else none) else none) else none) else none) else none) else (some a1)
set_option maxRecDepth 100000 in
theorem f28_Al1  (Jl1 : St → Option (Int)) (Jl3 : St → Option (Int)) (a0 : List (Int)) (a1 : Int) : evAtJ f28C [] [(1, Jl1), (3, Jl3)] (bodyOf Tryd.f28) [.r, .l, .b, .b] (retK f28C Tryd.f28.results f28o) (f28_s1 a0 a1) = f28_tl1  (fun a0 a1 => Jl1 (f28_s1 a0 a1)) (fun a0 a1 => Jl3 (f28_s3 a0 a1)) a0 a1 := by
  kernel_rfl
set_option maxRecDepth 100000 in
theorem f28_el1 (k : Nat)  (j1 : Nat) (a0 : List (Int)) (a1 : Int) : f28_l1 k  (j1 + 1) a0 a1 = f28_tl1  (f28_l1 k   j1) (f28_l3 k  j1 k) a0 a1 := by
  have h0 : f28_l1 k  (j1 + 1) a0 a1 = evAt f28C k (bodyOf Tryd.f28) [.r, .l, .b, .b] [j1] (retK f28C Tryd.f28.results f28o) (f28_s1 a0 a1) := by kernel_rfl
  have h1 : keep [] (jt f28C k (bodyOf Tryd.f28) [.r, .l, .b, .b] [j1] (retK f28C Tryd.f28.results f28o)) = [] := by kernel_rfl
  have h2 : keep [1, 3] (lt f28C k (bodyOf Tryd.f28) [.r, .l, .b, .b] [j1] (retK f28C Tryd.f28.results f28o)) = [(1, (fun s => loopAt f28C k (bodyOf Tryd.f28) [.r, .l, .b] [] j1 (retK f28C Tryd.f28.results f28o) s)), (3, (fun s => loopAt f28C k (bodyOf Tryd.f28) [.r, .l, .b, .b, .r, .b, .r, .t, .b] [j1] k (retK f28C Tryd.f28.results f28o) s))] := by kernel_rfl
  exact h0.trans ((evAt_cut _ [] [1, 3] (by kernel_rfl) h1 h2 (by kernel_rfl) (by kernel_rfl) (by kernel_rfl)).trans (f28_Al1  (fun s => loopAt f28C k (bodyOf Tryd.f28) [.r, .l, .b] [] j1 (retK f28C Tryd.f28.results f28o) s) (fun s => loopAt f28C k (bodyOf Tryd.f28) [.r, .l, .b, .b, .r, .b, .r, .t, .b] [j1] k (retK f28C Tryd.f28.results f28o) s) a0 a1))
def f28_tl3  (Jl1 : (List (Int)) → Int → Option (Int)) (Jl3 : (List (Int)) → Int → Option (Int)) (a0 : List (Int)) (a1 : Int) : Option (Int) :=
  bif (decide (a1 < ((List.length a0 : Nat) : Int))) then (bif (inB a1 (List.length a0)) then bif ((rdI a0 (Int.toNat a1)) != (10 : Int)) then (Jl3 a0 (IntKind.wrap .i64 (a1 + (1 : Int)))) else (Jl1 a0 a1) else none) else (Jl1 a0 a1)
set_option maxRecDepth 100000 in
theorem f28_Al3  (Jl1 : St → Option (Int)) (Jl3 : St → Option (Int)) (a0 : List (Int)) (a1 : Int) : evAtJ f28C [] [(1, Jl1), (3, Jl3)] (bodyOf Tryd.f28) [.r, .l, .b, .b, .r, .b, .r, .t, .b, .b] (retK f28C Tryd.f28.results f28o) (f28_s3 a0 a1) = f28_tl3  (fun a0 a1 => Jl1 (f28_s1 a0 a1)) (fun a0 a1 => Jl3 (f28_s3 a0 a1)) a0 a1 := by
  kernel_rfl
set_option maxRecDepth 100000 in
theorem f28_el3 (k : Nat)  (j1 : Nat) (j3 : Nat) (a0 : List (Int)) (a1 : Int) : f28_l3 k  j1 (j3 + 1) a0 a1 = f28_tl3  (f28_l1 k   j1) (f28_l3 k  j1 j3) a0 a1 := by
  have h0 : f28_l3 k  j1 (j3 + 1) a0 a1 = evAt f28C k (bodyOf Tryd.f28) [.r, .l, .b, .b, .r, .b, .r, .t, .b, .b] [j1, j3] (retK f28C Tryd.f28.results f28o) (f28_s3 a0 a1) := by kernel_rfl
  have h1 : keep [] (jt f28C k (bodyOf Tryd.f28) [.r, .l, .b, .b, .r, .b, .r, .t, .b, .b] [j1, j3] (retK f28C Tryd.f28.results f28o)) = [] := by kernel_rfl
  have h2 : keep [1, 3] (lt f28C k (bodyOf Tryd.f28) [.r, .l, .b, .b, .r, .b, .r, .t, .b, .b] [j1, j3] (retK f28C Tryd.f28.results f28o)) = [(1, (fun s => loopAt f28C k (bodyOf Tryd.f28) [.r, .l, .b] [] j1 (retK f28C Tryd.f28.results f28o) s)), (3, (fun s => loopAt f28C k (bodyOf Tryd.f28) [.r, .l, .b, .b, .r, .b, .r, .t, .b] [j1] j3 (retK f28C Tryd.f28.results f28o) s))] := by kernel_rfl
  exact h0.trans ((evAt_cut _ [] [1, 3] (by kernel_rfl) h1 h2 (by kernel_rfl) (by kernel_rfl) (by kernel_rfl)).trans (f28_Al3  (fun s => loopAt f28C k (bodyOf Tryd.f28) [.r, .l, .b] [] j1 (retK f28C Tryd.f28.results f28o) s) (fun s => loopAt f28C k (bodyOf Tryd.f28) [.r, .l, .b, .b, .r, .b, .r, .t, .b] [j1] j3 (retK f28C Tryd.f28.results f28o) s) a0 a1))
set_option maxRecDepth 100000 in
theorem f28_ok (k : Nat)   : SigOK Tryd.prog 28 ⟨f28i, f28o, mkFun f28i.tys f28o.tys (f28 k )⟩ :=
  fn_ok (C := f28C) (l := f28E ) rfl trivial (by kernel_rfl) k (fn := Tryd.f28) (by kernel_rfl) (by kernel_rfl) (by kernel_rfl) f28i f28o rfl rfl (show 0 ≤ 48 by decide) (show 0 ≤ 48 by decide)
noncomputable def c28 (k : Nat) : ((List (Int)) × (Int)) → Option (Int) := f28 k 
theorem c28_ok (k : Nat) : SigOK Tryd.prog 28 ⟨f28i, f28o, mkFun f28i.tys f28o.tys (c28 k)⟩ := f28_ok k  

/-! carrefour/carrefourref04.small -/
def f38i : Sk := ⟨[.lf (.pv (.int .u8))], [], []⟩
def f38o : Sk := ⟨[.lf (.pv .bool)], [], []⟩
noncomputable def f38E  : List (Nat × List Sig) := []
noncomputable def f38C  : Cfg := { P := Tryd.prog, env := lookS (f38E ), n := 57, npB := 0, npO := 0, hint := fun i => look none [] i, pops := [] }
def f38_s (a0 : Int) : St := { enc f38i 57 [⟨(.int .u8), a0⟩] with slots := encAs f38i.slots [⟨(.int .u8), a0⟩] ++ List.replicate 8 .dead }
noncomputable def f38 (k : Nat)  : (Int) → Option (Bool) := fnOf f38C k Tryd.f38 f38i f38o
def f38_t   (a0 : Int) : Option (Bool) :=
  bif (decide (a0 ≥ (97 : Int))) then (some (decide (a0 ≤ (122 : Int)))) else (some false)
set_option maxRecDepth 100000 in
theorem f38_A   (a0 : Int) : evAtJ f38C [] [] (bodyOf Tryd.f38) [] (retK f38C Tryd.f38.results f38o) (f38_s a0) = f38_t   a0 := by
  kernel_rfl
set_option maxRecDepth 100000 in
theorem f38_e (k : Nat)   (a0 : Int) : f38 k  (a0) = f38_t   a0 := by
  have h0 : f38 k  (a0) = evAt f38C k (bodyOf Tryd.f38) [] [] (retK f38C Tryd.f38.results f38o) (f38_s a0) := by kernel_rfl
  have h1 : keep [] (jt f38C k (bodyOf Tryd.f38) [] [] (retK f38C Tryd.f38.results f38o)) = [] := by kernel_rfl
  have h2 : keep [] (lt f38C k (bodyOf Tryd.f38) [] [] (retK f38C Tryd.f38.results f38o)) = [] := by kernel_rfl
  exact h0.trans ((evAt_cut _ [] [] (by kernel_rfl) h1 h2 (by kernel_rfl) (by kernel_rfl) (by kernel_rfl)).trans (f38_A   a0))
set_option maxRecDepth 100000 in
theorem f38_ok (k : Nat)   : SigOK Tryd.prog 38 ⟨f38i, f38o, mkFun f38i.tys f38o.tys (f38 k )⟩ :=
  fn_ok (C := f38C) (l := f38E ) rfl trivial (by kernel_rfl) k (fn := Tryd.f38) (by kernel_rfl) (by kernel_rfl) (by kernel_rfl) f38i f38o rfl rfl (show 0 ≤ 48 by decide) (show 0 ≤ 48 by decide)
noncomputable def c38 (k : Nat) : (Int) → Option (Bool) := f38 k 
theorem c38_ok (k : Nat) : SigOK Tryd.prog 38 ⟨f38i, f38o, mkFun f38i.tys f38o.tys (c38 k)⟩ := f38_ok k  

/-! carrefour/carrefourref04.digit -/
def f39i : Sk := ⟨[.lf (.pv (.int .u8))], [], []⟩
def f39o : Sk := ⟨[.lf (.pv .bool)], [], []⟩
noncomputable def f39E  : List (Nat × List Sig) := []
noncomputable def f39C  : Cfg := { P := Tryd.prog, env := lookS (f39E ), n := 57, npB := 0, npO := 0, hint := fun i => look none [] i, pops := [] }
def f39_s (a0 : Int) : St := { enc f39i 57 [⟨(.int .u8), a0⟩] with slots := encAs f39i.slots [⟨(.int .u8), a0⟩] ++ List.replicate 8 .dead }
noncomputable def f39 (k : Nat)  : (Int) → Option (Bool) := fnOf f39C k Tryd.f39 f39i f39o
def f39_t   (a0 : Int) : Option (Bool) :=
  bif (decide (a0 ≥ (48 : Int))) then (some (decide (a0 ≤ (57 : Int)))) else (some false)
set_option maxRecDepth 100000 in
theorem f39_A   (a0 : Int) : evAtJ f39C [] [] (bodyOf Tryd.f39) [] (retK f39C Tryd.f39.results f39o) (f39_s a0) = f39_t   a0 := by
  kernel_rfl
set_option maxRecDepth 100000 in
theorem f39_e (k : Nat)   (a0 : Int) : f39 k  (a0) = f39_t   a0 := by
  have h0 : f39 k  (a0) = evAt f39C k (bodyOf Tryd.f39) [] [] (retK f39C Tryd.f39.results f39o) (f39_s a0) := by kernel_rfl
  have h1 : keep [] (jt f39C k (bodyOf Tryd.f39) [] [] (retK f39C Tryd.f39.results f39o)) = [] := by kernel_rfl
  have h2 : keep [] (lt f39C k (bodyOf Tryd.f39) [] [] (retK f39C Tryd.f39.results f39o)) = [] := by kernel_rfl
  exact h0.trans ((evAt_cut _ [] [] (by kernel_rfl) h1 h2 (by kernel_rfl) (by kernel_rfl) (by kernel_rfl)).trans (f39_A   a0))
set_option maxRecDepth 100000 in
theorem f39_ok (k : Nat)   : SigOK Tryd.prog 39 ⟨f39i, f39o, mkFun f39i.tys f39o.tys (f39 k )⟩ :=
  fn_ok (C := f39C) (l := f39E ) rfl trivial (by kernel_rfl) k (fn := Tryd.f39) (by kernel_rfl) (by kernel_rfl) (by kernel_rfl) f39i f39o rfl rfl (show 0 ≤ 48 by decide) (show 0 ≤ 48 by decide)
noncomputable def c39 (k : Nat) : (Int) → Option (Bool) := f39 k 
theorem c39_ok (k : Nat) : SigOK Tryd.prog 39 ⟨f39i, f39o, mkFun f39i.tys f39o.tys (c39 k)⟩ := f39_ok k  

/-! carrefour/carrefourref04.sign -/
def f40i : Sk := ⟨[.lf (.pv (.int .u8))], [], []⟩
def f40o : Sk := ⟨[.lf (.pv .bool)], [], []⟩
noncomputable def f40E  : List (Nat × List Sig) := []
noncomputable def f40C  : Cfg := { P := Tryd.prog, env := lookS (f40E ), n := 77, npB := 0, npO := 0, hint := fun i => look none [] i, pops := [] }
def f40_s (a0 : Int) : St := { enc f40i 77 [⟨(.int .u8), a0⟩] with slots := encAs f40i.slots [⟨(.int .u8), a0⟩] ++ List.replicate 28 .dead }
noncomputable def f40 (k : Nat)  : (Int) → Option (Bool) := fnOf f40C k Tryd.f40 f40i f40o
def f40_t   (a0 : Int) : Option (Bool) :=
  bif (a0 == (123 : Int)) then (some true) else (bif (a0 == (125 : Int)) then (some true) else (bif (a0 == (44 : Int)) then (some true) else (bif (a0 == (59 : Int)) then (some true) else (bif (a0 == (58 : Int)) then (some true) else (bif (a0 == (47 : Int)) then (some true) else (some (a0 == (45 : Int))))))))
set_option maxRecDepth 100000 in
theorem f40_A   (a0 : Int) : evAtJ f40C [] [] (bodyOf Tryd.f40) [] (retK f40C Tryd.f40.results f40o) (f40_s a0) = f40_t   a0 := by
  kernel_rfl
set_option maxRecDepth 100000 in
theorem f40_e (k : Nat)   (a0 : Int) : f40 k  (a0) = f40_t   a0 := by
  have h0 : f40 k  (a0) = evAt f40C k (bodyOf Tryd.f40) [] [] (retK f40C Tryd.f40.results f40o) (f40_s a0) := by kernel_rfl
  have h1 : keep [] (jt f40C k (bodyOf Tryd.f40) [] [] (retK f40C Tryd.f40.results f40o)) = [] := by kernel_rfl
  have h2 : keep [] (lt f40C k (bodyOf Tryd.f40) [] [] (retK f40C Tryd.f40.results f40o)) = [] := by kernel_rfl
  exact h0.trans ((evAt_cut _ [] [] (by kernel_rfl) h1 h2 (by kernel_rfl) (by kernel_rfl) (by kernel_rfl)).trans (f40_A   a0))
set_option maxRecDepth 100000 in
theorem f40_ok (k : Nat)   : SigOK Tryd.prog 40 ⟨f40i, f40o, mkFun f40i.tys f40o.tys (f40 k )⟩ :=
  fn_ok (C := f40C) (l := f40E ) rfl trivial (by kernel_rfl) k (fn := Tryd.f40) (by kernel_rfl) (by kernel_rfl) (by kernel_rfl) f40i f40o rfl rfl (show 0 ≤ 48 by decide) (show 0 ≤ 48 by decide)
noncomputable def c40 (k : Nat) : (Int) → Option (Bool) := f40 k 
theorem c40_ok (k : Nat) : SigOK Tryd.prog 40 ⟨f40i, f40o, mkFun f40i.tys f40o.tys (c40 k)⟩ := f40_ok k  

/-! carrefour/carrefourref04.one -/
def f29i : Sk := ⟨[.lf (.pv (.slice (.int .u8))), .lf (.pv (.int .i64))], [], []⟩
def f29o : Sk := ⟨[.agg [.pv (.int .i64), .pv .str, .pv (.int .i64), .pv (.int .i64)], .lf (.pv (.int .i64))], [], []⟩
def f29_k3 : Sk := ⟨sparse 114 [(0, .lf (.pv (.slice (.int .u8)))), (1, .lf (.pv (.int .i64))), (4, .lf (.ptr 0 0)), (6, .lf (.pv (.int .i64)))], [[.pv (.int .i64), .pv .str, .pv (.int .i64), .pv (.int .i64)]], []⟩
def f29_k10 : Sk := ⟨sparse 114 [(0, .lf (.pv (.slice (.int .u8)))), (1, .lf (.pv (.int .i64))), (4, .lf (.ptr 0 0)), (6, .lf (.pv (.int .i64))), (7, .lf (.pv (.int .i64)))], [[.pv (.int .i64), .pv .str, .pv (.int .i64), .pv (.int .i64)]], []⟩
noncomputable def f29E (g38 : (Int) → Option (Bool)) (g39 : (Int) → Option (Bool)) (g40 : (Int) → Option (Bool)) : List (Nat × List Sig) := [(38, [⟨f38i, f38o, mkFun f38i.tys f38o.tys g38⟩]), (39, [⟨f39i, f39o, mkFun f39i.tys f39o.tys g39⟩]), (40, [⟨f40i, f40o, mkFun f40i.tys f40o.tys g40⟩])]
noncomputable def f29C (g38 : (Int) → Option (Bool)) (g39 : (Int) → Option (Bool)) (g40 : (Int) → Option (Bool)) : Cfg := { P := Tryd.prog, env := lookS (f29E g38 g39 g40), n := 162, npB := 0, npO := 0, hint := fun i => look none [(3, some f29_k3), (10, some f29_k10)] i, pops := [] }
def f29_s (a0 : List (Int)) (a1 : Int) : St := { enc f29i 162 [⟨(.slice (.int .u8)), a0⟩, ⟨(.int .i64), a1⟩] with slots := encAs f29i.slots [⟨(.slice (.int .u8)), a0⟩, ⟨(.int .i64), a1⟩] ++ List.replicate 112 .dead }
def f29_s3 (a0 : List (Int)) (a1 : Int) (a2 : Int) (a3 : Int) (a4 : List Int) (a5 : Int) (a6 : Int) : St := enc f29_k3 162 [⟨(.slice (.int .u8)), a0⟩, ⟨(.int .i64), a1⟩, ⟨(.int .i64), a2⟩, ⟨(.int .i64), a3⟩, ⟨.str, a4⟩, ⟨(.int .i64), a5⟩, ⟨(.int .i64), a6⟩]
def f29_s10 (a0 : List (Int)) (a1 : Int) (a2 : Int) (a3 : Int) (a4 : Int) (a5 : List Int) (a6 : Int) (a7 : Int) : St := enc f29_k10 162 [⟨(.slice (.int .u8)), a0⟩, ⟨(.int .i64), a1⟩, ⟨(.int .i64), a2⟩, ⟨(.int .i64), a3⟩, ⟨(.int .i64), a4⟩, ⟨.str, a5⟩, ⟨(.int .i64), a6⟩, ⟨(.int .i64), a7⟩]
noncomputable def f29 (k : Nat) (g38 : (Int) → Option (Bool)) (g39 : (Int) → Option (Bool)) (g40 : (Int) → Option (Bool)) : ((List (Int)) × (Int)) → Option ((Int) × (List Int) × (Int) × (Int) × (Int)) := fnOf (f29C g38 g39 g40) k Tryd.f29 f29i f29o
noncomputable def f29_l3 (k : Nat) (g38 : (Int) → Option (Bool)) (g39 : (Int) → Option (Bool)) (g40 : (Int) → Option (Bool)) (j3 : Nat) (a0 : List (Int)) (a1 : Int) (a2 : Int) (a3 : Int) (a4 : List Int) (a5 : Int) (a6 : Int) : Option ((Int) × (List Int) × (Int) × (Int) × (Int)) := loopAt (f29C g38 g39 g40) k (bodyOf Tryd.f29) [.r, .r, .l, .b, .r, .t, .l, .b] [] j3 (retK (f29C g38 g39 g40) Tryd.f29.results f29o) (f29_s3 a0 a1 a2 a3 a4 a5 a6)
noncomputable def f29_l10 (k : Nat) (g38 : (Int) → Option (Bool)) (g39 : (Int) → Option (Bool)) (g40 : (Int) → Option (Bool)) (j10 : Nat) (a0 : List (Int)) (a1 : Int) (a2 : Int) (a3 : Int) (a4 : Int) (a5 : List Int) (a6 : Int) (a7 : Int) : Option ((Int) × (List Int) × (Int) × (Int) × (Int)) := loopAt (f29C g38 g39 g40) k (bodyOf Tryd.f29) [.r, .r, .l, .b, .r, .e, .r, .t, .r, .l, .b] [] j10 (retK (f29C g38 g39 g40) Tryd.f29.results f29o) (f29_s10 a0 a1 a2 a3 a4 a5 a6 a7)
def f29_t (g38 : (Int) → Option (Bool)) (g39 : (Int) → Option (Bool)) (g40 : (Int) → Option (Bool)) (Jl3 : (List (Int)) → Int → Int → Int → (List Int) → Int → Int → Option ((Int) × (List Int) × (Int) × (Int) × (Int))) (Jl10 : (List (Int)) → Int → Int → Int → Int → (List Int) → Int → Int → Option ((Int) × (List Int) × (Int) × (Int) × (Int))) (a0 : List (Int)) (a1 : Int) : Option ((Int) × (List Int) × (Int) × (Int) × (Int)) :=
  bif (inB a1 (List.length a0)) then (g38 ((rdI a0 (Int.toNat a1)))).bind fun o1 => bif o1 then (Jl3 a0 a1 a1 (0 : Int) ([] : List Int) (0 : Int) (0 : Int)) else (bif (inB a1 (List.length a0)) then (g39 ((rdI a0 (Int.toNat a1)))).bind fun o2 => bif o2 then (Jl10 a0 a1 a1 (0 : Int) (0 : Int) ([] : List Int) (0 : Int) (0 : Int)) else (bif (inB a1 (List.length a0)) then (g40 ((rdI a0 (Int.toNat a1)))).bind fun o3 => bif o3 then (bif (cutB a1 (IntKind.wrap .i64 (a1 + (1 : Int))) (List.length a0)) then some ((3 : Int), (cutL a0 a1 (IntKind.wrap .i64 (a1 + (1 : Int)))), (0 : Int), a1, (0 : Int)) else none) else (some ((0 : Int), ([] : List Int), (0 : Int), (0 : Int), (40 : Int))) else none) else none) else none
set_option maxRecDepth 100000 in
theorem f29_A (g38 : (Int) → Option (Bool)) (g39 : (Int) → Option (Bool)) (g40 : (Int) → Option (Bool)) (Jl3 : St → Option ((Int) × (List Int) × (Int) × (Int) × (Int))) (Jl10 : St → Option ((Int) × (List Int) × (Int) × (Int) × (Int))) (a0 : List (Int)) (a1 : Int) : evAtJ (f29C g38 g39 g40) [] [(3, Jl3), (10, Jl10)] (bodyOf Tryd.f29) [] (retK (f29C g38 g39 g40) Tryd.f29.results f29o) (f29_s a0 a1) = f29_t g38 g39 g40 (fun a0 a1 a2 a3 a4 a5 a6 => Jl3 (f29_s3 a0 a1 a2 a3 a4 a5 a6)) (fun a0 a1 a2 a3 a4 a5 a6 a7 => Jl10 (f29_s10 a0 a1 a2 a3 a4 a5 a6 a7)) a0 a1 := by
  kernel_rfl
set_option maxRecDepth 100000 in
theorem f29_e (k : Nat) (g38 : (Int) → Option (Bool)) (g39 : (Int) → Option (Bool)) (g40 : (Int) → Option (Bool))  (a0 : List (Int)) (a1 : Int) : f29 k g38 g39 g40 (a0, a1) = f29_t g38 g39 g40 (f29_l3 k g38 g39 g40  k) (f29_l10 k g38 g39 g40  k) a0 a1 := by
  have h0 : f29 k g38 g39 g40 (a0, a1) = evAt (f29C g38 g39 g40) k (bodyOf Tryd.f29) [] [] (retK (f29C g38 g39 g40) Tryd.f29.results f29o) (f29_s a0 a1) := by kernel_rfl
  have h1 : keep [] (jt (f29C g38 g39 g40) k (bodyOf Tryd.f29) [] [] (retK (f29C g38 g39 g40) Tryd.f29.results f29o)) = [] := by kernel_rfl
  have h2 : keep [3, 10] (lt (f29C g38 g39 g40) k (bodyOf Tryd.f29) [] [] (retK (f29C g38 g39 g40) Tryd.f29.results f29o)) = [(3, (fun s => loopAt (f29C g38 g39 g40) k (bodyOf Tryd.f29) [.r, .r, .l, .b, .r, .t, .l, .b] [] k (retK (f29C g38 g39 g40) Tryd.f29.results f29o) s)), (10, (fun s => loopAt (f29C g38 g39 g40) k (bodyOf Tryd.f29) [.r, .r, .l, .b, .r, .e, .r, .t, .r, .l, .b] [] k (retK (f29C g38 g39 g40) Tryd.f29.results f29o) s))] := by kernel_rfl
  exact h0.trans ((evAt_cut _ [] [3, 10] (by kernel_rfl) h1 h2 (by kernel_rfl) (by kernel_rfl) (by kernel_rfl)).trans (f29_A g38 g39 g40 (fun s => loopAt (f29C g38 g39 g40) k (bodyOf Tryd.f29) [.r, .r, .l, .b, .r, .t, .l, .b] [] k (retK (f29C g38 g39 g40) Tryd.f29.results f29o) s) (fun s => loopAt (f29C g38 g39 g40) k (bodyOf Tryd.f29) [.r, .r, .l, .b, .r, .e, .r, .t, .r, .l, .b] [] k (retK (f29C g38 g39 g40) Tryd.f29.results f29o) s) a0 a1))
def f29_tl3 (g38 : (Int) → Option (Bool)) (g39 : (Int) → Option (Bool)) (g40 : (Int) → Option (Bool)) (Jl3 : (List (Int)) → Int → Int → Int → (List Int) → Int → Int → Option ((Int) × (List Int) × (Int) × (Int) × (Int))) (a0 : List (Int)) (a1 : Int) (a2 : Int) (a3 : Int) (a4 : List Int) (a5 : Int) (a6 : Int) : Option ((Int) × (List Int) × (Int) × (Int) × (Int)) :=
  bif (decide (a2 < ((List.length a0 : Nat) : Int))) then (bif (inB a2 (List.length a0)) then (g38 ((rdI a0 (Int.toNat a2)))).bind fun o1 => bif o1 then (Jl3 a0 a1 (IntKind.wrap .i64 (a2 + (1 : Int))) a3 a4 a5 a6) else (bif (inB a2 (List.length a0)) then (g39 ((rdI a0 (Int.toNat a2)))).bind fun o2 => bif o2 then (Jl3 a0 a1 (IntKind.wrap .i64 (a2 + (1 : Int))) a3 a4 a5 a6) else (bif (inB a2 (List.length a0)) then bif ((rdI a0 (Int.toNat a2)) == (95 : Int)) then (Jl3 a0 a1 (IntKind.wrap .i64 (a2 + (1 : Int))) a3 a4 a5 a6) else (bif (decide ((IntKind.wrap .i64 (a2 - a1)) > (24 : Int))) then (some ((0 : Int), ([] : List Int), (0 : Int), (0 : Int), (4 : Int))) else (bif (cutB a1 a2 (List.length a0)) then some ((1 : Int), (cutL a0 a1 a2), (0 : Int), a1, (0 : Int)) else none)) else none) else none) else none) else (bif (decide ((IntKind.wrap .i64 (a2 - a1)) > (24 : Int))) then (some ((0 : Int), ([] : List Int), (0 : Int), (0 : Int), (4 : Int))) else (bif (cutB a1 a2 (List.length a0)) then some ((1 : Int), (cutL a0 a1 a2), (0 : Int), a1, (0 : Int)) else none))
set_option maxRecDepth 100000 in
theorem f29_Al3 (g38 : (Int) → Option (Bool)) (g39 : (Int) → Option (Bool)) (g40 : (Int) → Option (Bool)) (Jl3 : St → Option ((Int) × (List Int) × (Int) × (Int) × (Int))) (Jl10 : St → Option ((Int) × (List Int) × (Int) × (Int) × (Int))) (a0 : List (Int)) (a1 : Int) (a2 : Int) (a3 : Int) (a4 : List Int) (a5 : Int) (a6 : Int) : evAtJ (f29C g38 g39 g40) [] [(3, Jl3), (10, Jl10)] (bodyOf Tryd.f29) [.r, .r, .l, .b, .r, .t, .l, .b, .b] (retK (f29C g38 g39 g40) Tryd.f29.results f29o) (f29_s3 a0 a1 a2 a3 a4 a5 a6) = f29_tl3 g38 g39 g40 (fun a0 a1 a2 a3 a4 a5 a6 => Jl3 (f29_s3 a0 a1 a2 a3 a4 a5 a6)) a0 a1 a2 a3 a4 a5 a6 := by
  kernel_rfl
set_option maxRecDepth 100000 in
theorem f29_el3 (k : Nat) (g38 : (Int) → Option (Bool)) (g39 : (Int) → Option (Bool)) (g40 : (Int) → Option (Bool)) (j3 : Nat) (a0 : List (Int)) (a1 : Int) (a2 : Int) (a3 : Int) (a4 : List Int) (a5 : Int) (a6 : Int) : f29_l3 k g38 g39 g40 (j3 + 1) a0 a1 a2 a3 a4 a5 a6 = f29_tl3 g38 g39 g40 (f29_l3 k g38 g39 g40  j3) a0 a1 a2 a3 a4 a5 a6 := by
  have h0 : f29_l3 k g38 g39 g40 (j3 + 1) a0 a1 a2 a3 a4 a5 a6 = evAt (f29C g38 g39 g40) k (bodyOf Tryd.f29) [.r, .r, .l, .b, .r, .t, .l, .b, .b] [j3] (retK (f29C g38 g39 g40) Tryd.f29.results f29o) (f29_s3 a0 a1 a2 a3 a4 a5 a6) := by kernel_rfl
  have h1 : keep [] (jt (f29C g38 g39 g40) k (bodyOf Tryd.f29) [.r, .r, .l, .b, .r, .t, .l, .b, .b] [j3] (retK (f29C g38 g39 g40) Tryd.f29.results f29o)) = [] := by kernel_rfl
  have h2 : keep [3, 10] (lt (f29C g38 g39 g40) k (bodyOf Tryd.f29) [.r, .r, .l, .b, .r, .t, .l, .b, .b] [j3] (retK (f29C g38 g39 g40) Tryd.f29.results f29o)) = [(3, (fun s => loopAt (f29C g38 g39 g40) k (bodyOf Tryd.f29) [.r, .r, .l, .b, .r, .t, .l, .b] [] j3 (retK (f29C g38 g39 g40) Tryd.f29.results f29o) s)), (10, (fun s => loopAt (f29C g38 g39 g40) k (bodyOf Tryd.f29) [.r, .r, .l, .b, .r, .e, .r, .t, .r, .l, .b] [] k (retK (f29C g38 g39 g40) Tryd.f29.results f29o) s))] := by kernel_rfl
  exact h0.trans ((evAt_cut _ [] [3, 10] (by kernel_rfl) h1 h2 (by kernel_rfl) (by kernel_rfl) (by kernel_rfl)).trans (f29_Al3 g38 g39 g40 (fun s => loopAt (f29C g38 g39 g40) k (bodyOf Tryd.f29) [.r, .r, .l, .b, .r, .t, .l, .b] [] j3 (retK (f29C g38 g39 g40) Tryd.f29.results f29o) s) (fun s => loopAt (f29C g38 g39 g40) k (bodyOf Tryd.f29) [.r, .r, .l, .b, .r, .e, .r, .t, .r, .l, .b] [] k (retK (f29C g38 g39 g40) Tryd.f29.results f29o) s) a0 a1 a2 a3 a4 a5 a6))
def f29_tl10 (g38 : (Int) → Option (Bool)) (g39 : (Int) → Option (Bool)) (g40 : (Int) → Option (Bool)) (Jl10 : (List (Int)) → Int → Int → Int → Int → (List Int) → Int → Int → Option ((Int) × (List Int) × (Int) × (Int) × (Int))) (a0 : List (Int)) (a1 : Int) (a2 : Int) (a3 : Int) (a4 : Int) (a5 : List Int) (a6 : Int) (a7 : Int) : Option ((Int) × (List Int) × (Int) × (Int) × (Int)) :=
  bif (decide (a2 < ((List.length a0 : Nat) : Int))) then (bif (inB a2 (List.length a0)) then (g39 ((rdI a0 (Int.toNat a2)))).bind fun o1 => bif o1 then (bif (decide ((IntKind.wrap .i64 (a2 - a1)) < (18 : Int))) then (bif (inB a2 (List.length a0)) then Jl10 a0 a1 (IntKind.wrap .i64 (a2 + (1 : Int))) (IntKind.wrap .i64 ((IntKind.wrap .i64 ((10 : Int) * a3)) + (IntKind.wrap .i64 (IntKind.wrap .u8 ((rdI a0 (Int.toNat a2)) - (48 : Int)))))) a4 a5 a6 a7 else none) else (Jl10 a0 a1 (IntKind.wrap .i64 (a2 + (1 : Int))) a3 a4 a5 a6 a7)) else (bif (decide ((IntKind.wrap .i64 (a2 - a1)) > (18 : Int))) then (some ((0 : Int), ([] : List Int), (0 : Int), (0 : Int), (4 : Int))) else (bif (cutB a1 a2 (List.length a0)) then some ((2 : Int), (cutL a0 a1 a2), a3, a1, (0 : Int)) else none)) else none) else (bif (decide ((IntKind.wrap .i64 (a2 - a1)) > (18 : Int))) then (some ((0 : Int), ([] : List Int), (0 : Int), (0 : Int), (4 : Int))) else (bif (cutB a1 a2 (List.length a0)) then some ((2 : Int), (cutL a0 a1 a2), a3, a1, (0 : Int)) else none))
set_option maxRecDepth 100000 in
theorem f29_Al10 (g38 : (Int) → Option (Bool)) (g39 : (Int) → Option (Bool)) (g40 : (Int) → Option (Bool)) (Jl3 : St → Option ((Int) × (List Int) × (Int) × (Int) × (Int))) (Jl10 : St → Option ((Int) × (List Int) × (Int) × (Int) × (Int))) (a0 : List (Int)) (a1 : Int) (a2 : Int) (a3 : Int) (a4 : Int) (a5 : List Int) (a6 : Int) (a7 : Int) : evAtJ (f29C g38 g39 g40) [] [(3, Jl3), (10, Jl10)] (bodyOf Tryd.f29) [.r, .r, .l, .b, .r, .e, .r, .t, .r, .l, .b, .b] (retK (f29C g38 g39 g40) Tryd.f29.results f29o) (f29_s10 a0 a1 a2 a3 a4 a5 a6 a7) = f29_tl10 g38 g39 g40 (fun a0 a1 a2 a3 a4 a5 a6 a7 => Jl10 (f29_s10 a0 a1 a2 a3 a4 a5 a6 a7)) a0 a1 a2 a3 a4 a5 a6 a7 := by
  kernel_rfl
set_option maxRecDepth 100000 in
theorem f29_el10 (k : Nat) (g38 : (Int) → Option (Bool)) (g39 : (Int) → Option (Bool)) (g40 : (Int) → Option (Bool)) (j10 : Nat) (a0 : List (Int)) (a1 : Int) (a2 : Int) (a3 : Int) (a4 : Int) (a5 : List Int) (a6 : Int) (a7 : Int) : f29_l10 k g38 g39 g40 (j10 + 1) a0 a1 a2 a3 a4 a5 a6 a7 = f29_tl10 g38 g39 g40 (f29_l10 k g38 g39 g40  j10) a0 a1 a2 a3 a4 a5 a6 a7 := by
  have h0 : f29_l10 k g38 g39 g40 (j10 + 1) a0 a1 a2 a3 a4 a5 a6 a7 = evAt (f29C g38 g39 g40) k (bodyOf Tryd.f29) [.r, .r, .l, .b, .r, .e, .r, .t, .r, .l, .b, .b] [j10] (retK (f29C g38 g39 g40) Tryd.f29.results f29o) (f29_s10 a0 a1 a2 a3 a4 a5 a6 a7) := by kernel_rfl
  have h1 : keep [] (jt (f29C g38 g39 g40) k (bodyOf Tryd.f29) [.r, .r, .l, .b, .r, .e, .r, .t, .r, .l, .b, .b] [j10] (retK (f29C g38 g39 g40) Tryd.f29.results f29o)) = [] := by kernel_rfl
  have h2 : keep [3, 10] (lt (f29C g38 g39 g40) k (bodyOf Tryd.f29) [.r, .r, .l, .b, .r, .e, .r, .t, .r, .l, .b, .b] [j10] (retK (f29C g38 g39 g40) Tryd.f29.results f29o)) = [(3, (fun s => loopAt (f29C g38 g39 g40) k (bodyOf Tryd.f29) [.r, .r, .l, .b, .r, .t, .l, .b] [] k (retK (f29C g38 g39 g40) Tryd.f29.results f29o) s)), (10, (fun s => loopAt (f29C g38 g39 g40) k (bodyOf Tryd.f29) [.r, .r, .l, .b, .r, .e, .r, .t, .r, .l, .b] [] j10 (retK (f29C g38 g39 g40) Tryd.f29.results f29o) s))] := by kernel_rfl
  exact h0.trans ((evAt_cut _ [] [3, 10] (by kernel_rfl) h1 h2 (by kernel_rfl) (by kernel_rfl) (by kernel_rfl)).trans (f29_Al10 g38 g39 g40 (fun s => loopAt (f29C g38 g39 g40) k (bodyOf Tryd.f29) [.r, .r, .l, .b, .r, .t, .l, .b] [] k (retK (f29C g38 g39 g40) Tryd.f29.results f29o) s) (fun s => loopAt (f29C g38 g39 g40) k (bodyOf Tryd.f29) [.r, .r, .l, .b, .r, .e, .r, .t, .r, .l, .b] [] j10 (retK (f29C g38 g39 g40) Tryd.f29.results f29o) s) a0 a1 a2 a3 a4 a5 a6 a7))
set_option maxRecDepth 100000 in
theorem f29_ok (k : Nat) (g38 : (Int) → Option (Bool)) (g39 : (Int) → Option (Bool)) (g40 : (Int) → Option (Bool)) (hg38 : SigOK Tryd.prog 38 ⟨f38i, f38o, mkFun f38i.tys f38o.tys g38⟩) (hg39 : SigOK Tryd.prog 39 ⟨f39i, f39o, mkFun f39i.tys f39o.tys g39⟩) (hg40 : SigOK Tryd.prog 40 ⟨f40i, f40o, mkFun f40i.tys f40o.tys g40⟩) : SigOK Tryd.prog 29 ⟨f29i, f29o, mkFun f29i.tys f29o.tys (f29 k g38 g39 g40)⟩ :=
  fn_ok (C := (f29C g38 g39 g40)) (l := f29E g38 g39 g40) rfl ⟨⟨hg38, trivial⟩, ⟨hg39, trivial⟩, ⟨hg40, trivial⟩, trivial⟩ (by kernel_rfl) k (fn := Tryd.f29) (by kernel_rfl) (by kernel_rfl) (by kernel_rfl) f29i f29o rfl rfl (show 0 ≤ 48 by decide) (show 0 ≤ 48 by decide)
noncomputable def c29 (k : Nat) : ((List (Int)) × (Int)) → Option ((Int) × (List Int) × (Int) × (Int) × (Int)) := f29 k (c38 k) (c39 k) (c40 k)
theorem c29_ok (k : Nat) : SigOK Tryd.prog 29 ⟨f29i, f29o, mkFun f29i.tys f29o.tys (c29 k)⟩ := f29_ok k (c38 k) (c39 k) (c40 k) (c38_ok k) (c39_ok k) (c40_ok k)

/-! carrefour/carrefourref04.Tokens -/
def f20i : Sk := ⟨[.lf (.pv (.slice (.int .u8)))], [], []⟩
def f20o : Sk := ⟨[.lf (.own 0), .lf (.pv (.int .i64)), .lf (.pv (.int .i64))], [], [some (29, (.cons (.int .i64) (.cons .str (.cons (.int .i64) (.cons (.int .i64) .nil)))))]⟩
def f20_k5 : Sk := ⟨sparse 44 [(0, .lf (.pv (.slice (.int .u8)))), (5, .lf (.own 0)), (6, .lf (.pv (.int .i64)))], [], [some (29, (.cons (.int .i64) (.cons .str (.cons (.int .i64) (.cons (.int .i64) .nil)))))]⟩
noncomputable def f20E (g28 : ((List (Int)) × (Int)) → Option (Int)) (g29 : ((List (Int)) × (Int)) → Option ((Int) × (List Int) × (Int) × (Int) × (Int))) : List (Nat × List Sig) := [(28, [⟨f28i, f28o, mkFun f28i.tys f28o.tys g28⟩]), (29, [⟨f29i, f29o, mkFun f29i.tys f29o.tys g29⟩])]
noncomputable def f20C (g28 : ((List (Int)) × (Int)) → Option (Int)) (g29 : ((List (Int)) × (Int)) → Option ((Int) × (List Int) × (Int) × (Int) × (Int))) : Cfg := { P := Tryd.prog, env := lookS (f20E g28 g29), n := 92, npB := 0, npO := 0, hint := fun i => look none [(5, some f20_k5)] i, pops := [] }
def f20_s (a0 : List (Int)) : St := { enc f20i 92 [⟨(.slice (.int .u8)), a0⟩] with slots := encAs f20i.slots [⟨(.slice (.int .u8)), a0⟩] ++ List.replicate 43 .dead }
def f20_s5 (a0 : List (Int)) (a1 : Int) (a2 : List ((Int) × ((List Int) × ((Int) × ((Int) × (Unit)))))) : St := enc f20_k5 92 [⟨(.slice (.int .u8)), a0⟩, ⟨(.int .i64), a1⟩, ⟨(.slice (.cons (.int .i64) (.cons .str (.cons (.int .i64) (.cons (.int .i64) .nil))))), a2⟩]
noncomputable def f20 (k : Nat) (g28 : ((List (Int)) × (Int)) → Option (Int)) (g29 : ((List (Int)) × (Int)) → Option ((Int) × (List Int) × (Int) × (Int) × (Int))) : (List (Int)) → Option ((Int) × (Int) × (List ((Int) × ((List Int) × ((Int) × ((Int) × (Unit))))))) := fnOf (f20C g28 g29) k Tryd.f20 f20i f20o
noncomputable def f20_l5 (k : Nat) (g28 : ((List (Int)) × (Int)) → Option (Int)) (g29 : ((List (Int)) × (Int)) → Option ((Int) × (List Int) × (Int) × (Int) × (Int))) (j5 : Nat) (a0 : List (Int)) (a1 : Int) (a2 : List ((Int) × ((List Int) × ((Int) × ((Int) × (Unit)))))) : Option ((Int) × (Int) × (List ((Int) × ((List Int) × ((Int) × ((Int) × (Unit))))))) := loopAt (f20C g28 g29) k (bodyOf Tryd.f20) [.r, .r, .r, .r, .l, .b] [] j5 (retK (f20C g28 g29) Tryd.f20.results f20o) (f20_s5 a0 a1 a2)
def f20_t (g28 : ((List (Int)) × (Int)) → Option (Int)) (g29 : ((List (Int)) × (Int)) → Option ((Int) × (List Int) × (Int) × (Int) × (Int))) (Jl5 : (List (Int)) → Int → (List ((Int) × ((List Int) × ((Int) × ((Int) × (Unit)))))) → Option ((Int) × (Int) × (List ((Int) × ((List Int) × ((Int) × ((Int) × (Unit)))))))) (a0 : List (Int)) : Option ((Int) × (Int) × (List ((Int) × ((List Int) × ((Int) × ((Int) × (Unit))))))) :=
  bif (decide (((List.length a0 : Nat) : Int) > (65536 : Int))) then (some ((4 : Int), (65536 : Int), [])) else ((g28 (a0, (0 : Int))).bind fun o1 => Jl5 a0 o1 ([]))
set_option maxRecDepth 100000 in
theorem f20_A (g28 : ((List (Int)) × (Int)) → Option (Int)) (g29 : ((List (Int)) × (Int)) → Option ((Int) × (List Int) × (Int) × (Int) × (Int))) (Jl5 : St → Option ((Int) × (Int) × (List ((Int) × ((List Int) × ((Int) × ((Int) × (Unit)))))))) (a0 : List (Int)) : evAtJ (f20C g28 g29) [] [(5, Jl5)] (bodyOf Tryd.f20) [] (retK (f20C g28 g29) Tryd.f20.results f20o) (f20_s a0) = f20_t g28 g29 (fun a0 a1 a2 => Jl5 (f20_s5 a0 a1 a2)) a0 := by
  kernel_rfl
set_option maxRecDepth 100000 in
theorem f20_e (k : Nat) (g28 : ((List (Int)) × (Int)) → Option (Int)) (g29 : ((List (Int)) × (Int)) → Option ((Int) × (List Int) × (Int) × (Int) × (Int)))  (a0 : List (Int)) : f20 k g28 g29 (a0) = f20_t g28 g29 (f20_l5 k g28 g29  k) a0 := by
  have h0 : f20 k g28 g29 (a0) = evAt (f20C g28 g29) k (bodyOf Tryd.f20) [] [] (retK (f20C g28 g29) Tryd.f20.results f20o) (f20_s a0) := by kernel_rfl
  have h1 : keep [] (jt (f20C g28 g29) k (bodyOf Tryd.f20) [] [] (retK (f20C g28 g29) Tryd.f20.results f20o)) = [] := by kernel_rfl
  have h2 : keep [5] (lt (f20C g28 g29) k (bodyOf Tryd.f20) [] [] (retK (f20C g28 g29) Tryd.f20.results f20o)) = [(5, (fun s => loopAt (f20C g28 g29) k (bodyOf Tryd.f20) [.r, .r, .r, .r, .l, .b] [] k (retK (f20C g28 g29) Tryd.f20.results f20o) s))] := by kernel_rfl
  exact h0.trans ((evAt_cut _ [] [5] (by kernel_rfl) h1 h2 (by kernel_rfl) (by kernel_rfl) (by kernel_rfl)).trans (f20_A g28 g29 (fun s => loopAt (f20C g28 g29) k (bodyOf Tryd.f20) [.r, .r, .r, .r, .l, .b] [] k (retK (f20C g28 g29) Tryd.f20.results f20o) s) a0))
def f20_tl5 (g28 : ((List (Int)) × (Int)) → Option (Int)) (g29 : ((List (Int)) × (Int)) → Option ((Int) × (List Int) × (Int) × (Int) × (Int))) (Jl5 : (List (Int)) → Int → (List ((Int) × ((List Int) × ((Int) × ((Int) × (Unit)))))) → Option ((Int) × (Int) × (List ((Int) × ((List Int) × ((Int) × ((Int) × (Unit)))))))) (a0 : List (Int)) (a1 : Int) (a2 : List ((Int) × ((List Int) × ((Int) × ((Int) × (Unit)))))) : Option ((Int) × (Int) × (List ((Int) × ((List Int) × ((Int) × ((Int) × (Unit))))))) :=
  bif (decide (a1 < ((List.length a0 : Nat) : Int))) then ((g29 (a0, a1)).bind fun o1 => bif (o1.2.2.2.2 != (0 : Int)) then (some (o1.2.2.2.2, a1, [])) else (bif (appB 40 (List.length a2) (List.length ([(o1.1, (o1.2.1, (o1.2.2.1, (o1.2.2.2.1, ()))))] : List ((Int) × ((List Int) × ((Int) × ((Int) × (Unit)))))))) then (g28 (a0, (IntKind.wrap .i64 (a1 + ((List.length o1.2.1 : Nat) : Int))))).bind fun o2 => Jl5 a0 o2 (a2 ++ ([(o1.1, (o1.2.1, (o1.2.2.1, (o1.2.2.2.1, ()))))] : List ((Int) × ((List Int) × ((Int) × ((Int) × (Unit))))))) else none)) else (bif (appB 40 (List.length a2) (List.length ([((0 : Int), (([] : List Int), ((0 : Int), (a1, ()))))] : List ((Int) × ((List Int) × ((Int) × ((Int) × (Unit)))))))) then some ((0 : Int), (0 : Int), (a2 ++ ([((0 : Int), (([] : List Int), ((0 : Int), (a1, ()))))] : List ((Int) × ((List Int) × ((Int) × ((Int) × (Unit)))))))) else none)
set_option maxRecDepth 100000 in
theorem f20_Al5 (g28 : ((List (Int)) × (Int)) → Option (Int)) (g29 : ((List (Int)) × (Int)) → Option ((Int) × (List Int) × (Int) × (Int) × (Int))) (Jl5 : St → Option ((Int) × (Int) × (List ((Int) × ((List Int) × ((Int) × ((Int) × (Unit)))))))) (a0 : List (Int)) (a1 : Int) (a2 : List ((Int) × ((List Int) × ((Int) × ((Int) × (Unit)))))) : evAtJ (f20C g28 g29) [] [(5, Jl5)] (bodyOf Tryd.f20) [.r, .r, .r, .r, .l, .b, .b] (retK (f20C g28 g29) Tryd.f20.results f20o) (f20_s5 a0 a1 a2) = f20_tl5 g28 g29 (fun a0 a1 a2 => Jl5 (f20_s5 a0 a1 a2)) a0 a1 a2 := by
  kernel_rfl
set_option maxRecDepth 100000 in
theorem f20_el5 (k : Nat) (g28 : ((List (Int)) × (Int)) → Option (Int)) (g29 : ((List (Int)) × (Int)) → Option ((Int) × (List Int) × (Int) × (Int) × (Int))) (j5 : Nat) (a0 : List (Int)) (a1 : Int) (a2 : List ((Int) × ((List Int) × ((Int) × ((Int) × (Unit)))))) : f20_l5 k g28 g29 (j5 + 1) a0 a1 a2 = f20_tl5 g28 g29 (f20_l5 k g28 g29  j5) a0 a1 a2 := by
  have h0 : f20_l5 k g28 g29 (j5 + 1) a0 a1 a2 = evAt (f20C g28 g29) k (bodyOf Tryd.f20) [.r, .r, .r, .r, .l, .b, .b] [j5] (retK (f20C g28 g29) Tryd.f20.results f20o) (f20_s5 a0 a1 a2) := by kernel_rfl
  have h1 : keep [] (jt (f20C g28 g29) k (bodyOf Tryd.f20) [.r, .r, .r, .r, .l, .b, .b] [j5] (retK (f20C g28 g29) Tryd.f20.results f20o)) = [] := by kernel_rfl
  have h2 : keep [5] (lt (f20C g28 g29) k (bodyOf Tryd.f20) [.r, .r, .r, .r, .l, .b, .b] [j5] (retK (f20C g28 g29) Tryd.f20.results f20o)) = [(5, (fun s => loopAt (f20C g28 g29) k (bodyOf Tryd.f20) [.r, .r, .r, .r, .l, .b] [] j5 (retK (f20C g28 g29) Tryd.f20.results f20o) s))] := by kernel_rfl
  exact h0.trans ((evAt_cut _ [] [5] (by kernel_rfl) h1 h2 (by kernel_rfl) (by kernel_rfl) (by kernel_rfl)).trans (f20_Al5 g28 g29 (fun s => loopAt (f20C g28 g29) k (bodyOf Tryd.f20) [.r, .r, .r, .r, .l, .b] [] j5 (retK (f20C g28 g29) Tryd.f20.results f20o) s) a0 a1 a2))
set_option maxRecDepth 100000 in
theorem f20_ok (k : Nat) (g28 : ((List (Int)) × (Int)) → Option (Int)) (g29 : ((List (Int)) × (Int)) → Option ((Int) × (List Int) × (Int) × (Int) × (Int))) (hg28 : SigOK Tryd.prog 28 ⟨f28i, f28o, mkFun f28i.tys f28o.tys g28⟩) (hg29 : SigOK Tryd.prog 29 ⟨f29i, f29o, mkFun f29i.tys f29o.tys g29⟩) : SigOK Tryd.prog 20 ⟨f20i, f20o, mkFun f20i.tys f20o.tys (f20 k g28 g29)⟩ :=
  fn_ok (C := (f20C g28 g29)) (l := f20E g28 g29) rfl ⟨⟨hg28, trivial⟩, ⟨hg29, trivial⟩, trivial⟩ (by kernel_rfl) k (fn := Tryd.f20) (by kernel_rfl) (by kernel_rfl) (by kernel_rfl) f20i f20o rfl rfl (show 0 ≤ 48 by decide) (show 0 ≤ 48 by decide)
noncomputable def c20 (k : Nat) : (List (Int)) → Option ((Int) × (Int) × (List ((Int) × ((List Int) × ((Int) × ((Int) × (Unit))))))) := f20 k (c28 k) (c29 k)
theorem c20_ok (k : Nat) : SigOK Tryd.prog 20 ⟨f20i, f20o, mkFun f20i.tys f20o.tys (c20 k)⟩ := f20_ok k (c28 k) (c29 k) (c28_ok k) (c29_ok k)

/-! carrefour/carrefourref04.Right -/
def f12i : Sk := ⟨[.agg [.pv (.int .i64), .pv .str, .pv (.int .i64), .pv (.int .i64)]], [], []⟩
def f12o : Sk := ⟨[.lf (.pv .bool)], [], []⟩
noncomputable def f12E (g20 : (List (Int)) → Option ((Int) × (Int) × (List ((Int) × ((List Int) × ((Int) × ((Int) × (Unit)))))))) : List (Nat × List Sig) := [(20, [⟨f20i, f20o, mkFun f20i.tys f20o.tys g20⟩])]
noncomputable def f12C (g20 : (List (Int)) → Option ((Int) × (Int) × (List ((Int) × ((List Int) × ((Int) × ((Int) × (Unit)))))))) : Cfg := { P := Tryd.prog, env := lookS (f12E g20), n := 96, npB := 0, npO := 0, hint := fun i => look none [] i, pops := [] }
def f12_s (a0 : Int) (a1 : List Int) (a2 : Int) (a3 : Int) : St := { enc f12i 96 [⟨(.int .i64), a0⟩, ⟨.str, a1⟩, ⟨(.int .i64), a2⟩, ⟨(.int .i64), a3⟩] with slots := encAs f12i.slots [⟨(.int .i64), a0⟩, ⟨.str, a1⟩, ⟨(.int .i64), a2⟩, ⟨(.int .i64), a3⟩] ++ List.replicate 47 .dead }
noncomputable def f12 (k : Nat) (g20 : (List (Int)) → Option ((Int) × (Int) × (List ((Int) × ((List Int) × ((Int) × ((Int) × (Unit)))))))) : ((Int) × (List Int) × (Int) × (Int)) → Option (Bool) := fnOf (f12C g20) k Tryd.f12 f12i f12o
def f12_t (g20 : (List (Int)) → Option ((Int) × (Int) × (List ((Int) × ((List Int) × ((Int) × ((Int) × (Unit))))))))  (a0 : Int) (a1 : List Int) (a2 : Int) (a3 : Int) : Option (Bool) :=
  (g20 (a1)).bind fun o1 => bif (o1.1 == (0 : Int)) then (bif (((List.length o1.2.2 : Nat) : Int) == (2 : Int)) then (bif (inB (0 : Int) (List.length o1.2.2)) then bif ((rdA ((0 : Int), ([], ((0 : Int), ((0 : Int), ())))) o1.2.2 (Int.toNat (0 : Int))).1 == a0) then (bif (inB (0 : Int) (List.length o1.2.2)) then bif ((rdA ((0 : Int), ([], ((0 : Int), ((0 : Int), ())))) o1.2.2 (Int.toNat (0 : Int))).2.2.1 == a2) then (bif (inB (0 : Int) (List.length o1.2.2)) then some ((rdA ((0 : Int), ([], ((0 : Int), ((0 : Int), ())))) o1.2.2 (Int.toNat (0 : Int))).2.1 == a1) else none) else (some false) else none) else (some false) else none) else (some false)) else (some false)
set_option maxRecDepth 100000 in
theorem f12_A (g20 : (List (Int)) → Option ((Int) × (Int) × (List ((Int) × ((List Int) × ((Int) × ((Int) × (Unit))))))))  (a0 : Int) (a1 : List Int) (a2 : Int) (a3 : Int) : evAtJ (f12C g20) [] [] (bodyOf Tryd.f12) [] (retK (f12C g20) Tryd.f12.results f12o) (f12_s a0 a1 a2 a3) = f12_t g20  a0 a1 a2 a3 := by
  kernel_rfl
set_option maxRecDepth 100000 in
theorem f12_e (k : Nat) (g20 : (List (Int)) → Option ((Int) × (Int) × (List ((Int) × ((List Int) × ((Int) × ((Int) × (Unit))))))))  (a0 : Int) (a1 : List Int) (a2 : Int) (a3 : Int) : f12 k g20 (a0, a1, a2, a3) = f12_t g20  a0 a1 a2 a3 := by
  have h0 : f12 k g20 (a0, a1, a2, a3) = evAt (f12C g20) k (bodyOf Tryd.f12) [] [] (retK (f12C g20) Tryd.f12.results f12o) (f12_s a0 a1 a2 a3) := by kernel_rfl
  have h1 : keep [] (jt (f12C g20) k (bodyOf Tryd.f12) [] [] (retK (f12C g20) Tryd.f12.results f12o)) = [] := by kernel_rfl
  have h2 : keep [] (lt (f12C g20) k (bodyOf Tryd.f12) [] [] (retK (f12C g20) Tryd.f12.results f12o)) = [] := by kernel_rfl
  exact h0.trans ((evAt_cut _ [] [] (by kernel_rfl) h1 h2 (by kernel_rfl) (by kernel_rfl) (by kernel_rfl)).trans (f12_A g20  a0 a1 a2 a3))
set_option maxRecDepth 100000 in
theorem f12_ok (k : Nat) (g20 : (List (Int)) → Option ((Int) × (Int) × (List ((Int) × ((List Int) × ((Int) × ((Int) × (Unit)))))))) (hg20 : SigOK Tryd.prog 20 ⟨f20i, f20o, mkFun f20i.tys f20o.tys g20⟩) : SigOK Tryd.prog 12 ⟨f12i, f12o, mkFun f12i.tys f12o.tys (f12 k g20)⟩ :=
  fn_ok (C := (f12C g20)) (l := f12E g20) rfl ⟨⟨hg20, trivial⟩, trivial⟩ (by kernel_rfl) k (fn := Tryd.f12) (by kernel_rfl) (by kernel_rfl) (by kernel_rfl) f12i f12o rfl rfl (show 0 ≤ 48 by decide) (show 0 ≤ 48 by decide)
noncomputable def c12 (k : Nat) : ((Int) × (List Int) × (Int) × (Int)) → Option (Bool) := f12 k (c20 k)
theorem c12_ok (k : Nat) : SigOK Tryd.prog 12 ⟨f12i, f12o, mkFun f12i.tys f12o.tys (c12 k)⟩ := f12_ok k (c20 k) (c20_ok k)

/-! carrefour/carrefourref04.Words -/
def f22i : Sk := ⟨[], [], []⟩
def f22o : Sk := ⟨[.lf (.own 0)], [], [some (9, .str)]⟩
noncomputable def f22E  : List (Nat × List Sig) := []
noncomputable def f22C  : Cfg := { P := Tryd.prog, env := lookS (f22E ), n := 50, npB := 0, npO := 0, hint := fun i => look none [] i, pops := [] }
def f22_s  : St := { enc f22i 50 [] with slots := encAs f22i.slots [] ++ List.replicate 2 .dead }
noncomputable def f22 (k : Nat)  : (Unit) → Option (List (List Int)) := fnOf f22C k Tryd.f22 f22i f22o
def f22_t    : Option (List (List Int)) :=
  some ([([99, 121, 99, 108, 101] : List Int), ([116, 111] : List Int), ([98, 121] : List Int), ([112, 101, 97, 107] : List Int), ([110, 111, 100, 101] : List Int), ([104, 101, 97, 100] : List Int), ([118, 111, 108, 117, 109, 101] : List Int), ([102, 108, 111, 119] : List Int), ([117, 115, 101] : List Int), ([115, 112, 101, 101, 100] : List Int), ([103, 114, 97, 100, 101] : List Int), ([119, 105, 100, 116, 104] : List Int), ([108, 101, 110, 103, 116, 104] : List Int), ([103, 114, 101, 101, 110] : List Int), ([119, 97, 108, 107] : List Int), ([119, 105, 116, 104] : List Int), ([108, 111, 110, 103] : List Int), ([112, 97, 99, 101] : List Int), ([108, 101, 97, 115, 116] : List Int), ([112, 104, 97, 115, 101] : List Int), ([103, 114, 111, 117, 112] : List Int), ([114, 105, 110, 103] : List Int), ([102, 114, 101, 101] : List Int), ([102, 111, 101] : List Int), ([97, 114, 116, 101, 114, 121] : List Int), ([115, 116, 111, 112] : List Int), ([111, 117, 116] : List Int), ([105, 110] : List Int), ([97, 104, 101, 97, 100] : List Int), ([98, 97, 99, 107] : List Int), ([119, 101, 105, 103, 104, 116, 115] : List Int), ([112, 108, 97, 110] : List Int), ([111, 102, 102, 115, 101, 116] : List Int), ([115, 117, 109] : List Int), ([115, 112, 108, 105, 116] : List Int), ([121, 101, 108, 108, 111, 119] : List Int), ([114, 101, 100] : List Int), ([102, 108, 97, 115, 104] : List Int), ([98, 101, 115, 116] : List Int), ([121, 101, 115] : List Int), ([110, 111] : List Int), ([115, 112, 101, 110, 116] : List Int)] : List (List Int))
set_option maxRecDepth 100000 in
theorem f22_A    : evAtJ f22C [] [] (bodyOf Tryd.f22) [] (retK f22C Tryd.f22.results f22o) (f22_s ) = f22_t    := by
  kernel_rfl
set_option maxRecDepth 100000 in
theorem f22_e (k : Nat)    : f22 k  () = f22_t    := by
  have h0 : f22 k  () = evAt f22C k (bodyOf Tryd.f22) [] [] (retK f22C Tryd.f22.results f22o) (f22_s ) := by kernel_rfl
  have h1 : keep [] (jt f22C k (bodyOf Tryd.f22) [] [] (retK f22C Tryd.f22.results f22o)) = [] := by kernel_rfl
  have h2 : keep [] (lt f22C k (bodyOf Tryd.f22) [] [] (retK f22C Tryd.f22.results f22o)) = [] := by kernel_rfl
  exact h0.trans ((evAt_cut _ [] [] (by kernel_rfl) h1 h2 (by kernel_rfl) (by kernel_rfl) (by kernel_rfl)).trans (f22_A   ))
set_option maxRecDepth 100000 in
theorem f22_ok (k : Nat)   : SigOK Tryd.prog 22 ⟨f22i, f22o, mkFun f22i.tys f22o.tys (f22 k )⟩ :=
  fn_ok (C := f22C) (l := f22E ) rfl trivial (by kernel_rfl) k (fn := Tryd.f22) (by kernel_rfl) (by kernel_rfl) (by kernel_rfl) f22i f22o rfl rfl (show 0 ≤ 48 by decide) (show 0 ≤ 48 by decide)
noncomputable def c22 (k : Nat) : (Unit) → Option (List (List Int)) := f22 k 
theorem c22_ok (k : Nat) : SigOK Tryd.prog 22 ⟨f22i, f22o, mkFun f22i.tys f22o.tys (c22 k)⟩ := f22_ok k  

/-! carrefour/carrefourref04.In -/
def f21i : Sk := ⟨[.lf (.pv .str), .lf (.pv (.slice .str))], [], []⟩
def f21o : Sk := ⟨[.lf (.pv .bool)], [], []⟩
def f21_k2 : Sk := ⟨sparse 18 [(0, .lf (.pv .str)), (1, .lf (.pv (.slice .str))), (5, .lf (.pv (.int .i64)))], [], []⟩
noncomputable def f21E  : List (Nat × List Sig) := []
noncomputable def f21C  : Cfg := { P := Tryd.prog, env := lookS (f21E ), n := 66, npB := 0, npO := 0, hint := fun i => look none [(2, some f21_k2)] i, pops := [] }
def f21_s (a0 : List Int) (a1 : List (List Int)) : St := { enc f21i 66 [⟨.str, a0⟩, ⟨(.slice .str), a1⟩] with slots := encAs f21i.slots [⟨.str, a0⟩, ⟨(.slice .str), a1⟩] ++ List.replicate 16 .dead }
def f21_s2 (a0 : List Int) (a1 : List (List Int)) (a2 : Int) : St := enc f21_k2 66 [⟨.str, a0⟩, ⟨(.slice .str), a1⟩, ⟨(.int .i64), a2⟩]
noncomputable def f21 (k : Nat)  : ((List Int) × (List (List Int))) → Option (Bool) := fnOf f21C k Tryd.f21 f21i f21o
noncomputable def f21_l2 (k : Nat)  (j2 : Nat) (a0 : List Int) (a1 : List (List Int)) (a2 : Int) : Option (Bool) := loopAt f21C k (bodyOf Tryd.f21) [.r, .l, .r, .b] [] j2 (retK f21C Tryd.f21.results f21o) (f21_s2 a0 a1 a2)
def f21_t  (Jl2 : (List Int) → (List (List Int)) → Int → Option (Bool)) (a0 : List Int) (a1 : List (List Int)) : Option (Bool) :=
  Jl2 a0 a1 (0 : Int)
set_option maxRecDepth 100000 in
theorem f21_A  (Jl2 : St → Option (Bool)) (a0 : List Int) (a1 : List (List Int)) : evAtJ f21C [] [(2, Jl2)] (bodyOf Tryd.f21) [] (retK f21C Tryd.f21.results f21o) (f21_s a0 a1) = f21_t  (fun a0 a1 a2 => Jl2 (f21_s2 a0 a1 a2)) a0 a1 := by
  kernel_rfl
set_option maxRecDepth 100000 in
theorem f21_e (k : Nat)   (a0 : List Int) (a1 : List (List Int)) : f21 k  (a0, a1) = f21_t  (f21_l2 k   k) a0 a1 := by
  have h0 : f21 k  (a0, a1) = evAt f21C k (bodyOf Tryd.f21) [] [] (retK f21C Tryd.f21.results f21o) (f21_s a0 a1) := by kernel_rfl
  have h1 : keep [] (jt f21C k (bodyOf Tryd.f21) [] [] (retK f21C Tryd.f21.results f21o)) = [] := by kernel_rfl
  have h2 : keep [2] (lt f21C k (bodyOf Tryd.f21) [] [] (retK f21C Tryd.f21.results f21o)) = [(2, (fun s => loopAt f21C k (bodyOf Tryd.f21) [.r, .l, .r, .b] [] k (retK f21C Tryd.f21.results f21o) s))] := by kernel_rfl
  exact h0.trans ((evAt_cut _ [] [2] (by kernel_rfl) h1 h2 (by kernel_rfl) (by kernel_rfl) (by kernel_rfl)).trans (f21_A  (fun s => loopAt f21C k (bodyOf Tryd.f21) [.r, .l, .r, .b] [] k (retK f21C Tryd.f21.results f21o) s) a0 a1))
def f21_tl2  (Jl2 : (List Int) → (List (List Int)) → Int → Option (Bool)) (a0 : List Int) (a1 : List (List Int)) (a2 : Int) : Option (Bool) :=
  bif (decide (a2 < ((List.length a1 : Nat) : Int))) then (bif (inB a2 (List.length a1)) then bif ((rdA [] a1 (Int.toNat a2)) == a0) then (some true) else (Jl2 a0 a1 (IntKind.wrap .i64 (a2 + (1 : Int)))) else none) else (some false)
set_option maxRecDepth 100000 in
theorem f21_Al2  (Jl2 : St → Option (Bool)) (a0 : List Int) (a1 : List (List Int)) (a2 : Int) : evAtJ f21C [] [(2, Jl2)] (bodyOf Tryd.f21) [.r, .l, .r, .b, .b] (retK f21C Tryd.f21.results f21o) (f21_s2 a0 a1 a2) = f21_tl2  (fun a0 a1 a2 => Jl2 (f21_s2 a0 a1 a2)) a0 a1 a2 := by
  kernel_rfl
set_option maxRecDepth 100000 in
theorem f21_el2 (k : Nat)  (j2 : Nat) (a0 : List Int) (a1 : List (List Int)) (a2 : Int) : f21_l2 k  (j2 + 1) a0 a1 a2 = f21_tl2  (f21_l2 k   j2) a0 a1 a2 := by
  have h0 : f21_l2 k  (j2 + 1) a0 a1 a2 = evAt f21C k (bodyOf Tryd.f21) [.r, .l, .r, .b, .b] [j2] (retK f21C Tryd.f21.results f21o) (f21_s2 a0 a1 a2) := by kernel_rfl
  have h1 : keep [] (jt f21C k (bodyOf Tryd.f21) [.r, .l, .r, .b, .b] [j2] (retK f21C Tryd.f21.results f21o)) = [] := by kernel_rfl
  have h2 : keep [2] (lt f21C k (bodyOf Tryd.f21) [.r, .l, .r, .b, .b] [j2] (retK f21C Tryd.f21.results f21o)) = [(2, (fun s => loopAt f21C k (bodyOf Tryd.f21) [.r, .l, .r, .b] [] j2 (retK f21C Tryd.f21.results f21o) s))] := by kernel_rfl
  exact h0.trans ((evAt_cut _ [] [2] (by kernel_rfl) h1 h2 (by kernel_rfl) (by kernel_rfl) (by kernel_rfl)).trans (f21_Al2  (fun s => loopAt f21C k (bodyOf Tryd.f21) [.r, .l, .r, .b] [] j2 (retK f21C Tryd.f21.results f21o) s) a0 a1 a2))
set_option maxRecDepth 100000 in
theorem f21_ok (k : Nat)   : SigOK Tryd.prog 21 ⟨f21i, f21o, mkFun f21i.tys f21o.tys (f21 k )⟩ :=
  fn_ok (C := f21C) (l := f21E ) rfl trivial (by kernel_rfl) k (fn := Tryd.f21) (by kernel_rfl) (by kernel_rfl) (by kernel_rfl) f21i f21o rfl rfl (show 0 ≤ 48 by decide) (show 0 ≤ 48 by decide)
noncomputable def c21 (k : Nat) : ((List Int) × (List (List Int))) → Option (Bool) := f21 k 
theorem c21_ok (k : Nat) : SigOK Tryd.prog 21 ⟨f21i, f21o, mkFun f21i.tys f21o.tys (c21 k)⟩ := f21_ok k  

/-! carrefour/carrefourref04.Reserved -/
def f14i : Sk := ⟨[.lf (.pv .str)], [], []⟩
def f14o : Sk := ⟨[.lf (.pv .bool)], [], []⟩
noncomputable def f14E (g22 : (Unit) → Option (List (List Int))) (g21 : ((List Int) × (List (List Int))) → Option (Bool)) : List (Nat × List Sig) := [(22, [⟨f22i, f22o, mkFun f22i.tys f22o.tys g22⟩]), (21, [⟨f21i, f21o, mkFun f21i.tys f21o.tys g21⟩])]
noncomputable def f14C (g22 : (Unit) → Option (List (List Int))) (g21 : ((List Int) × (List (List Int))) → Option (Bool)) : Cfg := { P := Tryd.prog, env := lookS (f14E g22 g21), n := 54, npB := 0, npO := 0, hint := fun i => look none [] i, pops := [] }
def f14_s (a0 : List Int) : St := { enc f14i 54 [⟨.str, a0⟩] with slots := encAs f14i.slots [⟨.str, a0⟩] ++ List.replicate 5 .dead }
noncomputable def f14 (k : Nat) (g22 : (Unit) → Option (List (List Int))) (g21 : ((List Int) × (List (List Int))) → Option (Bool)) : (List Int) → Option (Bool) := fnOf (f14C g22 g21) k Tryd.f14 f14i f14o
def f14_t (g22 : (Unit) → Option (List (List Int))) (g21 : ((List Int) × (List (List Int))) → Option (Bool))  (a0 : List Int) : Option (Bool) :=
  (g22 (())).bind fun o1 => (g21 (a0, o1)).bind fun o2 => some o2
set_option maxRecDepth 100000 in
theorem f14_A (g22 : (Unit) → Option (List (List Int))) (g21 : ((List Int) × (List (List Int))) → Option (Bool))  (a0 : List Int) : evAtJ (f14C g22 g21) [] [] (bodyOf Tryd.f14) [] (retK (f14C g22 g21) Tryd.f14.results f14o) (f14_s a0) = f14_t g22 g21  a0 := by
  kernel_rfl
set_option maxRecDepth 100000 in
theorem f14_e (k : Nat) (g22 : (Unit) → Option (List (List Int))) (g21 : ((List Int) × (List (List Int))) → Option (Bool))  (a0 : List Int) : f14 k g22 g21 (a0) = f14_t g22 g21  a0 := by
  have h0 : f14 k g22 g21 (a0) = evAt (f14C g22 g21) k (bodyOf Tryd.f14) [] [] (retK (f14C g22 g21) Tryd.f14.results f14o) (f14_s a0) := by kernel_rfl
  have h1 : keep [] (jt (f14C g22 g21) k (bodyOf Tryd.f14) [] [] (retK (f14C g22 g21) Tryd.f14.results f14o)) = [] := by kernel_rfl
  have h2 : keep [] (lt (f14C g22 g21) k (bodyOf Tryd.f14) [] [] (retK (f14C g22 g21) Tryd.f14.results f14o)) = [] := by kernel_rfl
  exact h0.trans ((evAt_cut _ [] [] (by kernel_rfl) h1 h2 (by kernel_rfl) (by kernel_rfl) (by kernel_rfl)).trans (f14_A g22 g21  a0))
set_option maxRecDepth 100000 in
theorem f14_ok (k : Nat) (g22 : (Unit) → Option (List (List Int))) (g21 : ((List Int) × (List (List Int))) → Option (Bool)) (hg22 : SigOK Tryd.prog 22 ⟨f22i, f22o, mkFun f22i.tys f22o.tys g22⟩) (hg21 : SigOK Tryd.prog 21 ⟨f21i, f21o, mkFun f21i.tys f21o.tys g21⟩) : SigOK Tryd.prog 14 ⟨f14i, f14o, mkFun f14i.tys f14o.tys (f14 k g22 g21)⟩ :=
  fn_ok (C := (f14C g22 g21)) (l := f14E g22 g21) rfl ⟨⟨hg22, trivial⟩, ⟨hg21, trivial⟩, trivial⟩ (by kernel_rfl) k (fn := Tryd.f14) (by kernel_rfl) (by kernel_rfl) (by kernel_rfl) f14i f14o rfl rfl (show 0 ≤ 48 by decide) (show 0 ≤ 48 by decide)
noncomputable def c14 (k : Nat) : (List Int) → Option (Bool) := f14 k (c22 k) (c21 k)
theorem c14_ok (k : Nat) : SigOK Tryd.prog 14 ⟨f14i, f14o, mkFun f14i.tys f14o.tys (c14 k)⟩ := f14_ok k (c22 k) (c21 k) (c22_ok k) (c21_ok k)

/-! carrefour/carrefourlaw04.LexRight -/
def f6i : Sk := ⟨[.agg [.pv (.int .i64), .pv .str, .pv (.int .i64), .pv (.int .i64)]], [], []⟩
def f6o : Sk := ⟨[.lf (.pv .bool)], [], []⟩
noncomputable def f6E (g11 : ((Int) × (List Int) × (Int) × (Int)) → Option (Bool)) (g12 : ((Int) × (List Int) × (Int) × (Int)) → Option (Bool)) (g13 : (List Int) → Option (Bool)) (g14 : (List Int) → Option (Bool)) (g9 : (Unit) → Option (Bool)) : List (Nat × List Sig) := [(11, [⟨f11i, f11o, mkFun f11i.tys f11o.tys g11⟩]), (12, [⟨f12i, f12o, mkFun f12i.tys f12o.tys g12⟩]), (13, [⟨f13i, f13o, mkFun f13i.tys f13o.tys g13⟩]), (14, [⟨f14i, f14o, mkFun f14i.tys f14o.tys g14⟩]), (9, [⟨f9i, f9o, mkFun f9i.tys f9o.tys g9⟩])]
noncomputable def f6C (g11 : ((Int) × (List Int) × (Int) × (Int)) → Option (Bool)) (g12 : ((Int) × (List Int) × (Int) × (Int)) → Option (Bool)) (g13 : (List Int) → Option (Bool)) (g14 : (List Int) → Option (Bool)) (g9 : (Unit) → Option (Bool)) : Cfg := { P := Tryd.prog, env := lookS (f6E g11 g12 g13 g14 g9), n := 72, npB := 0, npO := 0, hint := fun i => look none [] i, pops := [] }
def f6_s (a0 : Int) (a1 : List Int) (a2 : Int) (a3 : Int) : St := { enc f6i 72 [⟨(.int .i64), a0⟩, ⟨.str, a1⟩, ⟨(.int .i64), a2⟩, ⟨(.int .i64), a3⟩] with slots := encAs f6i.slots [⟨(.int .i64), a0⟩, ⟨.str, a1⟩, ⟨(.int .i64), a2⟩, ⟨(.int .i64), a3⟩] ++ List.replicate 23 .dead }
noncomputable def f6 (k : Nat) (g11 : ((Int) × (List Int) × (Int) × (Int)) → Option (Bool)) (g12 : ((Int) × (List Int) × (Int) × (Int)) → Option (Bool)) (g13 : (List Int) → Option (Bool)) (g14 : (List Int) → Option (Bool)) (g9 : (Unit) → Option (Bool)) : ((Int) × (List Int) × (Int) × (Int)) → Option (Bool) := fnOf (f6C g11 g12 g13 g14 g9) k Tryd.f6 f6i f6o
def f6_t (g11 : ((Int) × (List Int) × (Int) × (Int)) → Option (Bool)) (g12 : ((Int) × (List Int) × (Int) × (Int)) → Option (Bool)) (g13 : (List Int) → Option (Bool)) (g14 : (List Int) → Option (Bool)) (g9 : (Unit) → Option (Bool))  (a0 : Int) (a1 : List Int) (a2 : Int) (a3 : Int) : Option (Bool) :=
  bif (decide (((List.length a1 : Nat) : Int) > (5000 : Int))) then (some true) else ((g11 (a0, a1, a2, a3)).bind fun o1 => (g12 (a0, a1, a2, a3)).bind fun o2 => bif (o1 == o2) then ((g13 (a1)).bind fun o3 => (g14 (a1)).bind fun o4 => bif (o3 == o4) then ((g9 (())).bind fun o5 => some o5) else (some false)) else (some false))
set_option maxRecDepth 100000 in
theorem f6_A (g11 : ((Int) × (List Int) × (Int) × (Int)) → Option (Bool)) (g12 : ((Int) × (List Int) × (Int) × (Int)) → Option (Bool)) (g13 : (List Int) → Option (Bool)) (g14 : (List Int) → Option (Bool)) (g9 : (Unit) → Option (Bool))  (a0 : Int) (a1 : List Int) (a2 : Int) (a3 : Int) : evAtJ (f6C g11 g12 g13 g14 g9) [] [] (bodyOf Tryd.f6) [] (retK (f6C g11 g12 g13 g14 g9) Tryd.f6.results f6o) (f6_s a0 a1 a2 a3) = f6_t g11 g12 g13 g14 g9  a0 a1 a2 a3 := by
  kernel_rfl
set_option maxRecDepth 100000 in
theorem f6_e (k : Nat) (g11 : ((Int) × (List Int) × (Int) × (Int)) → Option (Bool)) (g12 : ((Int) × (List Int) × (Int) × (Int)) → Option (Bool)) (g13 : (List Int) → Option (Bool)) (g14 : (List Int) → Option (Bool)) (g9 : (Unit) → Option (Bool))  (a0 : Int) (a1 : List Int) (a2 : Int) (a3 : Int) : f6 k g11 g12 g13 g14 g9 (a0, a1, a2, a3) = f6_t g11 g12 g13 g14 g9  a0 a1 a2 a3 := by
  have h0 : f6 k g11 g12 g13 g14 g9 (a0, a1, a2, a3) = evAt (f6C g11 g12 g13 g14 g9) k (bodyOf Tryd.f6) [] [] (retK (f6C g11 g12 g13 g14 g9) Tryd.f6.results f6o) (f6_s a0 a1 a2 a3) := by kernel_rfl
  have h1 : keep [] (jt (f6C g11 g12 g13 g14 g9) k (bodyOf Tryd.f6) [] [] (retK (f6C g11 g12 g13 g14 g9) Tryd.f6.results f6o)) = [] := by kernel_rfl
  have h2 : keep [] (lt (f6C g11 g12 g13 g14 g9) k (bodyOf Tryd.f6) [] [] (retK (f6C g11 g12 g13 g14 g9) Tryd.f6.results f6o)) = [] := by kernel_rfl
  exact h0.trans ((evAt_cut _ [] [] (by kernel_rfl) h1 h2 (by kernel_rfl) (by kernel_rfl) (by kernel_rfl)).trans (f6_A g11 g12 g13 g14 g9  a0 a1 a2 a3))
set_option maxRecDepth 100000 in
theorem f6_ok (k : Nat) (g11 : ((Int) × (List Int) × (Int) × (Int)) → Option (Bool)) (g12 : ((Int) × (List Int) × (Int) × (Int)) → Option (Bool)) (g13 : (List Int) → Option (Bool)) (g14 : (List Int) → Option (Bool)) (g9 : (Unit) → Option (Bool)) (hg11 : SigOK Tryd.prog 11 ⟨f11i, f11o, mkFun f11i.tys f11o.tys g11⟩) (hg12 : SigOK Tryd.prog 12 ⟨f12i, f12o, mkFun f12i.tys f12o.tys g12⟩) (hg13 : SigOK Tryd.prog 13 ⟨f13i, f13o, mkFun f13i.tys f13o.tys g13⟩) (hg14 : SigOK Tryd.prog 14 ⟨f14i, f14o, mkFun f14i.tys f14o.tys g14⟩) (hg9 : SigOK Tryd.prog 9 ⟨f9i, f9o, mkFun f9i.tys f9o.tys g9⟩) : SigOK Tryd.prog 6 ⟨f6i, f6o, mkFun f6i.tys f6o.tys (f6 k g11 g12 g13 g14 g9)⟩ :=
  fn_ok (C := (f6C g11 g12 g13 g14 g9)) (l := f6E g11 g12 g13 g14 g9) rfl ⟨⟨hg11, trivial⟩, ⟨hg12, trivial⟩, ⟨hg13, trivial⟩, ⟨hg14, trivial⟩, ⟨hg9, trivial⟩, trivial⟩ (by kernel_rfl) k (fn := Tryd.f6) (by kernel_rfl) (by kernel_rfl) (by kernel_rfl) f6i f6o rfl rfl (show 0 ≤ 48 by decide) (show 0 ≤ 48 by decide)
noncomputable def c6 (k : Nat) : ((Int) × (List Int) × (Int) × (Int)) → Option (Bool) := f6 k (c11 k) (c12 k) (c13 k) (c14 k) (c9 k)
theorem c6_ok (k : Nat) : SigOK Tryd.prog 6 ⟨f6i, f6o, mkFun f6i.tys f6o.tys (c6 k)⟩ := f6_ok k (c11 k) (c12 k) (c13 k) (c14 k) (c9 k) (c11_ok k) (c12_ok k) (c13_ok k) (c14_ok k) (c9_ok k)

/-! carrefour/carrefourlaw04.few -/
def f15i : Sk := ⟨[.lf (.pv (.slice (.cons (.int .i64) (.cons .str (.cons (.int .i64) (.cons (.int .i64) .nil))))))], [], []⟩
def f15o : Sk := ⟨[.lf (.pv .bool)], [], []⟩
def f15_k2 : Sk := ⟨sparse 24 [(0, .lf (.pv (.slice (.cons (.int .i64) (.cons .str (.cons (.int .i64) (.cons (.int .i64) .nil))))))), (3, .lf (.pv (.int .i64)))], [], []⟩
noncomputable def f15E  : List (Nat × List Sig) := []
noncomputable def f15C  : Cfg := { P := Tryd.prog, env := lookS (f15E ), n := 72, npB := 0, npO := 0, hint := fun i => look none [(2, some f15_k2)] i, pops := [] }
def f15_s (a0 : List ((Int) × ((List Int) × ((Int) × ((Int) × (Unit)))))) : St := { enc f15i 72 [⟨(.slice (.cons (.int .i64) (.cons .str (.cons (.int .i64) (.cons (.int .i64) .nil))))), a0⟩] with slots := encAs f15i.slots [⟨(.slice (.cons (.int .i64) (.cons .str (.cons (.int .i64) (.cons (.int .i64) .nil))))), a0⟩] ++ List.replicate 23 .dead }
def f15_s2 (a0 : List ((Int) × ((List Int) × ((Int) × ((Int) × (Unit)))))) (a1 : Int) : St := enc f15_k2 72 [⟨(.slice (.cons (.int .i64) (.cons .str (.cons (.int .i64) (.cons (.int .i64) .nil))))), a0⟩, ⟨(.int .i64), a1⟩]
noncomputable def f15 (k : Nat)  : (List ((Int) × ((List Int) × ((Int) × ((Int) × (Unit)))))) → Option (Bool) := fnOf f15C k Tryd.f15 f15i f15o
noncomputable def f15_l2 (k : Nat)  (j2 : Nat) (a0 : List ((Int) × ((List Int) × ((Int) × ((Int) × (Unit)))))) (a1 : Int) : Option (Bool) := loopAt f15C k (bodyOf Tryd.f15) [.r, .l, .r, .b] [] j2 (retK f15C Tryd.f15.results f15o) (f15_s2 a0 a1)
def f15_t  (Jl2 : (List ((Int) × ((List Int) × ((Int) × ((Int) × (Unit)))))) → Int → Option (Bool)) (a0 : List ((Int) × ((List Int) × ((Int) × ((Int) × (Unit)))))) : Option (Bool) :=
  Jl2 a0 (0 : Int)
set_option maxRecDepth 100000 in
theorem f15_A  (Jl2 : St → Option (Bool)) (a0 : List ((Int) × ((List Int) × ((Int) × ((Int) × (Unit)))))) : evAtJ f15C [] [(2, Jl2)] (bodyOf Tryd.f15) [] (retK f15C Tryd.f15.results f15o) (f15_s a0) = f15_t  (fun a0 a1 => Jl2 (f15_s2 a0 a1)) a0 := by
  kernel_rfl
set_option maxRecDepth 100000 in
theorem f15_e (k : Nat)   (a0 : List ((Int) × ((List Int) × ((Int) × ((Int) × (Unit)))))) : f15 k  (a0) = f15_t  (f15_l2 k   k) a0 := by
  have h0 : f15 k  (a0) = evAt f15C k (bodyOf Tryd.f15) [] [] (retK f15C Tryd.f15.results f15o) (f15_s a0) := by kernel_rfl
  have h1 : keep [] (jt f15C k (bodyOf Tryd.f15) [] [] (retK f15C Tryd.f15.results f15o)) = [] := by kernel_rfl
  have h2 : keep [2] (lt f15C k (bodyOf Tryd.f15) [] [] (retK f15C Tryd.f15.results f15o)) = [(2, (fun s => loopAt f15C k (bodyOf Tryd.f15) [.r, .l, .r, .b] [] k (retK f15C Tryd.f15.results f15o) s))] := by kernel_rfl
  exact h0.trans ((evAt_cut _ [] [2] (by kernel_rfl) h1 h2 (by kernel_rfl) (by kernel_rfl) (by kernel_rfl)).trans (f15_A  (fun s => loopAt f15C k (bodyOf Tryd.f15) [.r, .l, .r, .b] [] k (retK f15C Tryd.f15.results f15o) s) a0))
def f15_tl2  (Jl2 : (List ((Int) × ((List Int) × ((Int) × ((Int) × (Unit)))))) → Int → Option (Bool)) (a0 : List ((Int) × ((List Int) × ((Int) × ((Int) × (Unit)))))) (a1 : Int) : Option (Bool) :=
  bif (decide (a1 < ((List.length a0 : Nat) : Int))) then (bif (decide (a1 ≤ (200 : Int))) then (bif (inB a1 (List.length a0)) then bif (decide (((List.length (rdA ((0 : Int), ([], ((0 : Int), ((0 : Int), ())))) a0 (Int.toNat a1)).2.1 : Nat) : Int) > (200 : Int))) then (some false) else (Jl2 a0 (IntKind.wrap .i64 (a1 + (1 : Int)))) else none) else (some (decide (((List.length a0 : Nat) : Int) ≤ (200 : Int))))) else (some (decide (((List.length a0 : Nat) : Int) ≤ (200 : Int))))
set_option maxRecDepth 100000 in
theorem f15_Al2  (Jl2 : St → Option (Bool)) (a0 : List ((Int) × ((List Int) × ((Int) × ((Int) × (Unit)))))) (a1 : Int) : evAtJ f15C [] [(2, Jl2)] (bodyOf Tryd.f15) [.r, .l, .r, .b, .b] (retK f15C Tryd.f15.results f15o) (f15_s2 a0 a1) = f15_tl2  (fun a0 a1 => Jl2 (f15_s2 a0 a1)) a0 a1 := by
  kernel_rfl
set_option maxRecDepth 100000 in
theorem f15_el2 (k : Nat)  (j2 : Nat) (a0 : List ((Int) × ((List Int) × ((Int) × ((Int) × (Unit)))))) (a1 : Int) : f15_l2 k  (j2 + 1) a0 a1 = f15_tl2  (f15_l2 k   j2) a0 a1 := by
  have h0 : f15_l2 k  (j2 + 1) a0 a1 = evAt f15C k (bodyOf Tryd.f15) [.r, .l, .r, .b, .b] [j2] (retK f15C Tryd.f15.results f15o) (f15_s2 a0 a1) := by kernel_rfl
  have h1 : keep [] (jt f15C k (bodyOf Tryd.f15) [.r, .l, .r, .b, .b] [j2] (retK f15C Tryd.f15.results f15o)) = [] := by kernel_rfl
  have h2 : keep [2] (lt f15C k (bodyOf Tryd.f15) [.r, .l, .r, .b, .b] [j2] (retK f15C Tryd.f15.results f15o)) = [(2, (fun s => loopAt f15C k (bodyOf Tryd.f15) [.r, .l, .r, .b] [] j2 (retK f15C Tryd.f15.results f15o) s))] := by kernel_rfl
  exact h0.trans ((evAt_cut _ [] [2] (by kernel_rfl) h1 h2 (by kernel_rfl) (by kernel_rfl) (by kernel_rfl)).trans (f15_Al2  (fun s => loopAt f15C k (bodyOf Tryd.f15) [.r, .l, .r, .b] [] j2 (retK f15C Tryd.f15.results f15o) s) a0 a1))
set_option maxRecDepth 100000 in
theorem f15_ok (k : Nat)   : SigOK Tryd.prog 15 ⟨f15i, f15o, mkFun f15i.tys f15o.tys (f15 k )⟩ :=
  fn_ok (C := f15C) (l := f15E ) rfl trivial (by kernel_rfl) k (fn := Tryd.f15) (by kernel_rfl) (by kernel_rfl) (by kernel_rfl) f15i f15o rfl rfl (show 0 ≤ 48 by decide) (show 0 ≤ 48 by decide)
noncomputable def c15 (k : Nat) : (List ((Int) × ((List Int) × ((Int) × ((Int) × (Unit)))))) → Option (Bool) := f15 k 
theorem c15_ok (k : Nat) : SigOK Tryd.prog 15 ⟨f15i, f15o, mkFun f15i.tys f15o.tys (c15 k)⟩ := f15_ok k  

/-! carrefour/carrefourref04.Spell -/
def f17i : Sk := ⟨[.lf (.pv (.slice (.cons (.int .i64) (.cons .str (.cons (.int .i64) (.cons (.int .i64) .nil))))))], [], []⟩
def f17o : Sk := ⟨[.lf (.pv .str)], [], []⟩
def f17_k4 : Sk := ⟨sparse 30 [(0, .lf (.pv (.slice (.cons (.int .i64) (.cons .str (.cons (.int .i64) (.cons (.int .i64) .nil))))))), (3, .lf (.pv .str)), (4, .lf (.pv .bool)), (5, .lf (.pv (.int .i64)))], [], []⟩
def f17_k9 : Sk := ⟨sparse 30 [(0, .lf (.pv (.slice (.cons (.int .i64) (.cons .str (.cons (.int .i64) (.cons (.int .i64) .nil))))))), (3, .lf (.pv .str)), (5, .lf (.pv (.int .i64)))], [], []⟩
noncomputable def f17E  : List (Nat × List Sig) := []
noncomputable def f17C  : Cfg := { P := Tryd.prog, env := lookS (f17E ), n := 78, npB := 0, npO := 0, hint := fun i => look none [(4, some f17_k4), (9, some f17_k9)] i, pops := [] }
def f17_s (a0 : List ((Int) × ((List Int) × ((Int) × ((Int) × (Unit)))))) : St := { enc f17i 78 [⟨(.slice (.cons (.int .i64) (.cons .str (.cons (.int .i64) (.cons (.int .i64) .nil))))), a0⟩] with slots := encAs f17i.slots [⟨(.slice (.cons (.int .i64) (.cons .str (.cons (.int .i64) (.cons (.int .i64) .nil))))), a0⟩] ++ List.replicate 29 .dead }
def f17_s4 (a0 : List ((Int) × ((List Int) × ((Int) × ((Int) × (Unit)))))) (a1 : List Int) (a2 : Bool) (a3 : Int) : St := enc f17_k4 78 [⟨(.slice (.cons (.int .i64) (.cons .str (.cons (.int .i64) (.cons (.int .i64) .nil))))), a0⟩, ⟨.str, a1⟩, ⟨.bool, a2⟩, ⟨(.int .i64), a3⟩]
def f17_s9 (a0 : List ((Int) × ((List Int) × ((Int) × ((Int) × (Unit)))))) (a1 : List Int) (a2 : Int) : St := enc f17_k9 78 [⟨(.slice (.cons (.int .i64) (.cons .str (.cons (.int .i64) (.cons (.int .i64) .nil))))), a0⟩, ⟨.str, a1⟩, ⟨(.int .i64), a2⟩]
noncomputable def f17 (k : Nat)  : (List ((Int) × ((List Int) × ((Int) × ((Int) × (Unit)))))) → Option (List Int) := fnOf f17C k Tryd.f17 f17i f17o
noncomputable def f17_l4 (k : Nat)  (j4 : Nat) (a0 : List ((Int) × ((List Int) × ((Int) × ((Int) × (Unit)))))) (a1 : List Int) (a2 : Bool) (a3 : Int) : Option (List Int) := loopAt f17C k (bodyOf Tryd.f17) [.r, .r, .r, .l, .r, .b] [] j4 (retK f17C Tryd.f17.results f17o) (f17_s4 a0 a1 a2 a3)
noncomputable def f17_j9 (k : Nat)  (j4 : Nat) (a0 : List ((Int) × ((List Int) × ((Int) × ((Int) × (Unit)))))) (a1 : List Int) (a2 : Int) : Option (List Int) := evAt f17C k (bodyOf Tryd.f17) [.r, .r, .r, .l, .r, .b, .b, .r, .l, .b, .r, .r] [j4] (retK f17C Tryd.f17.results f17o) (f17_s9 a0 a1 a2)
def f17_t  (Jl4 : (List ((Int) × ((List Int) × ((Int) × ((Int) × (Unit)))))) → (List Int) → Bool → Int → Option (List Int)) (a0 : List ((Int) × ((List Int) × ((Int) × ((Int) × (Unit)))))) : Option (List Int) :=
  Jl4 a0 ([] : List Int) true (0 : Int)
set_option maxRecDepth 100000 in
theorem f17_A  (Jl4 : St → Option (List Int)) (a0 : List ((Int) × ((List Int) × ((Int) × ((Int) × (Unit)))))) : evAtJ f17C [] [(4, Jl4)] (bodyOf Tryd.f17) [] (retK f17C Tryd.f17.results f17o) (f17_s a0) = f17_t  (fun a0 a1 a2 a3 => Jl4 (f17_s4 a0 a1 a2 a3)) a0 := by
  kernel_rfl
set_option maxRecDepth 100000 in
theorem f17_e (k : Nat)   (a0 : List ((Int) × ((List Int) × ((Int) × ((Int) × (Unit)))))) : f17 k  (a0) = f17_t  (f17_l4 k   k) a0 := by
  have h0 : f17 k  (a0) = evAt f17C k (bodyOf Tryd.f17) [] [] (retK f17C Tryd.f17.results f17o) (f17_s a0) := by kernel_rfl
  have h1 : keep [] (jt f17C k (bodyOf Tryd.f17) [] [] (retK f17C Tryd.f17.results f17o)) = [] := by kernel_rfl
  have h2 : keep [4] (lt f17C k (bodyOf Tryd.f17) [] [] (retK f17C Tryd.f17.results f17o)) = [(4, (fun s => loopAt f17C k (bodyOf Tryd.f17) [.r, .r, .r, .l, .r, .b] [] k (retK f17C Tryd.f17.results f17o) s))] := by kernel_rfl
  exact h0.trans ((evAt_cut _ [] [4] (by kernel_rfl) h1 h2 (by kernel_rfl) (by kernel_rfl) (by kernel_rfl)).trans (f17_A  (fun s => loopAt f17C k (bodyOf Tryd.f17) [.r, .r, .r, .l, .r, .b] [] k (retK f17C Tryd.f17.results f17o) s) a0))
def f17_tl4  (Jl4 : (List ((Int) × ((List Int) × ((Int) × ((Int) × (Unit)))))) → (List Int) → Bool → Int → Option (List Int)) (Jj9 : (List ((Int) × ((List Int) × ((Int) × ((Int) × (Unit)))))) → (List Int) → Int → Option (List Int)) (a0 : List ((Int) × ((List Int) × ((Int) × ((Int) × (Unit)))))) (a1 : List Int) (a2 : Bool) (a3 : Int) : Option (List Int) :=
  bif (decide (a3 < ((List.length a0 : Nat) : Int))) then (bif (inB a3 (List.length a0)) then bif ((rdA ((0 : Int), ([], ((0 : Int), ((0 : Int), ())))) a0 (Int.toNat a3)).1 == (0 : Int)) then (Jl4 a0 a1 a2 (IntKind.wrap .i64 (a3 + (1 : Int)))) else (bif (!a2) then (bif (decide (List.length a1 + List.length ([32] : List Int) ≤ maxLen)) then Jj9 a0 (a1 ++ ([32] : List Int)) a3 else none) else (Jj9 a0 a1 a3)) else none) else (some a1)
set_option maxRecDepth 100000 in
theorem f17_Al4  (Jj9 : St → Option (List Int)) (Jl4 : St → Option (List Int)) (a0 : List ((Int) × ((List Int) × ((Int) × ((Int) × (Unit)))))) (a1 : List Int) (a2 : Bool) (a3 : Int) : evAtJ f17C [(9, Jj9)] [(4, Jl4)] (bodyOf Tryd.f17) [.r, .r, .r, .l, .r, .b, .b] (retK f17C Tryd.f17.results f17o) (f17_s4 a0 a1 a2 a3) = f17_tl4  (fun a0 a1 a2 a3 => Jl4 (f17_s4 a0 a1 a2 a3)) (fun a0 a1 a2 => Jj9 (f17_s9 a0 a1 a2)) a0 a1 a2 a3 := by
  kernel_rfl
set_option maxRecDepth 100000 in
theorem f17_el4 (k : Nat)  (j4 : Nat) (a0 : List ((Int) × ((List Int) × ((Int) × ((Int) × (Unit)))))) (a1 : List Int) (a2 : Bool) (a3 : Int) : f17_l4 k  (j4 + 1) a0 a1 a2 a3 = f17_tl4  (f17_l4 k   j4) (f17_j9 k  j4) a0 a1 a2 a3 := by
  have h0 : f17_l4 k  (j4 + 1) a0 a1 a2 a3 = evAt f17C k (bodyOf Tryd.f17) [.r, .r, .r, .l, .r, .b, .b] [j4] (retK f17C Tryd.f17.results f17o) (f17_s4 a0 a1 a2 a3) := by kernel_rfl
  have h1 : keep [9] (jt f17C k (bodyOf Tryd.f17) [.r, .r, .r, .l, .r, .b, .b] [j4] (retK f17C Tryd.f17.results f17o)) = [(9, (fun s => evAt f17C k (bodyOf Tryd.f17) [.r, .r, .r, .l, .r, .b, .b, .r, .l, .b, .r, .r] [j4] (retK f17C Tryd.f17.results f17o) s))] := by kernel_rfl
  have h2 : keep [4] (lt f17C k (bodyOf Tryd.f17) [.r, .r, .r, .l, .r, .b, .b] [j4] (retK f17C Tryd.f17.results f17o)) = [(4, (fun s => loopAt f17C k (bodyOf Tryd.f17) [.r, .r, .r, .l, .r, .b] [] j4 (retK f17C Tryd.f17.results f17o) s))] := by kernel_rfl
  exact h0.trans ((evAt_cut _ [9] [4] (by kernel_rfl) h1 h2 (by kernel_rfl) (by kernel_rfl) (by kernel_rfl)).trans (f17_Al4  (fun s => evAt f17C k (bodyOf Tryd.f17) [.r, .r, .r, .l, .r, .b, .b, .r, .l, .b, .r, .r] [j4] (retK f17C Tryd.f17.results f17o) s) (fun s => loopAt f17C k (bodyOf Tryd.f17) [.r, .r, .r, .l, .r, .b] [] j4 (retK f17C Tryd.f17.results f17o) s) a0 a1 a2 a3))
def f17_tj9  (Jl4 : (List ((Int) × ((List Int) × ((Int) × ((Int) × (Unit)))))) → (List Int) → Bool → Int → Option (List Int)) (a0 : List ((Int) × ((List Int) × ((Int) × ((Int) × (Unit)))))) (a1 : List Int) (a2 : Int) : Option (List Int) :=
  bif (inB a2 (List.length a0)) then bif (decide (List.length a1 + List.length (rdA ((0 : Int), ([], ((0 : Int), ((0 : Int), ())))) a0 (Int.toNat a2)).2.1 ≤ maxLen)) then Jl4 a0 (a1 ++ (rdA ((0 : Int), ([], ((0 : Int), ((0 : Int), ())))) a0 (Int.toNat a2)).2.1) false (IntKind.wrap .i64 (a2 + (1 : Int))) else none else none
set_option maxRecDepth 100000 in
theorem f17_Aj9  (Jj9 : St → Option (List Int)) (Jl4 : St → Option (List Int)) (a0 : List ((Int) × ((List Int) × ((Int) × ((Int) × (Unit)))))) (a1 : List Int) (a2 : Int) : evAtJ f17C [(9, Jj9)] [(4, Jl4)] (bodyOf Tryd.f17) [.r, .r, .r, .l, .r, .b, .b, .r, .l, .b, .r, .r] (retK f17C Tryd.f17.results f17o) (f17_s9 a0 a1 a2) = f17_tj9  (fun a0 a1 a2 a3 => Jl4 (f17_s4 a0 a1 a2 a3)) a0 a1 a2 := by
  kernel_rfl
set_option maxRecDepth 100000 in
theorem f17_ej9 (k : Nat)  (j4 : Nat) (a0 : List ((Int) × ((List Int) × ((Int) × ((Int) × (Unit)))))) (a1 : List Int) (a2 : Int) : f17_j9 k  j4 a0 a1 a2 = f17_tj9  (f17_l4 k   j4) a0 a1 a2 := by
  have h0 : f17_j9 k  j4 a0 a1 a2 = evAt f17C k (bodyOf Tryd.f17) [.r, .r, .r, .l, .r, .b, .b, .r, .l, .b, .r, .r] [j4] (retK f17C Tryd.f17.results f17o) (f17_s9 a0 a1 a2) := by kernel_rfl
  have h1 : keep [9] (jt f17C k (bodyOf Tryd.f17) [.r, .r, .r, .l, .r, .b, .b, .r, .l, .b, .r, .r] [j4] (retK f17C Tryd.f17.results f17o)) = [(9, (fun s => evAt f17C k (bodyOf Tryd.f17) [.r, .r, .r, .l, .r, .b, .b, .r, .l, .b, .r, .r] [j4] (retK f17C Tryd.f17.results f17o) s))] := by kernel_rfl
  have h2 : keep [4] (lt f17C k (bodyOf Tryd.f17) [.r, .r, .r, .l, .r, .b, .b, .r, .l, .b, .r, .r] [j4] (retK f17C Tryd.f17.results f17o)) = [(4, (fun s => loopAt f17C k (bodyOf Tryd.f17) [.r, .r, .r, .l, .r, .b] [] j4 (retK f17C Tryd.f17.results f17o) s))] := by kernel_rfl
  exact h0.trans ((evAt_cut _ [9] [4] (by kernel_rfl) h1 h2 (by kernel_rfl) (by kernel_rfl) (by kernel_rfl)).trans (f17_Aj9  (fun s => evAt f17C k (bodyOf Tryd.f17) [.r, .r, .r, .l, .r, .b, .b, .r, .l, .b, .r, .r] [j4] (retK f17C Tryd.f17.results f17o) s) (fun s => loopAt f17C k (bodyOf Tryd.f17) [.r, .r, .r, .l, .r, .b] [] j4 (retK f17C Tryd.f17.results f17o) s) a0 a1 a2))
set_option maxRecDepth 100000 in
theorem f17_ok (k : Nat)   : SigOK Tryd.prog 17 ⟨f17i, f17o, mkFun f17i.tys f17o.tys (f17 k )⟩ :=
  fn_ok (C := f17C) (l := f17E ) rfl trivial (by kernel_rfl) k (fn := Tryd.f17) (by kernel_rfl) (by kernel_rfl) (by kernel_rfl) f17i f17o rfl rfl (show 0 ≤ 48 by decide) (show 0 ≤ 48 by decide)
noncomputable def c17 (k : Nat) : (List ((Int) × ((List Int) × ((Int) × ((Int) × (Unit)))))) → Option (List Int) := f17 k 
theorem c17_ok (k : Nat) : SigOK Tryd.prog 17 ⟨f17i, f17o, mkFun f17i.tys f17o.tys (c17 k)⟩ := f17_ok k  

/-! carrefour/carrefourlaw04.LexBack -/
def f7i : Sk := ⟨[.lf (.pv (.slice (.cons (.int .i64) (.cons .str (.cons (.int .i64) (.cons (.int .i64) .nil))))))], [], []⟩
def f7o : Sk := ⟨[.lf (.pv .bool)], [], []⟩
def f7_k5 : Sk := ⟨sparse 77 [(0, .lf (.pv (.slice (.cons (.int .i64) (.cons .str (.cons (.int .i64) (.cons (.int .i64) .nil))))))), (3, .lf (.own 0)), (4, .lf (.pv (.int .i64)))], [], [some (29, (.cons (.int .i64) (.cons .str (.cons (.int .i64) (.cons (.int .i64) .nil)))))]⟩
noncomputable def f7E (g15 : (List ((Int) × ((List Int) × ((Int) × ((Int) × (Unit)))))) → Option (Bool)) (g11 : ((Int) × (List Int) × (Int) × (Int)) → Option (Bool)) (g12 : ((Int) × (List Int) × (Int) × (Int)) → Option (Bool)) (g16 : (List ((Int) × ((List Int) × ((Int) × ((Int) × (Unit)))))) → Option (List Int)) (g8 : (List (Int)) → Option ((Int) × (Int) × (List ((Int) × ((List Int) × ((Int) × ((Int) × (Unit)))))))) (g17 : (List ((Int) × ((List Int) × ((Int) × ((Int) × (Unit)))))) → Option (List Int)) (g10 : ((List ((Int) × ((List Int) × ((Int) × ((Int) × (Unit)))))) × (List ((Int) × ((List Int) × ((Int) × ((Int) × (Unit)))))) × (Bool)) → Option (Bool)) (g9 : (Unit) → Option (Bool)) : List (Nat × List Sig) := [(15, [⟨f15i, f15o, mkFun f15i.tys f15o.tys g15⟩]), (11, [⟨f11i, f11o, mkFun f11i.tys f11o.tys g11⟩]), (12, [⟨f12i, f12o, mkFun f12i.tys f12o.tys g12⟩]), (16, [⟨f16i, f16o, mkFun f16i.tys f16o.tys g16⟩]), (8, [⟨f8i, f8o, mkFun f8i.tys f8o.tys g8⟩]), (17, [⟨f17i, f17o, mkFun f17i.tys f17o.tys g17⟩]), (10, [⟨f10i, f10o, mkFun f10i.tys f10o.tys g10⟩]), (9, [⟨f9i, f9o, mkFun f9i.tys f9o.tys g9⟩])]
noncomputable def f7C (g15 : (List ((Int) × ((List Int) × ((Int) × ((Int) × (Unit)))))) → Option (Bool)) (g11 : ((Int) × (List Int) × (Int) × (Int)) → Option (Bool)) (g12 : ((Int) × (List Int) × (Int) × (Int)) → Option (Bool)) (g16 : (List ((Int) × ((List Int) × ((Int) × ((Int) × (Unit)))))) → Option (List Int)) (g8 : (List (Int)) → Option ((Int) × (Int) × (List ((Int) × ((List Int) × ((Int) × ((Int) × (Unit)))))))) (g17 : (List ((Int) × ((List Int) × ((Int) × ((Int) × (Unit)))))) → Option (List Int)) (g10 : ((List ((Int) × ((List Int) × ((Int) × ((Int) × (Unit)))))) × (List ((Int) × ((List Int) × ((Int) × ((Int) × (Unit)))))) × (Bool)) → Option (Bool)) (g9 : (Unit) → Option (Bool)) : Cfg := { P := Tryd.prog, env := lookS (f7E g15 g11 g12 g16 g8 g17 g10 g9), n := 125, npB := 0, npO := 0, hint := fun i => look none [(5, some f7_k5)] i, pops := [] }
def f7_s (a0 : List ((Int) × ((List Int) × ((Int) × ((Int) × (Unit)))))) : St := { enc f7i 125 [⟨(.slice (.cons (.int .i64) (.cons .str (.cons (.int .i64) (.cons (.int .i64) .nil))))), a0⟩] with slots := encAs f7i.slots [⟨(.slice (.cons (.int .i64) (.cons .str (.cons (.int .i64) (.cons (.int .i64) .nil))))), a0⟩] ++ List.replicate 76 .dead }
def f7_s5 (a0 : List ((Int) × ((List Int) × ((Int) × ((Int) × (Unit)))))) (a1 : Int) (a2 : List ((Int) × ((List Int) × ((Int) × ((Int) × (Unit)))))) : St := enc f7_k5 125 [⟨(.slice (.cons (.int .i64) (.cons .str (.cons (.int .i64) (.cons (.int .i64) .nil))))), a0⟩, ⟨(.int .i64), a1⟩, ⟨(.slice (.cons (.int .i64) (.cons .str (.cons (.int .i64) (.cons (.int .i64) .nil))))), a2⟩]
noncomputable def f7 (k : Nat) (g15 : (List ((Int) × ((List Int) × ((Int) × ((Int) × (Unit)))))) → Option (Bool)) (g11 : ((Int) × (List Int) × (Int) × (Int)) → Option (Bool)) (g12 : ((Int) × (List Int) × (Int) × (Int)) → Option (Bool)) (g16 : (List ((Int) × ((List Int) × ((Int) × ((Int) × (Unit)))))) → Option (List Int)) (g8 : (List (Int)) → Option ((Int) × (Int) × (List ((Int) × ((List Int) × ((Int) × ((Int) × (Unit)))))))) (g17 : (List ((Int) × ((List Int) × ((Int) × ((Int) × (Unit)))))) → Option (List Int)) (g10 : ((List ((Int) × ((List Int) × ((Int) × ((Int) × (Unit)))))) × (List ((Int) × ((List Int) × ((Int) × ((Int) × (Unit)))))) × (Bool)) → Option (Bool)) (g9 : (Unit) → Option (Bool)) : (List ((Int) × ((List Int) × ((Int) × ((Int) × (Unit)))))) → Option (Bool) := fnOf (f7C g15 g11 g12 g16 g8 g17 g10 g9) k Tryd.f7 f7i f7o
noncomputable def f7_l5 (k : Nat) (g15 : (List ((Int) × ((List Int) × ((Int) × ((Int) × (Unit)))))) → Option (Bool)) (g11 : ((Int) × (List Int) × (Int) × (Int)) → Option (Bool)) (g12 : ((Int) × (List Int) × (Int) × (Int)) → Option (Bool)) (g16 : (List ((Int) × ((List Int) × ((Int) × ((Int) × (Unit)))))) → Option (List Int)) (g8 : (List (Int)) → Option ((Int) × (Int) × (List ((Int) × ((List Int) × ((Int) × ((Int) × (Unit)))))))) (g17 : (List ((Int) × ((List Int) × ((Int) × ((Int) × (Unit)))))) → Option (List Int)) (g10 : ((List ((Int) × ((List Int) × ((Int) × ((Int) × (Unit)))))) × (List ((Int) × ((List Int) × ((Int) × ((Int) × (Unit)))))) × (Bool)) → Option (Bool)) (g9 : (Unit) → Option (Bool)) (j5 : Nat) (a0 : List ((Int) × ((List Int) × ((Int) × ((Int) × (Unit)))))) (a1 : Int) (a2 : List ((Int) × ((List Int) × ((Int) × ((Int) × (Unit)))))) : Option (Bool) := loopAt (f7C g15 g11 g12 g16 g8 g17 g10 g9) k (bodyOf Tryd.f7) [.r, .r, .r, .l, .r, .b] [] j5 (retK (f7C g15 g11 g12 g16 g8 g17 g10 g9) Tryd.f7.results f7o) (f7_s5 a0 a1 a2)
def f7_t (g15 : (List ((Int) × ((List Int) × ((Int) × ((Int) × (Unit)))))) → Option (Bool)) (g11 : ((Int) × (List Int) × (Int) × (Int)) → Option (Bool)) (g12 : ((Int) × (List Int) × (Int) × (Int)) → Option (Bool)) (g16 : (List ((Int) × ((List Int) × ((Int) × ((Int) × (Unit)))))) → Option (List Int)) (g8 : (List (Int)) → Option ((Int) × (Int) × (List ((Int) × ((List Int) × ((Int) × ((Int) × (Unit)))))))) (g17 : (List ((Int) × ((List Int) × ((Int) × ((Int) × (Unit)))))) → Option (List Int)) (g10 : ((List ((Int) × ((List Int) × ((Int) × ((Int) × (Unit)))))) × (List ((Int) × ((List Int) × ((Int) × ((Int) × (Unit)))))) × (Bool)) → Option (Bool)) (g9 : (Unit) → Option (Bool)) (Jl5 : (List ((Int) × ((List Int) × ((Int) × ((Int) × (Unit)))))) → Int → (List ((Int) × ((List Int) × ((Int) × ((Int) × (Unit)))))) → Option (Bool)) (a0 : List ((Int) × ((List Int) × ((Int) × ((Int) × (Unit)))))) : Option (Bool) :=
  (g15 (a0)).bind fun o1 => bif (!o1) then (some true) else (Jl5 a0 (0 : Int) ([]))
set_option maxRecDepth 100000 in
theorem f7_A (g15 : (List ((Int) × ((List Int) × ((Int) × ((Int) × (Unit)))))) → Option (Bool)) (g11 : ((Int) × (List Int) × (Int) × (Int)) → Option (Bool)) (g12 : ((Int) × (List Int) × (Int) × (Int)) → Option (Bool)) (g16 : (List ((Int) × ((List Int) × ((Int) × ((Int) × (Unit)))))) → Option (List Int)) (g8 : (List (Int)) → Option ((Int) × (Int) × (List ((Int) × ((List Int) × ((Int) × ((Int) × (Unit)))))))) (g17 : (List ((Int) × ((List Int) × ((Int) × ((Int) × (Unit)))))) → Option (List Int)) (g10 : ((List ((Int) × ((List Int) × ((Int) × ((Int) × (Unit)))))) × (List ((Int) × ((List Int) × ((Int) × ((Int) × (Unit)))))) × (Bool)) → Option (Bool)) (g9 : (Unit) → Option (Bool)) (Jl5 : St → Option (Bool)) (a0 : List ((Int) × ((List Int) × ((Int) × ((Int) × (Unit)))))) : evAtJ (f7C g15 g11 g12 g16 g8 g17 g10 g9) [] [(5, Jl5)] (bodyOf Tryd.f7) [] (retK (f7C g15 g11 g12 g16 g8 g17 g10 g9) Tryd.f7.results f7o) (f7_s a0) = f7_t g15 g11 g12 g16 g8 g17 g10 g9 (fun a0 a1 a2 => Jl5 (f7_s5 a0 a1 a2)) a0 := by
  kernel_rfl
set_option maxRecDepth 100000 in
theorem f7_e (k : Nat) (g15 : (List ((Int) × ((List Int) × ((Int) × ((Int) × (Unit)))))) → Option (Bool)) (g11 : ((Int) × (List Int) × (Int) × (Int)) → Option (Bool)) (g12 : ((Int) × (List Int) × (Int) × (Int)) → Option (Bool)) (g16 : (List ((Int) × ((List Int) × ((Int) × ((Int) × (Unit)))))) → Option (List Int)) (g8 : (List (Int)) → Option ((Int) × (Int) × (List ((Int) × ((List Int) × ((Int) × ((Int) × (Unit)))))))) (g17 : (List ((Int) × ((List Int) × ((Int) × ((Int) × (Unit)))))) → Option (List Int)) (g10 : ((List ((Int) × ((List Int) × ((Int) × ((Int) × (Unit)))))) × (List ((Int) × ((List Int) × ((Int) × ((Int) × (Unit)))))) × (Bool)) → Option (Bool)) (g9 : (Unit) → Option (Bool))  (a0 : List ((Int) × ((List Int) × ((Int) × ((Int) × (Unit)))))) : f7 k g15 g11 g12 g16 g8 g17 g10 g9 (a0) = f7_t g15 g11 g12 g16 g8 g17 g10 g9 (f7_l5 k g15 g11 g12 g16 g8 g17 g10 g9  k) a0 := by
  have h0 : f7 k g15 g11 g12 g16 g8 g17 g10 g9 (a0) = evAt (f7C g15 g11 g12 g16 g8 g17 g10 g9) k (bodyOf Tryd.f7) [] [] (retK (f7C g15 g11 g12 g16 g8 g17 g10 g9) Tryd.f7.results f7o) (f7_s a0) := by kernel_rfl
  have h1 : keep [] (jt (f7C g15 g11 g12 g16 g8 g17 g10 g9) k (bodyOf Tryd.f7) [] [] (retK (f7C g15 g11 g12 g16 g8 g17 g10 g9) Tryd.f7.results f7o)) = [] := by kernel_rfl
  have h2 : keep [5] (lt (f7C g15 g11 g12 g16 g8 g17 g10 g9) k (bodyOf Tryd.f7) [] [] (retK (f7C g15 g11 g12 g16 g8 g17 g10 g9) Tryd.f7.results f7o)) = [(5, (fun s => loopAt (f7C g15 g11 g12 g16 g8 g17 g10 g9) k (bodyOf Tryd.f7) [.r, .r, .r, .l, .r, .b] [] k (retK (f7C g15 g11 g12 g16 g8 g17 g10 g9) Tryd.f7.results f7o) s))] := by kernel_rfl
  exact h0.trans ((evAt_cut _ [] [5] (by kernel_rfl) h1 h2 (by kernel_rfl) (by kernel_rfl) (by kernel_rfl)).trans (f7_A g15 g11 g12 g16 g8 g17 g10 g9 (fun s => loopAt (f7C g15 g11 g12 g16 g8 g17 g10 g9) k (bodyOf Tryd.f7) [.r, .r, .r, .l, .r, .b] [] k (retK (f7C g15 g11 g12 g16 g8 g17 g10 g9) Tryd.f7.results f7o) s) a0))
def f7_tl5 (g15 : (List ((Int) × ((List Int) × ((Int) × ((Int) × (Unit)))))) → Option (Bool)) (g11 : ((Int) × (List Int) × (Int) × (Int)) → Option (Bool)) (g12 : ((Int) × (List Int) × (Int) × (Int)) → Option (Bool)) (g16 : (List ((Int) × ((List Int) × ((Int) × ((Int) × (Unit)))))) → Option (List Int)) (g8 : (List (Int)) → Option ((Int) × (Int) × (List ((Int) × ((List Int) × ((Int) × ((Int) × (Unit)))))))) (g17 : (List ((Int) × ((List Int) × ((Int) × ((Int) × (Unit)))))) → Option (List Int)) (g10 : ((List ((Int) × ((List Int) × ((Int) × ((Int) × (Unit)))))) × (List ((Int) × ((List Int) × ((Int) × ((Int) × (Unit)))))) × (Bool)) → Option (Bool)) (g9 : (Unit) → Option (Bool)) (Jl5 : (List ((Int) × ((List Int) × ((Int) × ((Int) × (Unit)))))) → Int → (List ((Int) × ((List Int) × ((Int) × ((Int) × (Unit)))))) → Option (Bool)) (a0 : List ((Int) × ((List Int) × ((Int) × ((Int) × (Unit)))))) (a1 : Int) (a2 : List ((Int) × ((List Int) × ((Int) × ((Int) × (Unit)))))) : Option (Bool) :=
  bif (decide (a1 < ((List.length a0 : Nat) : Int))) then (bif (inB a1 (List.length a0)) then (g11 ((rdA ((0 : Int), ([], ((0 : Int), ((0 : Int), ())))) a0 (Int.toNat a1)).1, (rdA ((0 : Int), ([], ((0 : Int), ((0 : Int), ())))) a0 (Int.toNat a1)).2.1, (rdA ((0 : Int), ([], ((0 : Int), ((0 : Int), ())))) a0 (Int.toNat a1)).2.2.1, (rdA ((0 : Int), ([], ((0 : Int), ((0 : Int), ())))) a0 (Int.toNat a1)).2.2.2.1)).bind fun o1 => bif (inB a1 (List.length a0)) then (g12 ((rdA ((0 : Int), ([], ((0 : Int), ((0 : Int), ())))) a0 (Int.toNat a1)).1, (rdA ((0 : Int), ([], ((0 : Int), ((0 : Int), ())))) a0 (Int.toNat a1)).2.1, (rdA ((0 : Int), ([], ((0 : Int), ((0 : Int), ())))) a0 (Int.toNat a1)).2.2.1, (rdA ((0 : Int), ([], ((0 : Int), ((0 : Int), ())))) a0 (Int.toNat a1)).2.2.2.1)).bind fun o2 => bif (!(o1 == o2)) then (some false) else (bif (inB a1 (List.length a0)) then (g11 ((rdA ((0 : Int), ([], ((0 : Int), ((0 : Int), ())))) a0 (Int.toNat a1)).1, (rdA ((0 : Int), ([], ((0 : Int), ((0 : Int), ())))) a0 (Int.toNat a1)).2.1, (rdA ((0 : Int), ([], ((0 : Int), ((0 : Int), ())))) a0 (Int.toNat a1)).2.2.1, (rdA ((0 : Int), ([], ((0 : Int), ((0 : Int), ())))) a0 (Int.toNat a1)).2.2.2.1)).bind fun o3 => bif o3 then (bif (inB a1 (List.length a0)) then bif (appB 40 (List.length a2) (List.length ([((rdA ((0 : Int), ([], ((0 : Int), ((0 : Int), ())))) a0 (Int.toNat a1)).1, ((rdA ((0 : Int), ([], ((0 : Int), ((0 : Int), ())))) a0 (Int.toNat a1)).2.1, ((rdA ((0 : Int), ([], ((0 : Int), ((0 : Int), ())))) a0 (Int.toNat a1)).2.2.1, ((rdA ((0 : Int), ([], ((0 : Int), ((0 : Int), ())))) a0 (Int.toNat a1)).2.2.2.1, ()))))] : List ((Int) × ((List Int) × ((Int) × ((Int) × (Unit)))))))) then Jl5 a0 (IntKind.wrap .i64 (a1 + (1 : Int))) (a2 ++ ([((rdA ((0 : Int), ([], ((0 : Int), ((0 : Int), ())))) a0 (Int.toNat a1)).1, ((rdA ((0 : Int), ([], ((0 : Int), ((0 : Int), ())))) a0 (Int.toNat a1)).2.1, ((rdA ((0 : Int), ([], ((0 : Int), ((0 : Int), ())))) a0 (Int.toNat a1)).2.2.1, ((rdA ((0 : Int), ([], ((0 : Int), ((0 : Int), ())))) a0 (Int.toNat a1)).2.2.2.1, ()))))] : List ((Int) × ((List Int) × ((Int) × ((Int) × (Unit))))))) else none else none) else (Jl5 a0 (IntKind.wrap .i64 (a1 + (1 : Int))) a2) else none) else none else none) else ((g16 (a2)).bind fun o4 => (g8 (o4)).bind fun o5 => (g17 (a2)).bind fun o6 => bif (o4 == o6) then (bif (o5.1 == (0 : Int)) then (bif (((List.length o5.2.2 : Nat) : Int) == (IntKind.wrap .i64 (((List.length a2 : Nat) : Int) + (1 : Int)))) then (bif (cutB (0 : Int) ((List.length a2 : Nat) : Int) (List.length o5.2.2)) then (g10 ((cutL o5.2.2 (0 : Int) ((List.length a2 : Nat) : Int)), a2, false)).bind fun o7 => bif o7 then ((g9 (())).bind fun o8 => some o8) else (some false) else none) else (some false)) else (some false)) else (some false))
set_option maxRecDepth 100000 in
theorem f7_Al5 (g15 : (List ((Int) × ((List Int) × ((Int) × ((Int) × (Unit)))))) → Option (Bool)) (g11 : ((Int) × (List Int) × (Int) × (Int)) → Option (Bool)) (g12 : ((Int) × (List Int) × (Int) × (Int)) → Option (Bool)) (g16 : (List ((Int) × ((List Int) × ((Int) × ((Int) × (Unit)))))) → Option (List Int)) (g8 : (List (Int)) → Option ((Int) × (Int) × (List ((Int) × ((List Int) × ((Int) × ((Int) × (Unit)))))))) (g17 : (List ((Int) × ((List Int) × ((Int) × ((Int) × (Unit)))))) → Option (List Int)) (g10 : ((List ((Int) × ((List Int) × ((Int) × ((Int) × (Unit)))))) × (List ((Int) × ((List Int) × ((Int) × ((Int) × (Unit)))))) × (Bool)) → Option (Bool)) (g9 : (Unit) → Option (Bool)) (Jl5 : St → Option (Bool)) (a0 : List ((Int) × ((List Int) × ((Int) × ((Int) × (Unit)))))) (a1 : Int) (a2 : List ((Int) × ((List Int) × ((Int) × ((Int) × (Unit)))))) : evAtJ (f7C g15 g11 g12 g16 g8 g17 g10 g9) [] [(5, Jl5)] (bodyOf Tryd.f7) [.r, .r, .r, .l, .r, .b, .b] (retK (f7C g15 g11 g12 g16 g8 g17 g10 g9) Tryd.f7.results f7o) (f7_s5 a0 a1 a2) = f7_tl5 g15 g11 g12 g16 g8 g17 g10 g9 (fun a0 a1 a2 => Jl5 (f7_s5 a0 a1 a2)) a0 a1 a2 := by
  kernel_rfl
set_option maxRecDepth 100000 in
theorem f7_el5 (k : Nat) (g15 : (List ((Int) × ((List Int) × ((Int) × ((Int) × (Unit)))))) → Option (Bool)) (g11 : ((Int) × (List Int) × (Int) × (Int)) → Option (Bool)) (g12 : ((Int) × (List Int) × (Int) × (Int)) → Option (Bool)) (g16 : (List ((Int) × ((List Int) × ((Int) × ((Int) × (Unit)))))) → Option (List Int)) (g8 : (List (Int)) → Option ((Int) × (Int) × (List ((Int) × ((List Int) × ((Int) × ((Int) × (Unit)))))))) (g17 : (List ((Int) × ((List Int) × ((Int) × ((Int) × (Unit)))))) → Option (List Int)) (g10 : ((List ((Int) × ((List Int) × ((Int) × ((Int) × (Unit)))))) × (List ((Int) × ((List Int) × ((Int) × ((Int) × (Unit)))))) × (Bool)) → Option (Bool)) (g9 : (Unit) → Option (Bool)) (j5 : Nat) (a0 : List ((Int) × ((List Int) × ((Int) × ((Int) × (Unit)))))) (a1 : Int) (a2 : List ((Int) × ((List Int) × ((Int) × ((Int) × (Unit)))))) : f7_l5 k g15 g11 g12 g16 g8 g17 g10 g9 (j5 + 1) a0 a1 a2 = f7_tl5 g15 g11 g12 g16 g8 g17 g10 g9 (f7_l5 k g15 g11 g12 g16 g8 g17 g10 g9  j5) a0 a1 a2 := by
  have h0 : f7_l5 k g15 g11 g12 g16 g8 g17 g10 g9 (j5 + 1) a0 a1 a2 = evAt (f7C g15 g11 g12 g16 g8 g17 g10 g9) k (bodyOf Tryd.f7) [.r, .r, .r, .l, .r, .b, .b] [j5] (retK (f7C g15 g11 g12 g16 g8 g17 g10 g9) Tryd.f7.results f7o) (f7_s5 a0 a1 a2) := by kernel_rfl
  have h1 : keep [] (jt (f7C g15 g11 g12 g16 g8 g17 g10 g9) k (bodyOf Tryd.f7) [.r, .r, .r, .l, .r, .b, .b] [j5] (retK (f7C g15 g11 g12 g16 g8 g17 g10 g9) Tryd.f7.results f7o)) = [] := by kernel_rfl
  have h2 : keep [5] (lt (f7C g15 g11 g12 g16 g8 g17 g10 g9) k (bodyOf Tryd.f7) [.r, .r, .r, .l, .r, .b, .b] [j5] (retK (f7C g15 g11 g12 g16 g8 g17 g10 g9) Tryd.f7.results f7o)) = [(5, (fun s => loopAt (f7C g15 g11 g12 g16 g8 g17 g10 g9) k (bodyOf Tryd.f7) [.r, .r, .r, .l, .r, .b] [] j5 (retK (f7C g15 g11 g12 g16 g8 g17 g10 g9) Tryd.f7.results f7o) s))] := by kernel_rfl
  exact h0.trans ((evAt_cut _ [] [5] (by kernel_rfl) h1 h2 (by kernel_rfl) (by kernel_rfl) (by kernel_rfl)).trans (f7_Al5 g15 g11 g12 g16 g8 g17 g10 g9 (fun s => loopAt (f7C g15 g11 g12 g16 g8 g17 g10 g9) k (bodyOf Tryd.f7) [.r, .r, .r, .l, .r, .b] [] j5 (retK (f7C g15 g11 g12 g16 g8 g17 g10 g9) Tryd.f7.results f7o) s) a0 a1 a2))
set_option maxRecDepth 100000 in
theorem f7_ok (k : Nat) (g15 : (List ((Int) × ((List Int) × ((Int) × ((Int) × (Unit)))))) → Option (Bool)) (g11 : ((Int) × (List Int) × (Int) × (Int)) → Option (Bool)) (g12 : ((Int) × (List Int) × (Int) × (Int)) → Option (Bool)) (g16 : (List ((Int) × ((List Int) × ((Int) × ((Int) × (Unit)))))) → Option (List Int)) (g8 : (List (Int)) → Option ((Int) × (Int) × (List ((Int) × ((List Int) × ((Int) × ((Int) × (Unit)))))))) (g17 : (List ((Int) × ((List Int) × ((Int) × ((Int) × (Unit)))))) → Option (List Int)) (g10 : ((List ((Int) × ((List Int) × ((Int) × ((Int) × (Unit)))))) × (List ((Int) × ((List Int) × ((Int) × ((Int) × (Unit)))))) × (Bool)) → Option (Bool)) (g9 : (Unit) → Option (Bool)) (hg15 : SigOK Tryd.prog 15 ⟨f15i, f15o, mkFun f15i.tys f15o.tys g15⟩) (hg11 : SigOK Tryd.prog 11 ⟨f11i, f11o, mkFun f11i.tys f11o.tys g11⟩) (hg12 : SigOK Tryd.prog 12 ⟨f12i, f12o, mkFun f12i.tys f12o.tys g12⟩) (hg16 : SigOK Tryd.prog 16 ⟨f16i, f16o, mkFun f16i.tys f16o.tys g16⟩) (hg8 : SigOK Tryd.prog 8 ⟨f8i, f8o, mkFun f8i.tys f8o.tys g8⟩) (hg17 : SigOK Tryd.prog 17 ⟨f17i, f17o, mkFun f17i.tys f17o.tys g17⟩) (hg10 : SigOK Tryd.prog 10 ⟨f10i, f10o, mkFun f10i.tys f10o.tys g10⟩) (hg9 : SigOK Tryd.prog 9 ⟨f9i, f9o, mkFun f9i.tys f9o.tys g9⟩) : SigOK Tryd.prog 7 ⟨f7i, f7o, mkFun f7i.tys f7o.tys (f7 k g15 g11 g12 g16 g8 g17 g10 g9)⟩ :=
  fn_ok (C := (f7C g15 g11 g12 g16 g8 g17 g10 g9)) (l := f7E g15 g11 g12 g16 g8 g17 g10 g9) rfl ⟨⟨hg15, trivial⟩, ⟨hg11, trivial⟩, ⟨hg12, trivial⟩, ⟨hg16, trivial⟩, ⟨hg8, trivial⟩, ⟨hg17, trivial⟩, ⟨hg10, trivial⟩, ⟨hg9, trivial⟩, trivial⟩ (by kernel_rfl) k (fn := Tryd.f7) (by kernel_rfl) (by kernel_rfl) (by kernel_rfl) f7i f7o rfl rfl (show 0 ≤ 48 by decide) (show 0 ≤ 48 by decide)
noncomputable def c7 (k : Nat) : (List ((Int) × ((List Int) × ((Int) × ((Int) × (Unit)))))) → Option (Bool) := f7 k (c15 k) (c11 k) (c12 k) (c16 k) (c8 k) (c17 k) (c10 k) (c9 k)
theorem c7_ok (k : Nat) : SigOK Tryd.prog 7 ⟨f7i, f7o, mkFun f7i.tys f7o.tys (c7 k)⟩ := f7_ok k (c15 k) (c11 k) (c12 k) (c16 k) (c8 k) (c17 k) (c10 k) (c9 k) (c15_ok k) (c11_ok k) (c12_ok k) (c16_ok k) (c8_ok k) (c17_ok k) (c10_ok k) (c9_ok k)

end Go.Proofs.YtjbijifjlmmnpaaDoorV
