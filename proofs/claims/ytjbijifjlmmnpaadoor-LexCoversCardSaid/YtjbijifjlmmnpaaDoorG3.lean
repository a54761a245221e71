import Derived.Test.YtjbijifjlmmnpaaDoorX2
import Derived.Test.YtjbijifjlmmnpaaDoorProg
import Derived.Test.YtjbijifjlmmnpaaDoorV29
set_option linter.unusedVariables false
namespace Go.Proofs.YtjbijifjlmmnpaaDoorV
open Go Go.RowKit

/-! carrefour/lex.kind -/
def f33i : Sk := ⟨[.lf (.pv (.int .u8))], [], []⟩
def f33o : Sk := ⟨[.lf (.pv (.int .i64))], [], []⟩
def f33_k10 : Sk := ⟨sparse 36 [(17, .lf (.pv (.int .u8)))], [], []⟩
def f33_k14 : Sk := ⟨sparse 36 [(17, .lf (.pv (.int .u8)))], [], []⟩
noncomputable def f33E  : List (Nat × List Sig) := []
noncomputable def f33C  : Cfg := { P := Tryd.prog, env := lookS (f33E ), n := 84, npB := 0, npO := 0, hint := fun i => look none [(10, some f33_k10), (14, some f33_k14)] i, pops := [] }
def f33_s (a0 : Int) : St := { enc f33i 84 [⟨(.int .u8), a0⟩] with slots := encAs f33i.slots [⟨(.int .u8), a0⟩] ++ List.replicate 35 .dead }
def f33_s10 (a0 : Int) : St := enc f33_k10 84 [⟨(.int .u8), a0⟩]
def f33_s14 (a0 : Int) : St := enc f33_k14 84 [⟨(.int .u8), a0⟩]
noncomputable def f33 (k : Nat)  : (Int) → Option (Int) := fnOf f33C k Tryd.f33 f33i f33o
noncomputable def f33_j10 (k : Nat)   (a0 : Int) : Option (Int) := evAt f33C k (bodyOf Tryd.f33) [.r, .r, .l, .r, .b, .l, .b, .b, .l, .b, .l, .b, .l, .b, .l, .r] [] (retK f33C Tryd.f33.results f33o) (f33_s10 a0)
noncomputable def f33_j14 (k : Nat)   (a0 : Int) : Option (Int) := evAt f33C k (bodyOf Tryd.f33) [.r, .r, .l, .r, .b, .l, .b, .b, .l, .b, .l, .b, .l, .b, .l, .r, .r, .r, .r] [] (retK f33C Tryd.f33.results f33o) (f33_s14 a0)
def f33_t  (Jj10 : Int → Option (Int)) (a0 : Int) : Option (Int) :=
  bif (decide ((97 : Int) ≤ a0)) then (bif (decide (a0 ≤ (122 : Int))) then (some (3 : Int)) else (bif (decide ((48 : Int) ≤ a0)) then (bif (decide (a0 ≤ (57 : Int))) then (some (4 : Int)) else (bif (a0 == (32 : Int)) then (some (1 : Int)) else (bif (a0 == (9 : Int)) then (some (1 : Int)) else (bif (a0 == (10 : Int)) then (some (1 : Int)) else (bif (a0 == (13 : Int)) then (some (1 : Int)) else (Jj10 a0)))))) else (bif (a0 == (32 : Int)) then (some (1 : Int)) else (bif (a0 == (9 : Int)) then (some (1 : Int)) else (bif (a0 == (10 : Int)) then (some (1 : Int)) else (bif (a0 == (13 : Int)) then (some (1 : Int)) else (Jj10 a0))))))) else (bif (decide ((48 : Int) ≤ a0)) then (bif (decide (a0 ≤ (57 : Int))) then (some (4 : Int)) else (bif (a0 == (32 : Int)) then (some (1 : Int)) else (bif (a0 == (9 : Int)) then (some (1 : Int)) else (bif (a0 == (10 : Int)) then (some (1 : Int)) else (bif (a0 == (13 : Int)) then (some (1 : Int)) else (Jj10 a0)))))) else (bif (a0 == (32 : Int)) then (some (1 : Int)) else (bif (a0 == (9 : Int)) then (some (1 : Int)) else (bif (a0 == (10 : Int)) then (some (1 : Int)) else (bif (a0 == (13 : Int)) then (some (1 : Int)) else (Jj10 a0))))))
set_option maxRecDepth 100000 in
theorem f33_A  (Jj10 : St → Option (Int)) (Jj14 : St → Option (Int)) (a0 : Int) : evAtJ f33C [(10, Jj10), (14, Jj14)] [] (bodyOf Tryd.f33) [] (retK f33C Tryd.f33.results f33o) (f33_s a0) = f33_t  (fun a0 => Jj10 (f33_s10 a0)) a0 := by
  kernel_rfl
set_option maxRecDepth 100000 in
theorem f33_e (k : Nat)   (a0 : Int) : f33 k  (a0) = f33_t  (f33_j10 k  ) a0 := by
  have h0 : f33 k  (a0) = evAt f33C k (bodyOf Tryd.f33) [] [] (retK f33C Tryd.f33.results f33o) (f33_s a0) := by kernel_rfl
  have h1 : keep [10, 14] (jt f33C k (bodyOf Tryd.f33) [] [] (retK f33C Tryd.f33.results f33o)) = [(10, (fun s => evAt f33C k (bodyOf Tryd.f33) [.r, .r, .l, .r, .b, .l, .b, .b, .l, .b, .l, .b, .l, .b, .l, .r] [] (retK f33C Tryd.f33.results f33o) s)), (14, (fun s => evAt f33C k (bodyOf Tryd.f33) [.r, .r, .l, .r, .b, .l, .b, .b, .l, .b, .l, .b, .l, .b, .l, .r, .r, .r, .r] [] (retK f33C Tryd.f33.results f33o) s))] := by kernel_rfl
  have h2 : keep [] (lt f33C k (bodyOf Tryd.f33) [] [] (retK f33C Tryd.f33.results f33o)) = [] := by kernel_rfl
  exact h0.trans ((evAt_cut _ [10, 14] [] (by kernel_rfl) h1 h2 (by kernel_rfl) (by kernel_rfl) (by kernel_rfl)).trans (f33_A  (fun s => evAt f33C k (bodyOf Tryd.f33) [.r, .r, .l, .r, .b, .l, .b, .b, .l, .b, .l, .b, .l, .b, .l, .r] [] (retK f33C Tryd.f33.results f33o) s) (fun s => evAt f33C k (bodyOf Tryd.f33) [.r, .r, .l, .r, .b, .l, .b, .b, .l, .b, .l, .b, .l, .b, .l, .r, .r, .r, .r] [] (retK f33C Tryd.f33.results f33o) s) a0))
def f33_tj10  (Jj14 : Int → Option (Int)) (a0 : Int) : Option (Int) :=
  bif (a0 == (35 : Int)) then (some (2 : Int)) else (bif (a0 == (95 : Int)) then (some (6 : Int)) else (bif (a0 == (123 : Int)) then (some (5 : Int)) else (bif (a0 == (125 : Int)) then (some (5 : Int)) else (Jj14 a0))))
set_option maxRecDepth 100000 in
theorem f33_Aj10  (Jj10 : St → Option (Int)) (Jj14 : St → Option (Int)) (a0 : Int) : evAtJ f33C [(10, Jj10), (14, Jj14)] [] (bodyOf Tryd.f33) [.r, .r, .l, .r, .b, .l, .b, .b, .l, .b, .l, .b, .l, .b, .l, .r] (retK f33C Tryd.f33.results f33o) (f33_s10 a0) = f33_tj10  (fun a0 => Jj14 (f33_s14 a0)) a0 := by
  kernel_rfl
set_option maxRecDepth 100000 in
theorem f33_ej10 (k : Nat)   (a0 : Int) : f33_j10 k   a0 = f33_tj10  (f33_j14 k  ) a0 := by
  have h0 : f33_j10 k   a0 = evAt f33C k (bodyOf Tryd.f33) [.r, .r, .l, .r, .b, .l, .b, .b, .l, .b, .l, .b, .l, .b, .l, .r] [] (retK f33C Tryd.f33.results f33o) (f33_s10 a0) := by kernel_rfl
  have h1 : keep [10, 14] (jt f33C k (bodyOf Tryd.f33) [.r, .r, .l, .r, .b, .l, .b, .b, .l, .b, .l, .b, .l, .b, .l, .r] [] (retK f33C Tryd.f33.results f33o)) = [(10, (fun s => evAt f33C k (bodyOf Tryd.f33) [.r, .r, .l, .r, .b, .l, .b, .b, .l, .b, .l, .b, .l, .b, .l, .r] [] (retK f33C Tryd.f33.results f33o) s)), (14, (fun s => evAt f33C k (bodyOf Tryd.f33) [.r, .r, .l, .r, .b, .l, .b, .b, .l, .b, .l, .b, .l, .b, .l, .r, .r, .r, .r] [] (retK f33C Tryd.f33.results f33o) s))] := by kernel_rfl
  have h2 : keep [] (lt f33C k (bodyOf Tryd.f33) [.r, .r, .l, .r, .b, .l, .b, .b, .l, .b, .l, .b, .l, .b, .l, .r] [] (retK f33C Tryd.f33.results f33o)) = [] := by kernel_rfl
  exact h0.trans ((evAt_cut _ [10, 14] [] (by kernel_rfl) h1 h2 (by kernel_rfl) (by kernel_rfl) (by kernel_rfl)).trans (f33_Aj10  (fun s => evAt f33C k (bodyOf Tryd.f33) [.r, .r, .l, .r, .b, .l, .b, .b, .l, .b, .l, .b, .l, .b, .l, .r] [] (retK f33C Tryd.f33.results f33o) s) (fun s => evAt f33C k (bodyOf Tryd.f33) [.r, .r, .l, .r, .b, .l, .b, .b, .l, .b, .l, .b, .l, .b, .l, .r, .r, .r, .r] [] (retK f33C Tryd.f33.results f33o) s) a0))
def f33_tj14   (a0 : Int) : Option (Int) :=
  bif (a0 == (44 : Int)) then (some (5 : Int)) else (bif (a0 == (59 : Int)) then (some (5 : Int)) else (bif (a0 == (58 : Int)) then (some (5 : Int)) else (bif (a0 == (47 : Int)) then (some (5 : Int)) else (bif (a0 == (45 : Int)) then (some (5 : Int)) else (some (0 : Int))))))
set_option maxRecDepth 100000 in
theorem f33_Aj14  (Jj10 : St → Option (Int)) (Jj14 : St → Option (Int)) (a0 : Int) : evAtJ f33C [(10, Jj10), (14, Jj14)] [] (bodyOf Tryd.f33) [.r, .r, .l, .r, .b, .l, .b, .b, .l, .b, .l, .b, .l, .b, .l, .r, .r, .r, .r] (retK f33C Tryd.f33.results f33o) (f33_s14 a0) = f33_tj14   a0 := by
  kernel_rfl
set_option maxRecDepth 100000 in
theorem f33_ej14 (k : Nat)   (a0 : Int) : f33_j14 k   a0 = f33_tj14   a0 := by
  have h0 : f33_j14 k   a0 = evAt f33C k (bodyOf Tryd.f33) [.r, .r, .l, .r, .b, .l, .b, .b, .l, .b, .l, .b, .l, .b, .l, .r, .r, .r, .r] [] (retK f33C Tryd.f33.results f33o) (f33_s14 a0) := by kernel_rfl
  have h1 : keep [10, 14] (jt f33C k (bodyOf Tryd.f33) [.r, .r, .l, .r, .b, .l, .b, .b, .l, .b, .l, .b, .l, .b, .l, .r, .r, .r, .r] [] (retK f33C Tryd.f33.results f33o)) = [(10, (fun s => evAt f33C k (bodyOf Tryd.f33) [.r, .r, .l, .r, .b, .l, .b, .b, .l, .b, .l, .b, .l, .b, .l, .r] [] (retK f33C Tryd.f33.results f33o) s)), (14, (fun s => evAt f33C k (bodyOf Tryd.f33) [.r, .r, .l, .r, .b, .l, .b, .b, .l, .b, .l, .b, .l, .b, .l, .r, .r, .r, .r] [] (retK f33C Tryd.f33.results f33o) s))] := by kernel_rfl
  have h2 : keep [] (lt f33C k (bodyOf Tryd.f33) [.r, .r, .l, .r, .b, .l, .b, .b, .l, .b, .l, .b, .l, .b, .l, .r, .r, .r, .r] [] (retK f33C Tryd.f33.results f33o)) = [] := by kernel_rfl
  exact h0.trans ((evAt_cut _ [10, 14] [] (by kernel_rfl) h1 h2 (by kernel_rfl) (by kernel_rfl) (by kernel_rfl)).trans (f33_Aj14  (fun s => evAt f33C k (bodyOf Tryd.f33) [.r, .r, .l, .r, .b, .l, .b, .b, .l, .b, .l, .b, .l, .b, .l, .r] [] (retK f33C Tryd.f33.results f33o) s) (fun s => evAt f33C k (bodyOf Tryd.f33) [.r, .r, .l, .r, .b, .l, .b, .b, .l, .b, .l, .b, .l, .b, .l, .r, .r, .r, .r] [] (retK f33C Tryd.f33.results f33o) s) a0))
set_option maxRecDepth 100000 in
theorem f33_ok (k : Nat)   : SigOK Tryd.prog 33 ⟨f33i, f33o, mkFun f33i.tys f33o.tys (f33 k )⟩ :=
  fn_ok (C := f33C) (l := f33E ) rfl trivial (by kernel_rfl) k (fn := Tryd.f33) (by kernel_rfl) (by kernel_rfl) (by kernel_rfl) f33i f33o rfl rfl (show 0 ≤ 48 by decide) (show 0 ≤ 48 by decide)
noncomputable def c33 (k : Nat) : (Int) → Option (Int) := f33 k 
theorem c33_ok (k : Nat) : SigOK Tryd.prog 33 ⟨f33i, f33o, mkFun f33i.tys f33o.tys (c33 k)⟩ := f33_ok k  

/-! (*carrefour/lex.scanner).kind -/
def f24i : Sk := ⟨[.lf (.ptr 0 0)], [[.pv (.slice (.int .u8)), .pv (.int .i64)]], []⟩
def f24o : Sk := ⟨[.lf (.pv (.int .i64))], [[.pv (.slice (.int .u8)), .pv (.int .i64)]], []⟩
noncomputable def f24E (g33 : (Int) → Option (Int)) : List (Nat × List Sig) := [(33, [⟨f33i, f33o, mkFun f33i.tys f33o.tys g33⟩])]
noncomputable def f24C (g33 : (Int) → Option (Int)) : Cfg := { P := Tryd.prog, env := lookS (f24E g33), n := 62, npB := 1, npO := 0, hint := fun i => look none [] i, pops := [] }
def f24_s (a0 : List (Int)) (a1 : Int) : St := { enc f24i 62 [⟨(.slice (.int .u8)), a0⟩, ⟨(.int .i64), a1⟩] with slots := encAs f24i.slots [⟨(.slice (.int .u8)), a0⟩, ⟨(.int .i64), a1⟩] ++ List.replicate 13 .dead }
noncomputable def f24 (k : Nat) (g33 : (Int) → Option (Int)) : ((List (Int)) × (Int)) → Option ((Int) × (List (Int)) × (Int)) := fnOf (f24C g33) k Tryd.f24 f24i f24o
def f24_t (g33 : (Int) → Option (Int))  (a0 : List (Int)) (a1 : Int) : Option ((Int) × (List (Int)) × (Int)) :=
  bif (inB a1 (List.length a0)) then (g33 ((rdI a0 (Int.toNat a1)))).bind fun o1 => some (o1, a0, a1) else none
set_option maxRecDepth 100000 in
theorem f24_A (g33 : (Int) → Option (Int))  (a0 : List (Int)) (a1 : Int) : evAtJ (f24C g33) [] [] (bodyOf Tryd.f24) [] (retK (f24C g33) Tryd.f24.results f24o) (f24_s a0 a1) = f24_t g33  a0 a1 := by
  kernel_rfl
set_option maxRecDepth 100000 in
theorem f24_e (k : Nat) (g33 : (Int) → Option (Int))  (a0 : List (Int)) (a1 : Int) : f24 k g33 (a0, a1) = f24_t g33  a0 a1 := by
  have h0 : f24 k g33 (a0, a1) = evAt (f24C g33) k (bodyOf Tryd.f24) [] [] (retK (f24C g33) Tryd.f24.results f24o) (f24_s a0 a1) := by kernel_rfl
  have h1 : keep [] (jt (f24C g33) k (bodyOf Tryd.f24) [] [] (retK (f24C g33) Tryd.f24.results f24o)) = [] := by kernel_rfl
  have h2 : keep [] (lt (f24C g33) k (bodyOf Tryd.f24) [] [] (retK (f24C g33) Tryd.f24.results f24o)) = [] := by kernel_rfl
  exact h0.trans ((evAt_cut _ [] [] (by kernel_rfl) h1 h2 (by kernel_rfl) (by kernel_rfl) (by kernel_rfl)).trans (f24_A g33  a0 a1))
set_option maxRecDepth 100000 in
theorem f24_ok (k : Nat) (g33 : (Int) → Option (Int)) (hg33 : SigOK Tryd.prog 33 ⟨f33i, f33o, mkFun f33i.tys f33o.tys g33⟩) : SigOK Tryd.prog 24 ⟨f24i, f24o, mkFun f24i.tys f24o.tys (f24 k g33)⟩ :=
  fn_ok (C := (f24C g33)) (l := f24E g33) rfl ⟨⟨hg33, trivial⟩, trivial⟩ (by kernel_rfl) k (fn := Tryd.f24) (by kernel_rfl) (by kernel_rfl) (by kernel_rfl) f24i f24o rfl rfl (show 1 ≤ 48 by decide) (show 0 ≤ 48 by decide)
noncomputable def c24 (k : Nat) : ((List (Int)) × (Int)) → Option ((Int) × (List (Int)) × (Int)) := f24 k (c33 k)
theorem c24_ok (k : Nat) : SigOK Tryd.prog 24 ⟨f24i, f24o, mkFun f24i.tys f24o.tys (c24 k)⟩ := f24_ok k (c33 k) (c33_ok k)

/-! slices.Index[[]byte,byte] -/
def f25i : Sk := ⟨[.lf (.pv (.slice (.int .u8))), .lf (.pv (.int .u8))], [], []⟩
def f25o : Sk := ⟨[.lf (.pv (.int .i64))], [], []⟩
def f25_k2 : Sk := ⟨sparse 19 [(0, .lf (.pv (.slice (.int .u8)))), (1, .lf (.pv (.int .u8))), (7, .lf (.pv (.int .i64))), (8, .lf (.pv (.int .i64)))], [], []⟩
noncomputable def f25E  : List (Nat × List Sig) := []
noncomputable def f25C  : Cfg := { P := Tryd.prog, env := lookS (f25E ), n := 67, npB := 0, npO := 0, hint := fun i => look none [(2, some f25_k2)] i, pops := [] }
def f25_s (a0 : List (Int)) (a1 : Int) : St := { enc f25i 67 [⟨(.slice (.int .u8)), a0⟩, ⟨(.int .u8), a1⟩] with slots := encAs f25i.slots [⟨(.slice (.int .u8)), a0⟩, ⟨(.int .u8), a1⟩] ++ List.replicate 17 .dead }
def f25_s2 (a0 : List (Int)) (a1 : Int) (a2 : Int) (a3 : Int) : St := enc f25_k2 67 [⟨(.slice (.int .u8)), a0⟩, ⟨(.int .u8), a1⟩, ⟨(.int .i64), a2⟩, ⟨(.int .i64), a3⟩]
noncomputable def f25 (k : Nat)  : ((List (Int)) × (Int)) → Option (Int) := fnOf f25C k Tryd.f25 f25i f25o
noncomputable def f25_l2 (k : Nat)  (j2 : Nat) (a0 : List (Int)) (a1 : Int) (a2 : Int) (a3 : Int) : Option (Int) := loopAt f25C k (bodyOf Tryd.f25) [.r, .l, .r, .b] [] j2 (retK f25C Tryd.f25.results f25o) (f25_s2 a0 a1 a2 a3)
def f25_t  (Jl2 : (List (Int)) → Int → Int → Int → Option (Int)) (a0 : List (Int)) (a1 : Int) : Option (Int) :=
  Jl2 a0 a1 ((List.length a0 : Nat) : Int) (0 : Int)
set_option maxRecDepth 100000 in
theorem f25_A  (Jl2 : St → Option (Int)) (a0 : List (Int)) (a1 : Int) : evAtJ f25C [] [(2, Jl2)] (bodyOf Tryd.f25) [] (retK f25C Tryd.f25.results f25o) (f25_s a0 a1) = f25_t  (fun a0 a1 a2 a3 => Jl2 (f25_s2 a0 a1 a2 a3)) a0 a1 := by
  kernel_rfl
set_option maxRecDepth 100000 in
theorem f25_e (k : Nat)   (a0 : List (Int)) (a1 : Int) : f25 k  (a0, a1) = f25_t  (f25_l2 k   k) a0 a1 := by
  have h0 : f25 k  (a0, a1) = evAt f25C k (bodyOf Tryd.f25) [] [] (retK f25C Tryd.f25.results f25o) (f25_s a0 a1) := by kernel_rfl
  have h1 : keep [] (jt f25C k (bodyOf Tryd.f25) [] [] (retK f25C Tryd.f25.results f25o)) = [] := by kernel_rfl
  have h2 : keep [2] (lt f25C k (bodyOf Tryd.f25) [] [] (retK f25C Tryd.f25.results f25o)) = [(2, (fun s => loopAt f25C k (bodyOf Tryd.f25) [.r, .l, .r, .b] [] k (retK f25C Tryd.f25.results f25o) s))] := by kernel_rfl
  exact h0.trans ((evAt_cut _ [] [2] (by kernel_rfl) h1 h2 (by kernel_rfl) (by kernel_rfl) (by kernel_rfl)).trans (f25_A  (fun s => loopAt f25C k (bodyOf Tryd.f25) [.r, .l, .r, .b] [] k (retK f25C Tryd.f25.results f25o) s) a0 a1))
def f25_tl2  (Jl2 : (List (Int)) → Int → Int → Int → Option (Int)) (a0 : List (Int)) (a1 : Int) (a2 : Int) (a3 : Int) : Option (Int) :=
  bif (decide (a3 < a2)) then (bif (inB a3 (List.length a0)) then bif (a1 == (rdI a0 (Int.toNat a3))) then (some a3) else (Jl2 a0 a1 a2 (IntKind.wrap .i64 (a3 + (1 : Int)))) else none) else (some (-1 : Int))
set_option maxRecDepth 100000 in
theorem f25_Al2  (Jl2 : St → Option (Int)) (a0 : List (Int)) (a1 : Int) (a2 : Int) (a3 : Int) : evAtJ f25C [] [(2, Jl2)] (bodyOf Tryd.f25) [.r, .l, .r, .b, .b] (retK f25C Tryd.f25.results f25o) (f25_s2 a0 a1 a2 a3) = f25_tl2  (fun a0 a1 a2 a3 => Jl2 (f25_s2 a0 a1 a2 a3)) a0 a1 a2 a3 := by
  kernel_rfl
set_option maxRecDepth 100000 in
theorem f25_el2 (k : Nat)  (j2 : Nat) (a0 : List (Int)) (a1 : Int) (a2 : Int) (a3 : Int) : f25_l2 k  (j2 + 1) a0 a1 a2 a3 = f25_tl2  (f25_l2 k   j2) a0 a1 a2 a3 := by
  have h0 : f25_l2 k  (j2 + 1) a0 a1 a2 a3 = evAt f25C k (bodyOf Tryd.f25) [.r, .l, .r, .b, .b] [j2] (retK f25C Tryd.f25.results f25o) (f25_s2 a0 a1 a2 a3) := by kernel_rfl
  have h1 : keep [] (jt f25C k (bodyOf Tryd.f25) [.r, .l, .r, .b, .b] [j2] (retK f25C Tryd.f25.results f25o)) = [] := by kernel_rfl
  have h2 : keep [2] (lt f25C k (bodyOf Tryd.f25) [.r, .l, .r, .b, .b] [j2] (retK f25C Tryd.f25.results f25o)) = [(2, (fun s => loopAt f25C k (bodyOf Tryd.f25) [.r, .l, .r, .b] [] j2 (retK f25C Tryd.f25.results f25o) s))] := by kernel_rfl
  exact h0.trans ((evAt_cut _ [] [2] (by kernel_rfl) h1 h2 (by kernel_rfl) (by kernel_rfl) (by kernel_rfl)).trans (f25_Al2  (fun s => loopAt f25C k (bodyOf Tryd.f25) [.r, .l, .r, .b] [] j2 (retK f25C Tryd.f25.results f25o) s) a0 a1 a2 a3))
set_option maxRecDepth 100000 in
theorem f25_ok (k : Nat)   : SigOK Tryd.prog 25 ⟨f25i, f25o, mkFun f25i.tys f25o.tys (f25 k )⟩ :=
  fn_ok (C := f25C) (l := f25E ) rfl trivial (by kernel_rfl) k (fn := Tryd.f25) (by kernel_rfl) (by kernel_rfl) (by kernel_rfl) f25i f25o rfl rfl (show 0 ≤ 48 by decide) (show 0 ≤ 48 by decide)
noncomputable def c25 (k : Nat) : ((List (Int)) × (Int)) → Option (Int) := f25 k 
theorem c25_ok (k : Nat) : SigOK Tryd.prog 25 ⟨f25i, f25o, mkFun f25i.tys f25o.tys (c25 k)⟩ := f25_ok k  

/-! (*carrefour/lex.scanner).skip -/
def f18i : Sk := ⟨[.lf (.ptr 0 0)], [[.pv (.slice (.int .u8)), .pv (.int .i64)]], []⟩
def f18o : Sk := ⟨[], [[.pv (.slice (.int .u8)), .pv (.int .i64)]], []⟩
def f18_k0 : Sk := ⟨sparse 54 [(0, .lf (.ptr 0 0))], [[.pv (.slice (.int .u8)), .pv (.int .i64)]], []⟩
noncomputable def f18E (g24 : ((List (Int)) × (Int)) → Option ((Int) × (List (Int)) × (Int))) (g25 : ((List (Int)) × (Int)) → Option (Int)) : List (Nat × List Sig) := [(24, [⟨f24i, f24o, mkFun f24i.tys f24o.tys g24⟩]), (25, [⟨f25i, f25o, mkFun f25i.tys f25o.tys g25⟩])]
noncomputable def f18C (g24 : ((List (Int)) × (Int)) → Option ((Int) × (List (Int)) × (Int))) (g25 : ((List (Int)) × (Int)) → Option (Int)) : Cfg := { P := Tryd.prog, env := lookS (f18E g24 g25), n := 102, npB := 1, npO := 0, hint := fun i => look none [(0, some f18_k0)] i, pops := [] }
def f18_s (a0 : List (Int)) (a1 : Int) : St := { enc f18i 102 [⟨(.slice (.int .u8)), a0⟩, ⟨(.int .i64), a1⟩] with slots := encAs f18i.slots [⟨(.slice (.int .u8)), a0⟩, ⟨(.int .i64), a1⟩] ++ List.replicate 53 .dead }
def f18_s0 (a0 : List (Int)) (a1 : Int) : St := enc f18_k0 102 [⟨(.slice (.int .u8)), a0⟩, ⟨(.int .i64), a1⟩]
noncomputable def f18 (k : Nat) (g24 : ((List (Int)) × (Int)) → Option ((Int) × (List (Int)) × (Int))) (g25 : ((List (Int)) × (Int)) → Option (Int)) : ((List (Int)) × (Int)) → Option ((List (Int)) × (Int)) := fnOf (f18C g24 g25) k Tryd.f18 f18i f18o
noncomputable def f18_l0 (k : Nat) (g24 : ((List (Int)) × (Int)) → Option ((Int) × (List (Int)) × (Int))) (g25 : ((List (Int)) × (Int)) → Option (Int)) (j0 : Nat) (a0 : List (Int)) (a1 : Int) : Option ((List (Int)) × (Int)) := loopAt (f18C g24 g25) k (bodyOf Tryd.f18) [.b] [] j0 (retK (f18C g24 g25) Tryd.f18.results f18o) (f18_s0 a0 a1)
def f18_t (g24 : ((List (Int)) × (Int)) → Option ((Int) × (List (Int)) × (Int))) (g25 : ((List (Int)) × (Int)) → Option (Int)) (Jl0 : (List (Int)) → Int → Option ((List (Int)) × (Int))) (a0 : List (Int)) (a1 : Int) : Option ((List (Int)) × (Int)) :=
  Jl0 a0 a1
set_option maxRecDepth 100000 in
theorem f18_A (g24 : ((List (Int)) × (Int)) → Option ((Int) × (List (Int)) × (Int))) (g25 : ((List (Int)) × (Int)) → Option (Int)) (Jl0 : St → Option ((List (Int)) × (Int))) (a0 : List (Int)) (a1 : Int) : evAtJ (f18C g24 g25) [] [(0, Jl0)] (bodyOf Tryd.f18) [] (retK (f18C g24 g25) Tryd.f18.results f18o) (f18_s a0 a1) = f18_t g24 g25 (fun a0 a1 => Jl0 (f18_s0 a0 a1)) a0 a1 := by
  kernel_rfl
set_option maxRecDepth 100000 in
theorem f18_e (k : Nat) (g24 : ((List (Int)) × (Int)) → Option ((Int) × (List (Int)) × (Int))) (g25 : ((List (Int)) × (Int)) → Option (Int))  (a0 : List (Int)) (a1 : Int) : f18 k g24 g25 (a0, a1) = f18_t g24 g25 (f18_l0 k g24 g25  k) a0 a1 := by
  have h0 : f18 k g24 g25 (a0, a1) = evAt (f18C g24 g25) k (bodyOf Tryd.f18) [] [] (retK (f18C g24 g25) Tryd.f18.results f18o) (f18_s a0 a1) := by kernel_rfl
  have h1 : keep [] (jt (f18C g24 g25) k (bodyOf Tryd.f18) [] [] (retK (f18C g24 g25) Tryd.f18.results f18o)) = [] := by kernel_rfl
  have h2 : keep [0] (lt (f18C g24 g25) k (bodyOf Tryd.f18) [] [] (retK (f18C g24 g25) Tryd.f18.results f18o)) = [(0, (fun s => loopAt (f18C g24 g25) k (bodyOf Tryd.f18) [.b] [] k (retK (f18C g24 g25) Tryd.f18.results f18o) s))] := by kernel_rfl
  exact h0.trans ((evAt_cut _ [] [0] (by kernel_rfl) h1 h2 (by kernel_rfl) (by kernel_rfl) (by kernel_rfl)).trans (f18_A g24 g25 (fun s => loopAt (f18C g24 g25) k (bodyOf Tryd.f18) [.b] [] k (retK (f18C g24 g25) Tryd.f18.results f18o) s) a0 a1))
def f18_tl0 (g24 : ((List (Int)) × (Int)) → Option ((Int) × (List (Int)) × (Int))) (g25 : ((List (Int)) × (Int)) → Option (Int)) (Jl0 : (List (Int)) → Int → Option ((List (Int)) × (Int))) (a0 : List (Int)) (a1 : Int) : Option ((List (Int)) × (Int)) :=
  bif (decide (a1 < ((List.length a0 : Nat) : Int))) then ((g24 (a0, a1)).bind fun o1 => bif (o1.1 == (2 : Int)) then (bif (cutB o1.2.2 (((List.length o1.2.1) : Nat) : Int) (List.length o1.2.1)) then (g25 ((cutL o1.2.1 o1.2.2 (((List.length o1.2.1) : Nat) : Int)), (10 : Int))).bind fun o2 => bif (decide (o2 ≥ (0 : Int))) then (Jl0 (o1.2.1) (IntKind.wrap .i64 (o1.2.2 + o2))) else (Jl0 (o1.2.1) ((List.length o1.2.1 : Nat) : Int)) else none) else (bif (o1.1 == (1 : Int)) then (Jl0 (o1.2.1) (IntKind.wrap .i64 (o1.2.2 + (1 : Int)))) else (some (o1.2.1, o1.2.2)))) else (some (a0, a1))
set_option maxRecDepth 100000 in
theorem f18_Al0 (g24 : ((List (Int)) × (Int)) → Option ((Int) × (List (Int)) × (Int))) (g25 : ((List (Int)) × (Int)) → Option (Int)) (Jl0 : St → Option ((List (Int)) × (Int))) (a0 : List (Int)) (a1 : Int) : evAtJ (f18C g24 g25) [] [(0, Jl0)] (bodyOf Tryd.f18) [.b, .b] (retK (f18C g24 g25) Tryd.f18.results f18o) (f18_s0 a0 a1) = f18_tl0 g24 g25 (fun a0 a1 => Jl0 (f18_s0 a0 a1)) a0 a1 := by
  kernel_rfl
set_option maxRecDepth 100000 in
theorem f18_el0 (k : Nat) (g24 : ((List (Int)) × (Int)) → Option ((Int) × (List (Int)) × (Int))) (g25 : ((List (Int)) × (Int)) → Option (Int)) (j0 : Nat) (a0 : List (Int)) (a1 : Int) : f18_l0 k g24 g25 (j0 + 1) a0 a1 = f18_tl0 g24 g25 (f18_l0 k g24 g25  j0) a0 a1 := by
  have h0 : f18_l0 k g24 g25 (j0 + 1) a0 a1 = evAt (f18C g24 g25) k (bodyOf Tryd.f18) [.b, .b] [j0] (retK (f18C g24 g25) Tryd.f18.results f18o) (f18_s0 a0 a1) := by kernel_rfl
  have h1 : keep [] (jt (f18C g24 g25) k (bodyOf Tryd.f18) [.b, .b] [j0] (retK (f18C g24 g25) Tryd.f18.results f18o)) = [] := by kernel_rfl
  have h2 : keep [0] (lt (f18C g24 g25) k (bodyOf Tryd.f18) [.b, .b] [j0] (retK (f18C g24 g25) Tryd.f18.results f18o)) = [(0, (fun s => loopAt (f18C g24 g25) k (bodyOf Tryd.f18) [.b] [] j0 (retK (f18C g24 g25) Tryd.f18.results f18o) s))] := by kernel_rfl
  exact h0.trans ((evAt_cut _ [] [0] (by kernel_rfl) h1 h2 (by kernel_rfl) (by kernel_rfl) (by kernel_rfl)).trans (f18_Al0 g24 g25 (fun s => loopAt (f18C g24 g25) k (bodyOf Tryd.f18) [.b] [] j0 (retK (f18C g24 g25) Tryd.f18.results f18o) s) a0 a1))
set_option maxRecDepth 100000 in
theorem f18_ok (k : Nat) (g24 : ((List (Int)) × (Int)) → Option ((Int) × (List (Int)) × (Int))) (g25 : ((List (Int)) × (Int)) → Option (Int)) (hg24 : SigOK Tryd.prog 24 ⟨f24i, f24o, mkFun f24i.tys f24o.tys g24⟩) (hg25 : SigOK Tryd.prog 25 ⟨f25i, f25o, mkFun f25i.tys f25o.tys g25⟩) : SigOK Tryd.prog 18 ⟨f18i, f18o, mkFun f18i.tys f18o.tys (f18 k g24 g25)⟩ :=
  fn_ok (C := (f18C g24 g25)) (l := f18E g24 g25) rfl ⟨⟨hg24, trivial⟩, ⟨hg25, trivial⟩, trivial⟩ (by kernel_rfl) k (fn := Tryd.f18) (by kernel_rfl) (by kernel_rfl) (by kernel_rfl) f18i f18o rfl rfl (show 1 ≤ 48 by decide) (show 0 ≤ 48 by decide)
noncomputable def c18 (k : Nat) : ((List (Int)) × (Int)) → Option ((List (Int)) × (Int)) := f18 k (c24 k) (c25 k)
theorem c18_ok (k : Nat) : SigOK Tryd.prog 18 ⟨f18i, f18o, mkFun f18i.tys f18o.tys (c18 k)⟩ := f18_ok k (c24 k) (c25 k) (c24_ok k) (c25_ok k)

/-! (*carrefour/lex.scanner).kind -/
def f24ai : Sk := ⟨[.lf (.rpt [(.slice (.int .u8)), (.int .i64)])], [], []⟩
def f24ao : Sk := ⟨[.lf (.pv (.int .i64))], [], []⟩
noncomputable def f24aE (g33 : (Int) → Option (Int)) : List (Nat × List Sig) := [(33, [⟨f33i, f33o, mkFun f33i.tys f33o.tys g33⟩])]
noncomputable def f24aC (g33 : (Int) → Option (Int)) : Cfg := { P := Tryd.prog, env := lookS (f24aE g33), n := 62, npB := 0, npO := 0, hint := fun i => look none [] i, pops := [] }
def f24a_s (a0 : List (Int)) (a1 : Int) : St := { enc f24ai 62 [⟨(.slice (.int .u8)), a0⟩, ⟨(.int .i64), a1⟩] with slots := encAs f24ai.slots [⟨(.slice (.int .u8)), a0⟩, ⟨(.int .i64), a1⟩] ++ List.replicate 13 .dead }
noncomputable def f24a (k : Nat) (g33 : (Int) → Option (Int)) : ((List (Int)) × (Int)) → Option (Int) := fnOf (f24aC g33) k Tryd.f24 f24ai f24ao
def f24a_t (g33 : (Int) → Option (Int))  (a0 : List (Int)) (a1 : Int) : Option (Int) :=
  bif (inB a1 (List.length a0)) then (g33 ((rdI a0 (Int.toNat a1)))).bind fun o1 => some o1 else none
set_option maxRecDepth 100000 in
theorem f24a_A (g33 : (Int) → Option (Int))  (a0 : List (Int)) (a1 : Int) : evAtJ (f24aC g33) [] [] (bodyOf Tryd.f24) [] (retK (f24aC g33) Tryd.f24.results f24ao) (f24a_s a0 a1) = f24a_t g33  a0 a1 := by
  kernel_rfl
set_option maxRecDepth 100000 in
theorem f24a_e (k : Nat) (g33 : (Int) → Option (Int))  (a0 : List (Int)) (a1 : Int) : f24a k g33 (a0, a1) = f24a_t g33  a0 a1 := by
  have h0 : f24a k g33 (a0, a1) = evAt (f24aC g33) k (bodyOf Tryd.f24) [] [] (retK (f24aC g33) Tryd.f24.results f24ao) (f24a_s a0 a1) := by kernel_rfl
  have h1 : keep [] (jt (f24aC g33) k (bodyOf Tryd.f24) [] [] (retK (f24aC g33) Tryd.f24.results f24ao)) = [] := by kernel_rfl
  have h2 : keep [] (lt (f24aC g33) k (bodyOf Tryd.f24) [] [] (retK (f24aC g33) Tryd.f24.results f24ao)) = [] := by kernel_rfl
  exact h0.trans ((evAt_cut _ [] [] (by kernel_rfl) h1 h2 (by kernel_rfl) (by kernel_rfl) (by kernel_rfl)).trans (f24a_A g33  a0 a1))
set_option maxRecDepth 100000 in
theorem f24a_ok (k : Nat) (g33 : (Int) → Option (Int)) (hg33 : SigOK Tryd.prog 33 ⟨f33i, f33o, mkFun f33i.tys f33o.tys g33⟩) : SigOK Tryd.prog 24 ⟨f24ai, f24ao, mkFun f24ai.tys f24ao.tys (f24a k g33)⟩ :=
  fn_ok (C := (f24aC g33)) (l := f24aE g33) rfl ⟨⟨hg33, trivial⟩, trivial⟩ (by kernel_rfl) k (fn := Tryd.f24) (by kernel_rfl) (by kernel_rfl) (by kernel_rfl) f24ai f24ao rfl rfl (show 0 ≤ 48 by decide) (show 0 ≤ 48 by decide)
noncomputable def c24a (k : Nat) : ((List (Int)) × (Int)) → Option (Int) := f24a k (c33 k)
theorem c24a_ok (k : Nat) : SigOK Tryd.prog 24 ⟨f24ai, f24ao, mkFun f24ai.tys f24ao.tys (c24a k)⟩ := f24a_ok k (c33 k) (c33_ok k)

/-! (*carrefour/lex.scanner).word$1 -/
def f35i : Sk := ⟨[.lf (.pv (.int .i64))], [], []⟩
def f35o : Sk := ⟨[.lf (.pv .bool)], [], []⟩
noncomputable def f35E  : List (Nat × List Sig) := []
noncomputable def f35C  : Cfg := { P := Tryd.prog, env := lookS (f35E ), n := 61, npB := 0, npO := 0, hint := fun i => look none [] i, pops := [] }
def f35_s (a0 : Int) : St := { enc f35i 61 [⟨(.int .i64), a0⟩] with slots := encAs f35i.slots [⟨(.int .i64), a0⟩] ++ List.replicate 12 .dead }
noncomputable def f35 (k : Nat)  : (Int) → Option (Bool) := fnOf f35C k Tryd.f35 f35i f35o
def f35_t   (a0 : Int) : Option (Bool) :=
  bif (a0 == (3 : Int)) then (some true) else (bif (a0 == (4 : Int)) then (some true) else (some (a0 == (6 : Int))))
set_option maxRecDepth 100000 in
theorem f35_A   (a0 : Int) : evAtJ f35C [] [] (bodyOf Tryd.f35) [] (retK f35C Tryd.f35.results f35o) (f35_s a0) = f35_t   a0 := by
  kernel_rfl
set_option maxRecDepth 100000 in
theorem f35_e (k : Nat)   (a0 : Int) : f35 k  (a0) = f35_t   a0 := by
  have h0 : f35 k  (a0) = evAt f35C k (bodyOf Tryd.f35) [] [] (retK f35C Tryd.f35.results f35o) (f35_s a0) := by kernel_rfl
  have h1 : keep [] (jt f35C k (bodyOf Tryd.f35) [] [] (retK f35C Tryd.f35.results f35o)) = [] := by kernel_rfl
  have h2 : keep [] (lt f35C k (bodyOf Tryd.f35) [] [] (retK f35C Tryd.f35.results f35o)) = [] := by kernel_rfl
  exact h0.trans ((evAt_cut _ [] [] (by kernel_rfl) h1 h2 (by kernel_rfl) (by kernel_rfl) (by kernel_rfl)).trans (f35_A   a0))
set_option maxRecDepth 100000 in
theorem f35_ok (k : Nat)   : SigOK Tryd.prog 35 ⟨f35i, f35o, mkFun f35i.tys f35o.tys (f35 k )⟩ :=
  fn_ok (C := f35C) (l := f35E ) rfl trivial (by kernel_rfl) k (fn := Tryd.f35) (by kernel_rfl) (by kernel_rfl) (by kernel_rfl) f35i f35o rfl rfl (show 0 ≤ 48 by decide) (show 0 ≤ 48 by decide)
noncomputable def c35 (k : Nat) : (Int) → Option (Bool) := f35 k 
theorem c35_ok (k : Nat) : SigOK Tryd.prog 35 ⟨f35i, f35o, mkFun f35i.tys f35o.tys (c35 k)⟩ := f35_ok k  

/-! (*carrefour/lex.scanner).pass -/
def f34i : Sk := ⟨[.lf (.ptr 0 0), .lf (.fn 35 [] [])], [[.pv (.slice (.int .u8)), .pv (.int .i64)]], []⟩
def f34o : Sk := ⟨[.lf (.pv .str)], [[.pv (.slice (.int .u8)), .pv (.int .i64)]], []⟩
def f34_k2 : Sk := ⟨sparse 44 [(0, .lf (.ptr 0 0)), (1, .lf (.fn 35 [] [])), (5, .lf (.pv (.int .i64)))], [[.pv (.slice (.int .u8)), .pv (.int .i64)]], []⟩
noncomputable def f34E (g24a : ((List (Int)) × (Int)) → Option (Int)) (g35 : (Int) → Option (Bool)) : List (Nat × List Sig) := [(24, [⟨f24ai, f24ao, mkFun f24ai.tys f24ao.tys g24a⟩]), (35, [⟨f35i, f35o, mkFun f35i.tys f35o.tys g35⟩])]
noncomputable def f34C (g24a : ((List (Int)) × (Int)) → Option (Int)) (g35 : (Int) → Option (Bool)) : Cfg := { P := Tryd.prog, env := lookS (f34E g24a g35), n := 92, npB := 1, npO := 0, hint := fun i => look none [(2, some f34_k2)] i, pops := [] }
def f34_s (a0 : List (Int)) (a1 : Int) : St := { enc f34i 92 [⟨(.slice (.int .u8)), a0⟩, ⟨(.int .i64), a1⟩] with slots := encAs f34i.slots [⟨(.slice (.int .u8)), a0⟩, ⟨(.int .i64), a1⟩] ++ List.replicate 42 .dead }
def f34_s2 (a0 : Int) (a1 : List (Int)) (a2 : Int) : St := enc f34_k2 92 [⟨(.int .i64), a0⟩, ⟨(.slice (.int .u8)), a1⟩, ⟨(.int .i64), a2⟩]
noncomputable def f34 (k : Nat) (g24a : ((List (Int)) × (Int)) → Option (Int)) (g35 : (Int) → Option (Bool)) : ((List (Int)) × (Int)) → Option ((List Int) × (List (Int)) × (Int)) := fnOf (f34C g24a g35) k Tryd.f34 f34i f34o
noncomputable def f34_l2 (k : Nat) (g24a : ((List (Int)) × (Int)) → Option (Int)) (g35 : (Int) → Option (Bool)) (j2 : Nat) (a0 : Int) (a1 : List (Int)) (a2 : Int) : Option ((List Int) × (List (Int)) × (Int)) := loopAt (f34C g24a g35) k (bodyOf Tryd.f34) [.r, .r, .l, .b] [] j2 (retK (f34C g24a g35) Tryd.f34.results f34o) (f34_s2 a0 a1 a2)
def f34_t (g24a : ((List (Int)) × (Int)) → Option (Int)) (g35 : (Int) → Option (Bool)) (Jl2 : Int → (List (Int)) → Int → Option ((List Int) × (List (Int)) × (Int))) (a0 : List (Int)) (a1 : Int) : Option ((List Int) × (List (Int)) × (Int)) :=
  Jl2 a1 a0 a1
set_option maxRecDepth 100000 in
theorem f34_A (g24a : ((List (Int)) × (Int)) → Option (Int)) (g35 : (Int) → Option (Bool)) (Jl2 : St → Option ((List Int) × (List (Int)) × (Int))) (a0 : List (Int)) (a1 : Int) : evAtJ (f34C g24a g35) [] [(2, Jl2)] (bodyOf Tryd.f34) [] (retK (f34C g24a g35) Tryd.f34.results f34o) (f34_s a0 a1) = f34_t g24a g35 (fun a0 a1 a2 => Jl2 (f34_s2 a0 a1 a2)) a0 a1 := by
  kernel_rfl
set_option maxRecDepth 100000 in
theorem f34_e (k : Nat) (g24a : ((List (Int)) × (Int)) → Option (Int)) (g35 : (Int) → Option (Bool))  (a0 : List (Int)) (a1 : Int) : f34 k g24a g35 (a0, a1) = f34_t g24a g35 (f34_l2 k g24a g35  k) a0 a1 := by
  have h0 : f34 k g24a g35 (a0, a1) = evAt (f34C g24a g35) k (bodyOf Tryd.f34) [] [] (retK (f34C g24a g35) Tryd.f34.results f34o) (f34_s a0 a1) := by kernel_rfl
  have h1 : keep [] (jt (f34C g24a g35) k (bodyOf Tryd.f34) [] [] (retK (f34C g24a g35) Tryd.f34.results f34o)) = [] := by kernel_rfl
  have h2 : keep [2] (lt (f34C g24a g35) k (bodyOf Tryd.f34) [] [] (retK (f34C g24a g35) Tryd.f34.results f34o)) = [(2, (fun s => loopAt (f34C g24a g35) k (bodyOf Tryd.f34) [.r, .r, .l, .b] [] k (retK (f34C g24a g35) Tryd.f34.results f34o) s))] := by kernel_rfl
  exact h0.trans ((evAt_cut _ [] [2] (by kernel_rfl) h1 h2 (by kernel_rfl) (by kernel_rfl) (by kernel_rfl)).trans (f34_A g24a g35 (fun s => loopAt (f34C g24a g35) k (bodyOf Tryd.f34) [.r, .r, .l, .b] [] k (retK (f34C g24a g35) Tryd.f34.results f34o) s) a0 a1))
def f34_tl2 (g24a : ((List (Int)) × (Int)) → Option (Int)) (g35 : (Int) → Option (Bool)) (Jl2 : Int → (List (Int)) → Int → Option ((List Int) × (List (Int)) × (Int))) (a0 : Int) (a1 : List (Int)) (a2 : Int) : Option ((List Int) × (List (Int)) × (Int)) :=
  bif (decide (a2 < ((List.length a1 : Nat) : Int))) then ((g24a (a1, a2)).bind fun o1 => (g35 (o1)).bind fun o2 => bif o2 then (Jl2 a0 a1 (IntKind.wrap .i64 (a2 + (1 : Int)))) else (bif (cutB a0 a2 (List.length a1)) then some ((cutL a1 a0 a2), a1, a2) else none)) else (bif (cutB a0 a2 (List.length a1)) then some ((cutL a1 a0 a2), a1, a2) else none)
set_option maxRecDepth 100000 in
theorem f34_Al2 (g24a : ((List (Int)) × (Int)) → Option (Int)) (g35 : (Int) → Option (Bool)) (Jl2 : St → Option ((List Int) × (List (Int)) × (Int))) (a0 : Int) (a1 : List (Int)) (a2 : Int) : evAtJ (f34C g24a g35) [] [(2, Jl2)] (bodyOf Tryd.f34) [.r, .r, .l, .b, .b] (retK (f34C g24a g35) Tryd.f34.results f34o) (f34_s2 a0 a1 a2) = f34_tl2 g24a g35 (fun a0 a1 a2 => Jl2 (f34_s2 a0 a1 a2)) a0 a1 a2 := by
  kernel_rfl
set_option maxRecDepth 100000 in
theorem f34_el2 (k : Nat) (g24a : ((List (Int)) × (Int)) → Option (Int)) (g35 : (Int) → Option (Bool)) (j2 : Nat) (a0 : Int) (a1 : List (Int)) (a2 : Int) : f34_l2 k g24a g35 (j2 + 1) a0 a1 a2 = f34_tl2 g24a g35 (f34_l2 k g24a g35  j2) a0 a1 a2 := by
  have h0 : f34_l2 k g24a g35 (j2 + 1) a0 a1 a2 = evAt (f34C g24a g35) k (bodyOf Tryd.f34) [.r, .r, .l, .b, .b] [j2] (retK (f34C g24a g35) Tryd.f34.results f34o) (f34_s2 a0 a1 a2) := by kernel_rfl
  have h1 : keep [] (jt (f34C g24a g35) k (bodyOf Tryd.f34) [.r, .r, .l, .b, .b] [j2] (retK (f34C g24a g35) Tryd.f34.results f34o)) = [] := by kernel_rfl
  have h2 : keep [2] (lt (f34C g24a g35) k (bodyOf Tryd.f34) [.r, .r, .l, .b, .b] [j2] (retK (f34C g24a g35) Tryd.f34.results f34o)) = [(2, (fun s => loopAt (f34C g24a g35) k (bodyOf Tryd.f34) [.r, .r, .l, .b] [] j2 (retK (f34C g24a g35) Tryd.f34.results f34o) s))] := by kernel_rfl
  exact h0.trans ((evAt_cut _ [] [2] (by kernel_rfl) h1 h2 (by kernel_rfl) (by kernel_rfl) (by kernel_rfl)).trans (f34_Al2 g24a g35 (fun s => loopAt (f34C g24a g35) k (bodyOf Tryd.f34) [.r, .r, .l, .b] [] j2 (retK (f34C g24a g35) Tryd.f34.results f34o) s) a0 a1 a2))
set_option maxRecDepth 100000 in
theorem f34_ok (k : Nat) (g24a : ((List (Int)) × (Int)) → Option (Int)) (g35 : (Int) → Option (Bool)) (hg24a : SigOK Tryd.prog 24 ⟨f24ai, f24ao, mkFun f24ai.tys f24ao.tys g24a⟩) (hg35 : SigOK Tryd.prog 35 ⟨f35i, f35o, mkFun f35i.tys f35o.tys g35⟩) : SigOK Tryd.prog 34 ⟨f34i, f34o, mkFun f34i.tys f34o.tys (f34 k g24a g35)⟩ :=
  fn_ok (C := (f34C g24a g35)) (l := f34E g24a g35) rfl ⟨⟨hg24a, trivial⟩, ⟨hg35, trivial⟩, trivial⟩ (by kernel_rfl) k (fn := Tryd.f34) (by kernel_rfl) (by kernel_rfl) (by kernel_rfl) f34i f34o rfl rfl (show 1 ≤ 48 by decide) (show 0 ≤ 48 by decide)
noncomputable def c34 (k : Nat) : ((List (Int)) × (Int)) → Option ((List Int) × (List (Int)) × (Int)) := f34 k (c24a k) (c35 k)
theorem c34_ok (k : Nat) : SigOK Tryd.prog 34 ⟨f34i, f34o, mkFun f34i.tys f34o.tys (c34 k)⟩ := f34_ok k (c24a k) (c35 k) (c24a_ok k) (c35_ok k)

/-! (*carrefour/lex.scanner).word -/
def f26i : Sk := ⟨[.lf (.ptr 0 0)], [[.pv (.slice (.int .u8)), .pv (.int .i64)]], []⟩
def f26o : Sk := ⟨[.agg [.pv (.int .i64), .pv .str, .pv (.int .i64), .pv (.int .i64)], .lf (.pv (.int .i64))], [[.pv (.slice (.int .u8)), .pv (.int .i64)]], []⟩
noncomputable def f26E (g34 : ((List (Int)) × (Int)) → Option ((List Int) × (List (Int)) × (Int))) : List (Nat × List Sig) := [(34, [⟨f34i, f34o, mkFun f34i.tys f34o.tys g34⟩])]
noncomputable def f26C (g34 : ((List (Int)) × (Int)) → Option ((List Int) × (List (Int)) × (Int))) : Cfg := { P := Tryd.prog, env := lookS (f26E g34), n := 61, npB := 1, npO := 0, hint := fun i => look none [] i, pops := [] }
def f26_s (a0 : List (Int)) (a1 : Int) : St := { enc f26i 61 [⟨(.slice (.int .u8)), a0⟩, ⟨(.int .i64), a1⟩] with slots := encAs f26i.slots [⟨(.slice (.int .u8)), a0⟩, ⟨(.int .i64), a1⟩] ++ List.replicate 12 .dead }
noncomputable def f26 (k : Nat) (g34 : ((List (Int)) × (Int)) → Option ((List Int) × (List (Int)) × (Int))) : ((List (Int)) × (Int)) → Option ((Int) × (List Int) × (Int) × (Int) × (Int) × (List (Int)) × (Int)) := fnOf (f26C g34) k Tryd.f26 f26i f26o
def f26_t (g34 : ((List (Int)) × (Int)) → Option ((List Int) × (List (Int)) × (Int)))  (a0 : List (Int)) (a1 : Int) : Option ((Int) × (List Int) × (Int) × (Int) × (Int) × (List (Int)) × (Int)) :=
  (g34 (a0, a1)).bind fun o1 => bif (decide (((List.length o1.1 : Nat) : Int) > (24 : Int))) then (some ((0 : Int), ([] : List Int), (0 : Int), (0 : Int), (4 : Int), o1.2.1, o1.2.2)) else (some ((1 : Int), o1.1, (0 : Int), (0 : Int), (0 : Int), o1.2.1, o1.2.2))
set_option maxRecDepth 100000 in
theorem f26_A (g34 : ((List (Int)) × (Int)) → Option ((List Int) × (List (Int)) × (Int)))  (a0 : List (Int)) (a1 : Int) : evAtJ (f26C g34) [] [] (bodyOf Tryd.f26) [] (retK (f26C g34) Tryd.f26.results f26o) (f26_s a0 a1) = f26_t g34  a0 a1 := by
  kernel_rfl
set_option maxRecDepth 100000 in
theorem f26_e (k : Nat) (g34 : ((List (Int)) × (Int)) → Option ((List Int) × (List (Int)) × (Int)))  (a0 : List (Int)) (a1 : Int) : f26 k g34 (a0, a1) = f26_t g34  a0 a1 := by
  have h0 : f26 k g34 (a0, a1) = evAt (f26C g34) k (bodyOf Tryd.f26) [] [] (retK (f26C g34) Tryd.f26.results f26o) (f26_s a0 a1) := by kernel_rfl
  have h1 : keep [] (jt (f26C g34) k (bodyOf Tryd.f26) [] [] (retK (f26C g34) Tryd.f26.results f26o)) = [] := by kernel_rfl
  have h2 : keep [] (lt (f26C g34) k (bodyOf Tryd.f26) [] [] (retK (f26C g34) Tryd.f26.results f26o)) = [] := by kernel_rfl
  exact h0.trans ((evAt_cut _ [] [] (by kernel_rfl) h1 h2 (by kernel_rfl) (by kernel_rfl) (by kernel_rfl)).trans (f26_A g34  a0 a1))
set_option maxRecDepth 100000 in
theorem f26_ok (k : Nat) (g34 : ((List (Int)) × (Int)) → Option ((List Int) × (List (Int)) × (Int))) (hg34 : SigOK Tryd.prog 34 ⟨f34i, f34o, mkFun f34i.tys f34o.tys g34⟩) : SigOK Tryd.prog 26 ⟨f26i, f26o, mkFun f26i.tys f26o.tys (f26 k g34)⟩ :=
  fn_ok (C := (f26C g34)) (l := f26E g34) rfl ⟨⟨hg34, trivial⟩, trivial⟩ (by kernel_rfl) k (fn := Tryd.f26) (by kernel_rfl) (by kernel_rfl) (by kernel_rfl) f26i f26o rfl rfl (show 1 ≤ 48 by decide) (show 0 ≤ 48 by decide)
noncomputable def c26 (k : Nat) : ((List (Int)) × (Int)) → Option ((Int) × (List Int) × (Int) × (Int) × (Int) × (List (Int)) × (Int)) := f26 k (c34 k)
theorem c26_ok (k : Nat) : SigOK Tryd.prog 26 ⟨f26i, f26o, mkFun f26i.tys f26o.tys (c26 k)⟩ := f26_ok k (c34 k) (c34_ok k)

/-! (*carrefour/lex.scanner).number$1 -/
def f36i : Sk := ⟨[.lf (.pv (.int .i64))], [], []⟩
def f36o : Sk := ⟨[.lf (.pv .bool)], [], []⟩
noncomputable def f36E  : List (Nat × List Sig) := []
noncomputable def f36C  : Cfg := { P := Tryd.prog, env := lookS (f36E ), n := 53, npB := 0, npO := 0, hint := fun i => look none [] i, pops := [] }
def f36_s (a0 : Int) : St := { enc f36i 53 [⟨(.int .i64), a0⟩] with slots := encAs f36i.slots [⟨(.int .i64), a0⟩] ++ List.replicate 4 .dead }
noncomputable def f36 (k : Nat)  : (Int) → Option (Bool) := fnOf f36C k Tryd.f36 f36i f36o
def f36_t   (a0 : Int) : Option (Bool) :=
  some (a0 == (4 : Int))
set_option maxRecDepth 100000 in
theorem f36_A   (a0 : Int) : evAtJ f36C [] [] (bodyOf Tryd.f36) [] (retK f36C Tryd.f36.results f36o) (f36_s a0) = f36_t   a0 := by
  kernel_rfl
set_option maxRecDepth 100000 in
theorem f36_e (k : Nat)   (a0 : Int) : f36 k  (a0) = f36_t   a0 := by
  have h0 : f36 k  (a0) = evAt f36C k (bodyOf Tryd.f36) [] [] (retK f36C Tryd.f36.results f36o) (f36_s a0) := by kernel_rfl
  have h1 : keep [] (jt f36C k (bodyOf Tryd.f36) [] [] (retK f36C Tryd.f36.results f36o)) = [] := by kernel_rfl
  have h2 : keep [] (lt f36C k (bodyOf Tryd.f36) [] [] (retK f36C Tryd.f36.results f36o)) = [] := by kernel_rfl
  exact h0.trans ((evAt_cut _ [] [] (by kernel_rfl) h1 h2 (by kernel_rfl) (by kernel_rfl) (by kernel_rfl)).trans (f36_A   a0))
set_option maxRecDepth 100000 in
theorem f36_ok (k : Nat)   : SigOK Tryd.prog 36 ⟨f36i, f36o, mkFun f36i.tys f36o.tys (f36 k )⟩ :=
  fn_ok (C := f36C) (l := f36E ) rfl trivial (by kernel_rfl) k (fn := Tryd.f36) (by kernel_rfl) (by kernel_rfl) (by kernel_rfl) f36i f36o rfl rfl (show 0 ≤ 48 by decide) (show 0 ≤ 48 by decide)
noncomputable def c36 (k : Nat) : (Int) → Option (Bool) := f36 k 
theorem c36_ok (k : Nat) : SigOK Tryd.prog 36 ⟨f36i, f36o, mkFun f36i.tys f36o.tys (c36 k)⟩ := f36_ok k  

/-! (*carrefour/lex.scanner).pass -/
def f34ai : Sk := ⟨[.lf (.ptr 0 0), .lf (.fn 36 [] [])], [[.pv (.slice (.int .u8)), .pv (.int .i64)]], []⟩
def f34ao : Sk := ⟨[.lf (.pv .str)], [[.pv (.slice (.int .u8)), .pv (.int .i64)]], []⟩
def f34a_k2 : Sk := ⟨sparse 44 [(0, .lf (.ptr 0 0)), (1, .lf (.fn 36 [] [])), (5, .lf (.pv (.int .i64)))], [[.pv (.slice (.int .u8)), .pv (.int .i64)]], []⟩
noncomputable def f34aE (g24a : ((List (Int)) × (Int)) → Option (Int)) (g36 : (Int) → Option (Bool)) : List (Nat × List Sig) := [(24, [⟨f24ai, f24ao, mkFun f24ai.tys f24ao.tys g24a⟩]), (36, [⟨f36i, f36o, mkFun f36i.tys f36o.tys g36⟩])]
noncomputable def f34aC (g24a : ((List (Int)) × (Int)) → Option (Int)) (g36 : (Int) → Option (Bool)) : Cfg := { P := Tryd.prog, env := lookS (f34aE g24a g36), n := 92, npB := 1, npO := 0, hint := fun i => look none [(2, some f34a_k2)] i, pops := [] }
def f34a_s (a0 : List (Int)) (a1 : Int) : St := { enc f34ai 92 [⟨(.slice (.int .u8)), a0⟩, ⟨(.int .i64), a1⟩] with slots := encAs f34ai.slots [⟨(.slice (.int .u8)), a0⟩, ⟨(.int .i64), a1⟩] ++ List.replicate 42 .dead }
def f34a_s2 (a0 : Int) (a1 : List (Int)) (a2 : Int) : St := enc f34a_k2 92 [⟨(.int .i64), a0⟩, ⟨(.slice (.int .u8)), a1⟩, ⟨(.int .i64), a2⟩]
noncomputable def f34a (k : Nat) (g24a : ((List (Int)) × (Int)) → Option (Int)) (g36 : (Int) → Option (Bool)) : ((List (Int)) × (Int)) → Option ((List Int) × (List (Int)) × (Int)) := fnOf (f34aC g24a g36) k Tryd.f34 f34ai f34ao
noncomputable def f34a_l2 (k : Nat) (g24a : ((List (Int)) × (Int)) → Option (Int)) (g36 : (Int) → Option (Bool)) (j2 : Nat) (a0 : Int) (a1 : List (Int)) (a2 : Int) : Option ((List Int) × (List (Int)) × (Int)) := loopAt (f34aC g24a g36) k (bodyOf Tryd.f34) [.r, .r, .l, .b] [] j2 (retK (f34aC g24a g36) Tryd.f34.results f34ao) (f34a_s2 a0 a1 a2)
def f34a_t (g24a : ((List (Int)) × (Int)) → Option (Int)) (g36 : (Int) → Option (Bool)) (Jl2 : Int → (List (Int)) → Int → Option ((List Int) × (List (Int)) × (Int))) (a0 : List (Int)) (a1 : Int) : Option ((List Int) × (List (Int)) × (Int)) :=
  Jl2 a1 a0 a1
set_option maxRecDepth 100000 in
theorem f34a_A (g24a : ((List (Int)) × (Int)) → Option (Int)) (g36 : (Int) → Option (Bool)) (Jl2 : St → Option ((List Int) × (List (Int)) × (Int))) (a0 : List (Int)) (a1 : Int) : evAtJ (f34aC g24a g36) [] [(2, Jl2)] (bodyOf Tryd.f34) [] (retK (f34aC g24a g36) Tryd.f34.results f34ao) (f34a_s a0 a1) = f34a_t g24a g36 (fun a0 a1 a2 => Jl2 (f34a_s2 a0 a1 a2)) a0 a1 := by
  kernel_rfl
set_option maxRecDepth 100000 in
theorem f34a_e (k : Nat) (g24a : ((List (Int)) × (Int)) → Option (Int)) (g36 : (Int) → Option (Bool))  (a0 : List (Int)) (a1 : Int) : f34a k g24a g36 (a0, a1) = f34a_t g24a g36 (f34a_l2 k g24a g36  k) a0 a1 := by
  have h0 : f34a k g24a g36 (a0, a1) = evAt (f34aC g24a g36) k (bodyOf Tryd.f34) [] [] (retK (f34aC g24a g36) Tryd.f34.results f34ao) (f34a_s a0 a1) := by kernel_rfl
  have h1 : keep [] (jt (f34aC g24a g36) k (bodyOf Tryd.f34) [] [] (retK (f34aC g24a g36) Tryd.f34.results f34ao)) = [] := by kernel_rfl
  have h2 : keep [2] (lt (f34aC g24a g36) k (bodyOf Tryd.f34) [] [] (retK (f34aC g24a g36) Tryd.f34.results f34ao)) = [(2, (fun s => loopAt (f34aC g24a g36) k (bodyOf Tryd.f34) [.r, .r, .l, .b] [] k (retK (f34aC g24a g36) Tryd.f34.results f34ao) s))] := by kernel_rfl
  exact h0.trans ((evAt_cut _ [] [2] (by kernel_rfl) h1 h2 (by kernel_rfl) (by kernel_rfl) (by kernel_rfl)).trans (f34a_A g24a g36 (fun s => loopAt (f34aC g24a g36) k (bodyOf Tryd.f34) [.r, .r, .l, .b] [] k (retK (f34aC g24a g36) Tryd.f34.results f34ao) s) a0 a1))
def f34a_tl2 (g24a : ((List (Int)) × (Int)) → Option (Int)) (g36 : (Int) → Option (Bool)) (Jl2 : Int → (List (Int)) → Int → Option ((List Int) × (List (Int)) × (Int))) (a0 : Int) (a1 : List (Int)) (a2 : Int) : Option ((List Int) × (List (Int)) × (Int)) :=
  bif (decide (a2 < ((List.length a1 : Nat) : Int))) then ((g24a (a1, a2)).bind fun o1 => (g36 (o1)).bind fun o2 => bif o2 then (Jl2 a0 a1 (IntKind.wrap .i64 (a2 + (1 : Int)))) else (bif (cutB a0 a2 (List.length a1)) then some ((cutL a1 a0 a2), a1, a2) else none)) else (bif (cutB a0 a2 (List.length a1)) then some ((cutL a1 a0 a2), a1, a2) else none)
set_option maxRecDepth 100000 in
theorem f34a_Al2 (g24a : ((List (Int)) × (Int)) → Option (Int)) (g36 : (Int) → Option (Bool)) (Jl2 : St → Option ((List Int) × (List (Int)) × (Int))) (a0 : Int) (a1 : List (Int)) (a2 : Int) : evAtJ (f34aC g24a g36) [] [(2, Jl2)] (bodyOf Tryd.f34) [.r, .r, .l, .b, .b] (retK (f34aC g24a g36) Tryd.f34.results f34ao) (f34a_s2 a0 a1 a2) = f34a_tl2 g24a g36 (fun a0 a1 a2 => Jl2 (f34a_s2 a0 a1 a2)) a0 a1 a2 := by
  kernel_rfl
set_option maxRecDepth 100000 in
theorem f34a_el2 (k : Nat) (g24a : ((List (Int)) × (Int)) → Option (Int)) (g36 : (Int) → Option (Bool)) (j2 : Nat) (a0 : Int) (a1 : List (Int)) (a2 : Int) : f34a_l2 k g24a g36 (j2 + 1) a0 a1 a2 = f34a_tl2 g24a g36 (f34a_l2 k g24a g36  j2) a0 a1 a2 := by
  have h0 : f34a_l2 k g24a g36 (j2 + 1) a0 a1 a2 = evAt (f34aC g24a g36) k (bodyOf Tryd.f34) [.r, .r, .l, .b, .b] [j2] (retK (f34aC g24a g36) Tryd.f34.results f34ao) (f34a_s2 a0 a1 a2) := by kernel_rfl
  have h1 : keep [] (jt (f34aC g24a g36) k (bodyOf Tryd.f34) [.r, .r, .l, .b, .b] [j2] (retK (f34aC g24a g36) Tryd.f34.results f34ao)) = [] := by kernel_rfl
  have h2 : keep [2] (lt (f34aC g24a g36) k (bodyOf Tryd.f34) [.r, .r, .l, .b, .b] [j2] (retK (f34aC g24a g36) Tryd.f34.results f34ao)) = [(2, (fun s => loopAt (f34aC g24a g36) k (bodyOf Tryd.f34) [.r, .r, .l, .b] [] j2 (retK (f34aC g24a g36) Tryd.f34.results f34ao) s))] := by kernel_rfl
  exact h0.trans ((evAt_cut _ [] [2] (by kernel_rfl) h1 h2 (by kernel_rfl) (by kernel_rfl) (by kernel_rfl)).trans (f34a_Al2 g24a g36 (fun s => loopAt (f34aC g24a g36) k (bodyOf Tryd.f34) [.r, .r, .l, .b] [] j2 (retK (f34aC g24a g36) Tryd.f34.results f34ao) s) a0 a1 a2))
set_option maxRecDepth 100000 in
theorem f34a_ok (k : Nat) (g24a : ((List (Int)) × (Int)) → Option (Int)) (g36 : (Int) → Option (Bool)) (hg24a : SigOK Tryd.prog 24 ⟨f24ai, f24ao, mkFun f24ai.tys f24ao.tys g24a⟩) (hg36 : SigOK Tryd.prog 36 ⟨f36i, f36o, mkFun f36i.tys f36o.tys g36⟩) : SigOK Tryd.prog 34 ⟨f34ai, f34ao, mkFun f34ai.tys f34ao.tys (f34a k g24a g36)⟩ :=
  fn_ok (C := (f34aC g24a g36)) (l := f34aE g24a g36) rfl ⟨⟨hg24a, trivial⟩, ⟨hg36, trivial⟩, trivial⟩ (by kernel_rfl) k (fn := Tryd.f34) (by kernel_rfl) (by kernel_rfl) (by kernel_rfl) f34ai f34ao rfl rfl (show 1 ≤ 48 by decide) (show 0 ≤ 48 by decide)
noncomputable def c34a (k : Nat) : ((List (Int)) × (Int)) → Option ((List Int) × (List (Int)) × (Int)) := f34a k (c24a k) (c36 k)
theorem c34a_ok (k : Nat) : SigOK Tryd.prog 34 ⟨f34ai, f34ao, mkFun f34ai.tys f34ao.tys (c34a k)⟩ := f34a_ok k (c24a k) (c36 k) (c24a_ok k) (c36_ok k)

/-! strconv.ParseInt: given -/
def f37i : Sk := ⟨[.lf (.pv .str), .lf (.pv (.int .i64)), .lf (.pv (.int .i64))], [], []⟩
def f37o : Sk := ⟨[.lf (.pv (.int .i64)), .lf (.err)], [], []⟩
def c37 (k : Nat) : ((List Int) × (Int) × (Int)) → Option ((Int) × (Bool)) := parseInt
theorem c37_ok (k : Nat) : SigOK Tryd.prog 37 ⟨f37i, f37o, mkFun f37i.tys f37o.tys (c37 k)⟩ := parseInt_ok

/-! (*carrefour/lex.scanner).number -/
def f27i : Sk := ⟨[.lf (.ptr 0 0)], [[.pv (.slice (.int .u8)), .pv (.int .i64)]], []⟩
def f27o : Sk := ⟨[.agg [.pv (.int .i64), .pv .str, .pv (.int .i64), .pv (.int .i64)], .lf (.pv (.int .i64))], [[.pv (.slice (.int .u8)), .pv (.int .i64)]], []⟩
noncomputable def f27E (g34a : ((List (Int)) × (Int)) → Option ((List Int) × (List (Int)) × (Int))) (g37 : ((List Int) × (Int) × (Int)) → Option ((Int) × (Bool))) : List (Nat × List Sig) := [(34, [⟨f34ai, f34ao, mkFun f34ai.tys f34ao.tys g34a⟩]), (37, [⟨f37i, f37o, mkFun f37i.tys f37o.tys g37⟩])]
noncomputable def f27C (g34a : ((List (Int)) × (Int)) → Option ((List Int) × (List (Int)) × (Int))) (g37 : ((List Int) × (Int) × (Int)) → Option ((Int) × (Bool))) : Cfg := { P := Tryd.prog, env := lookS (f27E g34a g37), n := 69, npB := 1, npO := 0, hint := fun i => look none [] i, pops := [] }
def f27_s (a0 : List (Int)) (a1 : Int) : St := { enc f27i 69 [⟨(.slice (.int .u8)), a0⟩, ⟨(.int .i64), a1⟩] with slots := encAs f27i.slots [⟨(.slice (.int .u8)), a0⟩, ⟨(.int .i64), a1⟩] ++ List.replicate 20 .dead }
noncomputable def f27 (k : Nat) (g34a : ((List (Int)) × (Int)) → Option ((List Int) × (List (Int)) × (Int))) (g37 : ((List Int) × (Int) × (Int)) → Option ((Int) × (Bool))) : ((List (Int)) × (Int)) → Option ((Int) × (List Int) × (Int) × (Int) × (Int) × (List (Int)) × (Int)) := fnOf (f27C g34a g37) k Tryd.f27 f27i f27o
def f27_t (g34a : ((List (Int)) × (Int)) → Option ((List Int) × (List (Int)) × (Int))) (g37 : ((List Int) × (Int) × (Int)) → Option ((Int) × (Bool)))  (a0 : List (Int)) (a1 : Int) : Option ((Int) × (List Int) × (Int) × (Int) × (Int) × (List (Int)) × (Int)) :=
  (g34a (a0, a1)).bind fun o1 => bif (decide (((List.length o1.1 : Nat) : Int) > (18 : Int))) then (some ((0 : Int), ([] : List Int), (0 : Int), (0 : Int), (4 : Int), o1.2.1, o1.2.2)) else ((g37 (o1.1, (10 : Int), (64 : Int))).bind fun o2 => some ((2 : Int), o1.1, o2.1, (0 : Int), (0 : Int), o1.2.1, o1.2.2))
set_option maxRecDepth 100000 in
theorem f27_A (g34a : ((List (Int)) × (Int)) → Option ((List Int) × (List (Int)) × (Int))) (g37 : ((List Int) × (Int) × (Int)) → Option ((Int) × (Bool)))  (a0 : List (Int)) (a1 : Int) : evAtJ (f27C g34a g37) [] [] (bodyOf Tryd.f27) [] (retK (f27C g34a g37) Tryd.f27.results f27o) (f27_s a0 a1) = f27_t g34a g37  a0 a1 := by
  kernel_rfl
set_option maxRecDepth 100000 in
theorem f27_e (k : Nat) (g34a : ((List (Int)) × (Int)) → Option ((List Int) × (List (Int)) × (Int))) (g37 : ((List Int) × (Int) × (Int)) → Option ((Int) × (Bool)))  (a0 : List (Int)) (a1 : Int) : f27 k g34a g37 (a0, a1) = f27_t g34a g37  a0 a1 := by
  have h0 : f27 k g34a g37 (a0, a1) = evAt (f27C g34a g37) k (bodyOf Tryd.f27) [] [] (retK (f27C g34a g37) Tryd.f27.results f27o) (f27_s a0 a1) := by kernel_rfl
  have h1 : keep [] (jt (f27C g34a g37) k (bodyOf Tryd.f27) [] [] (retK (f27C g34a g37) Tryd.f27.results f27o)) = [] := by kernel_rfl
  have h2 : keep [] (lt (f27C g34a g37) k (bodyOf Tryd.f27) [] [] (retK (f27C g34a g37) Tryd.f27.results f27o)) = [] := by kernel_rfl
  exact h0.trans ((evAt_cut _ [] [] (by kernel_rfl) h1 h2 (by kernel_rfl) (by kernel_rfl) (by kernel_rfl)).trans (f27_A g34a g37  a0 a1))
set_option maxRecDepth 100000 in
theorem f27_ok (k : Nat) (g34a : ((List (Int)) × (Int)) → Option ((List Int) × (List (Int)) × (Int))) (g37 : ((List Int) × (Int) × (Int)) → Option ((Int) × (Bool))) (hg34a : SigOK Tryd.prog 34 ⟨f34ai, f34ao, mkFun f34ai.tys f34ao.tys g34a⟩) (hg37 : SigOK Tryd.prog 37 ⟨f37i, f37o, mkFun f37i.tys f37o.tys g37⟩) : SigOK Tryd.prog 27 ⟨f27i, f27o, mkFun f27i.tys f27o.tys (f27 k g34a g37)⟩ :=
  fn_ok (C := (f27C g34a g37)) (l := f27E g34a g37) rfl ⟨⟨hg34a, trivial⟩, ⟨hg37, trivial⟩, trivial⟩ (by kernel_rfl) k (fn := Tryd.f27) (by kernel_rfl) (by kernel_rfl) (by kernel_rfl) f27i f27o rfl rfl (show 1 ≤ 48 by decide) (show 0 ≤ 48 by decide)
noncomputable def c27 (k : Nat) : ((List (Int)) × (Int)) → Option ((Int) × (List Int) × (Int) × (Int) × (Int) × (List (Int)) × (Int)) := f27 k (c34a k) (c37 k)
theorem c27_ok (k : Nat) : SigOK Tryd.prog 27 ⟨f27i, f27o, mkFun f27i.tys f27o.tys (c27 k)⟩ := f27_ok k (c34a k) (c37 k) (c34a_ok k) (c37_ok k)

/-! (*carrefour/lex.scanner).token -/
def f19i : Sk := ⟨[.lf (.ptr 0 0)], [[.pv (.slice (.int .u8)), .pv (.int .i64)]], []⟩
def f19o : Sk := ⟨[.agg [.pv (.int .i64), .pv .str, .pv (.int .i64), .pv (.int .i64)], .lf (.pv (.int .i64))], [[.pv (.slice (.int .u8)), .pv (.int .i64)]], []⟩
noncomputable def f19E (g24 : ((List (Int)) × (Int)) → Option ((Int) × (List (Int)) × (Int))) (g26 : ((List (Int)) × (Int)) → Option ((Int) × (List Int) × (Int) × (Int) × (Int) × (List (Int)) × (Int))) (g27 : ((List (Int)) × (Int)) → Option ((Int) × (List Int) × (Int) × (Int) × (Int) × (List (Int)) × (Int))) : List (Nat × List Sig) := [(24, [⟨f24i, f24o, mkFun f24i.tys f24o.tys g24⟩]), (26, [⟨f26i, f26o, mkFun f26i.tys f26o.tys g26⟩]), (27, [⟨f27i, f27o, mkFun f27i.tys f27o.tys g27⟩])]
noncomputable def f19C (g24 : ((List (Int)) × (Int)) → Option ((Int) × (List (Int)) × (Int))) (g26 : ((List (Int)) × (Int)) → Option ((Int) × (List Int) × (Int) × (Int) × (Int) × (List (Int)) × (Int))) (g27 : ((List (Int)) × (Int)) → Option ((Int) × (List Int) × (Int) × (Int) × (Int) × (List (Int)) × (Int))) : Cfg := { P := Tryd.prog, env := lookS (f19E g24 g26 g27), n := 92, npB := 1, npO := 0, hint := fun i => look none [] i, pops := [] }
def f19_s (a0 : List (Int)) (a1 : Int) : St := { enc f19i 92 [⟨(.slice (.int .u8)), a0⟩, ⟨(.int .i64), a1⟩] with slots := encAs f19i.slots [⟨(.slice (.int .u8)), a0⟩, ⟨(.int .i64), a1⟩] ++ List.replicate 43 .dead }
noncomputable def f19 (k : Nat) (g24 : ((List (Int)) × (Int)) → Option ((Int) × (List (Int)) × (Int))) (g26 : ((List (Int)) × (Int)) → Option ((Int) × (List Int) × (Int) × (Int) × (Int) × (List (Int)) × (Int))) (g27 : ((List (Int)) × (Int)) → Option ((Int) × (List Int) × (Int) × (Int) × (Int) × (List (Int)) × (Int))) : ((List (Int)) × (Int)) → Option ((Int) × (List Int) × (Int) × (Int) × (Int) × (List (Int)) × (Int)) := fnOf (f19C g24 g26 g27) k Tryd.f19 f19i f19o
def f19_t (g24 : ((List (Int)) × (Int)) → Option ((Int) × (List (Int)) × (Int))) (g26 : ((List (Int)) × (Int)) → Option ((Int) × (List Int) × (Int) × (Int) × (Int) × (List (Int)) × (Int))) (g27 : ((List (Int)) × (Int)) → Option ((Int) × (List Int) × (Int) × (Int) × (Int) × (List (Int)) × (Int)))  (a0 : List (Int)) (a1 : Int) : Option ((Int) × (List Int) × (Int) × (Int) × (Int) × (List (Int)) × (Int)) :=
  (g24 (a0, a1)).bind fun o1 => bif (o1.1 == (3 : Int)) then ((g26 (o1.2.1, o1.2.2)).bind fun o2 => some (o2.1, o2.2.1, o2.2.2.1, o2.2.2.2.1, o2.2.2.2.2.1, o2.2.2.2.2.2.1, o2.2.2.2.2.2.2)) else (bif (o1.1 == (4 : Int)) then ((g27 (o1.2.1, o1.2.2)).bind fun o3 => some (o3.1, o3.2.1, o3.2.2.1, o3.2.2.2.1, o3.2.2.2.2.1, o3.2.2.2.2.2.1, o3.2.2.2.2.2.2)) else (bif (o1.1 == (5 : Int)) then (bif (cutB (IntKind.wrap .i64 ((IntKind.wrap .i64 (o1.2.2 + (1 : Int))) - (1 : Int))) (IntKind.wrap .i64 (o1.2.2 + (1 : Int))) (List.length o1.2.1)) then some ((3 : Int), (cutL o1.2.1 (IntKind.wrap .i64 ((IntKind.wrap .i64 (o1.2.2 + (1 : Int))) - (1 : Int))) (IntKind.wrap .i64 (o1.2.2 + (1 : Int)))), (0 : Int), (0 : Int), (0 : Int), o1.2.1, (IntKind.wrap .i64 (o1.2.2 + (1 : Int)))) else none) else (some ((0 : Int), ([] : List Int), (0 : Int), (0 : Int), (40 : Int), o1.2.1, o1.2.2))))
set_option maxRecDepth 100000 in
theorem f19_A (g24 : ((List (Int)) × (Int)) → Option ((Int) × (List (Int)) × (Int))) (g26 : ((List (Int)) × (Int)) → Option ((Int) × (List Int) × (Int) × (Int) × (Int) × (List (Int)) × (Int))) (g27 : ((List (Int)) × (Int)) → Option ((Int) × (List Int) × (Int) × (Int) × (Int) × (List (Int)) × (Int)))  (a0 : List (Int)) (a1 : Int) : evAtJ (f19C g24 g26 g27) [] [] (bodyOf Tryd.f19) [] (retK (f19C g24 g26 g27) Tryd.f19.results f19o) (f19_s a0 a1) = f19_t g24 g26 g27  a0 a1 := by
  kernel_rfl
set_option maxRecDepth 100000 in
theorem f19_e (k : Nat) (g24 : ((List (Int)) × (Int)) → Option ((Int) × (List (Int)) × (Int))) (g26 : ((List (Int)) × (Int)) → Option ((Int) × (List Int) × (Int) × (Int) × (Int) × (List (Int)) × (Int))) (g27 : ((List (Int)) × (Int)) → Option ((Int) × (List Int) × (Int) × (Int) × (Int) × (List (Int)) × (Int)))  (a0 : List (Int)) (a1 : Int) : f19 k g24 g26 g27 (a0, a1) = f19_t g24 g26 g27  a0 a1 := by
  have h0 : f19 k g24 g26 g27 (a0, a1) = evAt (f19C g24 g26 g27) k (bodyOf Tryd.f19) [] [] (retK (f19C g24 g26 g27) Tryd.f19.results f19o) (f19_s a0 a1) := by kernel_rfl
  have h1 : keep [] (jt (f19C g24 g26 g27) k (bodyOf Tryd.f19) [] [] (retK (f19C g24 g26 g27) Tryd.f19.results f19o)) = [] := by kernel_rfl
  have h2 : keep [] (lt (f19C g24 g26 g27) k (bodyOf Tryd.f19) [] [] (retK (f19C g24 g26 g27) Tryd.f19.results f19o)) = [] := by kernel_rfl
  exact h0.trans ((evAt_cut _ [] [] (by kernel_rfl) h1 h2 (by kernel_rfl) (by kernel_rfl) (by kernel_rfl)).trans (f19_A g24 g26 g27  a0 a1))
set_option maxRecDepth 100000 in
theorem f19_ok (k : Nat) (g24 : ((List (Int)) × (Int)) → Option ((Int) × (List (Int)) × (Int))) (g26 : ((List (Int)) × (Int)) → Option ((Int) × (List Int) × (Int) × (Int) × (Int) × (List (Int)) × (Int))) (g27 : ((List (Int)) × (Int)) → Option ((Int) × (List Int) × (Int) × (Int) × (Int) × (List (Int)) × (Int))) (hg24 : SigOK Tryd.prog 24 ⟨f24i, f24o, mkFun f24i.tys f24o.tys g24⟩) (hg26 : SigOK Tryd.prog 26 ⟨f26i, f26o, mkFun f26i.tys f26o.tys g26⟩) (hg27 : SigOK Tryd.prog 27 ⟨f27i, f27o, mkFun f27i.tys f27o.tys g27⟩) : SigOK Tryd.prog 19 ⟨f19i, f19o, mkFun f19i.tys f19o.tys (f19 k g24 g26 g27)⟩ :=
  fn_ok (C := (f19C g24 g26 g27)) (l := f19E g24 g26 g27) rfl ⟨⟨hg24, trivial⟩, ⟨hg26, trivial⟩, ⟨hg27, trivial⟩, trivial⟩ (by kernel_rfl) k (fn := Tryd.f19) (by kernel_rfl) (by kernel_rfl) (by kernel_rfl) f19i f19o rfl rfl (show 1 ≤ 48 by decide) (show 0 ≤ 48 by decide)
noncomputable def c19 (k : Nat) : ((List (Int)) × (Int)) → Option ((Int) × (List Int) × (Int) × (Int) × (Int) × (List (Int)) × (Int)) := f19 k (c24 k) (c26 k) (c27 k)
theorem c19_ok (k : Nat) : SigOK Tryd.prog 19 ⟨f19i, f19o, mkFun f19i.tys f19o.tys (c19 k)⟩ := f19_ok k (c24 k) (c26 k) (c27 k) (c24_ok k) (c26_ok k) (c27_ok k)

/-! carrefour/lex.Tokens -/
def f8i : Sk := ⟨[.lf (.pv (.slice (.int .u8)))], [], []⟩
def f8o : Sk := ⟨[.lf (.own 0), .lf (.pv (.int .i64)), .lf (.pv (.int .i64))], [], [some (29, (.cons (.int .i64) (.cons .str (.cons (.int .i64) (.cons (.int .i64) .nil)))))]⟩
def f8_k5 : Sk := ⟨sparse 46 [(0, .lf (.pv (.slice (.int .u8)))), (5, .lf (.ptr 0 0)), (6, .lf (.own 0))], [[.pv (.slice (.int .u8)), .pv (.int .i64)]], [some (29, (.cons (.int .i64) (.cons .str (.cons (.int .i64) (.cons (.int .i64) .nil)))))]⟩
noncomputable def f8E (g18 : ((List (Int)) × (Int)) → Option ((List (Int)) × (Int))) (g19 : ((List (Int)) × (Int)) → Option ((Int) × (List Int) × (Int) × (Int) × (Int) × (List (Int)) × (Int))) : List (Nat × List Sig) := [(18, [⟨f18i, f18o, mkFun f18i.tys f18o.tys g18⟩]), (19, [⟨f19i, f19o, mkFun f19i.tys f19o.tys g19⟩])]
noncomputable def f8C (g18 : ((List (Int)) × (Int)) → Option ((List (Int)) × (Int))) (g19 : ((List (Int)) × (Int)) → Option ((Int) × (List Int) × (Int) × (Int) × (Int) × (List (Int)) × (Int))) : Cfg := { P := Tryd.prog, env := lookS (f8E g18 g19), n := 94, npB := 0, npO := 0, hint := fun i => look none [(5, some f8_k5)] i, pops := [] }
def f8_s (a0 : List (Int)) : St := { enc f8i 94 [⟨(.slice (.int .u8)), a0⟩] with slots := encAs f8i.slots [⟨(.slice (.int .u8)), a0⟩] ++ List.replicate 45 .dead }
def f8_s5 (a0 : List (Int)) (a1 : List (Int)) (a2 : Int) (a3 : List ((Int) × ((List Int) × ((Int) × ((Int) × (Unit)))))) : St := enc f8_k5 94 [⟨(.slice (.int .u8)), a0⟩, ⟨(.slice (.int .u8)), a1⟩, ⟨(.int .i64), a2⟩, ⟨(.slice (.cons (.int .i64) (.cons .str (.cons (.int .i64) (.cons (.int .i64) .nil))))), a3⟩]
noncomputable def f8 (k : Nat) (g18 : ((List (Int)) × (Int)) → Option ((List (Int)) × (Int))) (g19 : ((List (Int)) × (Int)) → Option ((Int) × (List Int) × (Int) × (Int) × (Int) × (List (Int)) × (Int))) : (List (Int)) → Option ((Int) × (Int) × (List ((Int) × ((List Int) × ((Int) × ((Int) × (Unit))))))) := fnOf (f8C g18 g19) k Tryd.f8 f8i f8o
noncomputable def f8_l5 (k : Nat) (g18 : ((List (Int)) × (Int)) → Option ((List (Int)) × (Int))) (g19 : ((List (Int)) × (Int)) → Option ((Int) × (List Int) × (Int) × (Int) × (Int) × (List (Int)) × (Int))) (j5 : Nat) (a0 : List (Int)) (a1 : List (Int)) (a2 : Int) (a3 : List ((Int) × ((List Int) × ((Int) × ((Int) × (Unit)))))) : Option ((Int) × (Int) × (List ((Int) × ((List Int) × ((Int) × ((Int) × (Unit))))))) := loopAt (f8C g18 g19) k (bodyOf Tryd.f8) [.r, .r, .r, .r, .b] [] j5 (retK (f8C g18 g19) Tryd.f8.results f8o) (f8_s5 a0 a1 a2 a3)
def f8_t (g18 : ((List (Int)) × (Int)) → Option ((List (Int)) × (Int))) (g19 : ((List (Int)) × (Int)) → Option ((Int) × (List Int) × (Int) × (Int) × (Int) × (List (Int)) × (Int))) (Jl5 : (List (Int)) → (List (Int)) → Int → (List ((Int) × ((List Int) × ((Int) × ((Int) × (Unit)))))) → Option ((Int) × (Int) × (List ((Int) × ((List Int) × ((Int) × ((Int) × (Unit)))))))) (a0 : List (Int)) : Option ((Int) × (Int) × (List ((Int) × ((List Int) × ((Int) × ((Int) × (Unit))))))) :=
  bif (decide (((List.length a0 : Nat) : Int) > (65536 : Int))) then (some ((4 : Int), (65536 : Int), [])) else (Jl5 a0 a0 (0 : Int) ([]))
set_option maxRecDepth 100000 in
theorem f8_A (g18 : ((List (Int)) × (Int)) → Option ((List (Int)) × (Int))) (g19 : ((List (Int)) × (Int)) → Option ((Int) × (List Int) × (Int) × (Int) × (Int) × (List (Int)) × (Int))) (Jl5 : St → Option ((Int) × (Int) × (List ((Int) × ((List Int) × ((Int) × ((Int) × (Unit)))))))) (a0 : List (Int)) : evAtJ (f8C g18 g19) [] [(5, Jl5)] (bodyOf Tryd.f8) [] (retK (f8C g18 g19) Tryd.f8.results f8o) (f8_s a0) = f8_t g18 g19 (fun a0 a1 a2 a3 => Jl5 (f8_s5 a0 a1 a2 a3)) a0 := by
  kernel_rfl
set_option maxRecDepth 100000 in
theorem f8_e (k : Nat) (g18 : ((List (Int)) × (Int)) → Option ((List (Int)) × (Int))) (g19 : ((List (Int)) × (Int)) → Option ((Int) × (List Int) × (Int) × (Int) × (Int) × (List (Int)) × (Int)))  (a0 : List (Int)) : f8 k g18 g19 (a0) = f8_t g18 g19 (f8_l5 k g18 g19  k) a0 := by
  have h0 : f8 k g18 g19 (a0) = evAt (f8C g18 g19) k (bodyOf Tryd.f8) [] [] (retK (f8C g18 g19) Tryd.f8.results f8o) (f8_s a0) := by kernel_rfl
  have h1 : keep [] (jt (f8C g18 g19) k (bodyOf Tryd.f8) [] [] (retK (f8C g18 g19) Tryd.f8.results f8o)) = [] := by kernel_rfl
  have h2 : keep [5] (lt (f8C g18 g19) k (bodyOf Tryd.f8) [] [] (retK (f8C g18 g19) Tryd.f8.results f8o)) = [(5, (fun s => loopAt (f8C g18 g19) k (bodyOf Tryd.f8) [.r, .r, .r, .r, .b] [] k (retK (f8C g18 g19) Tryd.f8.results f8o) s))] := by kernel_rfl
  exact h0.trans ((evAt_cut _ [] [5] (by kernel_rfl) h1 h2 (by kernel_rfl) (by kernel_rfl) (by kernel_rfl)).trans (f8_A g18 g19 (fun s => loopAt (f8C g18 g19) k (bodyOf Tryd.f8) [.r, .r, .r, .r, .b] [] k (retK (f8C g18 g19) Tryd.f8.results f8o) s) a0))
def f8_tl5 (g18 : ((List (Int)) × (Int)) → Option ((List (Int)) × (Int))) (g19 : ((List (Int)) × (Int)) → Option ((Int) × (List Int) × (Int) × (Int) × (Int) × (List (Int)) × (Int))) (Jl5 : (List (Int)) → (List (Int)) → Int → (List ((Int) × ((List Int) × ((Int) × ((Int) × (Unit)))))) → Option ((Int) × (Int) × (List ((Int) × ((List Int) × ((Int) × ((Int) × (Unit)))))))) (a0 : List (Int)) (a1 : List (Int)) (a2 : Int) (a3 : List ((Int) × ((List Int) × ((Int) × ((Int) × (Unit)))))) : Option ((Int) × (Int) × (List ((Int) × ((List Int) × ((Int) × ((Int) × (Unit))))))) :=
  (g18 (a1, a2)).bind fun o1 => bif (o1.2 == ((List.length a0 : Nat) : Int)) then (bif (appB 40 (List.length a3) (List.length ([((0 : Int), (([] : List Int), ((0 : Int), (o1.2, ()))))] : List ((Int) × ((List Int) × ((Int) × ((Int) × (Unit)))))))) then some ((0 : Int), (0 : Int), (a3 ++ ([((0 : Int), (([] : List Int), ((0 : Int), (o1.2, ()))))] : List ((Int) × ((List Int) × ((Int) × ((Int) × (Unit)))))))) else none) else ((g19 (o1.1, o1.2)).bind fun o2 => bif (o2.2.2.2.2.1 != (0 : Int)) then (some (o2.2.2.2.2.1, o1.2, [])) else (bif (appB 40 (List.length a3) (List.length ([(o2.1, (o2.2.1, (o2.2.2.1, (o1.2, ()))))] : List ((Int) × ((List Int) × ((Int) × ((Int) × (Unit)))))))) then Jl5 a0 (o2.2.2.2.2.2.1) (o2.2.2.2.2.2.2) (a3 ++ ([(o2.1, (o2.2.1, (o2.2.2.1, (o1.2, ()))))] : List ((Int) × ((List Int) × ((Int) × ((Int) × (Unit))))))) else none))
set_option maxRecDepth 100000 in
theorem f8_Al5 (g18 : ((List (Int)) × (Int)) → Option ((List (Int)) × (Int))) (g19 : ((List (Int)) × (Int)) → Option ((Int) × (List Int) × (Int) × (Int) × (Int) × (List (Int)) × (Int))) (Jl5 : St → Option ((Int) × (Int) × (List ((Int) × ((List Int) × ((Int) × ((Int) × (Unit)))))))) (a0 : List (Int)) (a1 : List (Int)) (a2 : Int) (a3 : List ((Int) × ((List Int) × ((Int) × ((Int) × (Unit)))))) : evAtJ (f8C g18 g19) [] [(5, Jl5)] (bodyOf Tryd.f8) [.r, .r, .r, .r, .b, .b] (retK (f8C g18 g19) Tryd.f8.results f8o) (f8_s5 a0 a1 a2 a3) = f8_tl5 g18 g19 (fun a0 a1 a2 a3 => Jl5 (f8_s5 a0 a1 a2 a3)) a0 a1 a2 a3 := by
  kernel_rfl
set_option maxRecDepth 100000 in
theorem f8_el5 (k : Nat) (g18 : ((List (Int)) × (Int)) → Option ((List (Int)) × (Int))) (g19 : ((List (Int)) × (Int)) → Option ((Int) × (List Int) × (Int) × (Int) × (Int) × (List (Int)) × (Int))) (j5 : Nat) (a0 : List (Int)) (a1 : List (Int)) (a2 : Int) (a3 : List ((Int) × ((List Int) × ((Int) × ((Int) × (Unit)))))) : f8_l5 k g18 g19 (j5 + 1) a0 a1 a2 a3 = f8_tl5 g18 g19 (f8_l5 k g18 g19  j5) a0 a1 a2 a3 := by
  have h0 : f8_l5 k g18 g19 (j5 + 1) a0 a1 a2 a3 = evAt (f8C g18 g19) k (bodyOf Tryd.f8) [.r, .r, .r, .r, .b, .b] [j5] (retK (f8C g18 g19) Tryd.f8.results f8o) (f8_s5 a0 a1 a2 a3) := by kernel_rfl
  have h1 : keep [] (jt (f8C g18 g19) k (bodyOf Tryd.f8) [.r, .r, .r, .r, .b, .b] [j5] (retK (f8C g18 g19) Tryd.f8.results f8o)) = [] := by kernel_rfl
  have h2 : keep [5] (lt (f8C g18 g19) k (bodyOf Tryd.f8) [.r, .r, .r, .r, .b, .b] [j5] (retK (f8C g18 g19) Tryd.f8.results f8o)) = [(5, (fun s => loopAt (f8C g18 g19) k (bodyOf Tryd.f8) [.r, .r, .r, .r, .b] [] j5 (retK (f8C g18 g19) Tryd.f8.results f8o) s))] := by kernel_rfl
  exact h0.trans ((evAt_cut _ [] [5] (by kernel_rfl) h1 h2 (by kernel_rfl) (by kernel_rfl) (by kernel_rfl)).trans (f8_Al5 g18 g19 (fun s => loopAt (f8C g18 g19) k (bodyOf Tryd.f8) [.r, .r, .r, .r, .b] [] j5 (retK (f8C g18 g19) Tryd.f8.results f8o) s) a0 a1 a2 a3))
set_option maxRecDepth 100000 in
theorem f8_ok (k : Nat) (g18 : ((List (Int)) × (Int)) → Option ((List (Int)) × (Int))) (g19 : ((List (Int)) × (Int)) → Option ((Int) × (List Int) × (Int) × (Int) × (Int) × (List (Int)) × (Int))) (hg18 : SigOK Tryd.prog 18 ⟨f18i, f18o, mkFun f18i.tys f18o.tys g18⟩) (hg19 : SigOK Tryd.prog 19 ⟨f19i, f19o, mkFun f19i.tys f19o.tys g19⟩) : SigOK Tryd.prog 8 ⟨f8i, f8o, mkFun f8i.tys f8o.tys (f8 k g18 g19)⟩ :=
  fn_ok (C := (f8C g18 g19)) (l := f8E g18 g19) rfl ⟨⟨hg18, trivial⟩, ⟨hg19, trivial⟩, trivial⟩ (by kernel_rfl) k (fn := Tryd.f8) (by kernel_rfl) (by kernel_rfl) (by kernel_rfl) f8i f8o rfl rfl (show 0 ≤ 48 by decide) (show 0 ≤ 48 by decide)
noncomputable def c8 (k : Nat) : (List (Int)) → Option ((Int) × (Int) × (List ((Int) × ((List Int) × ((Int) × ((Int) × (Unit))))))) := f8 k (c18 k) (c19 k)
theorem c8_ok (k : Nat) : SigOK Tryd.prog 8 ⟨f8i, f8o, mkFun f8i.tys f8o.tys (c8 k)⟩ := f8_ok k (c18 k) (c19 k) (c18_ok k) (c19_ok k)

/-! strings.Join: given -/
def f23i : Sk := ⟨[.lf (.pv (.slice .str)), .lf (.pv .str)], [], []⟩
def f23o : Sk := ⟨[.lf (.pv .str)], [], []⟩
def c23 (k : Nat) : ((List (List Int)) × (List Int)) → Option (List Int) := joinS
theorem c23_ok (k : Nat) : SigOK Tryd.prog 23 ⟨f23i, f23o, mkFun f23i.tys f23o.tys (c23 k)⟩ := joinS_ok

/-! carrefour/lex.Spell -/
def f16i : Sk := ⟨[.lf (.pv (.slice (.cons (.int .i64) (.cons .str (.cons (.int .i64) (.cons (.int .i64) .nil))))))], [], []⟩
def f16o : Sk := ⟨[.lf (.pv .str)], [], []⟩
def f16_k3 : Sk := ⟨sparse 23 [(3, .lf (.own 0)), (6, .lf (.pv (.slice (.cons (.int .i64) (.cons .str (.cons (.int .i64) (.cons (.int .i64) .nil))))))), (7, .lf (.pv (.int .i64))), (8, .lf (.pv (.int .i64)))], [], [some (9, .str)]⟩
noncomputable def f16E (g23 : ((List (List Int)) × (List Int)) → Option (List Int)) : List (Nat × List Sig) := [(23, [⟨f23i, f23o, mkFun f23i.tys f23o.tys g23⟩])]
noncomputable def f16C (g23 : ((List (List Int)) × (List Int)) → Option (List Int)) : Cfg := { P := Tryd.prog, env := lookS (f16E g23), n := 71, npB := 0, npO := 0, hint := fun i => look none [(3, some f16_k3)] i, pops := [] }
def f16_s (a0 : List ((Int) × ((List Int) × ((Int) × ((Int) × (Unit)))))) : St := { enc f16i 71 [⟨(.slice (.cons (.int .i64) (.cons .str (.cons (.int .i64) (.cons (.int .i64) .nil))))), a0⟩] with slots := encAs f16i.slots [⟨(.slice (.cons (.int .i64) (.cons .str (.cons (.int .i64) (.cons (.int .i64) .nil))))), a0⟩] ++ List.replicate 22 .dead }
def f16_s3 (a0 : List ((Int) × ((List Int) × ((Int) × ((Int) × (Unit)))))) (a1 : Int) (a2 : Int) (a3 : List (List Int)) : St := enc f16_k3 71 [⟨(.slice (.cons (.int .i64) (.cons .str (.cons (.int .i64) (.cons (.int .i64) .nil))))), a0⟩, ⟨(.int .i64), a1⟩, ⟨(.int .i64), a2⟩, ⟨(.slice .str), a3⟩]
noncomputable def f16 (k : Nat) (g23 : ((List (List Int)) × (List Int)) → Option (List Int)) : (List ((Int) × ((List Int) × ((Int) × ((Int) × (Unit)))))) → Option (List Int) := fnOf (f16C g23) k Tryd.f16 f16i f16o
noncomputable def f16_l3 (k : Nat) (g23 : ((List (List Int)) × (List Int)) → Option (List Int)) (j3 : Nat) (a0 : List ((Int) × ((List Int) × ((Int) × ((Int) × (Unit)))))) (a1 : Int) (a2 : Int) (a3 : List (List Int)) : Option (List Int) := loopAt (f16C g23) k (bodyOf Tryd.f16) [.r, .r, .l, .r, .b] [] j3 (retK (f16C g23) Tryd.f16.results f16o) (f16_s3 a0 a1 a2 a3)
def f16_t (g23 : ((List (List Int)) × (List Int)) → Option (List Int)) (Jl3 : (List ((Int) × ((List Int) × ((Int) × ((Int) × (Unit)))))) → Int → Int → (List (List Int)) → Option (List Int)) (a0 : List ((Int) × ((List Int) × ((Int) × ((Int) × (Unit)))))) : Option (List Int) :=
  Jl3 a0 ((List.length a0 : Nat) : Int) (0 : Int) ([])
set_option maxRecDepth 100000 in
theorem f16_A (g23 : ((List (List Int)) × (List Int)) → Option (List Int)) (Jl3 : St → Option (List Int)) (a0 : List ((Int) × ((List Int) × ((Int) × ((Int) × (Unit)))))) : evAtJ (f16C g23) [] [(3, Jl3)] (bodyOf Tryd.f16) [] (retK (f16C g23) Tryd.f16.results f16o) (f16_s a0) = f16_t g23 (fun a0 a1 a2 a3 => Jl3 (f16_s3 a0 a1 a2 a3)) a0 := by
  kernel_rfl
set_option maxRecDepth 100000 in
theorem f16_e (k : Nat) (g23 : ((List (List Int)) × (List Int)) → Option (List Int))  (a0 : List ((Int) × ((List Int) × ((Int) × ((Int) × (Unit)))))) : f16 k g23 (a0) = f16_t g23 (f16_l3 k g23  k) a0 := by
  have h0 : f16 k g23 (a0) = evAt (f16C g23) k (bodyOf Tryd.f16) [] [] (retK (f16C g23) Tryd.f16.results f16o) (f16_s a0) := by kernel_rfl
  have h1 : keep [] (jt (f16C g23) k (bodyOf Tryd.f16) [] [] (retK (f16C g23) Tryd.f16.results f16o)) = [] := by kernel_rfl
  have h2 : keep [3] (lt (f16C g23) k (bodyOf Tryd.f16) [] [] (retK (f16C g23) Tryd.f16.results f16o)) = [(3, (fun s => loopAt (f16C g23) k (bodyOf Tryd.f16) [.r, .r, .l, .r, .b] [] k (retK (f16C g23) Tryd.f16.results f16o) s))] := by kernel_rfl
  exact h0.trans ((evAt_cut _ [] [3] (by kernel_rfl) h1 h2 (by kernel_rfl) (by kernel_rfl) (by kernel_rfl)).trans (f16_A g23 (fun s => loopAt (f16C g23) k (bodyOf Tryd.f16) [.r, .r, .l, .r, .b] [] k (retK (f16C g23) Tryd.f16.results f16o) s) a0))
def f16_tl3 (g23 : ((List (List Int)) × (List Int)) → Option (List Int)) (Jl3 : (List ((Int) × ((List Int) × ((Int) × ((Int) × (Unit)))))) → Int → Int → (List (List Int)) → Option (List Int)) (a0 : List ((Int) × ((List Int) × ((Int) × ((Int) × (Unit)))))) (a1 : Int) (a2 : Int) (a3 : List (List Int)) : Option (List Int) :=
  bif (decide (a2 < a1)) then (bif (inB a2 (List.length a0)) then bif ((rdA ((0 : Int), ([], ((0 : Int), ((0 : Int), ())))) a0 (Int.toNat a2)).1 != (0 : Int)) then (bif (appB 16 (List.length a3) (List.length ([(rdA ((0 : Int), ([], ((0 : Int), ((0 : Int), ())))) a0 (Int.toNat a2)).2.1] : List (List Int)))) then Jl3 a0 a1 (IntKind.wrap .i64 (a2 + (1 : Int))) (a3 ++ ([(rdA ((0 : Int), ([], ((0 : Int), ((0 : Int), ())))) a0 (Int.toNat a2)).2.1] : List (List Int))) else none) else (Jl3 a0 a1 (IntKind.wrap .i64 (a2 + (1 : Int))) a3) else none) else ((g23 (a3, ([32] : List Int))).bind fun o1 => some o1)
set_option maxRecDepth 100000 in
theorem f16_Al3 (g23 : ((List (List Int)) × (List Int)) → Option (List Int)) (Jl3 : St → Option (List Int)) (a0 : List ((Int) × ((List Int) × ((Int) × ((Int) × (Unit)))))) (a1 : Int) (a2 : Int) (a3 : List (List Int)) : evAtJ (f16C g23) [] [(3, Jl3)] (bodyOf Tryd.f16) [.r, .r, .l, .r, .b, .b] (retK (f16C g23) Tryd.f16.results f16o) (f16_s3 a0 a1 a2 a3) = f16_tl3 g23 (fun a0 a1 a2 a3 => Jl3 (f16_s3 a0 a1 a2 a3)) a0 a1 a2 a3 := by
  kernel_rfl
set_option maxRecDepth 100000 in
theorem f16_el3 (k : Nat) (g23 : ((List (List Int)) × (List Int)) → Option (List Int)) (j3 : Nat) (a0 : List ((Int) × ((List Int) × ((Int) × ((Int) × (Unit)))))) (a1 : Int) (a2 : Int) (a3 : List (List Int)) : f16_l3 k g23 (j3 + 1) a0 a1 a2 a3 = f16_tl3 g23 (f16_l3 k g23  j3) a0 a1 a2 a3 := by
  have h0 : f16_l3 k g23 (j3 + 1) a0 a1 a2 a3 = evAt (f16C g23) k (bodyOf Tryd.f16) [.r, .r, .l, .r, .b, .b] [j3] (retK (f16C g23) Tryd.f16.results f16o) (f16_s3 a0 a1 a2 a3) := by kernel_rfl
  have h1 : keep [] (jt (f16C g23) k (bodyOf Tryd.f16) [.r, .r, .l, .r, .b, .b] [j3] (retK (f16C g23) Tryd.f16.results f16o)) = [] := by kernel_rfl
  have h2 : keep [3] (lt (f16C g23) k (bodyOf Tryd.f16) [.r, .r, .l, .r, .b, .b] [j3] (retK (f16C g23) Tryd.f16.results f16o)) = [(3, (fun s => loopAt (f16C g23) k (bodyOf Tryd.f16) [.r, .r, .l, .r, .b] [] j3 (retK (f16C g23) Tryd.f16.results f16o) s))] := by kernel_rfl
  exact h0.trans ((evAt_cut _ [] [3] (by kernel_rfl) h1 h2 (by kernel_rfl) (by kernel_rfl) (by kernel_rfl)).trans (f16_Al3 g23 (fun s => loopAt (f16C g23) k (bodyOf Tryd.f16) [.r, .r, .l, .r, .b] [] j3 (retK (f16C g23) Tryd.f16.results f16o) s) a0 a1 a2 a3))
set_option maxRecDepth 100000 in
theorem f16_ok (k : Nat) (g23 : ((List (List Int)) × (List Int)) → Option (List Int)) (hg23 : SigOK Tryd.prog 23 ⟨f23i, f23o, mkFun f23i.tys f23o.tys g23⟩) : SigOK Tryd.prog 16 ⟨f16i, f16o, mkFun f16i.tys f16o.tys (f16 k g23)⟩ :=
  fn_ok (C := (f16C g23)) (l := f16E g23) rfl ⟨⟨hg23, trivial⟩, trivial⟩ (by kernel_rfl) k (fn := Tryd.f16) (by kernel_rfl) (by kernel_rfl) (by kernel_rfl) f16i f16o rfl rfl (show 0 ≤ 48 by decide) (show 0 ≤ 48 by decide)
noncomputable def c16 (k : Nat) : (List ((Int) × ((List Int) × ((Int) × ((Int) × (Unit)))))) → Option (List Int) := f16 k (c23 k)
theorem c16_ok (k : Nat) : SigOK Tryd.prog 16 ⟨f16i, f16o, mkFun f16i.tys f16o.tys (c16 k)⟩ := f16_ok k (c23 k) (c23_ok k)

/-! carrefour/lex.Reserved -/
def f13i : Sk := ⟨[.lf (.pv .str)], [], []⟩
def f13o : Sk := ⟨[.lf (.pv .bool)], [], []⟩
def f13_k16 : Sk := ⟨sparse 50 [(3, .lf (.pv .str))], [], []⟩
def f13_k26 : Sk := ⟨sparse 50 [(3, .lf (.pv .str))], [], []⟩
def f13_k33 : Sk := ⟨sparse 50 [(3, .lf (.pv .str))], [], []⟩
noncomputable def f13E  : List (Nat × List Sig) := []
noncomputable def f13C  : Cfg := { P := Tryd.prog, env := lookS (f13E ), n := 98, npB := 0, npO := 0, hint := fun i => look none [(16, some f13_k16), (26, some f13_k26), (33, some f13_k33)] i, pops := [] }
def f13_s (a0 : List Int) : St := { enc f13i 98 [⟨.str, a0⟩] with slots := encAs f13i.slots [⟨.str, a0⟩] ++ List.replicate 49 .dead }
def f13_s16 (a0 : List Int) : St := enc f13_k16 98 [⟨.str, a0⟩]
def f13_s26 (a0 : List Int) : St := enc f13_k26 98 [⟨.str, a0⟩]
def f13_s33 (a0 : List Int) : St := enc f13_k33 98 [⟨.str, a0⟩]
noncomputable def f13 (k : Nat)  : (List Int) → Option (Bool) := fnOf f13C k Tryd.f13 f13i f13o
noncomputable def f13_j16 (k : Nat)   (a0 : List Int) : Option (Bool) := evAt f13C k (bodyOf Tryd.f13) [.r, .l, .r, .b, .l, .b, .b, .b, .b, .l, .r] [] (retK f13C Tryd.f13.results f13o) (f13_s16 a0)
noncomputable def f13_j26 (k : Nat)   (a0 : List Int) : Option (Bool) := evAt f13C k (bodyOf Tryd.f13) [.r, .l, .r, .b, .l, .b, .b, .b, .b, .l, .r, .r] [] (retK f13C Tryd.f13.results f13o) (f13_s26 a0)
noncomputable def f13_j33 (k : Nat)   (a0 : List Int) : Option (Bool) := evAt f13C k (bodyOf Tryd.f13) [.r, .l, .r, .b, .l, .b, .b, .b, .b, .l, .r, .r, .r] [] (retK f13C Tryd.f13.results f13o) (f13_s33 a0)
def f13_t  (Jj16 : (List Int) → Option (Bool)) (a0 : List Int) : Option (Bool) :=
  bif (a0 == ([99, 121, 99, 108, 101] : List Int)) then (some true) else (bif (a0 == ([116, 111] : List Int)) then (some true) else (bif (a0 == ([98, 121] : List Int)) then (some true) else (bif (a0 == ([112, 101, 97, 107] : List Int)) then (some true) else (bif (a0 == ([110, 111, 100, 101] : List Int)) then (some true) else (bif (a0 == ([104, 101, 97, 100] : List Int)) then (some true) else (bif (a0 == ([118, 111, 108, 117, 109, 101] : List Int)) then (some true) else (bif (a0 == ([102, 108, 111, 119] : List Int)) then (some true) else (bif (a0 == ([117, 115, 101] : List Int)) then (some true) else (bif (a0 == ([115, 112, 101, 101, 100] : List Int)) then (some true) else (bif (a0 == ([103, 114, 97, 100, 101] : List Int)) then (some true) else (bif (a0 == ([119, 105, 100, 116, 104] : List Int)) then (some true) else (bif (a0 == ([108, 101, 110, 103, 116, 104] : List Int)) then (some true) else (bif (a0 == ([103, 114, 101, 101, 110] : List Int)) then (some true) else (Jj16 a0))))))))))))))
set_option maxRecDepth 100000 in
theorem f13_A  (Jj16 : St → Option (Bool)) (Jj26 : St → Option (Bool)) (Jj33 : St → Option (Bool)) (a0 : List Int) : evAtJ f13C [(16, Jj16), (26, Jj26), (33, Jj33)] [] (bodyOf Tryd.f13) [] (retK f13C Tryd.f13.results f13o) (f13_s a0) = f13_t  (fun a0 => Jj16 (f13_s16 a0)) a0 := by
  kernel_rfl
set_option maxRecDepth 100000 in
theorem f13_e (k : Nat)   (a0 : List Int) : f13 k  (a0) = f13_t  (f13_j16 k  ) a0 := by
  have h0 : f13 k  (a0) = evAt f13C k (bodyOf Tryd.f13) [] [] (retK f13C Tryd.f13.results f13o) (f13_s a0) := by kernel_rfl
  have h1 : keep [16, 26, 33] (jt f13C k (bodyOf Tryd.f13) [] [] (retK f13C Tryd.f13.results f13o)) = [(16, (fun s => evAt f13C k (bodyOf Tryd.f13) [.r, .l, .r, .b, .l, .b, .b, .b, .b, .l, .r] [] (retK f13C Tryd.f13.results f13o) s)), (26, (fun s => evAt f13C k (bodyOf Tryd.f13) [.r, .l, .r, .b, .l, .b, .b, .b, .b, .l, .r, .r] [] (retK f13C Tryd.f13.results f13o) s)), (33, (fun s => evAt f13C k (bodyOf Tryd.f13) [.r, .l, .r, .b, .l, .b, .b, .b, .b, .l, .r, .r, .r] [] (retK f13C Tryd.f13.results f13o) s))] := by kernel_rfl
  have h2 : keep [] (lt f13C k (bodyOf Tryd.f13) [] [] (retK f13C Tryd.f13.results f13o)) = [] := by kernel_rfl
  exact h0.trans ((evAt_cut _ [16, 26, 33] [] (by kernel_rfl) h1 h2 (by kernel_rfl) (by kernel_rfl) (by kernel_rfl)).trans (f13_A  (fun s => evAt f13C k (bodyOf Tryd.f13) [.r, .l, .r, .b, .l, .b, .b, .b, .b, .l, .r] [] (retK f13C Tryd.f13.results f13o) s) (fun s => evAt f13C k (bodyOf Tryd.f13) [.r, .l, .r, .b, .l, .b, .b, .b, .b, .l, .r, .r] [] (retK f13C Tryd.f13.results f13o) s) (fun s => evAt f13C k (bodyOf Tryd.f13) [.r, .l, .r, .b, .l, .b, .b, .b, .b, .l, .r, .r, .r] [] (retK f13C Tryd.f13.results f13o) s) a0))
def f13_tj16  (Jj26 : (List Int) → Option (Bool)) (a0 : List Int) : Option (Bool) :=
  bif (a0 == ([119, 97, 108, 107] : List Int)) then (some true) else (bif (a0 == ([119, 105, 116, 104] : List Int)) then (some true) else (bif (a0 == ([108, 111, 110, 103] : List Int)) then (some true) else (bif (a0 == ([112, 97, 99, 101] : List Int)) then (some true) else (bif (a0 == ([108, 101, 97, 115, 116] : List Int)) then (some true) else (bif (a0 == ([112, 104, 97, 115, 101] : List Int)) then (some true) else (bif (a0 == ([103, 114, 111, 117, 112] : List Int)) then (some true) else (bif (a0 == ([114, 105, 110, 103] : List Int)) then (some true) else (bif (a0 == ([102, 114, 101, 101] : List Int)) then (some true) else (bif (a0 == ([102, 111, 101] : List Int)) then (some true) else (Jj26 a0))))))))))
set_option maxRecDepth 100000 in
theorem f13_Aj16  (Jj16 : St → Option (Bool)) (Jj26 : St → Option (Bool)) (Jj33 : St → Option (Bool)) (a0 : List Int) : evAtJ f13C [(16, Jj16), (26, Jj26), (33, Jj33)] [] (bodyOf Tryd.f13) [.r, .l, .r, .b, .l, .b, .b, .b, .b, .l, .r] (retK f13C Tryd.f13.results f13o) (f13_s16 a0) = f13_tj16  (fun a0 => Jj26 (f13_s26 a0)) a0 := by
  kernel_rfl
set_option maxRecDepth 100000 in
theorem f13_ej16 (k : Nat)   (a0 : List Int) : f13_j16 k   a0 = f13_tj16  (f13_j26 k  ) a0 := by
  have h0 : f13_j16 k   a0 = evAt f13C k (bodyOf Tryd.f13) [.r, .l, .r, .b, .l, .b, .b, .b, .b, .l, .r] [] (retK f13C Tryd.f13.results f13o) (f13_s16 a0) := by kernel_rfl
  have h1 : keep [16, 26, 33] (jt f13C k (bodyOf Tryd.f13) [.r, .l, .r, .b, .l, .b, .b, .b, .b, .l, .r] [] (retK f13C Tryd.f13.results f13o)) = [(16, (fun s => evAt f13C k (bodyOf Tryd.f13) [.r, .l, .r, .b, .l, .b, .b, .b, .b, .l, .r] [] (retK f13C Tryd.f13.results f13o) s)), (26, (fun s => evAt f13C k (bodyOf Tryd.f13) [.r, .l, .r, .b, .l, .b, .b, .b, .b, .l, .r, .r] [] (retK f13C Tryd.f13.results f13o) s)), (33, (fun s => evAt f13C k (bodyOf Tryd.f13) [.r, .l, .r, .b, .l, .b, .b, .b, .b, .l, .r, .r, .r] [] (retK f13C Tryd.f13.results f13o) s))] := by kernel_rfl
  have h2 : keep [] (lt f13C k (bodyOf Tryd.f13) [.r, .l, .r, .b, .l, .b, .b, .b, .b, .l, .r] [] (retK f13C Tryd.f13.results f13o)) = [] := by kernel_rfl
  exact h0.trans ((evAt_cut _ [16, 26, 33] [] (by kernel_rfl) h1 h2 (by kernel_rfl) (by kernel_rfl) (by kernel_rfl)).trans (f13_Aj16  (fun s => evAt f13C k (bodyOf Tryd.f13) [.r, .l, .r, .b, .l, .b, .b, .b, .b, .l, .r] [] (retK f13C Tryd.f13.results f13o) s) (fun s => evAt f13C k (bodyOf Tryd.f13) [.r, .l, .r, .b, .l, .b, .b, .b, .b, .l, .r, .r] [] (retK f13C Tryd.f13.results f13o) s) (fun s => evAt f13C k (bodyOf Tryd.f13) [.r, .l, .r, .b, .l, .b, .b, .b, .b, .l, .r, .r, .r] [] (retK f13C Tryd.f13.results f13o) s) a0))
def f13_tj26  (Jj33 : (List Int) → Option (Bool)) (a0 : List Int) : Option (Bool) :=
  bif (a0 == ([97, 114, 116, 101, 114, 121] : List Int)) then (some true) else (bif (a0 == ([115, 116, 111, 112] : List Int)) then (some true) else (bif (a0 == ([111, 117, 116] : List Int)) then (some true) else (bif (a0 == ([105, 110] : List Int)) then (some true) else (bif (a0 == ([97, 104, 101, 97, 100] : List Int)) then (some true) else (bif (a0 == ([98, 97, 99, 107] : List Int)) then (some true) else (bif (a0 == ([119, 101, 105, 103, 104, 116, 115] : List Int)) then (some true) else (Jj33 a0)))))))
set_option maxRecDepth 100000 in
theorem f13_Aj26  (Jj16 : St → Option (Bool)) (Jj26 : St → Option (Bool)) (Jj33 : St → Option (Bool)) (a0 : List Int) : evAtJ f13C [(16, Jj16), (26, Jj26), (33, Jj33)] [] (bodyOf Tryd.f13) [.r, .l, .r, .b, .l, .b, .b, .b, .b, .l, .r, .r] (retK f13C Tryd.f13.results f13o) (f13_s26 a0) = f13_tj26  (fun a0 => Jj33 (f13_s33 a0)) a0 := by
  kernel_rfl
set_option maxRecDepth 100000 in
theorem f13_ej26 (k : Nat)   (a0 : List Int) : f13_j26 k   a0 = f13_tj26  (f13_j33 k  ) a0 := by
  have h0 : f13_j26 k   a0 = evAt f13C k (bodyOf Tryd.f13) [.r, .l, .r, .b, .l, .b, .b, .b, .b, .l, .r, .r] [] (retK f13C Tryd.f13.results f13o) (f13_s26 a0) := by kernel_rfl
  have h1 : keep [16, 26, 33] (jt f13C k (bodyOf Tryd.f13) [.r, .l, .r, .b, .l, .b, .b, .b, .b, .l, .r, .r] [] (retK f13C Tryd.f13.results f13o)) = [(16, (fun s => evAt f13C k (bodyOf Tryd.f13) [.r, .l, .r, .b, .l, .b, .b, .b, .b, .l, .r] [] (retK f13C Tryd.f13.results f13o) s)), (26, (fun s => evAt f13C k (bodyOf Tryd.f13) [.r, .l, .r, .b, .l, .b, .b, .b, .b, .l, .r, .r] [] (retK f13C Tryd.f13.results f13o) s)), (33, (fun s => evAt f13C k (bodyOf Tryd.f13) [.r, .l, .r, .b, .l, .b, .b, .b, .b, .l, .r, .r, .r] [] (retK f13C Tryd.f13.results f13o) s))] := by kernel_rfl
  have h2 : keep [] (lt f13C k (bodyOf Tryd.f13) [.r, .l, .r, .b, .l, .b, .b, .b, .b, .l, .r, .r] [] (retK f13C Tryd.f13.results f13o)) = [] := by kernel_rfl
  exact h0.trans ((evAt_cut _ [16, 26, 33] [] (by kernel_rfl) h1 h2 (by kernel_rfl) (by kernel_rfl) (by kernel_rfl)).trans (f13_Aj26  (fun s => evAt f13C k (bodyOf Tryd.f13) [.r, .l, .r, .b, .l, .b, .b, .b, .b, .l, .r] [] (retK f13C Tryd.f13.results f13o) s) (fun s => evAt f13C k (bodyOf Tryd.f13) [.r, .l, .r, .b, .l, .b, .b, .b, .b, .l, .r, .r] [] (retK f13C Tryd.f13.results f13o) s) (fun s => evAt f13C k (bodyOf Tryd.f13) [.r, .l, .r, .b, .l, .b, .b, .b, .b, .l, .r, .r, .r] [] (retK f13C Tryd.f13.results f13o) s) a0))
def f13_tj33   (a0 : List Int) : Option (Bool) :=
  bif (a0 == ([112, 108, 97, 110] : List Int)) then (some true) else (bif (a0 == ([111, 102, 102, 115, 101, 116] : List Int)) then (some true) else (bif (a0 == ([115, 117, 109] : List Int)) then (some true) else (bif (a0 == ([115, 112, 108, 105, 116] : List Int)) then (some true) else (bif (a0 == ([121, 101, 108, 108, 111, 119] : List Int)) then (some true) else (bif (a0 == ([114, 101, 100] : List Int)) then (some true) else (bif (a0 == ([102, 108, 97, 115, 104] : List Int)) then (some true) else (bif (a0 == ([98, 101, 115, 116] : List Int)) then (some true) else (bif (a0 == ([121, 101, 115] : List Int)) then (some true) else (bif (a0 == ([110, 111] : List Int)) then (some true) else (bif (a0 == ([115, 112, 101, 110, 116] : List Int)) then (some true) else (some false)))))))))))
set_option maxRecDepth 100000 in
theorem f13_Aj33  (Jj16 : St → Option (Bool)) (Jj26 : St → Option (Bool)) (Jj33 : St → Option (Bool)) (a0 : List Int) : evAtJ f13C [(16, Jj16), (26, Jj26), (33, Jj33)] [] (bodyOf Tryd.f13) [.r, .l, .r, .b, .l, .b, .b, .b, .b, .l, .r, .r, .r] (retK f13C Tryd.f13.results f13o) (f13_s33 a0) = f13_tj33   a0 := by
  kernel_rfl
set_option maxRecDepth 100000 in
theorem f13_ej33 (k : Nat)   (a0 : List Int) : f13_j33 k   a0 = f13_tj33   a0 := by
  have h0 : f13_j33 k   a0 = evAt f13C k (bodyOf Tryd.f13) [.r, .l, .r, .b, .l, .b, .b, .b, .b, .l, .r, .r, .r] [] (retK f13C Tryd.f13.results f13o) (f13_s33 a0) := by kernel_rfl
  have h1 : keep [16, 26, 33] (jt f13C k (bodyOf Tryd.f13) [.r, .l, .r, .b, .l, .b, .b, .b, .b, .l, .r, .r, .r] [] (retK f13C Tryd.f13.results f13o)) = [(16, (fun s => evAt f13C k (bodyOf Tryd.f13) [.r, .l, .r, .b, .l, .b, .b, .b, .b, .l, .r] [] (retK f13C Tryd.f13.results f13o) s)), (26, (fun s => evAt f13C k (bodyOf Tryd.f13) [.r, .l, .r, .b, .l, .b, .b, .b, .b, .l, .r, .r] [] (retK f13C Tryd.f13.results f13o) s)), (33, (fun s => evAt f13C k (bodyOf Tryd.f13) [.r, .l, .r, .b, .l, .b, .b, .b, .b, .l, .r, .r, .r] [] (retK f13C Tryd.f13.results f13o) s))] := by kernel_rfl
  have h2 : keep [] (lt f13C k (bodyOf Tryd.f13) [.r, .l, .r, .b, .l, .b, .b, .b, .b, .l, .r, .r, .r] [] (retK f13C Tryd.f13.results f13o)) = [] := by kernel_rfl
  exact h0.trans ((evAt_cut _ [16, 26, 33] [] (by kernel_rfl) h1 h2 (by kernel_rfl) (by kernel_rfl) (by kernel_rfl)).trans (f13_Aj33  (fun s => evAt f13C k (bodyOf Tryd.f13) [.r, .l, .r, .b, .l, .b, .b, .b, .b, .l, .r] [] (retK f13C Tryd.f13.results f13o) s) (fun s => evAt f13C k (bodyOf Tryd.f13) [.r, .l, .r, .b, .l, .b, .b, .b, .b, .l, .r, .r] [] (retK f13C Tryd.f13.results f13o) s) (fun s => evAt f13C k (bodyOf Tryd.f13) [.r, .l, .r, .b, .l, .b, .b, .b, .b, .l, .r, .r, .r] [] (retK f13C Tryd.f13.results f13o) s) a0))
set_option maxRecDepth 100000 in
theorem f13_ok (k : Nat)   : SigOK Tryd.prog 13 ⟨f13i, f13o, mkFun f13i.tys f13o.tys (f13 k )⟩ :=
  fn_ok (C := f13C) (l := f13E ) rfl trivial (by kernel_rfl) k (fn := Tryd.f13) (by kernel_rfl) (by kernel_rfl) (by kernel_rfl) f13i f13o rfl rfl (show 0 ≤ 48 by decide) (show 0 ≤ 48 by decide)
noncomputable def c13 (k : Nat) : (List Int) → Option (Bool) := f13 k 
theorem c13_ok (k : Nat) : SigOK Tryd.prog 13 ⟨f13i, f13o, mkFun f13i.tys f13o.tys (c13 k)⟩ := f13_ok k  

/-! carrefour/carrefourlaw04.awake -/
def f9i : Sk := ⟨[], [], []⟩
def f9o : Sk := ⟨[.lf (.pv .bool)], [], []⟩
noncomputable def f9E (g8 : (List (Int)) → Option ((Int) × (Int) × (List ((Int) × ((List Int) × ((Int) × ((Int) × (Unit)))))))) (g16 : (List ((Int) × ((List Int) × ((Int) × ((Int) × (Unit)))))) → Option (List Int)) (g13 : (List Int) → Option (Bool)) : List (Nat × List Sig) := [(8, [⟨f8i, f8o, mkFun f8i.tys f8o.tys g8⟩]), (16, [⟨f16i, f16o, mkFun f16i.tys f16o.tys g16⟩]), (13, [⟨f13i, f13o, mkFun f13i.tys f13o.tys g13⟩])]
noncomputable def f9C (g8 : (List (Int)) → Option ((Int) × (Int) × (List ((Int) × ((List Int) × ((Int) × ((Int) × (Unit)))))))) (g16 : (List ((Int) × ((List Int) × ((Int) × ((Int) × (Unit)))))) → Option (List Int)) (g13 : (List Int) → Option (Bool)) : Cfg := { P := Tryd.prog, env := lookS (f9E g8 g16 g13), n := 92, npB := 0, npO := 0, hint := fun i => look none [] i, pops := [] }
def f9_s  : St := { enc f9i 92 [] with slots := encAs f9i.slots [] ++ List.replicate 44 .dead }
noncomputable def f9 (k : Nat) (g8 : (List (Int)) → Option ((Int) × (Int) × (List ((Int) × ((List Int) × ((Int) × ((Int) × (Unit)))))))) (g16 : (List ((Int) × ((List Int) × ((Int) × ((Int) × (Unit)))))) → Option (List Int)) (g13 : (List Int) → Option (Bool)) : (Unit) → Option (Bool) := fnOf (f9C g8 g16 g13) k Tryd.f9 f9i f9o
def f9_t (g8 : (List (Int)) → Option ((Int) × (Int) × (List ((Int) × ((List Int) × ((Int) × ((Int) × (Unit)))))))) (g16 : (List ((Int) × ((List Int) × ((Int) × ((Int) × (Unit)))))) → Option (List Int)) (g13 : (List Int) → Option (Bool))   : Option (Bool) :=
  bif (decide (0 < List.length ([(104 : Int), (101 : Int), (97 : Int), (100 : Int), (32 : Int), (110 : Int), (49 : Int), (32 : Int), (118 : Int), (111 : Int), (108 : Int), (117 : Int), (109 : Int), (101 : Int), (32 : Int), (52 : Int), (48 : Int), (59 : Int), (32 : Int), (35 : Int), (32 : Int), (115 : Int), (111 : Int)] : List (Int)))) then (g8 (([(104 : Int), (101 : Int), (97 : Int), (100 : Int), (32 : Int), (110 : Int), (49 : Int), (32 : Int), (118 : Int), (111 : Int), (108 : Int), (117 : Int), (109 : Int), (101 : Int), (32 : Int), (52 : Int), (48 : Int), (59 : Int), (32 : Int), (35 : Int), (32 : Int), (115 : Int), (111 : Int)] : List (Int)))).bind fun o1 => bif (o1.1 == (0 : Int)) then (bif (((List.length o1.2.2 : Nat) : Int) == (6 : Int)) then (bif (inB (1 : Int) (List.length o1.2.2)) then bif ((rdA ((0 : Int), ([], ((0 : Int), ((0 : Int), ())))) o1.2.2 (Int.toNat (1 : Int))).1 == (1 : Int)) then (bif (inB (3 : Int) (List.length o1.2.2)) then bif ((rdA ((0 : Int), ([], ((0 : Int), ((0 : Int), ())))) o1.2.2 (Int.toNat (3 : Int))).2.2.1 == (40 : Int)) then ((g16 (o1.2.2)).bind fun o2 => bif (o2 == ([104, 101, 97, 100, 32, 110, 49, 32, 118, 111, 108, 117, 109, 101, 32, 52, 48, 32, 59] : List Int)) then ((g13 (([104, 101, 97, 100] : List Int))).bind fun o3 => bif o3 then ((g13 (([110, 49] : List Int))).bind fun o4 => some (!o4)) else (some false)) else (some false)) else (some false) else none) else (some false) else none) else (some false)) else (some false) else none
set_option maxRecDepth 100000 in
theorem f9_A (g8 : (List (Int)) → Option ((Int) × (Int) × (List ((Int) × ((List Int) × ((Int) × ((Int) × (Unit)))))))) (g16 : (List ((Int) × ((List Int) × ((Int) × ((Int) × (Unit)))))) → Option (List Int)) (g13 : (List Int) → Option (Bool))   : evAtJ (f9C g8 g16 g13) [] [] (bodyOf Tryd.f9) [] (retK (f9C g8 g16 g13) Tryd.f9.results f9o) (f9_s ) = f9_t g8 g16 g13   := by
  kernel_rfl
set_option maxRecDepth 100000 in
theorem f9_e (k : Nat) (g8 : (List (Int)) → Option ((Int) × (Int) × (List ((Int) × ((List Int) × ((Int) × ((Int) × (Unit)))))))) (g16 : (List ((Int) × ((List Int) × ((Int) × ((Int) × (Unit)))))) → Option (List Int)) (g13 : (List Int) → Option (Bool))   : f9 k g8 g16 g13 () = f9_t g8 g16 g13   := by
  have h0 : f9 k g8 g16 g13 () = evAt (f9C g8 g16 g13) k (bodyOf Tryd.f9) [] [] (retK (f9C g8 g16 g13) Tryd.f9.results f9o) (f9_s ) := by kernel_rfl
  have h1 : keep [] (jt (f9C g8 g16 g13) k (bodyOf Tryd.f9) [] [] (retK (f9C g8 g16 g13) Tryd.f9.results f9o)) = [] := by kernel_rfl
  have h2 : keep [] (lt (f9C g8 g16 g13) k (bodyOf Tryd.f9) [] [] (retK (f9C g8 g16 g13) Tryd.f9.results f9o)) = [] := by kernel_rfl
  exact h0.trans ((evAt_cut _ [] [] (by kernel_rfl) h1 h2 (by kernel_rfl) (by kernel_rfl) (by kernel_rfl)).trans (f9_A g8 g16 g13  ))
set_option maxRecDepth 100000 in
theorem f9_ok (k : Nat) (g8 : (List (Int)) → Option ((Int) × (Int) × (List ((Int) × ((List Int) × ((Int) × ((Int) × (Unit)))))))) (g16 : (List ((Int) × ((List Int) × ((Int) × ((Int) × (Unit)))))) → Option (List Int)) (g13 : (List Int) → Option (Bool)) (hg8 : SigOK Tryd.prog 8 ⟨f8i, f8o, mkFun f8i.tys f8o.tys g8⟩) (hg16 : SigOK Tryd.prog 16 ⟨f16i, f16o, mkFun f16i.tys f16o.tys g16⟩) (hg13 : SigOK Tryd.prog 13 ⟨f13i, f13o, mkFun f13i.tys f13o.tys g13⟩) : SigOK Tryd.prog 9 ⟨f9i, f9o, mkFun f9i.tys f9o.tys (f9 k g8 g16 g13)⟩ :=
  fn_ok (C := (f9C g8 g16 g13)) (l := f9E g8 g16 g13) rfl ⟨⟨hg8, trivial⟩, ⟨hg16, trivial⟩, ⟨hg13, trivial⟩, trivial⟩ (by kernel_rfl) k (fn := Tryd.f9) (by kernel_rfl) (by kernel_rfl) (by kernel_rfl) f9i f9o rfl rfl (show 0 ≤ 48 by decide) (show 0 ≤ 48 by decide)
noncomputable def c9 (k : Nat) : (Unit) → Option (Bool) := f9 k (c8 k) (c16 k) (c13 k)
theorem c9_ok (k : Nat) : SigOK Tryd.prog 9 ⟨f9i, f9o, mkFun f9i.tys f9o.tys (c9 k)⟩ := f9_ok k (c8 k) (c16 k) (c13 k) (c8_ok k) (c16_ok k) (c13_ok k)

/-! carrefour/carrefourlaw04.LexCovers -/
def f3i : Sk := ⟨[.lf (.pv (.slice (.int .u8)))], [], []⟩
def f3o : Sk := ⟨[.lf (.pv .bool)], [], []⟩
def f3_k8 : Sk := ⟨sparse 126 [(0, .lf (.pv (.slice (.int .u8)))), (3, .lf (.own 0)), (6, .lf (.pv (.int .i64))), (7, .lf (.pv (.int .i64)))], [], [some (29, (.cons (.int .i64) (.cons .str (.cons (.int .i64) (.cons (.int .i64) .nil)))))]⟩
noncomputable def f3E (g8 : (List (Int)) → Option ((Int) × (Int) × (List ((Int) × ((List Int) × ((Int) × ((Int) × (Unit)))))))) (g9 : (Unit) → Option (Bool)) : List (Nat × List Sig) := [(8, [⟨f8i, f8o, mkFun f8i.tys f8o.tys g8⟩]), (9, [⟨f9i, f9o, mkFun f9i.tys f9o.tys g9⟩])]
noncomputable def f3C (g8 : (List (Int)) → Option ((Int) × (Int) × (List ((Int) × ((List Int) × ((Int) × ((Int) × (Unit)))))))) (g9 : (Unit) → Option (Bool)) : Cfg := { P := Tryd.prog, env := lookS (f3E g8 g9), n := 174, npB := 0, npO := 0, hint := fun i => look none [(8, some f3_k8)] i, pops := [] }
def f3_s (a0 : List (Int)) : St := { enc f3i 174 [⟨(.slice (.int .u8)), a0⟩] with slots := encAs f3i.slots [⟨(.slice (.int .u8)), a0⟩] ++ List.replicate 125 .dead }
def f3_s8 (a0 : List (Int)) (a1 : Int) (a2 : Int) (a3 : List ((Int) × ((List Int) × ((Int) × ((Int) × (Unit)))))) : St := enc f3_k8 174 [⟨(.slice (.int .u8)), a0⟩, ⟨(.int .i64), a1⟩, ⟨(.int .i64), a2⟩, ⟨(.slice (.cons (.int .i64) (.cons .str (.cons (.int .i64) (.cons (.int .i64) .nil))))), a3⟩]
noncomputable def f3 (k : Nat) (g8 : (List (Int)) → Option ((Int) × (Int) × (List ((Int) × ((List Int) × ((Int) × ((Int) × (Unit)))))))) (g9 : (Unit) → Option (Bool)) : (List (Int)) → Option (Bool) := fnOf (f3C g8 g9) k Tryd.f3 f3i f3o
noncomputable def f3_l8 (k : Nat) (g8 : (List (Int)) → Option ((Int) × (Int) × (List ((Int) × ((List Int) × ((Int) × ((Int) × (Unit)))))))) (g9 : (Unit) → Option (Bool)) (j8 : Nat) (a0 : List (Int)) (a1 : Int) (a2 : Int) (a3 : List ((Int) × ((List Int) × ((Int) × ((Int) × (Unit)))))) : Option (Bool) := loopAt (f3C g8 g9) k (bodyOf Tryd.f3) [.r, .r, .r, .r, .r, .l, .r, .b] [] j8 (retK (f3C g8 g9) Tryd.f3.results f3o) (f3_s8 a0 a1 a2 a3)
def f3_t (g8 : (List (Int)) → Option ((Int) × (Int) × (List ((Int) × ((List Int) × ((Int) × ((Int) × (Unit)))))))) (g9 : (Unit) → Option (Bool)) (Jl8 : (List (Int)) → Int → Int → (List ((Int) × ((List Int) × ((Int) × ((Int) × (Unit)))))) → Option (Bool)) (a0 : List (Int)) : Option (Bool) :=
  bif (decide (((List.length a0 : Nat) : Int) > (5000 : Int))) then (some true) else ((g8 (a0)).bind fun o1 => bif (o1.1 != (0 : Int)) then (bif (decide (o1.2.1 ≥ (0 : Int))) then (bif (decide (o1.2.1 ≤ ((List.length a0 : Nat) : Int))) then (bif (((List.length o1.2.2 : Nat) : Int) == (0 : Int)) then ((g9 (())).bind fun o2 => some o2) else (some false)) else (some false)) else (some false)) else (Jl8 a0 (0 : Int) (0 : Int) (o1.2.2)))
set_option maxRecDepth 100000 in
theorem f3_A (g8 : (List (Int)) → Option ((Int) × (Int) × (List ((Int) × ((List Int) × ((Int) × ((Int) × (Unit)))))))) (g9 : (Unit) → Option (Bool)) (Jl8 : St → Option (Bool)) (a0 : List (Int)) : evAtJ (f3C g8 g9) [] [(8, Jl8)] (bodyOf Tryd.f3) [] (retK (f3C g8 g9) Tryd.f3.results f3o) (f3_s a0) = f3_t g8 g9 (fun a0 a1 a2 a3 => Jl8 (f3_s8 a0 a1 a2 a3)) a0 := by
  kernel_rfl
set_option maxRecDepth 100000 in
theorem f3_e (k : Nat) (g8 : (List (Int)) → Option ((Int) × (Int) × (List ((Int) × ((List Int) × ((Int) × ((Int) × (Unit)))))))) (g9 : (Unit) → Option (Bool))  (a0 : List (Int)) : f3 k g8 g9 (a0) = f3_t g8 g9 (f3_l8 k g8 g9  k) a0 := by
  have h0 : f3 k g8 g9 (a0) = evAt (f3C g8 g9) k (bodyOf Tryd.f3) [] [] (retK (f3C g8 g9) Tryd.f3.results f3o) (f3_s a0) := by kernel_rfl
  have h1 : keep [] (jt (f3C g8 g9) k (bodyOf Tryd.f3) [] [] (retK (f3C g8 g9) Tryd.f3.results f3o)) = [] := by kernel_rfl
  have h2 : keep [8] (lt (f3C g8 g9) k (bodyOf Tryd.f3) [] [] (retK (f3C g8 g9) Tryd.f3.results f3o)) = [(8, (fun s => loopAt (f3C g8 g9) k (bodyOf Tryd.f3) [.r, .r, .r, .r, .r, .l, .r, .b] [] k (retK (f3C g8 g9) Tryd.f3.results f3o) s))] := by kernel_rfl
  exact h0.trans ((evAt_cut _ [] [8] (by kernel_rfl) h1 h2 (by kernel_rfl) (by kernel_rfl) (by kernel_rfl)).trans (f3_A g8 g9 (fun s => loopAt (f3C g8 g9) k (bodyOf Tryd.f3) [.r, .r, .r, .r, .r, .l, .r, .b] [] k (retK (f3C g8 g9) Tryd.f3.results f3o) s) a0))
def f3_tl8 (g8 : (List (Int)) → Option ((Int) × (Int) × (List ((Int) × ((List Int) × ((Int) × ((Int) × (Unit)))))))) (g9 : (Unit) → Option (Bool)) (Jl8 : (List (Int)) → Int → Int → (List ((Int) × ((List Int) × ((Int) × ((Int) × (Unit)))))) → Option (Bool)) (a0 : List (Int)) (a1 : Int) (a2 : Int) (a3 : List ((Int) × ((List Int) × ((Int) × ((Int) × (Unit)))))) : Option (Bool) :=
  bif (decide (a2 < ((List.length a3 : Nat) : Int))) then (bif (inB a2 (List.length a3)) then bif (decide ((rdA ((0 : Int), ([], ((0 : Int), ((0 : Int), ())))) a3 (Int.toNat a2)).2.2.2.1 < a1)) then (some false) else (bif (decide ((rdA ((0 : Int), ([], ((0 : Int), ((0 : Int), ())))) a3 (Int.toNat a2)).2.2.2.1 > (IntKind.wrap .i64 (((List.length a0 : Nat) : Int) - ((List.length (rdA ((0 : Int), ([], ((0 : Int), ((0 : Int), ())))) a3 (Int.toNat a2)).2.1 : Nat) : Int))))) then (some false) else (bif (cutB (rdA ((0 : Int), ([], ((0 : Int), ((0 : Int), ())))) a3 (Int.toNat a2)).2.2.2.1 (IntKind.wrap .i64 ((rdA ((0 : Int), ([], ((0 : Int), ((0 : Int), ())))) a3 (Int.toNat a2)).2.2.2.1 + ((List.length (rdA ((0 : Int), ([], ((0 : Int), ((0 : Int), ())))) a3 (Int.toNat a2)).2.1 : Nat) : Int))) (List.length a0)) then bif (!((cutL a0 (rdA ((0 : Int), ([], ((0 : Int), ((0 : Int), ())))) a3 (Int.toNat a2)).2.2.2.1 (IntKind.wrap .i64 ((rdA ((0 : Int), ([], ((0 : Int), ((0 : Int), ())))) a3 (Int.toNat a2)).2.2.2.1 + ((List.length (rdA ((0 : Int), ([], ((0 : Int), ((0 : Int), ())))) a3 (Int.toNat a2)).2.1 : Nat) : Int)))) == (rdA ((0 : Int), ([], ((0 : Int), ((0 : Int), ())))) a3 (Int.toNat a2)).2.1)) then (some false) else (bif (!(((rdA ((0 : Int), ([], ((0 : Int), ((0 : Int), ())))) a3 (Int.toNat a2)).1 == (0 : Int)) == (a2 == (IntKind.wrap .i64 (((List.length a3 : Nat) : Int) - (1 : Int)))))) then (some false) else (bif (cutB a1 (rdA ((0 : Int), ([], ((0 : Int), ((0 : Int), ())))) a3 (Int.toNat a2)).2.2.2.1 (List.length a0)) then (g8 ((cutL a0 a1 (rdA ((0 : Int), ([], ((0 : Int), ((0 : Int), ())))) a3 (Int.toNat a2)).2.2.2.1))).bind fun o1 => bif (o1.1 != (0 : Int)) then (some false) else (bif (((List.length o1.2.2 : Nat) : Int) != (1 : Int)) then (some false) else (Jl8 a0 (IntKind.wrap .i64 ((rdA ((0 : Int), ([], ((0 : Int), ((0 : Int), ())))) a3 (Int.toNat a2)).2.2.2.1 + ((List.length (rdA ((0 : Int), ([], ((0 : Int), ((0 : Int), ())))) a3 (Int.toNat a2)).2.1 : Nat) : Int))) (IntKind.wrap .i64 (a2 + (1 : Int))) a3)) else none)) else none)) else none) else (bif (decide (((List.length a3 : Nat) : Int) > (0 : Int))) then (bif (a1 == ((List.length a0 : Nat) : Int)) then ((g9 (())).bind fun o2 => some o2) else (some false)) else (some false))
set_option maxRecDepth 100000 in
theorem f3_Al8 (g8 : (List (Int)) → Option ((Int) × (Int) × (List ((Int) × ((List Int) × ((Int) × ((Int) × (Unit)))))))) (g9 : (Unit) → Option (Bool)) (Jl8 : St → Option (Bool)) (a0 : List (Int)) (a1 : Int) (a2 : Int) (a3 : List ((Int) × ((List Int) × ((Int) × ((Int) × (Unit)))))) : evAtJ (f3C g8 g9) [] [(8, Jl8)] (bodyOf Tryd.f3) [.r, .r, .r, .r, .r, .l, .r, .b, .b] (retK (f3C g8 g9) Tryd.f3.results f3o) (f3_s8 a0 a1 a2 a3) = f3_tl8 g8 g9 (fun a0 a1 a2 a3 => Jl8 (f3_s8 a0 a1 a2 a3)) a0 a1 a2 a3 := by
  kernel_rfl
set_option maxRecDepth 100000 in
theorem f3_el8 (k : Nat) (g8 : (List (Int)) → Option ((Int) × (Int) × (List ((Int) × ((List Int) × ((Int) × ((Int) × (Unit)))))))) (g9 : (Unit) → Option (Bool)) (j8 : Nat) (a0 : List (Int)) (a1 : Int) (a2 : Int) (a3 : List ((Int) × ((List Int) × ((Int) × ((Int) × (Unit)))))) : f3_l8 k g8 g9 (j8 + 1) a0 a1 a2 a3 = f3_tl8 g8 g9 (f3_l8 k g8 g9  j8) a0 a1 a2 a3 := by
  have h0 : f3_l8 k g8 g9 (j8 + 1) a0 a1 a2 a3 = evAt (f3C g8 g9) k (bodyOf Tryd.f3) [.r, .r, .r, .r, .r, .l, .r, .b, .b] [j8] (retK (f3C g8 g9) Tryd.f3.results f3o) (f3_s8 a0 a1 a2 a3) := by kernel_rfl
  have h1 : keep [] (jt (f3C g8 g9) k (bodyOf Tryd.f3) [.r, .r, .r, .r, .r, .l, .r, .b, .b] [j8] (retK (f3C g8 g9) Tryd.f3.results f3o)) = [] := by kernel_rfl
  have h2 : keep [8] (lt (f3C g8 g9) k (bodyOf Tryd.f3) [.r, .r, .r, .r, .r, .l, .r, .b, .b] [j8] (retK (f3C g8 g9) Tryd.f3.results f3o)) = [(8, (fun s => loopAt (f3C g8 g9) k (bodyOf Tryd.f3) [.r, .r, .r, .r, .r, .l, .r, .b] [] j8 (retK (f3C g8 g9) Tryd.f3.results f3o) s))] := by kernel_rfl
  exact h0.trans ((evAt_cut _ [] [8] (by kernel_rfl) h1 h2 (by kernel_rfl) (by kernel_rfl) (by kernel_rfl)).trans (f3_Al8 g8 g9 (fun s => loopAt (f3C g8 g9) k (bodyOf Tryd.f3) [.r, .r, .r, .r, .r, .l, .r, .b] [] j8 (retK (f3C g8 g9) Tryd.f3.results f3o) s) a0 a1 a2 a3))
set_option maxRecDepth 100000 in
theorem f3_ok (k : Nat) (g8 : (List (Int)) → Option ((Int) × (Int) × (List ((Int) × ((List Int) × ((Int) × ((Int) × (Unit)))))))) (g9 : (Unit) → Option (Bool)) (hg8 : SigOK Tryd.prog 8 ⟨f8i, f8o, mkFun f8i.tys f8o.tys g8⟩) (hg9 : SigOK Tryd.prog 9 ⟨f9i, f9o, mkFun f9i.tys f9o.tys g9⟩) : SigOK Tryd.prog 3 ⟨f3i, f3o, mkFun f3i.tys f3o.tys (f3 k g8 g9)⟩ :=
  fn_ok (C := (f3C g8 g9)) (l := f3E g8 g9) rfl ⟨⟨hg8, trivial⟩, ⟨hg9, trivial⟩, trivial⟩ (by kernel_rfl) k (fn := Tryd.f3) (by kernel_rfl) (by kernel_rfl) (by kernel_rfl) f3i f3o rfl rfl (show 0 ≤ 48 by decide) (show 0 ≤ 48 by decide)
noncomputable def c3 (k : Nat) : (List (Int)) → Option (Bool) := f3 k (c8 k) (c9 k)
theorem c3_ok (k : Nat) : SigOK Tryd.prog 3 ⟨f3i, f3o, mkFun f3i.tys f3o.tys (c3 k)⟩ := f3_ok k (c8 k) (c9 k) (c8_ok k) (c9_ok k)

end Go.Proofs.YtjbijifjlmmnpaaDoorV
