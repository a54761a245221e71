import Derived.Test.YtghmhkpgdmgepaaD1
set_option linter.unusedVariables false
namespace Go.Proofs.YtghmhkpgdmgepaaV
open Go Go.RowKit

/-! carrefour/carrefourref36.bad -/
def f15i : Sk := ⟨[.lf (.pv (.slice (.int .i64)))], [], []⟩
def f15o : Sk := ⟨[.lf (.pv .bool)], [], []⟩
def f15_k2 : Sk := ⟨sparse 15 [(0, .lf (.pv (.slice (.int .i64)))), (3, .lf (.pv (.int .i64)))], [], []⟩
noncomputable def f15E  : List (Nat × List Sig) := []
noncomputable def f15C  : Cfg := { P := Try.prog, env := lookS (f15E ), n := 63, npB := 0, npO := 0, hint := fun i => look none [(2, some f15_k2)] i, pops := [] }
def f15_s (a0 : List (Int)) : St := { enc f15i 63 [⟨(.slice (.int .i64)), a0⟩] with slots := encAs f15i.slots [⟨(.slice (.int .i64)), a0⟩] ++ List.replicate 14 .dead }
def f15_s2 (a0 : List (Int)) (a1 : Int) : St := enc f15_k2 63 [⟨(.slice (.int .i64)), a0⟩, ⟨(.int .i64), a1⟩]
noncomputable def f15 (k : Nat)  : (List (Int)) → Option (Bool) := fnOf f15C k Try.f15 f15i f15o
noncomputable def f15_l2 (k : Nat)  (j2 : Nat) (a0 : List (Int)) (a1 : Int) : Option (Bool) := loopAt f15C k (bodyOf Try.f15) [.r, .l, .r, .b] [] j2 (retK f15C Try.f15.results f15o) (f15_s2 a0 a1)
def f15_t  (Jl2 : (List (Int)) → Int → Option (Bool)) (a0 : List (Int)) : Option (Bool) :=
  Jl2 a0 (0 : Int)
set_option maxHeartbeats 4000000 in
set_option maxRecDepth 100000 in
theorem f15_A  (Jl2 : St → Option (Bool)) (a0 : List (Int)) : evAtJ f15C [] [(2, Jl2)] (bodyOf Try.f15) [] (retK f15C Try.f15.results f15o) (f15_s a0) = f15_t  (fun a0 a1 => Jl2 (f15_s2 a0 a1)) a0 := by
  kernel_rfl
set_option maxHeartbeats 4000000 in
set_option maxRecDepth 100000 in
theorem f15_e (k : Nat)   (a0 : List (Int)) : f15 k  (a0) = f15_t  (f15_l2 k   k) a0 := by
  have h0 : f15 k  (a0) = evAt f15C k (bodyOf Try.f15) [] [] (retK f15C Try.f15.results f15o) (f15_s a0) := by kernel_rfl
  have h1 : keep [] (jt f15C k (bodyOf Try.f15) [] [] (retK f15C Try.f15.results f15o)) = [] := by kernel_rfl
  have h2 : keep [2] (lt f15C k (bodyOf Try.f15) [] [] (retK f15C Try.f15.results f15o)) = [(2, (fun s => loopAt f15C k (bodyOf Try.f15) [.r, .l, .r, .b] [] k (retK f15C Try.f15.results f15o) s))] := by kernel_rfl
  have h3 := evAt_cut (f15_s a0) [] [2] (by kernel_rfl) h1 h2 (by kernel_rfl) (by kernel_rfl) (by kernel_rfl)
  have h4 := f15_A  (fun s => loopAt f15C k (bodyOf Try.f15) [.r, .l, .r, .b] [] k (retK f15C Try.f15.results f15o) s) a0
  exact h0.trans (h3.trans (h4.trans (by kernel_rfl)))
def f15_tl2  (Jl2 : (List (Int)) → Int → Option (Bool)) (a0 : List (Int)) (a1 : Int) : Option (Bool) :=
  bif (decide (a1 < ((List.length a0 : Nat) : Int))) then (bif (inB a1 (List.length a0)) then bif (decide ((rdI a0 (Int.toNat a1)) < (0 : Int))) then (some true) else (Jl2 a0 (IntKind.wrap .i64 (a1 + (1 : Int)))) else none) else (some false)
set_option maxHeartbeats 4000000 in
set_option maxRecDepth 100000 in
theorem f15_Al2  (Jl2 : St → Option (Bool)) (a0 : List (Int)) (a1 : Int) : evAtJ f15C [] [(2, Jl2)] (bodyOf Try.f15) [.r, .l, .r, .b, .b] (retK f15C Try.f15.results f15o) (f15_s2 a0 a1) = f15_tl2  (fun a0 a1 => Jl2 (f15_s2 a0 a1)) a0 a1 := by
  kernel_rfl
set_option maxHeartbeats 4000000 in
set_option maxRecDepth 100000 in
theorem f15_el2 (k : Nat)  (j2 : Nat) (a0 : List (Int)) (a1 : Int) : f15_l2 k  (j2 + 1) a0 a1 = f15_tl2  (f15_l2 k   j2) a0 a1 := by
  have h0 : f15_l2 k  (j2 + 1) a0 a1 = evAt f15C k (bodyOf Try.f15) [.r, .l, .r, .b, .b] [j2] (retK f15C Try.f15.results f15o) (f15_s2 a0 a1) := by kernel_rfl
  have h1 : keep [] (jt f15C k (bodyOf Try.f15) [.r, .l, .r, .b, .b] [j2] (retK f15C Try.f15.results f15o)) = [] := by kernel_rfl
  have h2 : keep [2] (lt f15C k (bodyOf Try.f15) [.r, .l, .r, .b, .b] [j2] (retK f15C Try.f15.results f15o)) = [(2, (fun s => loopAt f15C k (bodyOf Try.f15) [.r, .l, .r, .b] [] j2 (retK f15C Try.f15.results f15o) s))] := by kernel_rfl
  have h3 := evAt_cut (f15_s2 a0 a1) [] [2] (by kernel_rfl) h1 h2 (by kernel_rfl) (by kernel_rfl) (by kernel_rfl)
  have h4 := f15_Al2  (fun s => loopAt f15C k (bodyOf Try.f15) [.r, .l, .r, .b] [] j2 (retK f15C Try.f15.results f15o) s) a0 a1
  exact h0.trans (h3.trans (h4.trans (by kernel_rfl)))
set_option maxHeartbeats 4000000 in
set_option maxRecDepth 100000 in
theorem f15_ok (k : Nat)   : SigOK Try.prog 15 ⟨f15i, f15o, mkFun f15i.tys f15o.tys (f15 k )⟩ :=
  fn_ok (C := f15C) (l := f15E ) rfl trivial (by kernel_rfl) k (fn := Try.f15) (by kernel_rfl) (by kernel_rfl) (by kernel_rfl) f15i f15o rfl rfl (show 0 ≤ 48 by decide) (show 0 ≤ 48 by decide)
noncomputable def c15 (k : Nat) : (List (Int)) → Option (Bool) := f15 k 
theorem c15_ok (k : Nat) : SigOK Try.prog 15 ⟨f15i, f15o, mkFun f15i.tys f15o.tys (c15 k)⟩ := f15_ok k  

/-! carrefour/carrefourref36.num -/
def f16i : Sk := ⟨[.lf (.pv (.int .i64))], [], []⟩
def f16o : Sk := ⟨[.lf (.own 0)], [], [some (5, (.int .u8))]⟩
def f16_k2 : Sk := ⟨sparse 20 [(0, .lf (.pv (.int .i64))), (3, .lf (.own 0))], [], [some (5, (.int .u8))]⟩
noncomputable def f16E  : List (Nat × List Sig) := []
noncomputable def f16C  : Cfg := { P := Try.prog, env := lookS (f16E ), n := 68, npB := 0, npO := 0, hint := fun i => look none [(2, some f16_k2)] i, pops := [] }
def f16_s (a0 : Int) : St := { enc f16i 68 [⟨(.int .i64), a0⟩] with slots := encAs f16i.slots [⟨(.int .i64), a0⟩] ++ List.replicate 19 .dead }
def f16_s2 (a0 : Int) (a1 : List (Int)) : St := enc f16_k2 68 [⟨(.int .i64), a0⟩, ⟨(.slice (.int .u8)), a1⟩]
noncomputable def f16 (k : Nat)  : (Int) → Option (List (Int)) := fnOf f16C k Try.f16 f16i f16o
noncomputable def f16_l2 (k : Nat)  (j2 : Nat) (a0 : Int) (a1 : List (Int)) : Option (List (Int)) := loopAt f16C k (bodyOf Try.f16) [.r, .r, .l, .b] [] j2 (retK f16C Try.f16.results f16o) (f16_s2 a0 a1)
def f16_t  (Jl2 : Int → (List (Int)) → Option (List (Int))) (a0 : Int) : Option (List (Int)) :=
  Jl2 a0 ([])
set_option maxHeartbeats 4000000 in
set_option maxRecDepth 100000 in
theorem f16_A  (Jl2 : St → Option (List (Int))) (a0 : Int) : evAtJ f16C [] [(2, Jl2)] (bodyOf Try.f16) [] (retK f16C Try.f16.results f16o) (f16_s a0) = f16_t  (fun a0 a1 => Jl2 (f16_s2 a0 a1)) a0 := by
  kernel_rfl
set_option maxHeartbeats 4000000 in
set_option maxRecDepth 100000 in
theorem f16_e (k : Nat)   (a0 : Int) : f16 k  (a0) = f16_t  (f16_l2 k   k) a0 := by
  have h0 : f16 k  (a0) = evAt f16C k (bodyOf Try.f16) [] [] (retK f16C Try.f16.results f16o) (f16_s a0) := by kernel_rfl
  have h1 : keep [] (jt f16C k (bodyOf Try.f16) [] [] (retK f16C Try.f16.results f16o)) = [] := by kernel_rfl
  have h2 : keep [2] (lt f16C k (bodyOf Try.f16) [] [] (retK f16C Try.f16.results f16o)) = [(2, (fun s => loopAt f16C k (bodyOf Try.f16) [.r, .r, .l, .b] [] k (retK f16C Try.f16.results f16o) s))] := by kernel_rfl
  have h3 := evAt_cut (f16_s a0) [] [2] (by kernel_rfl) h1 h2 (by kernel_rfl) (by kernel_rfl) (by kernel_rfl)
  have h4 := f16_A  (fun s => loopAt f16C k (bodyOf Try.f16) [.r, .r, .l, .b] [] k (retK f16C Try.f16.results f16o) s) a0
  exact h0.trans (h3.trans (h4.trans (by kernel_rfl)))
def f16_tl2  (Jl2 : Int → (List (Int)) → Option (List (Int))) (a0 : Int) (a1 : List (Int)) : Option (List (Int)) :=
  bif (decide (a0 ≥ (128 : Int))) then (bif (appB 1 (List.length a1) (List.length ([(IntKind.wrap .u8 (IntKind.wrap .i64 ((128 : Int) + (Int.tmod a0 (128 : Int)))))] : List (Int)))) then Jl2 (IntKind.wrap .i64 (Int.tdiv a0 (128 : Int))) (a1 ++ ([(IntKind.wrap .u8 (IntKind.wrap .i64 ((128 : Int) + (Int.tmod a0 (128 : Int)))))] : List (Int))) else none) else (bif (appB 1 (List.length a1) (List.length ([(IntKind.wrap .u8 a0)] : List (Int)))) then some (a1 ++ ([(IntKind.wrap .u8 a0)] : List (Int))) else none)
set_option maxHeartbeats 4000000 in
set_option maxRecDepth 100000 in
theorem f16_Al2  (Jl2 : St → Option (List (Int))) (a0 : Int) (a1 : List (Int)) : evAtJ f16C [] [(2, Jl2)] (bodyOf Try.f16) [.r, .r, .l, .b, .b] (retK f16C Try.f16.results f16o) (f16_s2 a0 a1) = f16_tl2  (fun a0 a1 => Jl2 (f16_s2 a0 a1)) a0 a1 := by
  kernel_rfl
set_option maxHeartbeats 4000000 in
set_option maxRecDepth 100000 in
theorem f16_el2 (k : Nat)  (j2 : Nat) (a0 : Int) (a1 : List (Int)) : f16_l2 k  (j2 + 1) a0 a1 = f16_tl2  (f16_l2 k   j2) a0 a1 := by
  have h0 : f16_l2 k  (j2 + 1) a0 a1 = evAt f16C k (bodyOf Try.f16) [.r, .r, .l, .b, .b] [j2] (retK f16C Try.f16.results f16o) (f16_s2 a0 a1) := by kernel_rfl
  have h1 : keep [] (jt f16C k (bodyOf Try.f16) [.r, .r, .l, .b, .b] [j2] (retK f16C Try.f16.results f16o)) = [] := by kernel_rfl
  have h2 : keep [2] (lt f16C k (bodyOf Try.f16) [.r, .r, .l, .b, .b] [j2] (retK f16C Try.f16.results f16o)) = [(2, (fun s => loopAt f16C k (bodyOf Try.f16) [.r, .r, .l, .b] [] j2 (retK f16C Try.f16.results f16o) s))] := by kernel_rfl
  have h3 := evAt_cut (f16_s2 a0 a1) [] [2] (by kernel_rfl) h1 h2 (by kernel_rfl) (by kernel_rfl) (by kernel_rfl)
  have h4 := f16_Al2  (fun s => loopAt f16C k (bodyOf Try.f16) [.r, .r, .l, .b] [] j2 (retK f16C Try.f16.results f16o) s) a0 a1
  exact h0.trans (h3.trans (h4.trans (by kernel_rfl)))
set_option maxHeartbeats 4000000 in
set_option maxRecDepth 100000 in
theorem f16_ok (k : Nat)   : SigOK Try.prog 16 ⟨f16i, f16o, mkFun f16i.tys f16o.tys (f16 k )⟩ :=
  fn_ok (C := f16C) (l := f16E ) rfl trivial (by kernel_rfl) k (fn := Try.f16) (by kernel_rfl) (by kernel_rfl) (by kernel_rfl) f16i f16o rfl rfl (show 0 ≤ 48 by decide) (show 0 ≤ 48 by decide)
noncomputable def c16 (k : Nat) : (Int) → Option (List (Int)) := f16 k 
theorem c16_ok (k : Nat) : SigOK Try.prog 16 ⟨f16i, f16o, mkFun f16i.tys f16o.tys (c16 k)⟩ := f16_ok k  

/-! carrefour/carrefourref36.name -/
def f24i : Sk := ⟨[.lf (.pv .str)], [], []⟩
def f24o : Sk := ⟨[.lf (.own 0)], [], [some (5, (.int .u8))]⟩
noncomputable def f24E (g16 : (Int) → Option (List (Int))) : List (Nat × List Sig) := [(16, [⟨f16i, f16o, mkFun f16i.tys f16o.tys g16⟩])]
noncomputable def f24C (g16 : (Int) → Option (List (Int))) : Cfg := { P := Try.prog, env := lookS (f24E g16), n := 57, npB := 0, npO := 0, hint := fun i => look none [] i, pops := [] }
def f24_s (a0 : List Int) : St := { enc f24i 57 [⟨.str, a0⟩] with slots := encAs f24i.slots [⟨.str, a0⟩] ++ List.replicate 8 .dead }
noncomputable def f24 (k : Nat) (g16 : (Int) → Option (List (Int))) : (List Int) → Option (List (Int)) := fnOf (f24C g16) k Try.f24 f24i f24o
def f24_t (g16 : (Int) → Option (List (Int)))  (a0 : List Int) : Option (List (Int)) :=
  (g16 (((List.length a0 : Nat) : Int))).bind fun o1 => bif (appB 1 (List.length o1) (List.length a0)) then some (o1 ++ a0) else none
set_option maxHeartbeats 4000000 in
set_option maxRecDepth 100000 in
theorem f24_A (g16 : (Int) → Option (List (Int)))  (a0 : List Int) : evAtJ (f24C g16) [] [] (bodyOf Try.f24) [] (retK (f24C g16) Try.f24.results f24o) (f24_s a0) = f24_t g16  a0 := by
  kernel_rfl
set_option maxHeartbeats 4000000 in
set_option maxRecDepth 100000 in
theorem f24_e (k : Nat) (g16 : (Int) → Option (List (Int)))  (a0 : List Int) : f24 k g16 (a0) = f24_t g16  a0 := by
  have h0 : f24 k g16 (a0) = evAt (f24C g16) k (bodyOf Try.f24) [] [] (retK (f24C g16) Try.f24.results f24o) (f24_s a0) := by kernel_rfl
  have h1 : keep [] (jt (f24C g16) k (bodyOf Try.f24) [] [] (retK (f24C g16) Try.f24.results f24o)) = [] := by kernel_rfl
  have h2 : keep [] (lt (f24C g16) k (bodyOf Try.f24) [] [] (retK (f24C g16) Try.f24.results f24o)) = [] := by kernel_rfl
  have h3 := evAt_cut (f24_s a0) [] [] (by kernel_rfl) h1 h2 (by kernel_rfl) (by kernel_rfl) (by kernel_rfl)
  have h4 := f24_A g16  a0
  exact h0.trans (h3.trans (h4.trans (by kernel_rfl)))
set_option maxHeartbeats 4000000 in
set_option maxRecDepth 100000 in
theorem f24_ok (k : Nat) (g16 : (Int) → Option (List (Int))) (hg16 : SigOK Try.prog 16 ⟨f16i, f16o, mkFun f16i.tys f16o.tys g16⟩) : SigOK Try.prog 24 ⟨f24i, f24o, mkFun f24i.tys f24o.tys (f24 k g16)⟩ :=
  fn_ok (C := (f24C g16)) (l := f24E g16) rfl ⟨⟨hg16, trivial⟩, trivial⟩ (by kernel_rfl) k (fn := Try.f24) (by kernel_rfl) (by kernel_rfl) (by kernel_rfl) f24i f24o rfl rfl (show 0 ≤ 48 by decide) (show 0 ≤ 48 by decide)
noncomputable def c24 (k : Nat) : (List Int) → Option (List (Int)) := f24 k (c16 k)
theorem c24_ok (k : Nat) : SigOK Try.prog 24 ⟨f24i, f24o, mkFun f24i.tys f24o.tys (c24 k)⟩ := f24_ok k (c16 k) (c16_ok k)

/-! carrefour/carrefourref36.slot -/
def f25i : Sk := ⟨[.agg [.pv .str, .pv (.int .i64), .pv (.int .i64), .pv (.int .i64), .pv (.slice yt0)]], [], []⟩
def f25o : Sk := ⟨[.lf (.own 0), .lf (.pv .bool)], [], [some (5, (.int .u8))]⟩
def f25_k9 : Sk := ⟨sparse 91 [(1, .lf (.ptr 0 0)), (4, .lf (.own 0)), (5, .lf (.pv (.int .i64)))], [[.pv .str, .pv (.int .i64), .pv (.int .i64), .pv (.int .i64), .pv (.slice yt0)]], [some (5, (.int .u8))]⟩
noncomputable def f25E (g15 : (List (Int)) → Option (Bool)) (g24 : (List Int) → Option (List (Int))) (g16 : (Int) → Option (List (Int))) : List (Nat × List Sig) := [(15, [⟨f15i, f15o, mkFun f15i.tys f15o.tys g15⟩]), (24, [⟨f24i, f24o, mkFun f24i.tys f24o.tys g24⟩]), (16, [⟨f16i, f16o, mkFun f16i.tys f16o.tys g16⟩])]
noncomputable def f25C (g15 : (List (Int)) → Option (Bool)) (g24 : (List Int) → Option (List (Int))) (g16 : (Int) → Option (List (Int))) : Cfg := { P := Try.prog, env := lookS (f25E g15 g24 g16), n := 139, npB := 0, npO := 0, hint := fun i => look none [(9, some f25_k9)] i, pops := [] }
def f25_s (a0 : List Int) (a1 : Int) (a2 : Int) (a3 : Int) (a4 : List (YT0)) : St := { enc f25i 139 [⟨.str, a0⟩, ⟨(.int .i64), a1⟩, ⟨(.int .i64), a2⟩, ⟨(.int .i64), a3⟩, ⟨(.slice yt0), a4⟩] with slots := encAs f25i.slots [⟨.str, a0⟩, ⟨(.int .i64), a1⟩, ⟨(.int .i64), a2⟩, ⟨(.int .i64), a3⟩, ⟨(.slice yt0), a4⟩] ++ List.replicate 90 .dead }
def f25_s9 (a0 : Int) (a1 : List Int) (a2 : Int) (a3 : Int) (a4 : Int) (a5 : List (YT0)) (a6 : List (Int)) : St := enc f25_k9 139 [⟨(.int .i64), a0⟩, ⟨.str, a1⟩, ⟨(.int .i64), a2⟩, ⟨(.int .i64), a3⟩, ⟨(.int .i64), a4⟩, ⟨(.slice yt0), a5⟩, ⟨(.slice (.int .u8)), a6⟩]
noncomputable def f25 (k : Nat) (g15 : (List (Int)) → Option (Bool)) (g24 : (List Int) → Option (List (Int))) (g16 : (Int) → Option (List (Int))) : ((List Int) × (Int) × (Int) × (Int) × (List (YT0))) → Option ((Bool) × (List (Int))) := fnOf (f25C g15 g24 g16) k Try.f25 f25i f25o
noncomputable def f25_l9 (k : Nat) (g15 : (List (Int)) → Option (Bool)) (g24 : (List Int) → Option (List (Int))) (g16 : (Int) → Option (List (Int))) (j9 : Nat) (a0 : Int) (a1 : List Int) (a2 : Int) (a3 : Int) (a4 : Int) (a5 : List (YT0)) (a6 : List (Int)) : Option ((Bool) × (List (Int))) := loopAt (f25C g15 g24 g16) k (bodyOf Try.f25) [.r, .r, .r, .r, .r, .r, .r, .l, .r, .b] [] j9 (retK (f25C g15 g24 g16) Try.f25.results f25o) (f25_s9 a0 a1 a2 a3 a4 a5 a6)
def f25_t (g15 : (List (Int)) → Option (Bool)) (g24 : (List Int) → Option (List (Int))) (g16 : (Int) → Option (List (Int))) (Jl9 : Int → (List Int) → Int → Int → Int → (List (YT0)) → (List (Int)) → Option ((Bool) × (List (Int)))) (a0 : List Int) (a1 : Int) (a2 : Int) (a3 : Int) (a4 : List (YT0)) : Option ((Bool) × (List (Int))) :=
  bif (decide (((List.length a0 : Nat) : Int) > (24 : Int))) then (some (false, [])) else ((g15 (([a1, a2, a3] : List (Int)))).bind fun o1 => bif o1 then (some (false, [])) else (bif (decide (((List.length a4 : Nat) : Int) > (8 : Int))) then (some (false, [])) else ((g24 (a0)).bind fun o2 => (g16 (a1)).bind fun o3 => bif (appB 1 (List.length o2) (List.length o3)) then (g16 (a2)).bind fun o4 => bif (appB 1 (List.length (o2 ++ o3)) (List.length o4)) then (g16 (a3)).bind fun o5 => bif (appB 1 (List.length ((o2 ++ o3) ++ o4)) (List.length o5)) then (g16 (((List.length a4 : Nat) : Int))).bind fun o6 => bif (appB 1 (List.length (((o2 ++ o3) ++ o4) ++ o5)) (List.length o6)) then Jl9 (0 : Int) a0 a1 a2 a3 a4 ((((o2 ++ o3) ++ o4) ++ o5) ++ o6) else none else none else none else none)))
set_option maxHeartbeats 4000000 in
set_option maxRecDepth 100000 in
theorem f25_A (g15 : (List (Int)) → Option (Bool)) (g24 : (List Int) → Option (List (Int))) (g16 : (Int) → Option (List (Int))) (Jl9 : St → Option ((Bool) × (List (Int)))) (a0 : List Int) (a1 : Int) (a2 : Int) (a3 : Int) (a4 : List (YT0)) : evAtJ (f25C g15 g24 g16) [] [(9, Jl9)] (bodyOf Try.f25) [] (retK (f25C g15 g24 g16) Try.f25.results f25o) (f25_s a0 a1 a2 a3 a4) = f25_t g15 g24 g16 (fun a0 a1 a2 a3 a4 a5 a6 => Jl9 (f25_s9 a0 a1 a2 a3 a4 a5 a6)) a0 a1 a2 a3 a4 := by
  kernel_rfl
set_option maxHeartbeats 4000000 in
set_option maxRecDepth 100000 in
theorem f25_e (k : Nat) (g15 : (List (Int)) → Option (Bool)) (g24 : (List Int) → Option (List (Int))) (g16 : (Int) → Option (List (Int)))  (a0 : List Int) (a1 : Int) (a2 : Int) (a3 : Int) (a4 : List (YT0)) : f25 k g15 g24 g16 (a0, a1, a2, a3, a4) = f25_t g15 g24 g16 (f25_l9 k g15 g24 g16  k) a0 a1 a2 a3 a4 := by
  have h0 : f25 k g15 g24 g16 (a0, a1, a2, a3, a4) = evAt (f25C g15 g24 g16) k (bodyOf Try.f25) [] [] (retK (f25C g15 g24 g16) Try.f25.results f25o) (f25_s a0 a1 a2 a3 a4) := by kernel_rfl
  have h1 : keep [] (jt (f25C g15 g24 g16) k (bodyOf Try.f25) [] [] (retK (f25C g15 g24 g16) Try.f25.results f25o)) = [] := by kernel_rfl
  have h2 : keep [9] (lt (f25C g15 g24 g16) k (bodyOf Try.f25) [] [] (retK (f25C g15 g24 g16) Try.f25.results f25o)) = [(9, (fun s => loopAt (f25C g15 g24 g16) k (bodyOf Try.f25) [.r, .r, .r, .r, .r, .r, .r, .l, .r, .b] [] k (retK (f25C g15 g24 g16) Try.f25.results f25o) s))] := by kernel_rfl
  have h3 := evAt_cut (f25_s a0 a1 a2 a3 a4) [] [9] (by kernel_rfl) h1 h2 (by kernel_rfl) (by kernel_rfl) (by kernel_rfl)
  have h4 := f25_A g15 g24 g16 (fun s => loopAt (f25C g15 g24 g16) k (bodyOf Try.f25) [.r, .r, .r, .r, .r, .r, .r, .l, .r, .b] [] k (retK (f25C g15 g24 g16) Try.f25.results f25o) s) a0 a1 a2 a3 a4
  exact h0.trans (h3.trans (h4.trans (by kernel_rfl)))
def f25_tl9 (g15 : (List (Int)) → Option (Bool)) (g24 : (List Int) → Option (List (Int))) (g16 : (Int) → Option (List (Int))) (Jl9 : Int → (List Int) → Int → Int → Int → (List (YT0)) → (List (Int)) → Option ((Bool) × (List (Int)))) (a0 : Int) (a1 : List Int) (a2 : Int) (a3 : Int) (a4 : Int) (a5 : List (YT0)) (a6 : List (Int)) : Option ((Bool) × (List (Int))) :=
  bif (decide (a0 < ((List.length a5 : Nat) : Int))) then (bif (inB a0 (List.length a5)) then bif (decide (((List.length (rdA zt0 a5 (Int.toNat a0)).1 : Nat) : Int) > (24 : Int))) then (some (false, [])) else ((g15 (([(rdA zt0 a5 (Int.toNat a0)).2.1, (rdA zt0 a5 (Int.toNat a0)).2.2.1] : List (Int)))).bind fun o1 => bif o1 then (some (false, [])) else ((g24 ((rdA zt0 a5 (Int.toNat a0)).1)).bind fun o2 => bif (appB 1 (List.length a6) (List.length o2)) then (g16 ((rdA zt0 a5 (Int.toNat a0)).2.1)).bind fun o3 => bif (appB 1 (List.length (a6 ++ o2)) (List.length o3)) then (g16 ((rdA zt0 a5 (Int.toNat a0)).2.2.1)).bind fun o4 => bif (appB 1 (List.length ((a6 ++ o2) ++ o3)) (List.length o4)) then Jl9 (IntKind.wrap .i64 (a0 + (1 : Int))) a1 a2 a3 a4 a5 (((a6 ++ o2) ++ o3) ++ o4) else none else none else none)) else none) else (some (true, a6))
set_option maxHeartbeats 4000000 in
set_option maxRecDepth 100000 in
theorem f25_Al9 (g15 : (List (Int)) → Option (Bool)) (g24 : (List Int) → Option (List (Int))) (g16 : (Int) → Option (List (Int))) (Jl9 : St → Option ((Bool) × (List (Int)))) (a0 : Int) (a1 : List Int) (a2 : Int) (a3 : Int) (a4 : Int) (a5 : List (YT0)) (a6 : List (Int)) : evAtJ (f25C g15 g24 g16) [] [(9, Jl9)] (bodyOf Try.f25) [.r, .r, .r, .r, .r, .r, .r, .l, .r, .b, .b] (retK (f25C g15 g24 g16) Try.f25.results f25o) (f25_s9 a0 a1 a2 a3 a4 a5 a6) = f25_tl9 g15 g24 g16 (fun a0 a1 a2 a3 a4 a5 a6 => Jl9 (f25_s9 a0 a1 a2 a3 a4 a5 a6)) a0 a1 a2 a3 a4 a5 a6 := by
  kernel_rfl
set_option maxHeartbeats 4000000 in
set_option maxRecDepth 100000 in
theorem f25_el9 (k : Nat) (g15 : (List (Int)) → Option (Bool)) (g24 : (List Int) → Option (List (Int))) (g16 : (Int) → Option (List (Int))) (j9 : Nat) (a0 : Int) (a1 : List Int) (a2 : Int) (a3 : Int) (a4 : Int) (a5 : List (YT0)) (a6 : List (Int)) : f25_l9 k g15 g24 g16 (j9 + 1) a0 a1 a2 a3 a4 a5 a6 = f25_tl9 g15 g24 g16 (f25_l9 k g15 g24 g16  j9) a0 a1 a2 a3 a4 a5 a6 := by
  have h0 : f25_l9 k g15 g24 g16 (j9 + 1) a0 a1 a2 a3 a4 a5 a6 = evAt (f25C g15 g24 g16) k (bodyOf Try.f25) [.r, .r, .r, .r, .r, .r, .r, .l, .r, .b, .b] [j9] (retK (f25C g15 g24 g16) Try.f25.results f25o) (f25_s9 a0 a1 a2 a3 a4 a5 a6) := by kernel_rfl
  have h1 : keep [] (jt (f25C g15 g24 g16) k (bodyOf Try.f25) [.r, .r, .r, .r, .r, .r, .r, .l, .r, .b, .b] [j9] (retK (f25C g15 g24 g16) Try.f25.results f25o)) = [] := by kernel_rfl
  have h2 : keep [9] (lt (f25C g15 g24 g16) k (bodyOf Try.f25) [.r, .r, .r, .r, .r, .r, .r, .l, .r, .b, .b] [j9] (retK (f25C g15 g24 g16) Try.f25.results f25o)) = [(9, (fun s => loopAt (f25C g15 g24 g16) k (bodyOf Try.f25) [.r, .r, .r, .r, .r, .r, .r, .l, .r, .b] [] j9 (retK (f25C g15 g24 g16) Try.f25.results f25o) s))] := by kernel_rfl
  have h3 := evAt_cut (f25_s9 a0 a1 a2 a3 a4 a5 a6) [] [9] (by kernel_rfl) h1 h2 (by kernel_rfl) (by kernel_rfl) (by kernel_rfl)
  have h4 := f25_Al9 g15 g24 g16 (fun s => loopAt (f25C g15 g24 g16) k (bodyOf Try.f25) [.r, .r, .r, .r, .r, .r, .r, .l, .r, .b] [] j9 (retK (f25C g15 g24 g16) Try.f25.results f25o) s) a0 a1 a2 a3 a4 a5 a6
  exact h0.trans (h3.trans (h4.trans (by kernel_rfl)))
set_option maxHeartbeats 4000000 in
set_option maxRecDepth 100000 in
theorem f25_ok (k : Nat) (g15 : (List (Int)) → Option (Bool)) (g24 : (List Int) → Option (List (Int))) (g16 : (Int) → Option (List (Int))) (hg15 : SigOK Try.prog 15 ⟨f15i, f15o, mkFun f15i.tys f15o.tys g15⟩) (hg24 : SigOK Try.prog 24 ⟨f24i, f24o, mkFun f24i.tys f24o.tys g24⟩) (hg16 : SigOK Try.prog 16 ⟨f16i, f16o, mkFun f16i.tys f16o.tys g16⟩) : SigOK Try.prog 25 ⟨f25i, f25o, mkFun f25i.tys f25o.tys (f25 k g15 g24 g16)⟩ :=
  fn_ok (C := (f25C g15 g24 g16)) (l := f25E g15 g24 g16) rfl ⟨⟨hg15, trivial⟩, ⟨hg24, trivial⟩, ⟨hg16, trivial⟩, trivial⟩ (by kernel_rfl) k (fn := Try.f25) (by kernel_rfl) (by kernel_rfl) (by kernel_rfl) f25i f25o rfl rfl (show 0 ≤ 48 by decide) (show 0 ≤ 48 by decide)
noncomputable def c25 (k : Nat) : ((List Int) × (Int) × (Int) × (Int) × (List (YT0))) → Option ((Bool) × (List (Int))) := f25 k (c15 k) (c24 k) (c16 k)
theorem c25_ok (k : Nat) : SigOK Try.prog 25 ⟨f25i, f25o, mkFun f25i.tys f25o.tys (c25 k)⟩ := f25_ok k (c15 k) (c24 k) (c16 k) (c15_ok k) (c24_ok k) (c16_ok k)

/-! carrefour/carrefourref36.timing -/
def f17i : Sk := ⟨[.agg [.pv .str, .pv (.int .i64), .pv (.slice (.cons (.slice (.slice yt1)) .nil)), .pv (.int .i64), .pv (.int .i64)]], [], []⟩
def f17o : Sk := ⟨[.lf (.own 0), .lf (.pv .bool)], [], [some (5, (.int .u8))]⟩
def f17_k9 : Sk := ⟨sparse 126 [(1, .lf (.ptr 0 0)), (4, .lf (.own 0)), (5, .lf (.pv (.int .i64)))], [[.pv .str, .pv (.int .i64), .pv (.slice (.cons (.slice (.slice yt1)) .nil)), .pv (.int .i64), .pv (.int .i64)]], [some (5, (.int .u8))]⟩
def f17_k16 : Sk := ⟨sparse 126 [(1, .lf (.ptr 0 0)), (4, .lf (.own 0)), (5, .lf (.pv (.int .i64))), (6, .lf (.pv (.slice (.slice yt1)))), (7, .lf (.pv (.int .i64)))], [[.pv .str, .pv (.int .i64), .pv (.slice (.cons (.slice (.slice yt1)) .nil)), .pv (.int .i64), .pv (.int .i64)]], [some (5, (.int .u8))]⟩
def f17_k22 : Sk := ⟨sparse 126 [(1, .lf (.ptr 0 0)), (4, .lf (.own 0)), (5, .lf (.pv (.int .i64))), (6, .lf (.pv (.slice (.slice yt1)))), (7, .lf (.pv (.int .i64))), (8, .lf (.pv (.int .i64)))], [[.pv .str, .pv (.int .i64), .pv (.slice (.cons (.slice (.slice yt1)) .nil)), .pv (.int .i64), .pv (.int .i64)]], [some (5, (.int .u8))]⟩
noncomputable def f17E (g15 : (List (Int)) → Option (Bool)) (g24 : (List Int) → Option (List (Int))) (g16 : (Int) → Option (List (Int))) (g25 : ((List Int) × (Int) × (Int) × (Int) × (List (YT0))) → Option ((Bool) × (List (Int)))) : List (Nat × List Sig) := [(15, [⟨f15i, f15o, mkFun f15i.tys f15o.tys g15⟩]), (24, [⟨f24i, f24o, mkFun f24i.tys f24o.tys g24⟩]), (16, [⟨f16i, f16o, mkFun f16i.tys f16o.tys g16⟩]), (25, [⟨f25i, f25o, mkFun f25i.tys f25o.tys g25⟩])]
noncomputable def f17C (g15 : (List (Int)) → Option (Bool)) (g24 : (List Int) → Option (List (Int))) (g16 : (Int) → Option (List (Int))) (g25 : ((List Int) × (Int) × (Int) × (Int) × (List (YT0))) → Option ((Bool) × (List (Int)))) : Cfg := { P := Try.prog, env := lookS (f17E g15 g24 g16 g25), n := 174, npB := 0, npO := 0, hint := fun i => look none [(9, some f17_k9), (16, some f17_k16), (22, some f17_k22)] i, pops := [] }
def f17_s (a0 : List Int) (a1 : Int) (a2 : List ((List (List (YT1))) × (Unit))) (a3 : Int) (a4 : Int) : St := { enc f17i 174 [⟨.str, a0⟩, ⟨(.int .i64), a1⟩, ⟨(.slice (.cons (.slice (.slice yt1)) .nil)), a2⟩, ⟨(.int .i64), a3⟩, ⟨(.int .i64), a4⟩] with slots := encAs f17i.slots [⟨.str, a0⟩, ⟨(.int .i64), a1⟩, ⟨(.slice (.cons (.slice (.slice yt1)) .nil)), a2⟩, ⟨(.int .i64), a3⟩, ⟨(.int .i64), a4⟩] ++ List.replicate 125 .dead }
def f17_s9 (a0 : Int) (a1 : List Int) (a2 : Int) (a3 : List ((List (List (YT1))) × (Unit))) (a4 : Int) (a5 : Int) (a6 : List (Int)) : St := enc f17_k9 174 [⟨(.int .i64), a0⟩, ⟨.str, a1⟩, ⟨(.int .i64), a2⟩, ⟨(.slice (.cons (.slice (.slice yt1)) .nil)), a3⟩, ⟨(.int .i64), a4⟩, ⟨(.int .i64), a5⟩, ⟨(.slice (.int .u8)), a6⟩]
def f17_s16 (a0 : Int) (a1 : List (List (YT1))) (a2 : Int) (a3 : List Int) (a4 : Int) (a5 : List ((List (List (YT1))) × (Unit))) (a6 : Int) (a7 : Int) (a8 : List (Int)) : St := enc f17_k16 174 [⟨(.int .i64), a0⟩, ⟨(.slice (.slice yt1)), a1⟩, ⟨(.int .i64), a2⟩, ⟨.str, a3⟩, ⟨(.int .i64), a4⟩, ⟨(.slice (.cons (.slice (.slice yt1)) .nil)), a5⟩, ⟨(.int .i64), a6⟩, ⟨(.int .i64), a7⟩, ⟨(.slice (.int .u8)), a8⟩]
def f17_s22 (a0 : Int) (a1 : List (List (YT1))) (a2 : Int) (a3 : Int) (a4 : List Int) (a5 : Int) (a6 : List ((List (List (YT1))) × (Unit))) (a7 : Int) (a8 : Int) (a9 : List (Int)) : St := enc f17_k22 174 [⟨(.int .i64), a0⟩, ⟨(.slice (.slice yt1)), a1⟩, ⟨(.int .i64), a2⟩, ⟨(.int .i64), a3⟩, ⟨.str, a4⟩, ⟨(.int .i64), a5⟩, ⟨(.slice (.cons (.slice (.slice yt1)) .nil)), a6⟩, ⟨(.int .i64), a7⟩, ⟨(.int .i64), a8⟩, ⟨(.slice (.int .u8)), a9⟩]
noncomputable def f17 (k : Nat) (g15 : (List (Int)) → Option (Bool)) (g24 : (List Int) → Option (List (Int))) (g16 : (Int) → Option (List (Int))) (g25 : ((List Int) × (Int) × (Int) × (Int) × (List (YT0))) → Option ((Bool) × (List (Int)))) : ((List Int) × (Int) × (List ((List (List (YT1))) × (Unit))) × (Int) × (Int)) → Option ((Bool) × (List (Int))) := fnOf (f17C g15 g24 g16 g25) k Try.f17 f17i f17o
noncomputable def f17_l9 (k : Nat) (g15 : (List (Int)) → Option (Bool)) (g24 : (List Int) → Option (List (Int))) (g16 : (Int) → Option (List (Int))) (g25 : ((List Int) × (Int) × (Int) × (Int) × (List (YT0))) → Option ((Bool) × (List (Int)))) (j9 : Nat) (a0 : Int) (a1 : List Int) (a2 : Int) (a3 : List ((List (List (YT1))) × (Unit))) (a4 : Int) (a5 : Int) (a6 : List (Int)) : Option ((Bool) × (List (Int))) := loopAt (f17C g15 g24 g16 g25) k (bodyOf Try.f17) [.r, .r, .r, .r, .r, .r, .r, .l, .r, .b] [] j9 (retK (f17C g15 g24 g16 g25) Try.f17.results f17o) (f17_s9 a0 a1 a2 a3 a4 a5 a6)
noncomputable def f17_l16 (k : Nat) (g15 : (List (Int)) → Option (Bool)) (g24 : (List Int) → Option (List (Int))) (g16 : (Int) → Option (List (Int))) (g25 : ((List Int) × (Int) × (Int) × (Int) × (List (YT0))) → Option ((Bool) × (List (Int)))) (j9 : Nat) (j16 : Nat) (a0 : Int) (a1 : List (List (YT1))) (a2 : Int) (a3 : List Int) (a4 : Int) (a5 : List ((List (List (YT1))) × (Unit))) (a6 : Int) (a7 : Int) (a8 : List (Int)) : Option ((Bool) × (List (Int))) := loopAt (f17C g15 g24 g16 g25) k (bodyOf Try.f17) [.r, .r, .r, .r, .r, .r, .r, .l, .r, .b, .b, .r, .l, .b, .r, .r, .r, .r, .b] [j9] j16 (retK (f17C g15 g24 g16 g25) Try.f17.results f17o) (f17_s16 a0 a1 a2 a3 a4 a5 a6 a7 a8)
noncomputable def f17_l22 (k : Nat) (g15 : (List (Int)) → Option (Bool)) (g24 : (List Int) → Option (List (Int))) (g16 : (Int) → Option (List (Int))) (g25 : ((List Int) × (Int) × (Int) × (Int) × (List (YT0))) → Option ((Bool) × (List (Int)))) (j9 : Nat) (j16 : Nat) (j22 : Nat) (a0 : Int) (a1 : List (List (YT1))) (a2 : Int) (a3 : Int) (a4 : List Int) (a5 : Int) (a6 : List ((List (List (YT1))) × (Unit))) (a7 : Int) (a8 : Int) (a9 : List (Int)) : Option ((Bool) × (List (Int))) := loopAt (f17C g15 g24 g16 g25) k (bodyOf Try.f17) [.r, .r, .r, .r, .r, .r, .r, .l, .r, .b, .b, .r, .l, .b, .r, .r, .r, .r, .b, .b, .r, .l, .b, .r, .r, .r, .b] [j9, j16] j22 (retK (f17C g15 g24 g16 g25) Try.f17.results f17o) (f17_s22 a0 a1 a2 a3 a4 a5 a6 a7 a8 a9)
def f17_t (g15 : (List (Int)) → Option (Bool)) (g24 : (List Int) → Option (List (Int))) (g16 : (Int) → Option (List (Int))) (g25 : ((List Int) × (Int) × (Int) × (Int) × (List (YT0))) → Option ((Bool) × (List (Int)))) (Jl9 : Int → (List Int) → Int → (List ((List (List (YT1))) × (Unit))) → Int → Int → (List (Int)) → Option ((Bool) × (List (Int)))) (a0 : List Int) (a1 : Int) (a2 : List ((List (List (YT1))) × (Unit))) (a3 : Int) (a4 : Int) : Option ((Bool) × (List (Int))) :=
  bif (decide (((List.length a0 : Nat) : Int) > (24 : Int))) then (some (false, [])) else ((g15 (([a1, a3, a4] : List (Int)))).bind fun o1 => bif o1 then (some (false, [])) else (bif (decide (((List.length a2 : Nat) : Int) > (4 : Int))) then (some (false, [])) else ((g24 (a0)).bind fun o2 => (g16 (a1)).bind fun o3 => bif (appB 1 (List.length o2) (List.length o3)) then (g16 (a3)).bind fun o4 => bif (appB 1 (List.length (o2 ++ o3)) (List.length o4)) then (g16 (a4)).bind fun o5 => bif (appB 1 (List.length ((o2 ++ o3) ++ o4)) (List.length o5)) then (g16 (((List.length a2 : Nat) : Int))).bind fun o6 => bif (appB 1 (List.length (((o2 ++ o3) ++ o4) ++ o5)) (List.length o6)) then Jl9 (0 : Int) a0 a1 a2 a3 a4 ((((o2 ++ o3) ++ o4) ++ o5) ++ o6) else none else none else none else none)))
set_option maxHeartbeats 4000000 in
set_option maxRecDepth 100000 in
theorem f17_A (g15 : (List (Int)) → Option (Bool)) (g24 : (List Int) → Option (List (Int))) (g16 : (Int) → Option (List (Int))) (g25 : ((List Int) × (Int) × (Int) × (Int) × (List (YT0))) → Option ((Bool) × (List (Int)))) (Jl9 : St → Option ((Bool) × (List (Int)))) (a0 : List Int) (a1 : Int) (a2 : List ((List (List (YT1))) × (Unit))) (a3 : Int) (a4 : Int) : evAtJ (f17C g15 g24 g16 g25) [] [(9, Jl9)] (bodyOf Try.f17) [] (retK (f17C g15 g24 g16 g25) Try.f17.results f17o) (f17_s a0 a1 a2 a3 a4) = f17_t g15 g24 g16 g25 (fun a0 a1 a2 a3 a4 a5 a6 => Jl9 (f17_s9 a0 a1 a2 a3 a4 a5 a6)) a0 a1 a2 a3 a4 := by
  kernel_rfl
set_option maxHeartbeats 4000000 in
set_option maxRecDepth 100000 in
theorem f17_e (k : Nat) (g15 : (List (Int)) → Option (Bool)) (g24 : (List Int) → Option (List (Int))) (g16 : (Int) → Option (List (Int))) (g25 : ((List Int) × (Int) × (Int) × (Int) × (List (YT0))) → Option ((Bool) × (List (Int))))  (a0 : List Int) (a1 : Int) (a2 : List ((List (List (YT1))) × (Unit))) (a3 : Int) (a4 : Int) : f17 k g15 g24 g16 g25 (a0, a1, a2, a3, a4) = f17_t g15 g24 g16 g25 (f17_l9 k g15 g24 g16 g25  k) a0 a1 a2 a3 a4 := by
  have h0 : f17 k g15 g24 g16 g25 (a0, a1, a2, a3, a4) = evAt (f17C g15 g24 g16 g25) k (bodyOf Try.f17) [] [] (retK (f17C g15 g24 g16 g25) Try.f17.results f17o) (f17_s a0 a1 a2 a3 a4) := by kernel_rfl
  have h1 : keep [] (jt (f17C g15 g24 g16 g25) k (bodyOf Try.f17) [] [] (retK (f17C g15 g24 g16 g25) Try.f17.results f17o)) = [] := by kernel_rfl
  have h2 : keep [9] (lt (f17C g15 g24 g16 g25) k (bodyOf Try.f17) [] [] (retK (f17C g15 g24 g16 g25) Try.f17.results f17o)) = [(9, (fun s => loopAt (f17C g15 g24 g16 g25) k (bodyOf Try.f17) [.r, .r, .r, .r, .r, .r, .r, .l, .r, .b] [] k (retK (f17C g15 g24 g16 g25) Try.f17.results f17o) s))] := by kernel_rfl
  have h3 := evAt_cut (f17_s a0 a1 a2 a3 a4) [] [9] (by kernel_rfl) h1 h2 (by kernel_rfl) (by kernel_rfl) (by kernel_rfl)
  have h4 := f17_A g15 g24 g16 g25 (fun s => loopAt (f17C g15 g24 g16 g25) k (bodyOf Try.f17) [.r, .r, .r, .r, .r, .r, .r, .l, .r, .b] [] k (retK (f17C g15 g24 g16 g25) Try.f17.results f17o) s) a0 a1 a2 a3 a4
  exact h0.trans (h3.trans (h4.trans (by kernel_rfl)))
def f17_tl9 (g15 : (List (Int)) → Option (Bool)) (g24 : (List Int) → Option (List (Int))) (g16 : (Int) → Option (List (Int))) (g25 : ((List Int) × (Int) × (Int) × (Int) × (List (YT0))) → Option ((Bool) × (List (Int)))) (Jl16 : Int → (List (List (YT1))) → Int → (List Int) → Int → (List ((List (List (YT1))) × (Unit))) → Int → Int → (List (Int)) → Option ((Bool) × (List (Int)))) (a0 : Int) (a1 : List Int) (a2 : Int) (a3 : List ((List (List (YT1))) × (Unit))) (a4 : Int) (a5 : Int) (a6 : List (Int)) : Option ((Bool) × (List (Int))) :=
  bif (decide (a0 < ((List.length a3 : Nat) : Int))) then (bif (inB a0 (List.length a3)) then bif (decide (((List.length (rdA ([], ()) a3 (Int.toNat a0)).1 : Nat) : Int) > (2 : Int))) then (some (false, [])) else ((g16 (((List.length (rdA ([], ()) a3 (Int.toNat a0)).1 : Nat) : Int))).bind fun o1 => bif (appB 1 (List.length a6) (List.length o1)) then Jl16 a0 (rdA ([], ()) a3 (Int.toNat a0)).1 (0 : Int) a1 a2 a3 a4 a5 (a6 ++ o1) else none) else none) else (some (true, a6))
set_option maxHeartbeats 4000000 in
set_option maxRecDepth 100000 in
theorem f17_Al9 (g15 : (List (Int)) → Option (Bool)) (g24 : (List Int) → Option (List (Int))) (g16 : (Int) → Option (List (Int))) (g25 : ((List Int) × (Int) × (Int) × (Int) × (List (YT0))) → Option ((Bool) × (List (Int)))) (Jl9 : St → Option ((Bool) × (List (Int)))) (Jl16 : St → Option ((Bool) × (List (Int)))) (a0 : Int) (a1 : List Int) (a2 : Int) (a3 : List ((List (List (YT1))) × (Unit))) (a4 : Int) (a5 : Int) (a6 : List (Int)) : evAtJ (f17C g15 g24 g16 g25) [] [(9, Jl9), (16, Jl16)] (bodyOf Try.f17) [.r, .r, .r, .r, .r, .r, .r, .l, .r, .b, .b] (retK (f17C g15 g24 g16 g25) Try.f17.results f17o) (f17_s9 a0 a1 a2 a3 a4 a5 a6) = f17_tl9 g15 g24 g16 g25 (fun a0 a1 a2 a3 a4 a5 a6 a7 a8 => Jl16 (f17_s16 a0 a1 a2 a3 a4 a5 a6 a7 a8)) a0 a1 a2 a3 a4 a5 a6 := by
  kernel_rfl
set_option maxHeartbeats 4000000 in
set_option maxRecDepth 100000 in
theorem f17_el9 (k : Nat) (g15 : (List (Int)) → Option (Bool)) (g24 : (List Int) → Option (List (Int))) (g16 : (Int) → Option (List (Int))) (g25 : ((List Int) × (Int) × (Int) × (Int) × (List (YT0))) → Option ((Bool) × (List (Int)))) (j9 : Nat) (a0 : Int) (a1 : List Int) (a2 : Int) (a3 : List ((List (List (YT1))) × (Unit))) (a4 : Int) (a5 : Int) (a6 : List (Int)) : f17_l9 k g15 g24 g16 g25 (j9 + 1) a0 a1 a2 a3 a4 a5 a6 = f17_tl9 g15 g24 g16 g25 (f17_l16 k g15 g24 g16 g25 j9 k) a0 a1 a2 a3 a4 a5 a6 := by
  have h0 : f17_l9 k g15 g24 g16 g25 (j9 + 1) a0 a1 a2 a3 a4 a5 a6 = evAt (f17C g15 g24 g16 g25) k (bodyOf Try.f17) [.r, .r, .r, .r, .r, .r, .r, .l, .r, .b, .b] [j9] (retK (f17C g15 g24 g16 g25) Try.f17.results f17o) (f17_s9 a0 a1 a2 a3 a4 a5 a6) := by kernel_rfl
  have h1 : keep [] (jt (f17C g15 g24 g16 g25) k (bodyOf Try.f17) [.r, .r, .r, .r, .r, .r, .r, .l, .r, .b, .b] [j9] (retK (f17C g15 g24 g16 g25) Try.f17.results f17o)) = [] := by kernel_rfl
  have h2 : keep [9, 16] (lt (f17C g15 g24 g16 g25) k (bodyOf Try.f17) [.r, .r, .r, .r, .r, .r, .r, .l, .r, .b, .b] [j9] (retK (f17C g15 g24 g16 g25) Try.f17.results f17o)) = [(9, (fun s => loopAt (f17C g15 g24 g16 g25) k (bodyOf Try.f17) [.r, .r, .r, .r, .r, .r, .r, .l, .r, .b] [] j9 (retK (f17C g15 g24 g16 g25) Try.f17.results f17o) s)), (16, (fun s => loopAt (f17C g15 g24 g16 g25) k (bodyOf Try.f17) [.r, .r, .r, .r, .r, .r, .r, .l, .r, .b, .b, .r, .l, .b, .r, .r, .r, .r, .b] [j9] k (retK (f17C g15 g24 g16 g25) Try.f17.results f17o) s))] := by kernel_rfl
  have h3 := evAt_cut (f17_s9 a0 a1 a2 a3 a4 a5 a6) [] [9, 16] (by kernel_rfl) h1 h2 (by kernel_rfl) (by kernel_rfl) (by kernel_rfl)
  have h4 := f17_Al9 g15 g24 g16 g25 (fun s => loopAt (f17C g15 g24 g16 g25) k (bodyOf Try.f17) [.r, .r, .r, .r, .r, .r, .r, .l, .r, .b] [] j9 (retK (f17C g15 g24 g16 g25) Try.f17.results f17o) s) (fun s => loopAt (f17C g15 g24 g16 g25) k (bodyOf Try.f17) [.r, .r, .r, .r, .r, .r, .r, .l, .r, .b, .b, .r, .l, .b, .r, .r, .r, .r, .b] [j9] k (retK (f17C g15 g24 g16 g25) Try.f17.results f17o) s) a0 a1 a2 a3 a4 a5 a6
  exact h0.trans (h3.trans (h4.trans (by kernel_rfl)))
def f17_tl16 (g15 : (List (Int)) → Option (Bool)) (g24 : (List Int) → Option (List (Int))) (g16 : (Int) → Option (List (Int))) (g25 : ((List Int) × (Int) × (Int) × (Int) × (List (YT0))) → Option ((Bool) × (List (Int)))) (Jl9 : Int → (List Int) → Int → (List ((List (List (YT1))) × (Unit))) → Int → Int → (List (Int)) → Option ((Bool) × (List (Int)))) (Jl22 : Int → (List (List (YT1))) → Int → Int → (List Int) → Int → (List ((List (List (YT1))) × (Unit))) → Int → Int → (List (Int)) → Option ((Bool) × (List (Int)))) (a0 : Int) (a1 : List (List (YT1))) (a2 : Int) (a3 : List Int) (a4 : Int) (a5 : List ((List (List (YT1))) × (Unit))) (a6 : Int) (a7 : Int) (a8 : List (Int)) : Option ((Bool) × (List (Int))) :=
  bif (decide (a2 < ((List.length a1 : Nat) : Int))) then (bif (inB a2 (List.length a1)) then bif (decide (((List.length (rdA [] a1 (Int.toNat a2)) : Nat) : Int) > (4 : Int))) then (some (false, [])) else (bif (inB a2 (List.length a1)) then (g16 (((List.length (rdA [] a1 (Int.toNat a2)) : Nat) : Int))).bind fun o1 => bif (appB 1 (List.length a8) (List.length o1)) then Jl22 a0 a1 a2 (0 : Int) a3 a4 a5 a6 a7 (a8 ++ o1) else none else none) else none) else (Jl9 (IntKind.wrap .i64 (a0 + (1 : Int))) a3 a4 a5 a6 a7 a8)
set_option maxHeartbeats 4000000 in
set_option maxRecDepth 100000 in
theorem f17_Al16 (g15 : (List (Int)) → Option (Bool)) (g24 : (List Int) → Option (List (Int))) (g16 : (Int) → Option (List (Int))) (g25 : ((List Int) × (Int) × (Int) × (Int) × (List (YT0))) → Option ((Bool) × (List (Int)))) (Jl9 : St → Option ((Bool) × (List (Int)))) (Jl16 : St → Option ((Bool) × (List (Int)))) (Jl22 : St → Option ((Bool) × (List (Int)))) (a0 : Int) (a1 : List (List (YT1))) (a2 : Int) (a3 : List Int) (a4 : Int) (a5 : List ((List (List (YT1))) × (Unit))) (a6 : Int) (a7 : Int) (a8 : List (Int)) : evAtJ (f17C g15 g24 g16 g25) [] [(9, Jl9), (16, Jl16), (22, Jl22)] (bodyOf Try.f17) [.r, .r, .r, .r, .r, .r, .r, .l, .r, .b, .b, .r, .l, .b, .r, .r, .r, .r, .b, .b] (retK (f17C g15 g24 g16 g25) Try.f17.results f17o) (f17_s16 a0 a1 a2 a3 a4 a5 a6 a7 a8) = f17_tl16 g15 g24 g16 g25 (fun a0 a1 a2 a3 a4 a5 a6 => Jl9 (f17_s9 a0 a1 a2 a3 a4 a5 a6)) (fun a0 a1 a2 a3 a4 a5 a6 a7 a8 a9 => Jl22 (f17_s22 a0 a1 a2 a3 a4 a5 a6 a7 a8 a9)) a0 a1 a2 a3 a4 a5 a6 a7 a8 := by
  kernel_rfl
set_option maxHeartbeats 4000000 in
set_option maxRecDepth 100000 in
theorem f17_el16 (k : Nat) (g15 : (List (Int)) → Option (Bool)) (g24 : (List Int) → Option (List (Int))) (g16 : (Int) → Option (List (Int))) (g25 : ((List Int) × (Int) × (Int) × (Int) × (List (YT0))) → Option ((Bool) × (List (Int)))) (j9 : Nat) (j16 : Nat) (a0 : Int) (a1 : List (List (YT1))) (a2 : Int) (a3 : List Int) (a4 : Int) (a5 : List ((List (List (YT1))) × (Unit))) (a6 : Int) (a7 : Int) (a8 : List (Int)) : f17_l16 k g15 g24 g16 g25 j9 (j16 + 1) a0 a1 a2 a3 a4 a5 a6 a7 a8 = f17_tl16 g15 g24 g16 g25 (f17_l9 k g15 g24 g16 g25  j9) (f17_l22 k g15 g24 g16 g25 j9 j16 k) a0 a1 a2 a3 a4 a5 a6 a7 a8 := by
  have h0 : f17_l16 k g15 g24 g16 g25 j9 (j16 + 1) a0 a1 a2 a3 a4 a5 a6 a7 a8 = evAt (f17C g15 g24 g16 g25) k (bodyOf Try.f17) [.r, .r, .r, .r, .r, .r, .r, .l, .r, .b, .b, .r, .l, .b, .r, .r, .r, .r, .b, .b] [j9, j16] (retK (f17C g15 g24 g16 g25) Try.f17.results f17o) (f17_s16 a0 a1 a2 a3 a4 a5 a6 a7 a8) := by kernel_rfl
  have h1 : keep [] (jt (f17C g15 g24 g16 g25) k (bodyOf Try.f17) [.r, .r, .r, .r, .r, .r, .r, .l, .r, .b, .b, .r, .l, .b, .r, .r, .r, .r, .b, .b] [j9, j16] (retK (f17C g15 g24 g16 g25) Try.f17.results f17o)) = [] := by kernel_rfl
  have h2 : keep [9, 16, 22] (lt (f17C g15 g24 g16 g25) k (bodyOf Try.f17) [.r, .r, .r, .r, .r, .r, .r, .l, .r, .b, .b, .r, .l, .b, .r, .r, .r, .r, .b, .b] [j9, j16] (retK (f17C g15 g24 g16 g25) Try.f17.results f17o)) = [(9, (fun s => loopAt (f17C g15 g24 g16 g25) k (bodyOf Try.f17) [.r, .r, .r, .r, .r, .r, .r, .l, .r, .b] [] j9 (retK (f17C g15 g24 g16 g25) Try.f17.results f17o) s)), (16, (fun s => loopAt (f17C g15 g24 g16 g25) k (bodyOf Try.f17) [.r, .r, .r, .r, .r, .r, .r, .l, .r, .b, .b, .r, .l, .b, .r, .r, .r, .r, .b] [j9] j16 (retK (f17C g15 g24 g16 g25) Try.f17.results f17o) s)), (22, (fun s => loopAt (f17C g15 g24 g16 g25) k (bodyOf Try.f17) [.r, .r, .r, .r, .r, .r, .r, .l, .r, .b, .b, .r, .l, .b, .r, .r, .r, .r, .b, .b, .r, .l, .b, .r, .r, .r, .b] [j9, j16] k (retK (f17C g15 g24 g16 g25) Try.f17.results f17o) s))] := by kernel_rfl
  have h3 := evAt_cut (f17_s16 a0 a1 a2 a3 a4 a5 a6 a7 a8) [] [9, 16, 22] (by kernel_rfl) h1 h2 (by kernel_rfl) (by kernel_rfl) (by kernel_rfl)
  have h4 := f17_Al16 g15 g24 g16 g25 (fun s => loopAt (f17C g15 g24 g16 g25) k (bodyOf Try.f17) [.r, .r, .r, .r, .r, .r, .r, .l, .r, .b] [] j9 (retK (f17C g15 g24 g16 g25) Try.f17.results f17o) s) (fun s => loopAt (f17C g15 g24 g16 g25) k (bodyOf Try.f17) [.r, .r, .r, .r, .r, .r, .r, .l, .r, .b, .b, .r, .l, .b, .r, .r, .r, .r, .b] [j9] j16 (retK (f17C g15 g24 g16 g25) Try.f17.results f17o) s) (fun s => loopAt (f17C g15 g24 g16 g25) k (bodyOf Try.f17) [.r, .r, .r, .r, .r, .r, .r, .l, .r, .b, .b, .r, .l, .b, .r, .r, .r, .r, .b, .b, .r, .l, .b, .r, .r, .r, .b] [j9, j16] k (retK (f17C g15 g24 g16 g25) Try.f17.results f17o) s) a0 a1 a2 a3 a4 a5 a6 a7 a8
  exact h0.trans (h3.trans (h4.trans (by kernel_rfl)))
def f17_tl22 (g15 : (List (Int)) → Option (Bool)) (g24 : (List Int) → Option (List (Int))) (g16 : (Int) → Option (List (Int))) (g25 : ((List Int) × (Int) × (Int) × (Int) × (List (YT0))) → Option ((Bool) × (List (Int)))) (Jl16 : Int → (List (List (YT1))) → Int → (List Int) → Int → (List ((List (List (YT1))) × (Unit))) → Int → Int → (List (Int)) → Option ((Bool) × (List (Int)))) (Jl22 : Int → (List (List (YT1))) → Int → Int → (List Int) → Int → (List ((List (List (YT1))) × (Unit))) → Int → Int → (List (Int)) → Option ((Bool) × (List (Int)))) (a0 : Int) (a1 : List (List (YT1))) (a2 : Int) (a3 : Int) (a4 : List Int) (a5 : Int) (a6 : List ((List (List (YT1))) × (Unit))) (a7 : Int) (a8 : Int) (a9 : List (Int)) : Option ((Bool) × (List (Int))) :=
  bif (inB a2 (List.length a1)) then bif (decide (a3 < ((List.length (rdA [] a1 (Int.toNat a2)) : Nat) : Int))) then (bif (inB a2 (List.length a1)) then bif (inB a3 (List.length (rdA [] a1 (Int.toNat a2)))) then (g25 ((rdA zt1 (rdA [] a1 (Int.toNat a2)) (Int.toNat a3)).1, (rdA zt1 (rdA [] a1 (Int.toNat a2)) (Int.toNat a3)).2.1, (rdA zt1 (rdA [] a1 (Int.toNat a2)) (Int.toNat a3)).2.2.1, (rdA zt1 (rdA [] a1 (Int.toNat a2)) (Int.toNat a3)).2.2.2.1, (rdA zt1 (rdA [] a1 (Int.toNat a2)) (Int.toNat a3)).2.2.2.2.1)).bind fun o1 => bif (!o1.1) then (some (false, [])) else (bif (appB 1 (List.length a9) (List.length o1.2)) then Jl22 a0 a1 a2 (IntKind.wrap .i64 (a3 + (1 : Int))) a4 a5 a6 a7 a8 (a9 ++ o1.2) else none) else none else none) else (Jl16 a0 a1 (IntKind.wrap .i64 (a2 + (1 : Int))) a4 a5 a6 a7 a8 a9) else none
set_option maxHeartbeats 4000000 in
set_option maxRecDepth 100000 in
theorem f17_Al22 (g15 : (List (Int)) → Option (Bool)) (g24 : (List Int) → Option (List (Int))) (g16 : (Int) → Option (List (Int))) (g25 : ((List Int) × (Int) × (Int) × (Int) × (List (YT0))) → Option ((Bool) × (List (Int)))) (Jl9 : St → Option ((Bool) × (List (Int)))) (Jl16 : St → Option ((Bool) × (List (Int)))) (Jl22 : St → Option ((Bool) × (List (Int)))) (a0 : Int) (a1 : List (List (YT1))) (a2 : Int) (a3 : Int) (a4 : List Int) (a5 : Int) (a6 : List ((List (List (YT1))) × (Unit))) (a7 : Int) (a8 : Int) (a9 : List (Int)) : evAtJ (f17C g15 g24 g16 g25) [] [(9, Jl9), (16, Jl16), (22, Jl22)] (bodyOf Try.f17) [.r, .r, .r, .r, .r, .r, .r, .l, .r, .b, .b, .r, .l, .b, .r, .r, .r, .r, .b, .b, .r, .l, .b, .r, .r, .r, .b, .b] (retK (f17C g15 g24 g16 g25) Try.f17.results f17o) (f17_s22 a0 a1 a2 a3 a4 a5 a6 a7 a8 a9) = f17_tl22 g15 g24 g16 g25 (fun a0 a1 a2 a3 a4 a5 a6 a7 a8 => Jl16 (f17_s16 a0 a1 a2 a3 a4 a5 a6 a7 a8)) (fun a0 a1 a2 a3 a4 a5 a6 a7 a8 a9 => Jl22 (f17_s22 a0 a1 a2 a3 a4 a5 a6 a7 a8 a9)) a0 a1 a2 a3 a4 a5 a6 a7 a8 a9 := by
  kernel_rfl
set_option maxHeartbeats 4000000 in
set_option maxRecDepth 100000 in
theorem f17_el22 (k : Nat) (g15 : (List (Int)) → Option (Bool)) (g24 : (List Int) → Option (List (Int))) (g16 : (Int) → Option (List (Int))) (g25 : ((List Int) × (Int) × (Int) × (Int) × (List (YT0))) → Option ((Bool) × (List (Int)))) (j9 : Nat) (j16 : Nat) (j22 : Nat) (a0 : Int) (a1 : List (List (YT1))) (a2 : Int) (a3 : Int) (a4 : List Int) (a5 : Int) (a6 : List ((List (List (YT1))) × (Unit))) (a7 : Int) (a8 : Int) (a9 : List (Int)) : f17_l22 k g15 g24 g16 g25 j9 j16 (j22 + 1) a0 a1 a2 a3 a4 a5 a6 a7 a8 a9 = f17_tl22 g15 g24 g16 g25 (f17_l16 k g15 g24 g16 g25 j9 j16) (f17_l22 k g15 g24 g16 g25 j9 j16 j22) a0 a1 a2 a3 a4 a5 a6 a7 a8 a9 := by
  have h0 : f17_l22 k g15 g24 g16 g25 j9 j16 (j22 + 1) a0 a1 a2 a3 a4 a5 a6 a7 a8 a9 = evAt (f17C g15 g24 g16 g25) k (bodyOf Try.f17) [.r, .r, .r, .r, .r, .r, .r, .l, .r, .b, .b, .r, .l, .b, .r, .r, .r, .r, .b, .b, .r, .l, .b, .r, .r, .r, .b, .b] [j9, j16, j22] (retK (f17C g15 g24 g16 g25) Try.f17.results f17o) (f17_s22 a0 a1 a2 a3 a4 a5 a6 a7 a8 a9) := by kernel_rfl
  have h1 : keep [] (jt (f17C g15 g24 g16 g25) k (bodyOf Try.f17) [.r, .r, .r, .r, .r, .r, .r, .l, .r, .b, .b, .r, .l, .b, .r, .r, .r, .r, .b, .b, .r, .l, .b, .r, .r, .r, .b, .b] [j9, j16, j22] (retK (f17C g15 g24 g16 g25) Try.f17.results f17o)) = [] := by kernel_rfl
  have h2 : keep [9, 16, 22] (lt (f17C g15 g24 g16 g25) k (bodyOf Try.f17) [.r, .r, .r, .r, .r, .r, .r, .l, .r, .b, .b, .r, .l, .b, .r, .r, .r, .r, .b, .b, .r, .l, .b, .r, .r, .r, .b, .b] [j9, j16, j22] (retK (f17C g15 g24 g16 g25) Try.f17.results f17o)) = [(9, (fun s => loopAt (f17C g15 g24 g16 g25) k (bodyOf Try.f17) [.r, .r, .r, .r, .r, .r, .r, .l, .r, .b] [] j9 (retK (f17C g15 g24 g16 g25) Try.f17.results f17o) s)), (16, (fun s => loopAt (f17C g15 g24 g16 g25) k (bodyOf Try.f17) [.r, .r, .r, .r, .r, .r, .r, .l, .r, .b, .b, .r, .l, .b, .r, .r, .r, .r, .b] [j9] j16 (retK (f17C g15 g24 g16 g25) Try.f17.results f17o) s)), (22, (fun s => loopAt (f17C g15 g24 g16 g25) k (bodyOf Try.f17) [.r, .r, .r, .r, .r, .r, .r, .l, .r, .b, .b, .r, .l, .b, .r, .r, .r, .r, .b, .b, .r, .l, .b, .r, .r, .r, .b] [j9, j16] j22 (retK (f17C g15 g24 g16 g25) Try.f17.results f17o) s))] := by kernel_rfl
  have h3 := evAt_cut (f17_s22 a0 a1 a2 a3 a4 a5 a6 a7 a8 a9) [] [9, 16, 22] (by kernel_rfl) h1 h2 (by kernel_rfl) (by kernel_rfl) (by kernel_rfl)
  have h4 := f17_Al22 g15 g24 g16 g25 (fun s => loopAt (f17C g15 g24 g16 g25) k (bodyOf Try.f17) [.r, .r, .r, .r, .r, .r, .r, .l, .r, .b] [] j9 (retK (f17C g15 g24 g16 g25) Try.f17.results f17o) s) (fun s => loopAt (f17C g15 g24 g16 g25) k (bodyOf Try.f17) [.r, .r, .r, .r, .r, .r, .r, .l, .r, .b, .b, .r, .l, .b, .r, .r, .r, .r, .b] [j9] j16 (retK (f17C g15 g24 g16 g25) Try.f17.results f17o) s) (fun s => loopAt (f17C g15 g24 g16 g25) k (bodyOf Try.f17) [.r, .r, .r, .r, .r, .r, .r, .l, .r, .b, .b, .r, .l, .b, .r, .r, .r, .r, .b, .b, .r, .l, .b, .r, .r, .r, .b] [j9, j16] j22 (retK (f17C g15 g24 g16 g25) Try.f17.results f17o) s) a0 a1 a2 a3 a4 a5 a6 a7 a8 a9
  exact h0.trans (h3.trans (h4.trans (by kernel_rfl)))
set_option maxHeartbeats 4000000 in
set_option maxRecDepth 100000 in
theorem f17_ok (k : Nat) (g15 : (List (Int)) → Option (Bool)) (g24 : (List Int) → Option (List (Int))) (g16 : (Int) → Option (List (Int))) (g25 : ((List Int) × (Int) × (Int) × (Int) × (List (YT0))) → Option ((Bool) × (List (Int)))) (hg15 : SigOK Try.prog 15 ⟨f15i, f15o, mkFun f15i.tys f15o.tys g15⟩) (hg24 : SigOK Try.prog 24 ⟨f24i, f24o, mkFun f24i.tys f24o.tys g24⟩) (hg16 : SigOK Try.prog 16 ⟨f16i, f16o, mkFun f16i.tys f16o.tys g16⟩) (hg25 : SigOK Try.prog 25 ⟨f25i, f25o, mkFun f25i.tys f25o.tys g25⟩) : SigOK Try.prog 17 ⟨f17i, f17o, mkFun f17i.tys f17o.tys (f17 k g15 g24 g16 g25)⟩ :=
  fn_ok (C := (f17C g15 g24 g16 g25)) (l := f17E g15 g24 g16 g25) rfl ⟨⟨hg15, trivial⟩, ⟨hg24, trivial⟩, ⟨hg16, trivial⟩, ⟨hg25, trivial⟩, trivial⟩ (by kernel_rfl) k (fn := Try.f17) (by kernel_rfl) (by kernel_rfl) (by kernel_rfl) f17i f17o rfl rfl (show 0 ≤ 48 by decide) (show 0 ≤ 48 by decide)
noncomputable def c17 (k : Nat) : ((List Int) × (Int) × (List ((List (List (YT1))) × (Unit))) × (Int) × (Int)) → Option ((Bool) × (List (Int))) := f17 k (c15 k) (c24 k) (c16 k) (c25 k)
theorem c17_ok (k : Nat) : SigOK Try.prog 17 ⟨f17i, f17o, mkFun f17i.tys f17o.tys (c17 k)⟩ := f17_ok k (c15 k) (c24 k) (c16 k) (c25 k) (c15_ok k) (c24_ok k) (c16_ok k) (c25_ok k)

/-! carrefour/carrefourref36.num -/
def f16ai : Sk := ⟨[.lf (.pv (.int .i64))], [], []⟩
def f16ao : Sk := ⟨[.lf (.pv (.slice (.int .u8)))], [], []⟩
def f16a_k2 : Sk := ⟨sparse 20 [(0, .lf (.pv (.int .i64))), (3, .lf (.own 0))], [], [some (5, (.int .u8))]⟩
noncomputable def f16aE  : List (Nat × List Sig) := []
noncomputable def f16aC  : Cfg := { P := Try.prog, env := lookS (f16aE ), n := 68, npB := 0, npO := 0, hint := fun i => look none [(2, some f16a_k2)] i, pops := [] }
def f16a_s (a0 : Int) : St := { enc f16ai 68 [⟨(.int .i64), a0⟩] with slots := encAs f16ai.slots [⟨(.int .i64), a0⟩] ++ List.replicate 19 .dead }
def f16a_s2 (a0 : Int) (a1 : List (Int)) : St := enc f16a_k2 68 [⟨(.int .i64), a0⟩, ⟨(.slice (.int .u8)), a1⟩]
noncomputable def f16a (k : Nat)  : (Int) → Option (List (Int)) := fnOf f16aC k Try.f16 f16ai f16ao
noncomputable def f16a_l2 (k : Nat)  (j2 : Nat) (a0 : Int) (a1 : List (Int)) : Option (List (Int)) := loopAt f16aC k (bodyOf Try.f16) [.r, .r, .l, .b] [] j2 (retK f16aC Try.f16.results f16ao) (f16a_s2 a0 a1)
def f16a_t  (Jl2 : Int → (List (Int)) → Option (List (Int))) (a0 : Int) : Option (List (Int)) :=
  Jl2 a0 ([])
set_option maxHeartbeats 4000000 in
set_option maxRecDepth 100000 in
theorem f16a_A  (Jl2 : St → Option (List (Int))) (a0 : Int) : evAtJ f16aC [] [(2, Jl2)] (bodyOf Try.f16) [] (retK f16aC Try.f16.results f16ao) (f16a_s a0) = f16a_t  (fun a0 a1 => Jl2 (f16a_s2 a0 a1)) a0 := by
  kernel_rfl
set_option maxHeartbeats 4000000 in
set_option maxRecDepth 100000 in
theorem f16a_e (k : Nat)   (a0 : Int) : f16a k  (a0) = f16a_t  (f16a_l2 k   k) a0 := by
  have h0 : f16a k  (a0) = evAt f16aC k (bodyOf Try.f16) [] [] (retK f16aC Try.f16.results f16ao) (f16a_s a0) := by kernel_rfl
  have h1 : keep [] (jt f16aC k (bodyOf Try.f16) [] [] (retK f16aC Try.f16.results f16ao)) = [] := by kernel_rfl
  have h2 : keep [2] (lt f16aC k (bodyOf Try.f16) [] [] (retK f16aC Try.f16.results f16ao)) = [(2, (fun s => loopAt f16aC k (bodyOf Try.f16) [.r, .r, .l, .b] [] k (retK f16aC Try.f16.results f16ao) s))] := by kernel_rfl
  have h3 := evAt_cut (f16a_s a0) [] [2] (by kernel_rfl) h1 h2 (by kernel_rfl) (by kernel_rfl) (by kernel_rfl)
  have h4 := f16a_A  (fun s => loopAt f16aC k (bodyOf Try.f16) [.r, .r, .l, .b] [] k (retK f16aC Try.f16.results f16ao) s) a0
  exact h0.trans (h3.trans (h4.trans (by kernel_rfl)))
def f16a_tl2  (Jl2 : Int → (List (Int)) → Option (List (Int))) (a0 : Int) (a1 : List (Int)) : Option (List (Int)) :=
  bif (decide (a0 ≥ (128 : Int))) then (bif (appB 1 (List.length a1) (List.length ([(IntKind.wrap .u8 (IntKind.wrap .i64 ((128 : Int) + (Int.tmod a0 (128 : Int)))))] : List (Int)))) then Jl2 (IntKind.wrap .i64 (Int.tdiv a0 (128 : Int))) (a1 ++ ([(IntKind.wrap .u8 (IntKind.wrap .i64 ((128 : Int) + (Int.tmod a0 (128 : Int)))))] : List (Int))) else none) else (bif (appB 1 (List.length a1) (List.length ([(IntKind.wrap .u8 a0)] : List (Int)))) then some (a1 ++ ([(IntKind.wrap .u8 a0)] : List (Int))) else none)
set_option maxHeartbeats 4000000 in
set_option maxRecDepth 100000 in
theorem f16a_Al2  (Jl2 : St → Option (List (Int))) (a0 : Int) (a1 : List (Int)) : evAtJ f16aC [] [(2, Jl2)] (bodyOf Try.f16) [.r, .r, .l, .b, .b] (retK f16aC Try.f16.results f16ao) (f16a_s2 a0 a1) = f16a_tl2  (fun a0 a1 => Jl2 (f16a_s2 a0 a1)) a0 a1 := by
  kernel_rfl
set_option maxHeartbeats 4000000 in
set_option maxRecDepth 100000 in
theorem f16a_el2 (k : Nat)  (j2 : Nat) (a0 : Int) (a1 : List (Int)) : f16a_l2 k  (j2 + 1) a0 a1 = f16a_tl2  (f16a_l2 k   j2) a0 a1 := by
  have h0 : f16a_l2 k  (j2 + 1) a0 a1 = evAt f16aC k (bodyOf Try.f16) [.r, .r, .l, .b, .b] [j2] (retK f16aC Try.f16.results f16ao) (f16a_s2 a0 a1) := by kernel_rfl
  have h1 : keep [] (jt f16aC k (bodyOf Try.f16) [.r, .r, .l, .b, .b] [j2] (retK f16aC Try.f16.results f16ao)) = [] := by kernel_rfl
  have h2 : keep [2] (lt f16aC k (bodyOf Try.f16) [.r, .r, .l, .b, .b] [j2] (retK f16aC Try.f16.results f16ao)) = [(2, (fun s => loopAt f16aC k (bodyOf Try.f16) [.r, .r, .l, .b] [] j2 (retK f16aC Try.f16.results f16ao) s))] := by kernel_rfl
  have h3 := evAt_cut (f16a_s2 a0 a1) [] [2] (by kernel_rfl) h1 h2 (by kernel_rfl) (by kernel_rfl) (by kernel_rfl)
  have h4 := f16a_Al2  (fun s => loopAt f16aC k (bodyOf Try.f16) [.r, .r, .l, .b] [] j2 (retK f16aC Try.f16.results f16ao) s) a0 a1
  exact h0.trans (h3.trans (h4.trans (by kernel_rfl)))
set_option maxHeartbeats 4000000 in
set_option maxRecDepth 100000 in
theorem f16a_ok (k : Nat)   : SigOK Try.prog 16 ⟨f16ai, f16ao, mkFun f16ai.tys f16ao.tys (f16a k )⟩ :=
  fn_ok (C := f16aC) (l := f16aE ) rfl trivial (by kernel_rfl) k (fn := Try.f16) (by kernel_rfl) (by kernel_rfl) (by kernel_rfl) f16ai f16ao rfl rfl (show 0 ≤ 48 by decide) (show 0 ≤ 48 by decide)
noncomputable def c16a (k : Nat) : (Int) → Option (List (Int)) := f16a k 
theorem c16a_ok (k : Nat) : SigOK Try.prog 16 ⟨f16ai, f16ao, mkFun f16ai.tys f16ao.tys (c16a k)⟩ := f16a_ok k  

/-! carrefour/carrefourref36.Encode -/
def f7i : Sk := ⟨[.agg [.pv (.int .i64), .pv (.slice yt3), .pv (.int .i64), .pv (.int .i64), .pv (.int .i64), .pv (.int .i64), .pv .bool, .pv (.int .i64)]], [], []⟩
def f7o : Sk := ⟨[.lf (.own 0), .lf (.pv (.int .i64))], [], [some (5, (.int .u8))]⟩
def f7_k6 : Sk := ⟨sparse 99 [(1, .lf (.ptr 0 0)), (4, .lf (.own 0)), (5, .lf (.pv (.int .i64)))], [[.pv (.int .i64), .pv (.slice yt3), .pv (.int .i64), .pv (.int .i64), .pv (.int .i64), .pv (.int .i64), .pv .bool, .pv (.int .i64)]], [some (5, (.int .u8))]⟩
def f7_k19 : Sk := ⟨sparse 99 [(1, .lf (.ptr 0 0)), (4, .lf (.own 0)), (8, .lf (.pv (.int .u8)))], [[.pv (.int .i64), .pv (.slice yt3), .pv (.int .i64), .pv (.int .i64), .pv (.int .i64), .pv (.int .i64), .pv .bool, .pv (.int .i64)]], [some (5, (.int .u8))]⟩
noncomputable def f7E (g15 : (List (Int)) → Option (Bool)) (g16 : (Int) → Option (List (Int))) (g17 : ((List Int) × (Int) × (List ((List (List (YT1))) × (Unit))) × (Int) × (Int)) → Option ((Bool) × (List (Int)))) (g16a : (Int) → Option (List (Int))) : List (Nat × List Sig) := [(15, [⟨f15i, f15o, mkFun f15i.tys f15o.tys g15⟩]), (16, [⟨f16i, f16o, mkFun f16i.tys f16o.tys g16⟩, ⟨f16ai, f16ao, mkFun f16ai.tys f16ao.tys g16a⟩]), (17, [⟨f17i, f17o, mkFun f17i.tys f17o.tys g17⟩])]
noncomputable def f7C (g15 : (List (Int)) → Option (Bool)) (g16 : (Int) → Option (List (Int))) (g17 : ((List Int) × (Int) × (List ((List (List (YT1))) × (Unit))) × (Int) × (Int)) → Option ((Bool) × (List (Int)))) (g16a : (Int) → Option (List (Int))) : Cfg := { P := Try.prog, env := lookS (f7E g15 g16 g17 g16a), n := 147, npB := 0, npO := 0, hint := fun i => look none [(6, some f7_k6), (19, some f7_k19)] i, pops := [] }
def f7_s (a0 : Int) (a1 : List (YT3)) (a2 : Int) (a3 : Int) (a4 : Int) (a5 : Int) (a6 : Bool) (a7 : Int) : St := { enc f7i 147 [⟨(.int .i64), a0⟩, ⟨(.slice yt3), a1⟩, ⟨(.int .i64), a2⟩, ⟨(.int .i64), a3⟩, ⟨(.int .i64), a4⟩, ⟨(.int .i64), a5⟩, ⟨.bool, a6⟩, ⟨(.int .i64), a7⟩] with slots := encAs f7i.slots [⟨(.int .i64), a0⟩, ⟨(.slice yt3), a1⟩, ⟨(.int .i64), a2⟩, ⟨(.int .i64), a3⟩, ⟨(.int .i64), a4⟩, ⟨(.int .i64), a5⟩, ⟨.bool, a6⟩, ⟨(.int .i64), a7⟩] ++ List.replicate 98 .dead }
def f7_s6 (a0 : Int) (a1 : Int) (a2 : List (YT3)) (a3 : Int) (a4 : Int) (a5 : Int) (a6 : Int) (a7 : Bool) (a8 : Int) (a9 : List (Int)) : St := enc f7_k6 147 [⟨(.int .i64), a0⟩, ⟨(.int .i64), a1⟩, ⟨(.slice yt3), a2⟩, ⟨(.int .i64), a3⟩, ⟨(.int .i64), a4⟩, ⟨(.int .i64), a5⟩, ⟨(.int .i64), a6⟩, ⟨.bool, a7⟩, ⟨(.int .i64), a8⟩, ⟨(.slice (.int .u8)), a9⟩]
def f7_s19 (a0 : Int) (a1 : Int) (a2 : List (YT3)) (a3 : Int) (a4 : Int) (a5 : Int) (a6 : Int) (a7 : Bool) (a8 : Int) (a9 : List (Int)) : St := enc f7_k19 147 [⟨(.int .u8), a0⟩, ⟨(.int .i64), a1⟩, ⟨(.slice yt3), a2⟩, ⟨(.int .i64), a3⟩, ⟨(.int .i64), a4⟩, ⟨(.int .i64), a5⟩, ⟨(.int .i64), a6⟩, ⟨.bool, a7⟩, ⟨(.int .i64), a8⟩, ⟨(.slice (.int .u8)), a9⟩]
noncomputable def f7 (k : Nat) (g15 : (List (Int)) → Option (Bool)) (g16 : (Int) → Option (List (Int))) (g17 : ((List Int) × (Int) × (List ((List (List (YT1))) × (Unit))) × (Int) × (Int)) → Option ((Bool) × (List (Int)))) (g16a : (Int) → Option (List (Int))) : ((Int) × (List (YT3)) × (Int) × (Int) × (Int) × (Int) × (Bool) × (Int)) → Option ((Int) × (List (Int))) := fnOf (f7C g15 g16 g17 g16a) k Try.f7 f7i f7o
noncomputable def f7_l6 (k : Nat) (g15 : (List (Int)) → Option (Bool)) (g16 : (Int) → Option (List (Int))) (g17 : ((List Int) × (Int) × (List ((List (List (YT1))) × (Unit))) × (Int) × (Int)) → Option ((Bool) × (List (Int)))) (g16a : (Int) → Option (List (Int))) (j6 : Nat) (a0 : Int) (a1 : Int) (a2 : List (YT3)) (a3 : Int) (a4 : Int) (a5 : Int) (a6 : Int) (a7 : Bool) (a8 : Int) (a9 : List (Int)) : Option ((Int) × (List (Int))) := loopAt (f7C g15 g16 g17 g16a) k (bodyOf Try.f7) [.r, .r, .r, .r, .l, .r, .b] [] j6 (retK (f7C g15 g16 g17 g16a) Try.f7.results f7o) (f7_s6 a0 a1 a2 a3 a4 a5 a6 a7 a8 a9)
noncomputable def f7_j19 (k : Nat) (g15 : (List (Int)) → Option (Bool)) (g16 : (Int) → Option (List (Int))) (g17 : ((List Int) × (Int) × (List ((List (List (YT1))) × (Unit))) × (Int) × (Int)) → Option ((Bool) × (List (Int)))) (g16a : (Int) → Option (List (Int)))  (a0 : Int) (a1 : Int) (a2 : List (YT3)) (a3 : Int) (a4 : Int) (a5 : Int) (a6 : Int) (a7 : Bool) (a8 : Int) (a9 : List (Int)) : Option ((Int) × (List (Int))) := evAt (f7C g15 g16 g17 g16a) k (bodyOf Try.f7) [.r, .r, .r, .r, .r, .r, .r, .r, .r, .r, .r] [] (retK (f7C g15 g16 g17 g16a) Try.f7.results f7o) (f7_s19 a0 a1 a2 a3 a4 a5 a6 a7 a8 a9)
def f7_t (g15 : (List (Int)) → Option (Bool)) (g16 : (Int) → Option (List (Int))) (g17 : ((List Int) × (Int) × (List ((List (List (YT1))) × (Unit))) × (Int) × (Int)) → Option ((Bool) × (List (Int)))) (g16a : (Int) → Option (List (Int))) (Jl6 : Int → Int → (List (YT3)) → Int → Int → Int → Int → Bool → Int → (List (Int)) → Option ((Int) × (List (Int)))) (a0 : Int) (a1 : List (YT3)) (a2 : Int) (a3 : Int) (a4 : Int) (a5 : Int) (a6 : Bool) (a7 : Int) : Option ((Int) × (List (Int))) :=
  (g15 (([a0, a2, a3, a4, a5, a7] : List (Int)))).bind fun o1 => bif o1 then (some ((1 : Int), [])) else (bif (decide (((List.length a1 : Nat) : Int) > (12 : Int))) then (some ((1 : Int), [])) else ((g16 (a0)).bind fun o2 => bif (appB 1 (List.length ([(67 : Int), (70 : Int), (1 : Int)] : List (Int))) (List.length o2)) then (g16 (((List.length a1 : Nat) : Int))).bind fun o3 => bif (appB 1 (List.length (([(67 : Int), (70 : Int), (1 : Int)] : List (Int)) ++ o2)) (List.length o3)) then Jl6 (0 : Int) a0 a1 a2 a3 a4 a5 a6 a7 ((([(67 : Int), (70 : Int), (1 : Int)] : List (Int)) ++ o2) ++ o3) else none else none))
set_option maxHeartbeats 4000000 in
set_option maxRecDepth 100000 in
theorem f7_A (g15 : (List (Int)) → Option (Bool)) (g16 : (Int) → Option (List (Int))) (g17 : ((List Int) × (Int) × (List ((List (List (YT1))) × (Unit))) × (Int) × (Int)) → Option ((Bool) × (List (Int)))) (g16a : (Int) → Option (List (Int))) (Jj19 : St → Option ((Int) × (List (Int)))) (Jl6 : St → Option ((Int) × (List (Int)))) (a0 : Int) (a1 : List (YT3)) (a2 : Int) (a3 : Int) (a4 : Int) (a5 : Int) (a6 : Bool) (a7 : Int) : evAtJ (f7C g15 g16 g17 g16a) [(19, Jj19)] [(6, Jl6)] (bodyOf Try.f7) [] (retK (f7C g15 g16 g17 g16a) Try.f7.results f7o) (f7_s a0 a1 a2 a3 a4 a5 a6 a7) = f7_t g15 g16 g17 g16a (fun a0 a1 a2 a3 a4 a5 a6 a7 a8 a9 => Jl6 (f7_s6 a0 a1 a2 a3 a4 a5 a6 a7 a8 a9)) a0 a1 a2 a3 a4 a5 a6 a7 := by
  kernel_rfl
set_option maxHeartbeats 4000000 in
set_option maxRecDepth 100000 in
theorem f7_e (k : Nat) (g15 : (List (Int)) → Option (Bool)) (g16 : (Int) → Option (List (Int))) (g17 : ((List Int) × (Int) × (List ((List (List (YT1))) × (Unit))) × (Int) × (Int)) → Option ((Bool) × (List (Int)))) (g16a : (Int) → Option (List (Int)))  (a0 : Int) (a1 : List (YT3)) (a2 : Int) (a3 : Int) (a4 : Int) (a5 : Int) (a6 : Bool) (a7 : Int) : f7 k g15 g16 g17 g16a (a0, a1, a2, a3, a4, a5, a6, a7) = f7_t g15 g16 g17 g16a (f7_l6 k g15 g16 g17 g16a  k) a0 a1 a2 a3 a4 a5 a6 a7 := by
  have h0 : f7 k g15 g16 g17 g16a (a0, a1, a2, a3, a4, a5, a6, a7) = evAt (f7C g15 g16 g17 g16a) k (bodyOf Try.f7) [] [] (retK (f7C g15 g16 g17 g16a) Try.f7.results f7o) (f7_s a0 a1 a2 a3 a4 a5 a6 a7) := by kernel_rfl
  have h1 : keep [19] (jt (f7C g15 g16 g17 g16a) k (bodyOf Try.f7) [] [] (retK (f7C g15 g16 g17 g16a) Try.f7.results f7o)) = [(19, (fun s => evAt (f7C g15 g16 g17 g16a) k (bodyOf Try.f7) [.r, .r, .r, .r, .r, .r, .r, .r, .r, .r, .r] [] (retK (f7C g15 g16 g17 g16a) Try.f7.results f7o) s))] := by kernel_rfl
  have h2 : keep [6] (lt (f7C g15 g16 g17 g16a) k (bodyOf Try.f7) [] [] (retK (f7C g15 g16 g17 g16a) Try.f7.results f7o)) = [(6, (fun s => loopAt (f7C g15 g16 g17 g16a) k (bodyOf Try.f7) [.r, .r, .r, .r, .l, .r, .b] [] k (retK (f7C g15 g16 g17 g16a) Try.f7.results f7o) s))] := by kernel_rfl
  have h3 := evAt_cut (f7_s a0 a1 a2 a3 a4 a5 a6 a7) [19] [6] (by kernel_rfl) h1 h2 (by kernel_rfl) (by kernel_rfl) (by kernel_rfl)
  have h4 := f7_A g15 g16 g17 g16a (fun s => evAt (f7C g15 g16 g17 g16a) k (bodyOf Try.f7) [.r, .r, .r, .r, .r, .r, .r, .r, .r, .r, .r] [] (retK (f7C g15 g16 g17 g16a) Try.f7.results f7o) s) (fun s => loopAt (f7C g15 g16 g17 g16a) k (bodyOf Try.f7) [.r, .r, .r, .r, .l, .r, .b] [] k (retK (f7C g15 g16 g17 g16a) Try.f7.results f7o) s) a0 a1 a2 a3 a4 a5 a6 a7
  exact h0.trans (h3.trans (h4.trans (by kernel_rfl)))
def f7_tl6 (g15 : (List (Int)) → Option (Bool)) (g16 : (Int) → Option (List (Int))) (g17 : ((List Int) × (Int) × (List ((List (List (YT1))) × (Unit))) × (Int) × (Int)) → Option ((Bool) × (List (Int)))) (g16a : (Int) → Option (List (Int))) (Jl6 : Int → Int → (List (YT3)) → Int → Int → Int → Int → Bool → Int → (List (Int)) → Option ((Int) × (List (Int)))) (Jj19 : Int → Int → (List (YT3)) → Int → Int → Int → Int → Bool → Int → (List (Int)) → Option ((Int) × (List (Int)))) (a0 : Int) (a1 : Int) (a2 : List (YT3)) (a3 : Int) (a4 : Int) (a5 : Int) (a6 : Int) (a7 : Bool) (a8 : Int) (a9 : List (Int)) : Option ((Int) × (List (Int))) :=
  bif (decide (a0 < ((List.length a2 : Nat) : Int))) then (bif (inB a0 (List.length a2)) then (g17 ((rdA zt3 a2 (Int.toNat a0)).1, (rdA zt3 a2 (Int.toNat a0)).2.1, (rdA zt3 a2 (Int.toNat a0)).2.2.1, (rdA zt3 a2 (Int.toNat a0)).2.2.2.1.1, (rdA zt3 a2 (Int.toNat a0)).2.2.2.1.2.1)).bind fun o1 => bif (!o1.1) then (some ((1 : Int), [])) else (bif (appB 1 (List.length a9) (List.length o1.2)) then Jl6 (IntKind.wrap .i64 (a0 + (1 : Int))) a1 a2 a3 a4 a5 a6 a7 a8 (a9 ++ o1.2) else none) else none) else ((g16 (a3)).bind fun o2 => bif (appB 1 (List.length a9) (List.length o2)) then (g16 (a4)).bind fun o3 => bif (appB 1 (List.length (a9 ++ o2)) (List.length o3)) then (g16 (a5)).bind fun o4 => bif (appB 1 (List.length ((a9 ++ o2) ++ o3)) (List.length o4)) then (g16 (a6)).bind fun o5 => bif (appB 1 (List.length (((a9 ++ o2) ++ o3) ++ o4)) (List.length o5)) then bif a7 then (Jj19 (1 : Int) a1 a2 a3 a4 a5 a6 a7 a8 ((((a9 ++ o2) ++ o3) ++ o4) ++ o5)) else (Jj19 (0 : Int) a1 a2 a3 a4 a5 a6 a7 a8 ((((a9 ++ o2) ++ o3) ++ o4) ++ o5)) else none else none else none else none)
set_option maxHeartbeats 4000000 in
set_option maxRecDepth 100000 in
theorem f7_Al6 (g15 : (List (Int)) → Option (Bool)) (g16 : (Int) → Option (List (Int))) (g17 : ((List Int) × (Int) × (List ((List (List (YT1))) × (Unit))) × (Int) × (Int)) → Option ((Bool) × (List (Int)))) (g16a : (Int) → Option (List (Int))) (Jj19 : St → Option ((Int) × (List (Int)))) (Jl6 : St → Option ((Int) × (List (Int)))) (a0 : Int) (a1 : Int) (a2 : List (YT3)) (a3 : Int) (a4 : Int) (a5 : Int) (a6 : Int) (a7 : Bool) (a8 : Int) (a9 : List (Int)) : evAtJ (f7C g15 g16 g17 g16a) [(19, Jj19)] [(6, Jl6)] (bodyOf Try.f7) [.r, .r, .r, .r, .l, .r, .b, .b] (retK (f7C g15 g16 g17 g16a) Try.f7.results f7o) (f7_s6 a0 a1 a2 a3 a4 a5 a6 a7 a8 a9) = f7_tl6 g15 g16 g17 g16a (fun a0 a1 a2 a3 a4 a5 a6 a7 a8 a9 => Jl6 (f7_s6 a0 a1 a2 a3 a4 a5 a6 a7 a8 a9)) (fun a0 a1 a2 a3 a4 a5 a6 a7 a8 a9 => Jj19 (f7_s19 a0 a1 a2 a3 a4 a5 a6 a7 a8 a9)) a0 a1 a2 a3 a4 a5 a6 a7 a8 a9 := by
  kernel_rfl
set_option maxHeartbeats 4000000 in
set_option maxRecDepth 100000 in
theorem f7_el6 (k : Nat) (g15 : (List (Int)) → Option (Bool)) (g16 : (Int) → Option (List (Int))) (g17 : ((List Int) × (Int) × (List ((List (List (YT1))) × (Unit))) × (Int) × (Int)) → Option ((Bool) × (List (Int)))) (g16a : (Int) → Option (List (Int))) (j6 : Nat) (a0 : Int) (a1 : Int) (a2 : List (YT3)) (a3 : Int) (a4 : Int) (a5 : Int) (a6 : Int) (a7 : Bool) (a8 : Int) (a9 : List (Int)) : f7_l6 k g15 g16 g17 g16a (j6 + 1) a0 a1 a2 a3 a4 a5 a6 a7 a8 a9 = f7_tl6 g15 g16 g17 g16a (f7_l6 k g15 g16 g17 g16a  j6) (f7_j19 k g15 g16 g17 g16a ) a0 a1 a2 a3 a4 a5 a6 a7 a8 a9 := by
  have h0 : f7_l6 k g15 g16 g17 g16a (j6 + 1) a0 a1 a2 a3 a4 a5 a6 a7 a8 a9 = evAt (f7C g15 g16 g17 g16a) k (bodyOf Try.f7) [.r, .r, .r, .r, .l, .r, .b, .b] [j6] (retK (f7C g15 g16 g17 g16a) Try.f7.results f7o) (f7_s6 a0 a1 a2 a3 a4 a5 a6 a7 a8 a9) := by kernel_rfl
  have h1 : keep [19] (jt (f7C g15 g16 g17 g16a) k (bodyOf Try.f7) [.r, .r, .r, .r, .l, .r, .b, .b] [j6] (retK (f7C g15 g16 g17 g16a) Try.f7.results f7o)) = [(19, (fun s => evAt (f7C g15 g16 g17 g16a) k (bodyOf Try.f7) [.r, .r, .r, .r, .r, .r, .r, .r, .r, .r, .r] [] (retK (f7C g15 g16 g17 g16a) Try.f7.results f7o) s))] := by kernel_rfl
  have h2 : keep [6] (lt (f7C g15 g16 g17 g16a) k (bodyOf Try.f7) [.r, .r, .r, .r, .l, .r, .b, .b] [j6] (retK (f7C g15 g16 g17 g16a) Try.f7.results f7o)) = [(6, (fun s => loopAt (f7C g15 g16 g17 g16a) k (bodyOf Try.f7) [.r, .r, .r, .r, .l, .r, .b] [] j6 (retK (f7C g15 g16 g17 g16a) Try.f7.results f7o) s))] := by kernel_rfl
  have h3 := evAt_cut (f7_s6 a0 a1 a2 a3 a4 a5 a6 a7 a8 a9) [19] [6] (by kernel_rfl) h1 h2 (by kernel_rfl) (by kernel_rfl) (by kernel_rfl)
  have h4 := f7_Al6 g15 g16 g17 g16a (fun s => evAt (f7C g15 g16 g17 g16a) k (bodyOf Try.f7) [.r, .r, .r, .r, .r, .r, .r, .r, .r, .r, .r] [] (retK (f7C g15 g16 g17 g16a) Try.f7.results f7o) s) (fun s => loopAt (f7C g15 g16 g17 g16a) k (bodyOf Try.f7) [.r, .r, .r, .r, .l, .r, .b] [] j6 (retK (f7C g15 g16 g17 g16a) Try.f7.results f7o) s) a0 a1 a2 a3 a4 a5 a6 a7 a8 a9
  exact h0.trans (h3.trans (h4.trans (by kernel_rfl)))
def f7_tj19 (g15 : (List (Int)) → Option (Bool)) (g16 : (Int) → Option (List (Int))) (g17 : ((List Int) × (Int) × (List ((List (List (YT1))) × (Unit))) × (Int) × (Int)) → Option ((Bool) × (List (Int)))) (g16a : (Int) → Option (List (Int)))  (a0 : Int) (a1 : Int) (a2 : List (YT3)) (a3 : Int) (a4 : Int) (a5 : Int) (a6 : Int) (a7 : Bool) (a8 : Int) (a9 : List (Int)) : Option ((Int) × (List (Int))) :=
  bif (appB 1 (List.length a9) (List.length ([a0] : List (Int)))) then (g16a (a8)).bind fun o1 => bif (appB 1 (List.length (a9 ++ ([a0] : List (Int)))) (List.length o1)) then some ((0 : Int), ((a9 ++ ([a0] : List (Int))) ++ o1)) else none else none
set_option maxHeartbeats 4000000 in
set_option maxRecDepth 100000 in
theorem f7_Aj19 (g15 : (List (Int)) → Option (Bool)) (g16 : (Int) → Option (List (Int))) (g17 : ((List Int) × (Int) × (List ((List (List (YT1))) × (Unit))) × (Int) × (Int)) → Option ((Bool) × (List (Int)))) (g16a : (Int) → Option (List (Int))) (Jj19 : St → Option ((Int) × (List (Int)))) (Jl6 : St → Option ((Int) × (List (Int)))) (a0 : Int) (a1 : Int) (a2 : List (YT3)) (a3 : Int) (a4 : Int) (a5 : Int) (a6 : Int) (a7 : Bool) (a8 : Int) (a9 : List (Int)) : evAtJ (f7C g15 g16 g17 g16a) [(19, Jj19)] [(6, Jl6)] (bodyOf Try.f7) [.r, .r, .r, .r, .r, .r, .r, .r, .r, .r, .r] (retK (f7C g15 g16 g17 g16a) Try.f7.results f7o) (f7_s19 a0 a1 a2 a3 a4 a5 a6 a7 a8 a9) = f7_tj19 g15 g16 g17 g16a  a0 a1 a2 a3 a4 a5 a6 a7 a8 a9 := by
  kernel_rfl
set_option maxHeartbeats 4000000 in
set_option maxRecDepth 100000 in
theorem f7_ej19 (k : Nat) (g15 : (List (Int)) → Option (Bool)) (g16 : (Int) → Option (List (Int))) (g17 : ((List Int) × (Int) × (List ((List (List (YT1))) × (Unit))) × (Int) × (Int)) → Option ((Bool) × (List (Int)))) (g16a : (Int) → Option (List (Int)))  (a0 : Int) (a1 : Int) (a2 : List (YT3)) (a3 : Int) (a4 : Int) (a5 : Int) (a6 : Int) (a7 : Bool) (a8 : Int) (a9 : List (Int)) : f7_j19 k g15 g16 g17 g16a  a0 a1 a2 a3 a4 a5 a6 a7 a8 a9 = f7_tj19 g15 g16 g17 g16a  a0 a1 a2 a3 a4 a5 a6 a7 a8 a9 := by
  have h0 : f7_j19 k g15 g16 g17 g16a  a0 a1 a2 a3 a4 a5 a6 a7 a8 a9 = evAt (f7C g15 g16 g17 g16a) k (bodyOf Try.f7) [.r, .r, .r, .r, .r, .r, .r, .r, .r, .r, .r] [] (retK (f7C g15 g16 g17 g16a) Try.f7.results f7o) (f7_s19 a0 a1 a2 a3 a4 a5 a6 a7 a8 a9) := by kernel_rfl
  have h1 : keep [19] (jt (f7C g15 g16 g17 g16a) k (bodyOf Try.f7) [.r, .r, .r, .r, .r, .r, .r, .r, .r, .r, .r] [] (retK (f7C g15 g16 g17 g16a) Try.f7.results f7o)) = [(19, (fun s => evAt (f7C g15 g16 g17 g16a) k (bodyOf Try.f7) [.r, .r, .r, .r, .r, .r, .r, .r, .r, .r, .r] [] (retK (f7C g15 g16 g17 g16a) Try.f7.results f7o) s))] := by kernel_rfl
  have h2 : keep [6] (lt (f7C g15 g16 g17 g16a) k (bodyOf Try.f7) [.r, .r, .r, .r, .r, .r, .r, .r, .r, .r, .r] [] (retK (f7C g15 g16 g17 g16a) Try.f7.results f7o)) = [(6, (fun s => loopAt (f7C g15 g16 g17 g16a) k (bodyOf Try.f7) [.r, .r, .r, .r, .l, .r, .b] [] k (retK (f7C g15 g16 g17 g16a) Try.f7.results f7o) s))] := by kernel_rfl
  have h3 := evAt_cut (f7_s19 a0 a1 a2 a3 a4 a5 a6 a7 a8 a9) [19] [6] (by kernel_rfl) h1 h2 (by kernel_rfl) (by kernel_rfl) (by kernel_rfl)
  have h4 := f7_Aj19 g15 g16 g17 g16a (fun s => evAt (f7C g15 g16 g17 g16a) k (bodyOf Try.f7) [.r, .r, .r, .r, .r, .r, .r, .r, .r, .r, .r] [] (retK (f7C g15 g16 g17 g16a) Try.f7.results f7o) s) (fun s => loopAt (f7C g15 g16 g17 g16a) k (bodyOf Try.f7) [.r, .r, .r, .r, .l, .r, .b] [] k (retK (f7C g15 g16 g17 g16a) Try.f7.results f7o) s) a0 a1 a2 a3 a4 a5 a6 a7 a8 a9
  exact h0.trans (h3.trans (h4.trans (by kernel_rfl)))
set_option maxHeartbeats 4000000 in
set_option maxRecDepth 100000 in
theorem f7_ok (k : Nat) (g15 : (List (Int)) → Option (Bool)) (g16 : (Int) → Option (List (Int))) (g17 : ((List Int) × (Int) × (List ((List (List (YT1))) × (Unit))) × (Int) × (Int)) → Option ((Bool) × (List (Int)))) (g16a : (Int) → Option (List (Int))) (hg15 : SigOK Try.prog 15 ⟨f15i, f15o, mkFun f15i.tys f15o.tys g15⟩) (hg16 : SigOK Try.prog 16 ⟨f16i, f16o, mkFun f16i.tys f16o.tys g16⟩) (hg17 : SigOK Try.prog 17 ⟨f17i, f17o, mkFun f17i.tys f17o.tys g17⟩) (hg16a : SigOK Try.prog 16 ⟨f16ai, f16ao, mkFun f16ai.tys f16ao.tys g16a⟩) : SigOK Try.prog 7 ⟨f7i, f7o, mkFun f7i.tys f7o.tys (f7 k g15 g16 g17 g16a)⟩ :=
  fn_ok (C := (f7C g15 g16 g17 g16a)) (l := f7E g15 g16 g17 g16a) rfl ⟨⟨hg15, trivial⟩, ⟨hg16, hg16a, trivial⟩, ⟨hg17, trivial⟩, trivial⟩ (by kernel_rfl) k (fn := Try.f7) (by kernel_rfl) (by kernel_rfl) (by kernel_rfl) f7i f7o rfl rfl (show 0 ≤ 48 by decide) (show 0 ≤ 48 by decide)
noncomputable def c7 (k : Nat) : ((Int) × (List (YT3)) × (Int) × (Int) × (Int) × (Int) × (Bool) × (Int)) → Option ((Int) × (List (Int))) := f7 k (c15 k) (c16 k) (c17 k) (c16a k)
theorem c7_ok (k : Nat) : SigOK Try.prog 7 ⟨f7i, f7o, mkFun f7i.tys f7o.tys (c7 k)⟩ := f7_ok k (c15 k) (c16 k) (c17 k) (c16a k) (c15_ok k) (c16_ok k) (c17_ok k) (c16a_ok k)
end Go.Proofs.YtghmhkpgdmgepaaV
