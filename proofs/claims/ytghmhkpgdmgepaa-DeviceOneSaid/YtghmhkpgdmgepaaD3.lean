import Derived.Test.YtghmhkpgdmgepaaD2
set_option linter.unusedVariables false
namespace Go.Proofs.YtghmhkpgdmgepaaV
open Go Go.RowKit

/-! (*carrefour/device.reader).next -/
def f26i : Sk := ⟨[.lf (.ptr 0 0)], [[.pv (.slice (.int .u8)), .pv (.int .i64)]], []⟩
def f26o : Sk := ⟨[.lf (.pv (.int .u8))], [[.pv (.slice (.int .u8)), .pv (.int .i64)]], []⟩
def f26_k3 : Sk := ⟨sparse 38 [(0, .lf (.ptr 0 0))], [[.pv (.slice (.int .u8)), .pv (.int .i64)]], []⟩
noncomputable def f26E  : List (Nat × List Sig) := []
noncomputable def f26C  : Cfg := { P := Try.prog, env := lookS (f26E ), n := 86, npB := 1, npO := 0, hint := fun i => look none [(3, some f26_k3)] i, pops := [] }
def f26_s (a0 : List (Int)) (a1 : Int) : St := { enc f26i 86 [⟨(.slice (.int .u8)), a0⟩, ⟨(.int .i64), a1⟩] with slots := encAs f26i.slots [⟨(.slice (.int .u8)), a0⟩, ⟨(.int .i64), a1⟩] ++ List.replicate 37 .dead }
def f26_s3 (a0 : List (Int)) (a1 : Int) : St := enc f26_k3 86 [⟨(.slice (.int .u8)), a0⟩, ⟨(.int .i64), a1⟩]
noncomputable def f26 (k : Nat)  : ((List (Int)) × (Int)) → Option (((Int) × (List (Int)) × (Int)) ⊕ ((Int) × (Int))) := fnOfP f26C k Try.f26 f26i f26o 65 [(.int .i64), (.int .i64)] true
noncomputable def f26_j3 (k : Nat)   (a0 : List (Int)) (a1 : Int) : Option (((Int) × (List (Int)) × (Int)) ⊕ ((Int) × (Int))) := evAt f26C k (bodyOf Try.f26) [.r, .r] [] (retKP f26C Try.f26.results f26o 65 [(.int .i64), (.int .i64)] true) (f26_s3 a0 a1)
def f26_t  (Jj3 : (List (Int)) → Int → Option (((Int) × (List (Int)) × (Int)) ⊕ ((Int) × (Int)))) (a0 : List (Int)) (a1 : Int) : Option (((Int) × (List (Int)) × (Int)) ⊕ ((Int) × (Int))) :=
  bif (a1 == ((List.length a0 : Nat) : Int)) then (some (.inr ((50 : Int), a1))) else (Jj3 a0 a1)
set_option maxHeartbeats 4000000 in
set_option maxRecDepth 100000 in
theorem f26_A  (Jj3 : St → Option (((Int) × (List (Int)) × (Int)) ⊕ ((Int) × (Int)))) (a0 : List (Int)) (a1 : Int) : evAtJ f26C [(3, Jj3)] [] (bodyOf Try.f26) [] (retKP f26C Try.f26.results f26o 65 [(.int .i64), (.int .i64)] true) (f26_s a0 a1) = f26_t  (fun a0 a1 => Jj3 (f26_s3 a0 a1)) a0 a1 := by
  kernel_rfl
set_option maxHeartbeats 4000000 in
set_option maxRecDepth 100000 in
theorem f26_e (k : Nat)   (a0 : List (Int)) (a1 : Int) : f26 k  (a0, a1) = f26_t  (f26_j3 k  ) a0 a1 := by
  have h0 : f26 k  (a0, a1) = evAt f26C k (bodyOf Try.f26) [] [] (retKP f26C Try.f26.results f26o 65 [(.int .i64), (.int .i64)] true) (f26_s a0 a1) := by kernel_rfl
  have h1 : keep [3] (jt f26C k (bodyOf Try.f26) [] [] (retKP f26C Try.f26.results f26o 65 [(.int .i64), (.int .i64)] true)) = [(3, (fun s => evAt f26C k (bodyOf Try.f26) [.r, .r] [] (retKP f26C Try.f26.results f26o 65 [(.int .i64), (.int .i64)] true) s))] := by kernel_rfl
  have h2 : keep [] (lt f26C k (bodyOf Try.f26) [] [] (retKP f26C Try.f26.results f26o 65 [(.int .i64), (.int .i64)] true)) = [] := by kernel_rfl
  have h3 := evAt_cut (f26_s a0 a1) [3] [] (by kernel_rfl) h1 h2 (by kernel_rfl) (by kernel_rfl) (by kernel_rfl)
  have h4 := f26_A  (fun s => evAt f26C k (bodyOf Try.f26) [.r, .r] [] (retKP f26C Try.f26.results f26o 65 [(.int .i64), (.int .i64)] true) s) a0 a1
  exact h0.trans (h3.trans (h4.trans (by kernel_rfl)))
def f26_tj3   (a0 : List (Int)) (a1 : Int) : Option (((Int) × (List (Int)) × (Int)) ⊕ ((Int) × (Int))) :=
  bif (inB a1 (List.length a0)) then some (.inl ((rdI a0 (Int.toNat a1)), a0, (IntKind.wrap .i64 (a1 + (1 : Int))))) else none
set_option maxHeartbeats 4000000 in
set_option maxRecDepth 100000 in
theorem f26_Aj3  (Jj3 : St → Option (((Int) × (List (Int)) × (Int)) ⊕ ((Int) × (Int)))) (a0 : List (Int)) (a1 : Int) : evAtJ f26C [(3, Jj3)] [] (bodyOf Try.f26) [.r, .r] (retKP f26C Try.f26.results f26o 65 [(.int .i64), (.int .i64)] true) (f26_s3 a0 a1) = f26_tj3   a0 a1 := by
  kernel_rfl
set_option maxHeartbeats 4000000 in
set_option maxRecDepth 100000 in
theorem f26_ej3 (k : Nat)   (a0 : List (Int)) (a1 : Int) : f26_j3 k   a0 a1 = f26_tj3   a0 a1 := by
  have h0 : f26_j3 k   a0 a1 = evAt f26C k (bodyOf Try.f26) [.r, .r] [] (retKP f26C Try.f26.results f26o 65 [(.int .i64), (.int .i64)] true) (f26_s3 a0 a1) := by kernel_rfl
  have h1 : keep [3] (jt f26C k (bodyOf Try.f26) [.r, .r] [] (retKP f26C Try.f26.results f26o 65 [(.int .i64), (.int .i64)] true)) = [(3, (fun s => evAt f26C k (bodyOf Try.f26) [.r, .r] [] (retKP f26C Try.f26.results f26o 65 [(.int .i64), (.int .i64)] true) s))] := by kernel_rfl
  have h2 : keep [] (lt f26C k (bodyOf Try.f26) [.r, .r] [] (retKP f26C Try.f26.results f26o 65 [(.int .i64), (.int .i64)] true)) = [] := by kernel_rfl
  have h3 := evAt_cut (f26_s3 a0 a1) [3] [] (by kernel_rfl) h1 h2 (by kernel_rfl) (by kernel_rfl) (by kernel_rfl)
  have h4 := f26_Aj3  (fun s => evAt f26C k (bodyOf Try.f26) [.r, .r] [] (retKP f26C Try.f26.results f26o 65 [(.int .i64), (.int .i64)] true) s) a0 a1
  exact h0.trans (h3.trans (h4.trans (by kernel_rfl)))
set_option maxHeartbeats 4000000 in
set_option maxRecDepth 100000 in
theorem f26_ok (k : Nat)   : SigOK Try.prog 26 ⟨f26i, f26o, mkFunP f26i.tys f26o.tys 65 [(.int .i64), (.int .i64)] true (f26 k )⟩ :=
  fnP_ok (C := f26C) (l := f26E ) rfl trivial (by kernel_rfl) k (fn := Try.f26) (by kernel_rfl) (by kernel_rfl) (by kernel_rfl) f26i f26o 65 [(.int .i64), (.int .i64)] true rfl rfl (show 1 ≤ 48 by decide) (show 0 ≤ 48 by decide)
noncomputable def c26 (k : Nat) : ((List (Int)) × (Int)) → Option (((Int) × (List (Int)) × (Int)) ⊕ ((Int) × (Int))) := f26 k 
theorem c26_ok (k : Nat) : SigOK Try.prog 26 ⟨f26i, f26o, mkFunP f26i.tys f26o.tys 65 [(.int .i64), (.int .i64)] true (c26 k)⟩ := f26_ok k  

/-! (*carrefour/device.reader).num -/
def f27i : Sk := ⟨[.lf (.ptr 0 0)], [[.pv (.slice (.int .u8)), .pv (.int .i64)]], []⟩
def f27o : Sk := ⟨[.lf (.pv (.int .i64))], [[.pv (.slice (.int .u8)), .pv (.int .i64)]], []⟩
def f27_k4 : Sk := ⟨sparse 38 [(0, .lf (.ptr 0 0)), (2, .lf (.pv (.int .i64))), (3, .lf (.pv (.int .i64))), (4, .lf (.pv (.int .u64))), (11, .lf (.pv (.int .i64)))], [[.pv (.slice (.int .u8)), .pv (.int .i64)]], []⟩
noncomputable def f27E (g26 : ((List (Int)) × (Int)) → Option (((Int) × (List (Int)) × (Int)) ⊕ ((Int) × (Int)))) : List (Nat × List Sig) := [(26, [⟨f26i, f26o, mkFunP f26i.tys f26o.tys 65 [(.int .i64), (.int .i64)] true g26⟩])]
noncomputable def f27C (g26 : ((List (Int)) × (Int)) → Option (((Int) × (List (Int)) × (Int)) ⊕ ((Int) × (Int)))) : Cfg := { P := Try.prog, env := lookS (f27E g26), n := 86, npB := 1, npO := 0, hint := fun i => look none [(4, some f27_k4)] i, pops := [] }
def f27_s (a0 : List (Int)) (a1 : Int) : St := { enc f27i 86 [⟨(.slice (.int .u8)), a0⟩, ⟨(.int .i64), a1⟩] with slots := encAs f27i.slots [⟨(.slice (.int .u8)), a0⟩, ⟨(.int .i64), a1⟩] ++ List.replicate 37 .dead }
def f27_s4 (a0 : Int) (a1 : Int) (a2 : Int) (a3 : Int) (a4 : List (Int)) (a5 : Int) : St := enc f27_k4 86 [⟨(.int .i64), a0⟩, ⟨(.int .i64), a1⟩, ⟨(.int .u64), a2⟩, ⟨(.int .i64), a3⟩, ⟨(.slice (.int .u8)), a4⟩, ⟨(.int .i64), a5⟩]
noncomputable def f27 (k : Nat) (g26 : ((List (Int)) × (Int)) → Option (((Int) × (List (Int)) × (Int)) ⊕ ((Int) × (Int)))) : ((List (Int)) × (Int)) → Option (((Int) × (List (Int)) × (Int)) ⊕ ((Int) × (Int))) := fnOfP (f27C g26) k Try.f27 f27i f27o 65 [(.int .i64), (.int .i64)] true
noncomputable def f27_l4 (k : Nat) (g26 : ((List (Int)) × (Int)) → Option (((Int) × (List (Int)) × (Int)) ⊕ ((Int) × (Int)))) (j4 : Nat) (a0 : Int) (a1 : Int) (a2 : Int) (a3 : Int) (a4 : List (Int)) (a5 : Int) : Option (((Int) × (List (Int)) × (Int)) ⊕ ((Int) × (Int))) := loopAt (f27C g26) k (bodyOf Try.f27) [.r, .r, .r, .l, .r, .b] [] j4 (retKP (f27C g26) Try.f27.results f27o 65 [(.int .i64), (.int .i64)] true) (f27_s4 a0 a1 a2 a3 a4 a5)
def f27_t (g26 : ((List (Int)) × (Int)) → Option (((Int) × (List (Int)) × (Int)) ⊕ ((Int) × (Int)))) (Jl4 : Int → Int → Int → Int → (List (Int)) → Int → Option (((Int) × (List (Int)) × (Int)) ⊕ ((Int) × (Int)))) (a0 : List (Int)) (a1 : Int) : Option (((Int) × (List (Int)) × (Int)) ⊕ ((Int) × (Int))) :=
  Jl4 (0 : Int) a1 (0 : Int) (0 : Int) a0 a1
set_option maxHeartbeats 4000000 in
set_option maxRecDepth 100000 in
theorem f27_A (g26 : ((List (Int)) × (Int)) → Option (((Int) × (List (Int)) × (Int)) ⊕ ((Int) × (Int)))) (Jl4 : St → Option (((Int) × (List (Int)) × (Int)) ⊕ ((Int) × (Int)))) (a0 : List (Int)) (a1 : Int) : evAtJ (f27C g26) [] [(4, Jl4)] (bodyOf Try.f27) [] (retKP (f27C g26) Try.f27.results f27o 65 [(.int .i64), (.int .i64)] true) (f27_s a0 a1) = f27_t g26 (fun a0 a1 a2 a3 a4 a5 => Jl4 (f27_s4 a0 a1 a2 a3 a4 a5)) a0 a1 := by
  kernel_rfl
set_option maxHeartbeats 4000000 in
set_option maxRecDepth 100000 in
theorem f27_e (k : Nat) (g26 : ((List (Int)) × (Int)) → Option (((Int) × (List (Int)) × (Int)) ⊕ ((Int) × (Int))))  (a0 : List (Int)) (a1 : Int) : f27 k g26 (a0, a1) = f27_t g26 (f27_l4 k g26  k) a0 a1 := by
  have h0 : f27 k g26 (a0, a1) = evAt (f27C g26) k (bodyOf Try.f27) [] [] (retKP (f27C g26) Try.f27.results f27o 65 [(.int .i64), (.int .i64)] true) (f27_s a0 a1) := by kernel_rfl
  have h1 : keep [] (jt (f27C g26) k (bodyOf Try.f27) [] [] (retKP (f27C g26) Try.f27.results f27o 65 [(.int .i64), (.int .i64)] true)) = [] := by kernel_rfl
  have h2 : keep [4] (lt (f27C g26) k (bodyOf Try.f27) [] [] (retKP (f27C g26) Try.f27.results f27o 65 [(.int .i64), (.int .i64)] true)) = [(4, (fun s => loopAt (f27C g26) k (bodyOf Try.f27) [.r, .r, .r, .l, .r, .b] [] k (retKP (f27C g26) Try.f27.results f27o 65 [(.int .i64), (.int .i64)] true) s))] := by kernel_rfl
  have h3 := evAt_cut (f27_s a0 a1) [] [4] (by kernel_rfl) h1 h2 (by kernel_rfl) (by kernel_rfl) (by kernel_rfl)
  have h4 := f27_A g26 (fun s => loopAt (f27C g26) k (bodyOf Try.f27) [.r, .r, .r, .l, .r, .b] [] k (retKP (f27C g26) Try.f27.results f27o 65 [(.int .i64), (.int .i64)] true) s) a0 a1
  exact h0.trans (h3.trans (h4.trans (by kernel_rfl)))
def f27_tl4 (g26 : ((List (Int)) × (Int)) → Option (((Int) × (List (Int)) × (Int)) ⊕ ((Int) × (Int)))) (Jl4 : Int → Int → Int → Int → (List (Int)) → Int → Option (((Int) × (List (Int)) × (Int)) ⊕ ((Int) × (Int)))) (a0 : Int) (a1 : Int) (a2 : Int) (a3 : Int) (a4 : List (Int)) (a5 : Int) : Option (((Int) × (List (Int)) × (Int)) ⊕ ((Int) × (Int))) :=
  bif (decide (a3 < (9 : Int))) then ((g26 (a4, a5)).bind (orP (fun o1 => bif (decide (0 ≤ (IntKind.wrap .i64 ((7 : Int) * a3)))) then bif (decide (o1.1 ≥ (128 : Int))) then (Jl4 a0 a1 (IntKind.wrap .u64 ((BitVec.ofInt (IntKind.bits .u64) a2 ||| BitVec.ofInt (IntKind.bits .u64) (IntKind.wrap .u64 ((IntKind.wrap .u64 (IntKind.wrap .u8 ((BitVec.ofInt (IntKind.bits .u8) o1.1 &&& BitVec.ofInt (IntKind.bits .u8) (127 : Int)).toNat : Int))) * 2 ^ (min (Int.toNat (IntKind.wrap .i64 ((7 : Int) * a3))) (IntKind.bits .u64))))).toNat : Int)) (IntKind.wrap .i64 (a3 + (1 : Int))) (o1.2.1) (o1.2.2)) else (bif (o1.1 == (0 : Int)) then (bif (decide (a3 > (0 : Int))) then (some (.inr ((40 : Int), a1))) else (some (.inl ((IntKind.wrap .i64 (IntKind.wrap .u64 ((BitVec.ofInt (IntKind.bits .u64) a2 ||| BitVec.ofInt (IntKind.bits .u64) (IntKind.wrap .u64 ((IntKind.wrap .u64 (IntKind.wrap .u8 ((BitVec.ofInt (IntKind.bits .u8) o1.1 &&& BitVec.ofInt (IntKind.bits .u8) (127 : Int)).toNat : Int))) * 2 ^ (min (Int.toNat (IntKind.wrap .i64 ((7 : Int) * a3))) (IntKind.bits .u64))))).toNat : Int))), o1.2.1, o1.2.2)))) else (some (.inl ((IntKind.wrap .i64 (IntKind.wrap .u64 ((BitVec.ofInt (IntKind.bits .u64) a2 ||| BitVec.ofInt (IntKind.bits .u64) (IntKind.wrap .u64 ((IntKind.wrap .u64 (IntKind.wrap .u8 ((BitVec.ofInt (IntKind.bits .u8) o1.1 &&& BitVec.ofInt (IntKind.bits .u8) (127 : Int)).toNat : Int))) * 2 ^ (min (Int.toNat (IntKind.wrap .i64 ((7 : Int) * a3))) (IntKind.bits .u64))))).toNat : Int))), o1.2.1, o1.2.2)))) else none) (fun o2 => some (.inr (o2.1, o2.2))))) else (some (.inr ((40 : Int), a1)))
set_option maxHeartbeats 4000000 in
set_option maxRecDepth 100000 in
theorem f27_Al4 (g26 : ((List (Int)) × (Int)) → Option (((Int) × (List (Int)) × (Int)) ⊕ ((Int) × (Int)))) (Jl4 : St → Option (((Int) × (List (Int)) × (Int)) ⊕ ((Int) × (Int)))) (a0 : Int) (a1 : Int) (a2 : Int) (a3 : Int) (a4 : List (Int)) (a5 : Int) : evAtJ (f27C g26) [] [(4, Jl4)] (bodyOf Try.f27) [.r, .r, .r, .l, .r, .b, .b] (retKP (f27C g26) Try.f27.results f27o 65 [(.int .i64), (.int .i64)] true) (f27_s4 a0 a1 a2 a3 a4 a5) = f27_tl4 g26 (fun a0 a1 a2 a3 a4 a5 => Jl4 (f27_s4 a0 a1 a2 a3 a4 a5)) a0 a1 a2 a3 a4 a5 := by
  kernel_rfl
set_option maxHeartbeats 4000000 in
set_option maxRecDepth 100000 in
theorem f27_el4 (k : Nat) (g26 : ((List (Int)) × (Int)) → Option (((Int) × (List (Int)) × (Int)) ⊕ ((Int) × (Int)))) (j4 : Nat) (a0 : Int) (a1 : Int) (a2 : Int) (a3 : Int) (a4 : List (Int)) (a5 : Int) : f27_l4 k g26 (j4 + 1) a0 a1 a2 a3 a4 a5 = f27_tl4 g26 (f27_l4 k g26  j4) a0 a1 a2 a3 a4 a5 := by
  have h0 : f27_l4 k g26 (j4 + 1) a0 a1 a2 a3 a4 a5 = evAt (f27C g26) k (bodyOf Try.f27) [.r, .r, .r, .l, .r, .b, .b] [j4] (retKP (f27C g26) Try.f27.results f27o 65 [(.int .i64), (.int .i64)] true) (f27_s4 a0 a1 a2 a3 a4 a5) := by kernel_rfl
  have h1 : keep [] (jt (f27C g26) k (bodyOf Try.f27) [.r, .r, .r, .l, .r, .b, .b] [j4] (retKP (f27C g26) Try.f27.results f27o 65 [(.int .i64), (.int .i64)] true)) = [] := by kernel_rfl
  have h2 : keep [4] (lt (f27C g26) k (bodyOf Try.f27) [.r, .r, .r, .l, .r, .b, .b] [j4] (retKP (f27C g26) Try.f27.results f27o 65 [(.int .i64), (.int .i64)] true)) = [(4, (fun s => loopAt (f27C g26) k (bodyOf Try.f27) [.r, .r, .r, .l, .r, .b] [] j4 (retKP (f27C g26) Try.f27.results f27o 65 [(.int .i64), (.int .i64)] true) s))] := by kernel_rfl
  have h3 := evAt_cut (f27_s4 a0 a1 a2 a3 a4 a5) [] [4] (by kernel_rfl) h1 h2 (by kernel_rfl) (by kernel_rfl) (by kernel_rfl)
  have h4 := f27_Al4 g26 (fun s => loopAt (f27C g26) k (bodyOf Try.f27) [.r, .r, .r, .l, .r, .b] [] j4 (retKP (f27C g26) Try.f27.results f27o 65 [(.int .i64), (.int .i64)] true) s) a0 a1 a2 a3 a4 a5
  exact h0.trans (h3.trans (h4.trans (by kernel_rfl)))
set_option maxHeartbeats 4000000 in
set_option maxRecDepth 100000 in
theorem f27_ok (k : Nat) (g26 : ((List (Int)) × (Int)) → Option (((Int) × (List (Int)) × (Int)) ⊕ ((Int) × (Int)))) (hg26 : SigOK Try.prog 26 ⟨f26i, f26o, mkFunP f26i.tys f26o.tys 65 [(.int .i64), (.int .i64)] true g26⟩) : SigOK Try.prog 27 ⟨f27i, f27o, mkFunP f27i.tys f27o.tys 65 [(.int .i64), (.int .i64)] true (f27 k g26)⟩ :=
  fnP_ok (C := (f27C g26)) (l := f27E g26) rfl ⟨⟨hg26, trivial⟩, trivial⟩ (by kernel_rfl) k (fn := Try.f27) (by kernel_rfl) (by kernel_rfl) (by kernel_rfl) f27i f27o 65 [(.int .i64), (.int .i64)] true rfl rfl (show 1 ≤ 48 by decide) (show 0 ≤ 48 by decide)
noncomputable def c27 (k : Nat) : ((List (Int)) × (Int)) → Option (((Int) × (List (Int)) × (Int)) ⊕ ((Int) × (Int))) := f27 k (c26 k)
theorem c27_ok (k : Nat) : SigOK Try.prog 27 ⟨f27i, f27o, mkFunP f27i.tys f27o.tys 65 [(.int .i64), (.int .i64)] true (c27 k)⟩ := f27_ok k (c26 k) (c26_ok k)

/-! (*carrefour/device.reader).count -/
def f34i : Sk := ⟨[.lf (.ptr 0 0), .lf (.pv (.int .i64))], [[.pv (.slice (.int .u8)), .pv (.int .i64)]], []⟩
def f34o : Sk := ⟨[.lf (.pv (.int .i64))], [[.pv (.slice (.int .u8)), .pv (.int .i64)]], []⟩
noncomputable def f34E (g27 : ((List (Int)) × (Int)) → Option (((Int) × (List (Int)) × (Int)) ⊕ ((Int) × (Int)))) : List (Nat × List Sig) := [(27, [⟨f27i, f27o, mkFunP f27i.tys f27o.tys 65 [(.int .i64), (.int .i64)] true g27⟩])]
noncomputable def f34C (g27 : ((List (Int)) × (Int)) → Option (((Int) × (List (Int)) × (Int)) ⊕ ((Int) × (Int)))) : Cfg := { P := Try.prog, env := lookS (f34E g27), n := 68, npB := 1, npO := 0, hint := fun i => look none [] i, pops := [] }
def f34_s (a0 : Int) (a1 : List (Int)) (a2 : Int) : St := { enc f34i 68 [⟨(.int .i64), a0⟩, ⟨(.slice (.int .u8)), a1⟩, ⟨(.int .i64), a2⟩] with slots := encAs f34i.slots [⟨(.int .i64), a0⟩, ⟨(.slice (.int .u8)), a1⟩, ⟨(.int .i64), a2⟩] ++ List.replicate 18 .dead }
noncomputable def f34 (k : Nat) (g27 : ((List (Int)) × (Int)) → Option (((Int) × (List (Int)) × (Int)) ⊕ ((Int) × (Int)))) : ((Int) × (List (Int)) × (Int)) → Option (((Int) × (List (Int)) × (Int)) ⊕ ((Int) × (Int))) := fnOfP (f34C g27) k Try.f34 f34i f34o 65 [(.int .i64), (.int .i64)] true
def f34_t (g27 : ((List (Int)) × (Int)) → Option (((Int) × (List (Int)) × (Int)) ⊕ ((Int) × (Int))))  (a0 : Int) (a1 : List (Int)) (a2 : Int) : Option (((Int) × (List (Int)) × (Int)) ⊕ ((Int) × (Int))) :=
  (g27 (a1, a2)).bind (orP (fun o1 => bif (decide (o1.1 > a0)) then (some (.inr ((4 : Int), a2))) else (some (.inl (o1.1, o1.2.1, o1.2.2)))) (fun o2 => some (.inr (o2.1, o2.2))))
set_option maxHeartbeats 4000000 in
set_option maxRecDepth 100000 in
theorem f34_A (g27 : ((List (Int)) × (Int)) → Option (((Int) × (List (Int)) × (Int)) ⊕ ((Int) × (Int))))  (a0 : Int) (a1 : List (Int)) (a2 : Int) : evAtJ (f34C g27) [] [] (bodyOf Try.f34) [] (retKP (f34C g27) Try.f34.results f34o 65 [(.int .i64), (.int .i64)] true) (f34_s a0 a1 a2) = f34_t g27  a0 a1 a2 := by
  kernel_rfl
set_option maxHeartbeats 4000000 in
set_option maxRecDepth 100000 in
theorem f34_e (k : Nat) (g27 : ((List (Int)) × (Int)) → Option (((Int) × (List (Int)) × (Int)) ⊕ ((Int) × (Int))))  (a0 : Int) (a1 : List (Int)) (a2 : Int) : f34 k g27 (a0, a1, a2) = f34_t g27  a0 a1 a2 := by
  have h0 : f34 k g27 (a0, a1, a2) = evAt (f34C g27) k (bodyOf Try.f34) [] [] (retKP (f34C g27) Try.f34.results f34o 65 [(.int .i64), (.int .i64)] true) (f34_s a0 a1 a2) := by kernel_rfl
  have h1 : keep [] (jt (f34C g27) k (bodyOf Try.f34) [] [] (retKP (f34C g27) Try.f34.results f34o 65 [(.int .i64), (.int .i64)] true)) = [] := by kernel_rfl
  have h2 : keep [] (lt (f34C g27) k (bodyOf Try.f34) [] [] (retKP (f34C g27) Try.f34.results f34o 65 [(.int .i64), (.int .i64)] true)) = [] := by kernel_rfl
  have h3 := evAt_cut (f34_s a0 a1 a2) [] [] (by kernel_rfl) h1 h2 (by kernel_rfl) (by kernel_rfl) (by kernel_rfl)
  have h4 := f34_A g27  a0 a1 a2
  exact h0.trans (h3.trans (h4.trans (by kernel_rfl)))
set_option maxHeartbeats 4000000 in
set_option maxRecDepth 100000 in
theorem f34_ok (k : Nat) (g27 : ((List (Int)) × (Int)) → Option (((Int) × (List (Int)) × (Int)) ⊕ ((Int) × (Int)))) (hg27 : SigOK Try.prog 27 ⟨f27i, f27o, mkFunP f27i.tys f27o.tys 65 [(.int .i64), (.int .i64)] true g27⟩) : SigOK Try.prog 34 ⟨f34i, f34o, mkFunP f34i.tys f34o.tys 65 [(.int .i64), (.int .i64)] true (f34 k g27)⟩ :=
  fnP_ok (C := (f34C g27)) (l := f34E g27) rfl ⟨⟨hg27, trivial⟩, trivial⟩ (by kernel_rfl) k (fn := Try.f34) (by kernel_rfl) (by kernel_rfl) (by kernel_rfl) f34i f34o 65 [(.int .i64), (.int .i64)] true rfl rfl (show 1 ≤ 48 by decide) (show 0 ≤ 48 by decide)
noncomputable def c34 (k : Nat) : ((Int) × (List (Int)) × (Int)) → Option (((Int) × (List (Int)) × (Int)) ⊕ ((Int) × (Int))) := f34 k (c27 k)
theorem c34_ok (k : Nat) : SigOK Try.prog 34 ⟨f34i, f34o, mkFunP f34i.tys f34o.tys 65 [(.int .i64), (.int .i64)] true (c34 k)⟩ := f34_ok k (c27 k) (c27_ok k)

/-! (*carrefour/device.reader).name -/
def f35i : Sk := ⟨[.lf (.ptr 0 0)], [[.pv (.slice (.int .u8)), .pv (.int .i64)]], []⟩
def f35o : Sk := ⟨[.lf (.pv .str)], [[.pv (.slice (.int .u8)), .pv (.int .i64)]], []⟩
def f35_k4 : Sk := ⟨sparse 28 [(0, .lf (.ptr 0 0)), (4, .lf (.pv (.int .i64))), (11, .lf (.pv (.int .i64))), (12, .lf (.pv (.int .i64)))], [[.pv (.slice (.int .u8)), .pv (.int .i64)]], []⟩
noncomputable def f35E (g34 : ((Int) × (List (Int)) × (Int)) → Option (((Int) × (List (Int)) × (Int)) ⊕ ((Int) × (Int)))) (g26 : ((List (Int)) × (Int)) → Option (((Int) × (List (Int)) × (Int)) ⊕ ((Int) × (Int)))) : List (Nat × List Sig) := [(34, [⟨f34i, f34o, mkFunP f34i.tys f34o.tys 65 [(.int .i64), (.int .i64)] true g34⟩]), (26, [⟨f26i, f26o, mkFunP f26i.tys f26o.tys 65 [(.int .i64), (.int .i64)] true g26⟩])]
noncomputable def f35C (g34 : ((Int) × (List (Int)) × (Int)) → Option (((Int) × (List (Int)) × (Int)) ⊕ ((Int) × (Int)))) (g26 : ((List (Int)) × (Int)) → Option (((Int) × (List (Int)) × (Int)) ⊕ ((Int) × (Int)))) : Cfg := { P := Try.prog, env := lookS (f35E g34 g26), n := 76, npB := 1, npO := 0, hint := fun i => look none [(4, some f35_k4)] i, pops := [] }
def f35_s (a0 : List (Int)) (a1 : Int) : St := { enc f35i 76 [⟨(.slice (.int .u8)), a0⟩, ⟨(.int .i64), a1⟩] with slots := encAs f35i.slots [⟨(.slice (.int .u8)), a0⟩, ⟨(.int .i64), a1⟩] ++ List.replicate 27 .dead }
def f35_s4 (a0 : Int) (a1 : Int) (a2 : Int) (a3 : List (Int)) (a4 : Int) : St := enc f35_k4 76 [⟨(.int .i64), a0⟩, ⟨(.int .i64), a1⟩, ⟨(.int .i64), a2⟩, ⟨(.slice (.int .u8)), a3⟩, ⟨(.int .i64), a4⟩]
noncomputable def f35 (k : Nat) (g34 : ((Int) × (List (Int)) × (Int)) → Option (((Int) × (List (Int)) × (Int)) ⊕ ((Int) × (Int)))) (g26 : ((List (Int)) × (Int)) → Option (((Int) × (List (Int)) × (Int)) ⊕ ((Int) × (Int)))) : ((List (Int)) × (Int)) → Option (((List Int) × (List (Int)) × (Int)) ⊕ ((Int) × (Int))) := fnOfP (f35C g34 g26) k Try.f35 f35i f35o 65 [(.int .i64), (.int .i64)] true
noncomputable def f35_l4 (k : Nat) (g34 : ((Int) × (List (Int)) × (Int)) → Option (((Int) × (List (Int)) × (Int)) ⊕ ((Int) × (Int)))) (g26 : ((List (Int)) × (Int)) → Option (((Int) × (List (Int)) × (Int)) ⊕ ((Int) × (Int)))) (j4 : Nat) (a0 : Int) (a1 : Int) (a2 : Int) (a3 : List (Int)) (a4 : Int) : Option (((List Int) × (List (Int)) × (Int)) ⊕ ((Int) × (Int))) := loopAt (f35C g34 g26) k (bodyOf Try.f35) [.r, .r, .r, .l, .r, .b] [] j4 (retKP (f35C g34 g26) Try.f35.results f35o 65 [(.int .i64), (.int .i64)] true) (f35_s4 a0 a1 a2 a3 a4)
def f35_t (g34 : ((Int) × (List (Int)) × (Int)) → Option (((Int) × (List (Int)) × (Int)) ⊕ ((Int) × (Int)))) (g26 : ((List (Int)) × (Int)) → Option (((Int) × (List (Int)) × (Int)) ⊕ ((Int) × (Int)))) (Jl4 : Int → Int → Int → (List (Int)) → Int → Option (((List Int) × (List (Int)) × (Int)) ⊕ ((Int) × (Int)))) (a0 : List (Int)) (a1 : Int) : Option (((List Int) × (List (Int)) × (Int)) ⊕ ((Int) × (Int))) :=
  (g34 ((24 : Int), a0, a1)).bind (orP (fun o1 => Jl4 (o1.2.2) (o1.1) (0 : Int) (o1.2.1) (o1.2.2)) (fun o2 => some (.inr (o2.1, o2.2))))
set_option maxHeartbeats 4000000 in
set_option maxRecDepth 100000 in
theorem f35_A (g34 : ((Int) × (List (Int)) × (Int)) → Option (((Int) × (List (Int)) × (Int)) ⊕ ((Int) × (Int)))) (g26 : ((List (Int)) × (Int)) → Option (((Int) × (List (Int)) × (Int)) ⊕ ((Int) × (Int)))) (Jl4 : St → Option (((List Int) × (List (Int)) × (Int)) ⊕ ((Int) × (Int)))) (a0 : List (Int)) (a1 : Int) : evAtJ (f35C g34 g26) [] [(4, Jl4)] (bodyOf Try.f35) [] (retKP (f35C g34 g26) Try.f35.results f35o 65 [(.int .i64), (.int .i64)] true) (f35_s a0 a1) = f35_t g34 g26 (fun a0 a1 a2 a3 a4 => Jl4 (f35_s4 a0 a1 a2 a3 a4)) a0 a1 := by
  kernel_rfl
set_option maxHeartbeats 4000000 in
set_option maxRecDepth 100000 in
theorem f35_e (k : Nat) (g34 : ((Int) × (List (Int)) × (Int)) → Option (((Int) × (List (Int)) × (Int)) ⊕ ((Int) × (Int)))) (g26 : ((List (Int)) × (Int)) → Option (((Int) × (List (Int)) × (Int)) ⊕ ((Int) × (Int))))  (a0 : List (Int)) (a1 : Int) : f35 k g34 g26 (a0, a1) = f35_t g34 g26 (f35_l4 k g34 g26  k) a0 a1 := by
  have h0 : f35 k g34 g26 (a0, a1) = evAt (f35C g34 g26) k (bodyOf Try.f35) [] [] (retKP (f35C g34 g26) Try.f35.results f35o 65 [(.int .i64), (.int .i64)] true) (f35_s a0 a1) := by kernel_rfl
  have h1 : keep [] (jt (f35C g34 g26) k (bodyOf Try.f35) [] [] (retKP (f35C g34 g26) Try.f35.results f35o 65 [(.int .i64), (.int .i64)] true)) = [] := by kernel_rfl
  have h2 : keep [4] (lt (f35C g34 g26) k (bodyOf Try.f35) [] [] (retKP (f35C g34 g26) Try.f35.results f35o 65 [(.int .i64), (.int .i64)] true)) = [(4, (fun s => loopAt (f35C g34 g26) k (bodyOf Try.f35) [.r, .r, .r, .l, .r, .b] [] k (retKP (f35C g34 g26) Try.f35.results f35o 65 [(.int .i64), (.int .i64)] true) s))] := by kernel_rfl
  have h3 := evAt_cut (f35_s a0 a1) [] [4] (by kernel_rfl) h1 h2 (by kernel_rfl) (by kernel_rfl) (by kernel_rfl)
  have h4 := f35_A g34 g26 (fun s => loopAt (f35C g34 g26) k (bodyOf Try.f35) [.r, .r, .r, .l, .r, .b] [] k (retKP (f35C g34 g26) Try.f35.results f35o 65 [(.int .i64), (.int .i64)] true) s) a0 a1
  exact h0.trans (h3.trans (h4.trans (by kernel_rfl)))
def f35_tl4 (g34 : ((Int) × (List (Int)) × (Int)) → Option (((Int) × (List (Int)) × (Int)) ⊕ ((Int) × (Int)))) (g26 : ((List (Int)) × (Int)) → Option (((Int) × (List (Int)) × (Int)) ⊕ ((Int) × (Int)))) (Jl4 : Int → Int → Int → (List (Int)) → Int → Option (((List Int) × (List (Int)) × (Int)) ⊕ ((Int) × (Int)))) (a0 : Int) (a1 : Int) (a2 : Int) (a3 : List (Int)) (a4 : Int) : Option (((List Int) × (List (Int)) × (Int)) ⊕ ((Int) × (Int))) :=
  bif (decide (a2 < a1)) then ((g26 (a3, a4)).bind (orP (fun o1 => Jl4 a0 a1 (IntKind.wrap .i64 (a2 + (1 : Int))) (o1.2.1) (o1.2.2)) (fun o2 => some (.inr (o2.1, o2.2))))) else (bif (cutB a0 a4 (List.length a3)) then some (.inl ((cutL a3 a0 a4), a3, a4)) else none)
set_option maxHeartbeats 4000000 in
set_option maxRecDepth 100000 in
theorem f35_Al4 (g34 : ((Int) × (List (Int)) × (Int)) → Option (((Int) × (List (Int)) × (Int)) ⊕ ((Int) × (Int)))) (g26 : ((List (Int)) × (Int)) → Option (((Int) × (List (Int)) × (Int)) ⊕ ((Int) × (Int)))) (Jl4 : St → Option (((List Int) × (List (Int)) × (Int)) ⊕ ((Int) × (Int)))) (a0 : Int) (a1 : Int) (a2 : Int) (a3 : List (Int)) (a4 : Int) : evAtJ (f35C g34 g26) [] [(4, Jl4)] (bodyOf Try.f35) [.r, .r, .r, .l, .r, .b, .b] (retKP (f35C g34 g26) Try.f35.results f35o 65 [(.int .i64), (.int .i64)] true) (f35_s4 a0 a1 a2 a3 a4) = f35_tl4 g34 g26 (fun a0 a1 a2 a3 a4 => Jl4 (f35_s4 a0 a1 a2 a3 a4)) a0 a1 a2 a3 a4 := by
  kernel_rfl
set_option maxHeartbeats 4000000 in
set_option maxRecDepth 100000 in
theorem f35_el4 (k : Nat) (g34 : ((Int) × (List (Int)) × (Int)) → Option (((Int) × (List (Int)) × (Int)) ⊕ ((Int) × (Int)))) (g26 : ((List (Int)) × (Int)) → Option (((Int) × (List (Int)) × (Int)) ⊕ ((Int) × (Int)))) (j4 : Nat) (a0 : Int) (a1 : Int) (a2 : Int) (a3 : List (Int)) (a4 : Int) : f35_l4 k g34 g26 (j4 + 1) a0 a1 a2 a3 a4 = f35_tl4 g34 g26 (f35_l4 k g34 g26  j4) a0 a1 a2 a3 a4 := by
  have h0 : f35_l4 k g34 g26 (j4 + 1) a0 a1 a2 a3 a4 = evAt (f35C g34 g26) k (bodyOf Try.f35) [.r, .r, .r, .l, .r, .b, .b] [j4] (retKP (f35C g34 g26) Try.f35.results f35o 65 [(.int .i64), (.int .i64)] true) (f35_s4 a0 a1 a2 a3 a4) := by kernel_rfl
  have h1 : keep [] (jt (f35C g34 g26) k (bodyOf Try.f35) [.r, .r, .r, .l, .r, .b, .b] [j4] (retKP (f35C g34 g26) Try.f35.results f35o 65 [(.int .i64), (.int .i64)] true)) = [] := by kernel_rfl
  have h2 : keep [4] (lt (f35C g34 g26) k (bodyOf Try.f35) [.r, .r, .r, .l, .r, .b, .b] [j4] (retKP (f35C g34 g26) Try.f35.results f35o 65 [(.int .i64), (.int .i64)] true)) = [(4, (fun s => loopAt (f35C g34 g26) k (bodyOf Try.f35) [.r, .r, .r, .l, .r, .b] [] j4 (retKP (f35C g34 g26) Try.f35.results f35o 65 [(.int .i64), (.int .i64)] true) s))] := by kernel_rfl
  have h3 := evAt_cut (f35_s4 a0 a1 a2 a3 a4) [] [4] (by kernel_rfl) h1 h2 (by kernel_rfl) (by kernel_rfl) (by kernel_rfl)
  have h4 := f35_Al4 g34 g26 (fun s => loopAt (f35C g34 g26) k (bodyOf Try.f35) [.r, .r, .r, .l, .r, .b] [] j4 (retKP (f35C g34 g26) Try.f35.results f35o 65 [(.int .i64), (.int .i64)] true) s) a0 a1 a2 a3 a4
  exact h0.trans (h3.trans (h4.trans (by kernel_rfl)))
set_option maxHeartbeats 4000000 in
set_option maxRecDepth 100000 in
theorem f35_ok (k : Nat) (g34 : ((Int) × (List (Int)) × (Int)) → Option (((Int) × (List (Int)) × (Int)) ⊕ ((Int) × (Int)))) (g26 : ((List (Int)) × (Int)) → Option (((Int) × (List (Int)) × (Int)) ⊕ ((Int) × (Int)))) (hg34 : SigOK Try.prog 34 ⟨f34i, f34o, mkFunP f34i.tys f34o.tys 65 [(.int .i64), (.int .i64)] true g34⟩) (hg26 : SigOK Try.prog 26 ⟨f26i, f26o, mkFunP f26i.tys f26o.tys 65 [(.int .i64), (.int .i64)] true g26⟩) : SigOK Try.prog 35 ⟨f35i, f35o, mkFunP f35i.tys f35o.tys 65 [(.int .i64), (.int .i64)] true (f35 k g34 g26)⟩ :=
  fnP_ok (C := (f35C g34 g26)) (l := f35E g34 g26) rfl ⟨⟨hg34, trivial⟩, ⟨hg26, trivial⟩, trivial⟩ (by kernel_rfl) k (fn := Try.f35) (by kernel_rfl) (by kernel_rfl) (by kernel_rfl) f35i f35o 65 [(.int .i64), (.int .i64)] true rfl rfl (show 1 ≤ 48 by decide) (show 0 ≤ 48 by decide)
noncomputable def c35 (k : Nat) : ((List (Int)) × (Int)) → Option (((List Int) × (List (Int)) × (Int)) ⊕ ((Int) × (Int))) := f35 k (c34 k) (c26 k)
theorem c35_ok (k : Nat) : SigOK Try.prog 35 ⟨f35i, f35o, mkFunP f35i.tys f35o.tys 65 [(.int .i64), (.int .i64)] true (c35 k)⟩ := f35_ok k (c34 k) (c26 k) (c34_ok k) (c26_ok k)

/-! (*carrefour/device.reader).walk -/
def f47i : Sk := ⟨[.lf (.ptr 0 0)], [[.pv (.slice (.int .u8)), .pv (.int .i64)]], []⟩
def f47o : Sk := ⟨[.agg [.pv .str, .pv (.int .i64), .pv (.int .i64)]], [[.pv (.slice (.int .u8)), .pv (.int .i64)]], []⟩
noncomputable def f47E (g35 : ((List (Int)) × (Int)) → Option (((List Int) × (List (Int)) × (Int)) ⊕ ((Int) × (Int)))) (g27 : ((List (Int)) × (Int)) → Option (((Int) × (List (Int)) × (Int)) ⊕ ((Int) × (Int)))) : List (Nat × List Sig) := [(35, [⟨f35i, f35o, mkFunP f35i.tys f35o.tys 65 [(.int .i64), (.int .i64)] true g35⟩]), (27, [⟨f27i, f27o, mkFunP f27i.tys f27o.tys 65 [(.int .i64), (.int .i64)] true g27⟩])]
noncomputable def f47C (g35 : ((List (Int)) × (Int)) → Option (((List Int) × (List (Int)) × (Int)) ⊕ ((Int) × (Int)))) (g27 : ((List (Int)) × (Int)) → Option (((Int) × (List (Int)) × (Int)) ⊕ ((Int) × (Int)))) : Cfg := { P := Try.prog, env := lookS (f47E g35 g27), n := 58, npB := 1, npO := 0, hint := fun i => look none [] i, pops := [] }
def f47_s (a0 : List (Int)) (a1 : Int) : St := { enc f47i 58 [⟨(.slice (.int .u8)), a0⟩, ⟨(.int .i64), a1⟩] with slots := encAs f47i.slots [⟨(.slice (.int .u8)), a0⟩, ⟨(.int .i64), a1⟩] ++ List.replicate 9 .dead }
noncomputable def f47 (k : Nat) (g35 : ((List (Int)) × (Int)) → Option (((List Int) × (List (Int)) × (Int)) ⊕ ((Int) × (Int)))) (g27 : ((List (Int)) × (Int)) → Option (((Int) × (List (Int)) × (Int)) ⊕ ((Int) × (Int)))) : ((List (Int)) × (Int)) → Option (((List Int) × (Int) × (Int) × (List (Int)) × (Int)) ⊕ ((Int) × (Int))) := fnOfP (f47C g35 g27) k Try.f47 f47i f47o 65 [(.int .i64), (.int .i64)] true
def f47_t (g35 : ((List (Int)) × (Int)) → Option (((List Int) × (List (Int)) × (Int)) ⊕ ((Int) × (Int)))) (g27 : ((List (Int)) × (Int)) → Option (((Int) × (List (Int)) × (Int)) ⊕ ((Int) × (Int))))  (a0 : List (Int)) (a1 : Int) : Option (((List Int) × (Int) × (Int) × (List (Int)) × (Int)) ⊕ ((Int) × (Int))) :=
  (g35 (a0, a1)).bind (orP (fun o1 => (g27 (o1.2.1, o1.2.2)).bind (orP (fun o3 => (g27 (o3.2.1, o3.2.2)).bind (orP (fun o5 => some (.inl (o1.1, o3.1, o5.1, o5.2.1, o5.2.2))) (fun o6 => some (.inr (o6.1, o6.2))))) (fun o4 => some (.inr (o4.1, o4.2))))) (fun o2 => some (.inr (o2.1, o2.2))))
set_option maxHeartbeats 4000000 in
set_option maxRecDepth 100000 in
theorem f47_A (g35 : ((List (Int)) × (Int)) → Option (((List Int) × (List (Int)) × (Int)) ⊕ ((Int) × (Int)))) (g27 : ((List (Int)) × (Int)) → Option (((Int) × (List (Int)) × (Int)) ⊕ ((Int) × (Int))))  (a0 : List (Int)) (a1 : Int) : evAtJ (f47C g35 g27) [] [] (bodyOf Try.f47) [] (retKP (f47C g35 g27) Try.f47.results f47o 65 [(.int .i64), (.int .i64)] true) (f47_s a0 a1) = f47_t g35 g27  a0 a1 := by
  kernel_rfl
set_option maxHeartbeats 4000000 in
set_option maxRecDepth 100000 in
theorem f47_e (k : Nat) (g35 : ((List (Int)) × (Int)) → Option (((List Int) × (List (Int)) × (Int)) ⊕ ((Int) × (Int)))) (g27 : ((List (Int)) × (Int)) → Option (((Int) × (List (Int)) × (Int)) ⊕ ((Int) × (Int))))  (a0 : List (Int)) (a1 : Int) : f47 k g35 g27 (a0, a1) = f47_t g35 g27  a0 a1 := by
  have h0 : f47 k g35 g27 (a0, a1) = evAt (f47C g35 g27) k (bodyOf Try.f47) [] [] (retKP (f47C g35 g27) Try.f47.results f47o 65 [(.int .i64), (.int .i64)] true) (f47_s a0 a1) := by kernel_rfl
  have h1 : keep [] (jt (f47C g35 g27) k (bodyOf Try.f47) [] [] (retKP (f47C g35 g27) Try.f47.results f47o 65 [(.int .i64), (.int .i64)] true)) = [] := by kernel_rfl
  have h2 : keep [] (lt (f47C g35 g27) k (bodyOf Try.f47) [] [] (retKP (f47C g35 g27) Try.f47.results f47o 65 [(.int .i64), (.int .i64)] true)) = [] := by kernel_rfl
  have h3 := evAt_cut (f47_s a0 a1) [] [] (by kernel_rfl) h1 h2 (by kernel_rfl) (by kernel_rfl) (by kernel_rfl)
  have h4 := f47_A g35 g27  a0 a1
  exact h0.trans (h3.trans (h4.trans (by kernel_rfl)))
set_option maxHeartbeats 4000000 in
set_option maxRecDepth 100000 in
theorem f47_ok (k : Nat) (g35 : ((List (Int)) × (Int)) → Option (((List Int) × (List (Int)) × (Int)) ⊕ ((Int) × (Int)))) (g27 : ((List (Int)) × (Int)) → Option (((Int) × (List (Int)) × (Int)) ⊕ ((Int) × (Int)))) (hg35 : SigOK Try.prog 35 ⟨f35i, f35o, mkFunP f35i.tys f35o.tys 65 [(.int .i64), (.int .i64)] true g35⟩) (hg27 : SigOK Try.prog 27 ⟨f27i, f27o, mkFunP f27i.tys f27o.tys 65 [(.int .i64), (.int .i64)] true g27⟩) : SigOK Try.prog 47 ⟨f47i, f47o, mkFunP f47i.tys f47o.tys 65 [(.int .i64), (.int .i64)] true (f47 k g35 g27)⟩ :=
  fnP_ok (C := (f47C g35 g27)) (l := f47E g35 g27) rfl ⟨⟨hg35, trivial⟩, ⟨hg27, trivial⟩, trivial⟩ (by kernel_rfl) k (fn := Try.f47) (by kernel_rfl) (by kernel_rfl) (by kernel_rfl) f47i f47o 65 [(.int .i64), (.int .i64)] true rfl rfl (show 1 ≤ 48 by decide) (show 0 ≤ 48 by decide)
noncomputable def c47 (k : Nat) : ((List (Int)) × (Int)) → Option (((List Int) × (Int) × (Int) × (List (Int)) × (Int)) ⊕ ((Int) × (Int))) := f47 k (c35 k) (c27 k)
theorem c47_ok (k : Nat) : SigOK Try.prog 47 ⟨f47i, f47o, mkFunP f47i.tys f47o.tys 65 [(.int .i64), (.int .i64)] true (c47 k)⟩ := f47_ok k (c35 k) (c27 k) (c35_ok k) (c27_ok k)

/-! carrefour/device.take[carrefour/api.Walk] -/
def f46i : Sk := ⟨[.lf (.ptr 0 0), .lf (.pv (.int .i64)), .lf (.fn 47 [(0, 0)] [])], [[.pv (.slice (.int .u8)), .pv (.int .i64)]], []⟩
def f46o : Sk := ⟨[.lf (.own 0)], [[.pv (.slice (.int .u8)), .pv (.int .i64)]], [some (50, yt0)]⟩
def f46_k3 : Sk := ⟨sparse 20 [(0, .lf (.ptr 0 0)), (2, .lf (.fn 47 [(0, 0)] [])), (7, .lf (.own 0)), (10, .lf (.pv (.int .i64))), (11, .lf (.pv (.int .i64)))], [[.pv (.slice (.int .u8)), .pv (.int .i64)]], [some (50, yt0)]⟩
noncomputable def f46E (g34 : ((Int) × (List (Int)) × (Int)) → Option (((Int) × (List (Int)) × (Int)) ⊕ ((Int) × (Int)))) (g47 : ((List (Int)) × (Int)) → Option (((List Int) × (Int) × (Int) × (List (Int)) × (Int)) ⊕ ((Int) × (Int)))) : List (Nat × List Sig) := [(34, [⟨f34i, f34o, mkFunP f34i.tys f34o.tys 65 [(.int .i64), (.int .i64)] true g34⟩]), (47, [⟨f47i, f47o, mkFunP f47i.tys f47o.tys 65 [(.int .i64), (.int .i64)] true g47⟩])]
noncomputable def f46C (g34 : ((Int) × (List (Int)) × (Int)) → Option (((Int) × (List (Int)) × (Int)) ⊕ ((Int) × (Int)))) (g47 : ((List (Int)) × (Int)) → Option (((List Int) × (Int) × (Int) × (List (Int)) × (Int)) ⊕ ((Int) × (Int)))) : Cfg := { P := Try.prog, env := lookS (f46E g34 g47), n := 68, npB := 1, npO := 0, hint := fun i => look none [(3, some f46_k3)] i, pops := [] }
def f46_s (a0 : Int) (a1 : List (Int)) (a2 : Int) : St := { enc f46i 68 [⟨(.int .i64), a0⟩, ⟨(.slice (.int .u8)), a1⟩, ⟨(.int .i64), a2⟩] with slots := encAs f46i.slots [⟨(.int .i64), a0⟩, ⟨(.slice (.int .u8)), a1⟩, ⟨(.int .i64), a2⟩] ++ List.replicate 17 .dead }
def f46_s3 (a0 : Int) (a1 : Int) (a2 : List (Int)) (a3 : Int) (a4 : List (YT0)) : St := enc f46_k3 68 [⟨(.int .i64), a0⟩, ⟨(.int .i64), a1⟩, ⟨(.slice (.int .u8)), a2⟩, ⟨(.int .i64), a3⟩, ⟨(.slice yt0), a4⟩]
noncomputable def f46 (k : Nat) (g34 : ((Int) × (List (Int)) × (Int)) → Option (((Int) × (List (Int)) × (Int)) ⊕ ((Int) × (Int)))) (g47 : ((List (Int)) × (Int)) → Option (((List Int) × (Int) × (Int) × (List (Int)) × (Int)) ⊕ ((Int) × (Int)))) : ((Int) × (List (Int)) × (Int)) → Option (((List (Int)) × (Int) × (List (YT0))) ⊕ ((Int) × (Int))) := fnOfP (f46C g34 g47) k Try.f46 f46i f46o 65 [(.int .i64), (.int .i64)] true
noncomputable def f46_l3 (k : Nat) (g34 : ((Int) × (List (Int)) × (Int)) → Option (((Int) × (List (Int)) × (Int)) ⊕ ((Int) × (Int)))) (g47 : ((List (Int)) × (Int)) → Option (((List Int) × (Int) × (Int) × (List (Int)) × (Int)) ⊕ ((Int) × (Int)))) (j3 : Nat) (a0 : Int) (a1 : Int) (a2 : List (Int)) (a3 : Int) (a4 : List (YT0)) : Option (((List (Int)) × (Int) × (List (YT0))) ⊕ ((Int) × (Int))) := loopAt (f46C g34 g47) k (bodyOf Try.f46) [.r, .r, .l, .r, .b] [] j3 (retKP (f46C g34 g47) Try.f46.results f46o 65 [(.int .i64), (.int .i64)] true) (f46_s3 a0 a1 a2 a3 a4)
def f46_t (g34 : ((Int) × (List (Int)) × (Int)) → Option (((Int) × (List (Int)) × (Int)) ⊕ ((Int) × (Int)))) (g47 : ((List (Int)) × (Int)) → Option (((List Int) × (Int) × (Int) × (List (Int)) × (Int)) ⊕ ((Int) × (Int)))) (Jl3 : Int → Int → (List (Int)) → Int → (List (YT0)) → Option (((List (Int)) × (Int) × (List (YT0))) ⊕ ((Int) × (Int)))) (a0 : Int) (a1 : List (Int)) (a2 : Int) : Option (((List (Int)) × (Int) × (List (YT0))) ⊕ ((Int) × (Int))) :=
  (g34 (a0, a1, a2)).bind (orP (fun o1 => Jl3 (o1.1) (0 : Int) (o1.2.1) (o1.2.2) ([])) (fun o2 => some (.inr (o2.1, o2.2))))
set_option maxHeartbeats 4000000 in
set_option maxRecDepth 100000 in
theorem f46_A (g34 : ((Int) × (List (Int)) × (Int)) → Option (((Int) × (List (Int)) × (Int)) ⊕ ((Int) × (Int)))) (g47 : ((List (Int)) × (Int)) → Option (((List Int) × (Int) × (Int) × (List (Int)) × (Int)) ⊕ ((Int) × (Int)))) (Jl3 : St → Option (((List (Int)) × (Int) × (List (YT0))) ⊕ ((Int) × (Int)))) (a0 : Int) (a1 : List (Int)) (a2 : Int) : evAtJ (f46C g34 g47) [] [(3, Jl3)] (bodyOf Try.f46) [] (retKP (f46C g34 g47) Try.f46.results f46o 65 [(.int .i64), (.int .i64)] true) (f46_s a0 a1 a2) = f46_t g34 g47 (fun a0 a1 a2 a3 a4 => Jl3 (f46_s3 a0 a1 a2 a3 a4)) a0 a1 a2 := by
  kernel_rfl
set_option maxHeartbeats 4000000 in
set_option maxRecDepth 100000 in
theorem f46_e (k : Nat) (g34 : ((Int) × (List (Int)) × (Int)) → Option (((Int) × (List (Int)) × (Int)) ⊕ ((Int) × (Int)))) (g47 : ((List (Int)) × (Int)) → Option (((List Int) × (Int) × (Int) × (List (Int)) × (Int)) ⊕ ((Int) × (Int))))  (a0 : Int) (a1 : List (Int)) (a2 : Int) : f46 k g34 g47 (a0, a1, a2) = f46_t g34 g47 (f46_l3 k g34 g47  k) a0 a1 a2 := by
  have h0 : f46 k g34 g47 (a0, a1, a2) = evAt (f46C g34 g47) k (bodyOf Try.f46) [] [] (retKP (f46C g34 g47) Try.f46.results f46o 65 [(.int .i64), (.int .i64)] true) (f46_s a0 a1 a2) := by kernel_rfl
  have h1 : keep [] (jt (f46C g34 g47) k (bodyOf Try.f46) [] [] (retKP (f46C g34 g47) Try.f46.results f46o 65 [(.int .i64), (.int .i64)] true)) = [] := by kernel_rfl
  have h2 : keep [3] (lt (f46C g34 g47) k (bodyOf Try.f46) [] [] (retKP (f46C g34 g47) Try.f46.results f46o 65 [(.int .i64), (.int .i64)] true)) = [(3, (fun s => loopAt (f46C g34 g47) k (bodyOf Try.f46) [.r, .r, .l, .r, .b] [] k (retKP (f46C g34 g47) Try.f46.results f46o 65 [(.int .i64), (.int .i64)] true) s))] := by kernel_rfl
  have h3 := evAt_cut (f46_s a0 a1 a2) [] [3] (by kernel_rfl) h1 h2 (by kernel_rfl) (by kernel_rfl) (by kernel_rfl)
  have h4 := f46_A g34 g47 (fun s => loopAt (f46C g34 g47) k (bodyOf Try.f46) [.r, .r, .l, .r, .b] [] k (retKP (f46C g34 g47) Try.f46.results f46o 65 [(.int .i64), (.int .i64)] true) s) a0 a1 a2
  exact h0.trans (h3.trans (h4.trans (by kernel_rfl)))
def f46_tl3 (g34 : ((Int) × (List (Int)) × (Int)) → Option (((Int) × (List (Int)) × (Int)) ⊕ ((Int) × (Int)))) (g47 : ((List (Int)) × (Int)) → Option (((List Int) × (Int) × (Int) × (List (Int)) × (Int)) ⊕ ((Int) × (Int)))) (Jl3 : Int → Int → (List (Int)) → Int → (List (YT0)) → Option (((List (Int)) × (Int) × (List (YT0))) ⊕ ((Int) × (Int)))) (a0 : Int) (a1 : Int) (a2 : List (Int)) (a3 : Int) (a4 : List (YT0)) : Option (((List (Int)) × (Int) × (List (YT0))) ⊕ ((Int) × (Int))) :=
  bif (decide (a1 < a0)) then ((g47 (a2, a3)).bind (orP (fun o1 => bif (appB 32 (List.length a4) (List.length ([(o1.1, (o1.2.1, (o1.2.2.1, ())))] : List (YT0)))) then Jl3 a0 (IntKind.wrap .i64 (a1 + (1 : Int))) (o1.2.2.2.1) (o1.2.2.2.2) (a4 ++ ([(o1.1, (o1.2.1, (o1.2.2.1, ())))] : List (YT0))) else none) (fun o2 => some (.inr (o2.1, o2.2))))) else (some (.inl (a2, a3, a4)))
set_option maxHeartbeats 4000000 in
set_option maxRecDepth 100000 in
theorem f46_Al3 (g34 : ((Int) × (List (Int)) × (Int)) → Option (((Int) × (List (Int)) × (Int)) ⊕ ((Int) × (Int)))) (g47 : ((List (Int)) × (Int)) → Option (((List Int) × (Int) × (Int) × (List (Int)) × (Int)) ⊕ ((Int) × (Int)))) (Jl3 : St → Option (((List (Int)) × (Int) × (List (YT0))) ⊕ ((Int) × (Int)))) (a0 : Int) (a1 : Int) (a2 : List (Int)) (a3 : Int) (a4 : List (YT0)) : evAtJ (f46C g34 g47) [] [(3, Jl3)] (bodyOf Try.f46) [.r, .r, .l, .r, .b, .b] (retKP (f46C g34 g47) Try.f46.results f46o 65 [(.int .i64), (.int .i64)] true) (f46_s3 a0 a1 a2 a3 a4) = f46_tl3 g34 g47 (fun a0 a1 a2 a3 a4 => Jl3 (f46_s3 a0 a1 a2 a3 a4)) a0 a1 a2 a3 a4 := by
  kernel_rfl
set_option maxHeartbeats 4000000 in
set_option maxRecDepth 100000 in
theorem f46_el3 (k : Nat) (g34 : ((Int) × (List (Int)) × (Int)) → Option (((Int) × (List (Int)) × (Int)) ⊕ ((Int) × (Int)))) (g47 : ((List (Int)) × (Int)) → Option (((List Int) × (Int) × (Int) × (List (Int)) × (Int)) ⊕ ((Int) × (Int)))) (j3 : Nat) (a0 : Int) (a1 : Int) (a2 : List (Int)) (a3 : Int) (a4 : List (YT0)) : f46_l3 k g34 g47 (j3 + 1) a0 a1 a2 a3 a4 = f46_tl3 g34 g47 (f46_l3 k g34 g47  j3) a0 a1 a2 a3 a4 := by
  have h0 : f46_l3 k g34 g47 (j3 + 1) a0 a1 a2 a3 a4 = evAt (f46C g34 g47) k (bodyOf Try.f46) [.r, .r, .l, .r, .b, .b] [j3] (retKP (f46C g34 g47) Try.f46.results f46o 65 [(.int .i64), (.int .i64)] true) (f46_s3 a0 a1 a2 a3 a4) := by kernel_rfl
  have h1 : keep [] (jt (f46C g34 g47) k (bodyOf Try.f46) [.r, .r, .l, .r, .b, .b] [j3] (retKP (f46C g34 g47) Try.f46.results f46o 65 [(.int .i64), (.int .i64)] true)) = [] := by kernel_rfl
  have h2 : keep [3] (lt (f46C g34 g47) k (bodyOf Try.f46) [.r, .r, .l, .r, .b, .b] [j3] (retKP (f46C g34 g47) Try.f46.results f46o 65 [(.int .i64), (.int .i64)] true)) = [(3, (fun s => loopAt (f46C g34 g47) k (bodyOf Try.f46) [.r, .r, .l, .r, .b] [] j3 (retKP (f46C g34 g47) Try.f46.results f46o 65 [(.int .i64), (.int .i64)] true) s))] := by kernel_rfl
  have h3 := evAt_cut (f46_s3 a0 a1 a2 a3 a4) [] [3] (by kernel_rfl) h1 h2 (by kernel_rfl) (by kernel_rfl) (by kernel_rfl)
  have h4 := f46_Al3 g34 g47 (fun s => loopAt (f46C g34 g47) k (bodyOf Try.f46) [.r, .r, .l, .r, .b] [] j3 (retKP (f46C g34 g47) Try.f46.results f46o 65 [(.int .i64), (.int .i64)] true) s) a0 a1 a2 a3 a4
  exact h0.trans (h3.trans (h4.trans (by kernel_rfl)))
set_option maxHeartbeats 4000000 in
set_option maxRecDepth 100000 in
theorem f46_ok (k : Nat) (g34 : ((Int) × (List (Int)) × (Int)) → Option (((Int) × (List (Int)) × (Int)) ⊕ ((Int) × (Int)))) (g47 : ((List (Int)) × (Int)) → Option (((List Int) × (Int) × (Int) × (List (Int)) × (Int)) ⊕ ((Int) × (Int)))) (hg34 : SigOK Try.prog 34 ⟨f34i, f34o, mkFunP f34i.tys f34o.tys 65 [(.int .i64), (.int .i64)] true g34⟩) (hg47 : SigOK Try.prog 47 ⟨f47i, f47o, mkFunP f47i.tys f47o.tys 65 [(.int .i64), (.int .i64)] true g47⟩) : SigOK Try.prog 46 ⟨f46i, f46o, mkFunP f46i.tys f46o.tys 65 [(.int .i64), (.int .i64)] true (f46 k g34 g47)⟩ :=
  fnP_ok (C := (f46C g34 g47)) (l := f46E g34 g47) rfl ⟨⟨hg34, trivial⟩, ⟨hg47, trivial⟩, trivial⟩ (by kernel_rfl) k (fn := Try.f46) (by kernel_rfl) (by kernel_rfl) (by kernel_rfl) f46i f46o 65 [(.int .i64), (.int .i64)] true rfl rfl (show 1 ≤ 48 by decide) (show 0 ≤ 48 by decide)
noncomputable def c46 (k : Nat) : ((Int) × (List (Int)) × (Int)) → Option (((List (Int)) × (Int) × (List (YT0))) ⊕ ((Int) × (Int))) := f46 k (c34 k) (c47 k)
theorem c46_ok (k : Nat) : SigOK Try.prog 46 ⟨f46i, f46o, mkFunP f46i.tys f46o.tys 65 [(.int .i64), (.int .i64)] true (c46 k)⟩ := f46_ok k (c34 k) (c47 k) (c34_ok k) (c47_ok k)

/-! (*carrefour/device.reader).slot -/
def f45i : Sk := ⟨[.lf (.ptr 0 0)], [[.pv (.slice (.int .u8)), .pv (.int .i64)]], []⟩
def f45o : Sk := ⟨[.agg [.pv .str, .pv (.int .i64), .pv (.int .i64), .pv (.int .i64), .own 0]], [[.pv (.slice (.int .u8)), .pv (.int .i64)]], [some (50, yt0)]⟩
noncomputable def f45E (g35 : ((List (Int)) × (Int)) → Option (((List Int) × (List (Int)) × (Int)) ⊕ ((Int) × (Int)))) (g27 : ((List (Int)) × (Int)) → Option (((Int) × (List (Int)) × (Int)) ⊕ ((Int) × (Int)))) (g46 : ((Int) × (List (Int)) × (Int)) → Option (((List (Int)) × (Int) × (List (YT0))) ⊕ ((Int) × (Int)))) : List (Nat × List Sig) := [(35, [⟨f35i, f35o, mkFunP f35i.tys f35o.tys 65 [(.int .i64), (.int .i64)] true g35⟩]), (27, [⟨f27i, f27o, mkFunP f27i.tys f27o.tys 65 [(.int .i64), (.int .i64)] true g27⟩]), (46, [⟨f46i, f46o, mkFunP f46i.tys f46o.tys 65 [(.int .i64), (.int .i64)] true g46⟩])]
noncomputable def f45C (g35 : ((List (Int)) × (Int)) → Option (((List Int) × (List (Int)) × (Int)) ⊕ ((Int) × (Int)))) (g27 : ((List (Int)) × (Int)) → Option (((Int) × (List (Int)) × (Int)) ⊕ ((Int) × (Int)))) (g46 : ((Int) × (List (Int)) × (Int)) → Option (((List (Int)) × (Int) × (List (YT0))) ⊕ ((Int) × (Int)))) : Cfg := { P := Try.prog, env := lookS (f45E g35 g27 g46), n := 67, npB := 1, npO := 0, hint := fun i => look none [] i, pops := [] }
def f45_s (a0 : List (Int)) (a1 : Int) : St := { enc f45i 67 [⟨(.slice (.int .u8)), a0⟩, ⟨(.int .i64), a1⟩] with slots := encAs f45i.slots [⟨(.slice (.int .u8)), a0⟩, ⟨(.int .i64), a1⟩] ++ List.replicate 18 .dead }
noncomputable def f45 (k : Nat) (g35 : ((List (Int)) × (Int)) → Option (((List Int) × (List (Int)) × (Int)) ⊕ ((Int) × (Int)))) (g27 : ((List (Int)) × (Int)) → Option (((Int) × (List (Int)) × (Int)) ⊕ ((Int) × (Int)))) (g46 : ((Int) × (List (Int)) × (Int)) → Option (((List (Int)) × (Int) × (List (YT0))) ⊕ ((Int) × (Int)))) : ((List (Int)) × (Int)) → Option (((List Int) × (Int) × (Int) × (Int) × (List (Int)) × (Int) × (List (YT0))) ⊕ ((Int) × (Int))) := fnOfP (f45C g35 g27 g46) k Try.f45 f45i f45o 65 [(.int .i64), (.int .i64)] true
def f45_t (g35 : ((List (Int)) × (Int)) → Option (((List Int) × (List (Int)) × (Int)) ⊕ ((Int) × (Int)))) (g27 : ((List (Int)) × (Int)) → Option (((Int) × (List (Int)) × (Int)) ⊕ ((Int) × (Int)))) (g46 : ((Int) × (List (Int)) × (Int)) → Option (((List (Int)) × (Int) × (List (YT0))) ⊕ ((Int) × (Int))))  (a0 : List (Int)) (a1 : Int) : Option (((List Int) × (Int) × (Int) × (Int) × (List (Int)) × (Int) × (List (YT0))) ⊕ ((Int) × (Int))) :=
  (g35 (a0, a1)).bind (orP (fun o1 => (g27 (o1.2.1, o1.2.2)).bind (orP (fun o3 => (g27 (o3.2.1, o3.2.2)).bind (orP (fun o5 => (g27 (o5.2.1, o5.2.2)).bind (orP (fun o7 => (g46 ((8 : Int), o7.2.1, o7.2.2)).bind (orP (fun o9 => some (.inl (o1.1, o3.1, o5.1, o7.1, o9.1, o9.2.1, o9.2.2))) (fun o10 => some (.inr (o10.1, o10.2))))) (fun o8 => some (.inr (o8.1, o8.2))))) (fun o6 => some (.inr (o6.1, o6.2))))) (fun o4 => some (.inr (o4.1, o4.2))))) (fun o2 => some (.inr (o2.1, o2.2))))
set_option maxHeartbeats 4000000 in
set_option maxRecDepth 100000 in
theorem f45_A (g35 : ((List (Int)) × (Int)) → Option (((List Int) × (List (Int)) × (Int)) ⊕ ((Int) × (Int)))) (g27 : ((List (Int)) × (Int)) → Option (((Int) × (List (Int)) × (Int)) ⊕ ((Int) × (Int)))) (g46 : ((Int) × (List (Int)) × (Int)) → Option (((List (Int)) × (Int) × (List (YT0))) ⊕ ((Int) × (Int))))  (a0 : List (Int)) (a1 : Int) : evAtJ (f45C g35 g27 g46) [] [] (bodyOf Try.f45) [] (retKP (f45C g35 g27 g46) Try.f45.results f45o 65 [(.int .i64), (.int .i64)] true) (f45_s a0 a1) = f45_t g35 g27 g46  a0 a1 := by
  kernel_rfl
set_option maxHeartbeats 4000000 in
set_option maxRecDepth 100000 in
theorem f45_e (k : Nat) (g35 : ((List (Int)) × (Int)) → Option (((List Int) × (List (Int)) × (Int)) ⊕ ((Int) × (Int)))) (g27 : ((List (Int)) × (Int)) → Option (((Int) × (List (Int)) × (Int)) ⊕ ((Int) × (Int)))) (g46 : ((Int) × (List (Int)) × (Int)) → Option (((List (Int)) × (Int) × (List (YT0))) ⊕ ((Int) × (Int))))  (a0 : List (Int)) (a1 : Int) : f45 k g35 g27 g46 (a0, a1) = f45_t g35 g27 g46  a0 a1 := by
  have h0 : f45 k g35 g27 g46 (a0, a1) = evAt (f45C g35 g27 g46) k (bodyOf Try.f45) [] [] (retKP (f45C g35 g27 g46) Try.f45.results f45o 65 [(.int .i64), (.int .i64)] true) (f45_s a0 a1) := by kernel_rfl
  have h1 : keep [] (jt (f45C g35 g27 g46) k (bodyOf Try.f45) [] [] (retKP (f45C g35 g27 g46) Try.f45.results f45o 65 [(.int .i64), (.int .i64)] true)) = [] := by kernel_rfl
  have h2 : keep [] (lt (f45C g35 g27 g46) k (bodyOf Try.f45) [] [] (retKP (f45C g35 g27 g46) Try.f45.results f45o 65 [(.int .i64), (.int .i64)] true)) = [] := by kernel_rfl
  have h3 := evAt_cut (f45_s a0 a1) [] [] (by kernel_rfl) h1 h2 (by kernel_rfl) (by kernel_rfl) (by kernel_rfl)
  have h4 := f45_A g35 g27 g46  a0 a1
  exact h0.trans (h3.trans (h4.trans (by kernel_rfl)))
set_option maxHeartbeats 4000000 in
set_option maxRecDepth 100000 in
theorem f45_ok (k : Nat) (g35 : ((List (Int)) × (Int)) → Option (((List Int) × (List (Int)) × (Int)) ⊕ ((Int) × (Int)))) (g27 : ((List (Int)) × (Int)) → Option (((Int) × (List (Int)) × (Int)) ⊕ ((Int) × (Int)))) (g46 : ((Int) × (List (Int)) × (Int)) → Option (((List (Int)) × (Int) × (List (YT0))) ⊕ ((Int) × (Int)))) (hg35 : SigOK Try.prog 35 ⟨f35i, f35o, mkFunP f35i.tys f35o.tys 65 [(.int .i64), (.int .i64)] true g35⟩) (hg27 : SigOK Try.prog 27 ⟨f27i, f27o, mkFunP f27i.tys f27o.tys 65 [(.int .i64), (.int .i64)] true g27⟩) (hg46 : SigOK Try.prog 46 ⟨f46i, f46o, mkFunP f46i.tys f46o.tys 65 [(.int .i64), (.int .i64)] true g46⟩) : SigOK Try.prog 45 ⟨f45i, f45o, mkFunP f45i.tys f45o.tys 65 [(.int .i64), (.int .i64)] true (f45 k g35 g27 g46)⟩ :=
  fnP_ok (C := (f45C g35 g27 g46)) (l := f45E g35 g27 g46) rfl ⟨⟨hg35, trivial⟩, ⟨hg27, trivial⟩, ⟨hg46, trivial⟩, trivial⟩ (by kernel_rfl) k (fn := Try.f45) (by kernel_rfl) (by kernel_rfl) (by kernel_rfl) f45i f45o 65 [(.int .i64), (.int .i64)] true rfl rfl (show 1 ≤ 48 by decide) (show 0 ≤ 48 by decide)
noncomputable def c45 (k : Nat) : ((List (Int)) × (Int)) → Option (((List Int) × (Int) × (Int) × (Int) × (List (Int)) × (Int) × (List (YT0))) ⊕ ((Int) × (Int))) := f45 k (c35 k) (c27 k) (c46 k)
theorem c45_ok (k : Nat) : SigOK Try.prog 45 ⟨f45i, f45o, mkFunP f45i.tys f45o.tys 65 [(.int .i64), (.int .i64)] true (c45 k)⟩ := f45_ok k (c35 k) (c27 k) (c46 k) (c35_ok k) (c27_ok k) (c46_ok k)

/-! carrefour/device.take[carrefour/api.Slot] -/
def f44i : Sk := ⟨[.lf (.ptr 0 0), .lf (.pv (.int .i64)), .lf (.fn 45 [(0, 0)] [])], [[.pv (.slice (.int .u8)), .pv (.int .i64)]], []⟩
def f44o : Sk := ⟨[.lf (.own 0)], [[.pv (.slice (.int .u8)), .pv (.int .i64)]], [some (48, yt1)]⟩
def f44_k3 : Sk := ⟨sparse 20 [(0, .lf (.ptr 0 0)), (2, .lf (.fn 45 [(0, 0)] [])), (7, .lf (.own 0)), (10, .lf (.pv (.int .i64))), (11, .lf (.pv (.int .i64)))], [[.pv (.slice (.int .u8)), .pv (.int .i64)]], [some (48, yt1)]⟩
noncomputable def f44E (g34 : ((Int) × (List (Int)) × (Int)) → Option (((Int) × (List (Int)) × (Int)) ⊕ ((Int) × (Int)))) (g45 : ((List (Int)) × (Int)) → Option (((List Int) × (Int) × (Int) × (Int) × (List (Int)) × (Int) × (List (YT0))) ⊕ ((Int) × (Int)))) : List (Nat × List Sig) := [(34, [⟨f34i, f34o, mkFunP f34i.tys f34o.tys 65 [(.int .i64), (.int .i64)] true g34⟩]), (45, [⟨f45i, f45o, mkFunP f45i.tys f45o.tys 65 [(.int .i64), (.int .i64)] true g45⟩])]
noncomputable def f44C (g34 : ((Int) × (List (Int)) × (Int)) → Option (((Int) × (List (Int)) × (Int)) ⊕ ((Int) × (Int)))) (g45 : ((List (Int)) × (Int)) → Option (((List Int) × (Int) × (Int) × (Int) × (List (Int)) × (Int) × (List (YT0))) ⊕ ((Int) × (Int)))) : Cfg := { P := Try.prog, env := lookS (f44E g34 g45), n := 68, npB := 1, npO := 0, hint := fun i => look none [(3, some f44_k3)] i, pops := [] }
def f44_s (a0 : Int) (a1 : List (Int)) (a2 : Int) : St := { enc f44i 68 [⟨(.int .i64), a0⟩, ⟨(.slice (.int .u8)), a1⟩, ⟨(.int .i64), a2⟩] with slots := encAs f44i.slots [⟨(.int .i64), a0⟩, ⟨(.slice (.int .u8)), a1⟩, ⟨(.int .i64), a2⟩] ++ List.replicate 17 .dead }
def f44_s3 (a0 : Int) (a1 : Int) (a2 : List (Int)) (a3 : Int) (a4 : List (YT1)) : St := enc f44_k3 68 [⟨(.int .i64), a0⟩, ⟨(.int .i64), a1⟩, ⟨(.slice (.int .u8)), a2⟩, ⟨(.int .i64), a3⟩, ⟨(.slice yt1), a4⟩]
noncomputable def f44 (k : Nat) (g34 : ((Int) × (List (Int)) × (Int)) → Option (((Int) × (List (Int)) × (Int)) ⊕ ((Int) × (Int)))) (g45 : ((List (Int)) × (Int)) → Option (((List Int) × (Int) × (Int) × (Int) × (List (Int)) × (Int) × (List (YT0))) ⊕ ((Int) × (Int)))) : ((Int) × (List (Int)) × (Int)) → Option (((List (Int)) × (Int) × (List (YT1))) ⊕ ((Int) × (Int))) := fnOfP (f44C g34 g45) k Try.f44 f44i f44o 65 [(.int .i64), (.int .i64)] true
noncomputable def f44_l3 (k : Nat) (g34 : ((Int) × (List (Int)) × (Int)) → Option (((Int) × (List (Int)) × (Int)) ⊕ ((Int) × (Int)))) (g45 : ((List (Int)) × (Int)) → Option (((List Int) × (Int) × (Int) × (Int) × (List (Int)) × (Int) × (List (YT0))) ⊕ ((Int) × (Int)))) (j3 : Nat) (a0 : Int) (a1 : Int) (a2 : List (Int)) (a3 : Int) (a4 : List (YT1)) : Option (((List (Int)) × (Int) × (List (YT1))) ⊕ ((Int) × (Int))) := loopAt (f44C g34 g45) k (bodyOf Try.f44) [.r, .r, .l, .r, .b] [] j3 (retKP (f44C g34 g45) Try.f44.results f44o 65 [(.int .i64), (.int .i64)] true) (f44_s3 a0 a1 a2 a3 a4)
def f44_t (g34 : ((Int) × (List (Int)) × (Int)) → Option (((Int) × (List (Int)) × (Int)) ⊕ ((Int) × (Int)))) (g45 : ((List (Int)) × (Int)) → Option (((List Int) × (Int) × (Int) × (Int) × (List (Int)) × (Int) × (List (YT0))) ⊕ ((Int) × (Int)))) (Jl3 : Int → Int → (List (Int)) → Int → (List (YT1)) → Option (((List (Int)) × (Int) × (List (YT1))) ⊕ ((Int) × (Int)))) (a0 : Int) (a1 : List (Int)) (a2 : Int) : Option (((List (Int)) × (Int) × (List (YT1))) ⊕ ((Int) × (Int))) :=
  (g34 (a0, a1, a2)).bind (orP (fun o1 => Jl3 (o1.1) (0 : Int) (o1.2.1) (o1.2.2) ([])) (fun o2 => some (.inr (o2.1, o2.2))))
set_option maxHeartbeats 4000000 in
set_option maxRecDepth 100000 in
theorem f44_A (g34 : ((Int) × (List (Int)) × (Int)) → Option (((Int) × (List (Int)) × (Int)) ⊕ ((Int) × (Int)))) (g45 : ((List (Int)) × (Int)) → Option (((List Int) × (Int) × (Int) × (Int) × (List (Int)) × (Int) × (List (YT0))) ⊕ ((Int) × (Int)))) (Jl3 : St → Option (((List (Int)) × (Int) × (List (YT1))) ⊕ ((Int) × (Int)))) (a0 : Int) (a1 : List (Int)) (a2 : Int) : evAtJ (f44C g34 g45) [] [(3, Jl3)] (bodyOf Try.f44) [] (retKP (f44C g34 g45) Try.f44.results f44o 65 [(.int .i64), (.int .i64)] true) (f44_s a0 a1 a2) = f44_t g34 g45 (fun a0 a1 a2 a3 a4 => Jl3 (f44_s3 a0 a1 a2 a3 a4)) a0 a1 a2 := by
  kernel_rfl
set_option maxHeartbeats 4000000 in
set_option maxRecDepth 100000 in
theorem f44_e (k : Nat) (g34 : ((Int) × (List (Int)) × (Int)) → Option (((Int) × (List (Int)) × (Int)) ⊕ ((Int) × (Int)))) (g45 : ((List (Int)) × (Int)) → Option (((List Int) × (Int) × (Int) × (Int) × (List (Int)) × (Int) × (List (YT0))) ⊕ ((Int) × (Int))))  (a0 : Int) (a1 : List (Int)) (a2 : Int) : f44 k g34 g45 (a0, a1, a2) = f44_t g34 g45 (f44_l3 k g34 g45  k) a0 a1 a2 := by
  have h0 : f44 k g34 g45 (a0, a1, a2) = evAt (f44C g34 g45) k (bodyOf Try.f44) [] [] (retKP (f44C g34 g45) Try.f44.results f44o 65 [(.int .i64), (.int .i64)] true) (f44_s a0 a1 a2) := by kernel_rfl
  have h1 : keep [] (jt (f44C g34 g45) k (bodyOf Try.f44) [] [] (retKP (f44C g34 g45) Try.f44.results f44o 65 [(.int .i64), (.int .i64)] true)) = [] := by kernel_rfl
  have h2 : keep [3] (lt (f44C g34 g45) k (bodyOf Try.f44) [] [] (retKP (f44C g34 g45) Try.f44.results f44o 65 [(.int .i64), (.int .i64)] true)) = [(3, (fun s => loopAt (f44C g34 g45) k (bodyOf Try.f44) [.r, .r, .l, .r, .b] [] k (retKP (f44C g34 g45) Try.f44.results f44o 65 [(.int .i64), (.int .i64)] true) s))] := by kernel_rfl
  have h3 := evAt_cut (f44_s a0 a1 a2) [] [3] (by kernel_rfl) h1 h2 (by kernel_rfl) (by kernel_rfl) (by kernel_rfl)
  have h4 := f44_A g34 g45 (fun s => loopAt (f44C g34 g45) k (bodyOf Try.f44) [.r, .r, .l, .r, .b] [] k (retKP (f44C g34 g45) Try.f44.results f44o 65 [(.int .i64), (.int .i64)] true) s) a0 a1 a2
  exact h0.trans (h3.trans (h4.trans (by kernel_rfl)))
def f44_tl3 (g34 : ((Int) × (List (Int)) × (Int)) → Option (((Int) × (List (Int)) × (Int)) ⊕ ((Int) × (Int)))) (g45 : ((List (Int)) × (Int)) → Option (((List Int) × (Int) × (Int) × (Int) × (List (Int)) × (Int) × (List (YT0))) ⊕ ((Int) × (Int)))) (Jl3 : Int → Int → (List (Int)) → Int → (List (YT1)) → Option (((List (Int)) × (Int) × (List (YT1))) ⊕ ((Int) × (Int)))) (a0 : Int) (a1 : Int) (a2 : List (Int)) (a3 : Int) (a4 : List (YT1)) : Option (((List (Int)) × (Int) × (List (YT1))) ⊕ ((Int) × (Int))) :=
  bif (decide (a1 < a0)) then ((g45 (a2, a3)).bind (orP (fun o1 => bif (appB 64 (List.length a4) (List.length ([(o1.1, (o1.2.1, (o1.2.2.1, (o1.2.2.2.1, (o1.2.2.2.2.2.2, ())))))] : List (YT1)))) then Jl3 a0 (IntKind.wrap .i64 (a1 + (1 : Int))) (o1.2.2.2.2.1) (o1.2.2.2.2.2.1) (a4 ++ ([(o1.1, (o1.2.1, (o1.2.2.1, (o1.2.2.2.1, (o1.2.2.2.2.2.2, ())))))] : List (YT1))) else none) (fun o2 => some (.inr (o2.1, o2.2))))) else (some (.inl (a2, a3, a4)))
set_option maxHeartbeats 4000000 in
set_option maxRecDepth 100000 in
theorem f44_Al3 (g34 : ((Int) × (List (Int)) × (Int)) → Option (((Int) × (List (Int)) × (Int)) ⊕ ((Int) × (Int)))) (g45 : ((List (Int)) × (Int)) → Option (((List Int) × (Int) × (Int) × (Int) × (List (Int)) × (Int) × (List (YT0))) ⊕ ((Int) × (Int)))) (Jl3 : St → Option (((List (Int)) × (Int) × (List (YT1))) ⊕ ((Int) × (Int)))) (a0 : Int) (a1 : Int) (a2 : List (Int)) (a3 : Int) (a4 : List (YT1)) : evAtJ (f44C g34 g45) [] [(3, Jl3)] (bodyOf Try.f44) [.r, .r, .l, .r, .b, .b] (retKP (f44C g34 g45) Try.f44.results f44o 65 [(.int .i64), (.int .i64)] true) (f44_s3 a0 a1 a2 a3 a4) = f44_tl3 g34 g45 (fun a0 a1 a2 a3 a4 => Jl3 (f44_s3 a0 a1 a2 a3 a4)) a0 a1 a2 a3 a4 := by
  kernel_rfl
set_option maxHeartbeats 4000000 in
set_option maxRecDepth 100000 in
theorem f44_el3 (k : Nat) (g34 : ((Int) × (List (Int)) × (Int)) → Option (((Int) × (List (Int)) × (Int)) ⊕ ((Int) × (Int)))) (g45 : ((List (Int)) × (Int)) → Option (((List Int) × (Int) × (Int) × (Int) × (List (Int)) × (Int) × (List (YT0))) ⊕ ((Int) × (Int)))) (j3 : Nat) (a0 : Int) (a1 : Int) (a2 : List (Int)) (a3 : Int) (a4 : List (YT1)) : f44_l3 k g34 g45 (j3 + 1) a0 a1 a2 a3 a4 = f44_tl3 g34 g45 (f44_l3 k g34 g45  j3) a0 a1 a2 a3 a4 := by
  have h0 : f44_l3 k g34 g45 (j3 + 1) a0 a1 a2 a3 a4 = evAt (f44C g34 g45) k (bodyOf Try.f44) [.r, .r, .l, .r, .b, .b] [j3] (retKP (f44C g34 g45) Try.f44.results f44o 65 [(.int .i64), (.int .i64)] true) (f44_s3 a0 a1 a2 a3 a4) := by kernel_rfl
  have h1 : keep [] (jt (f44C g34 g45) k (bodyOf Try.f44) [.r, .r, .l, .r, .b, .b] [j3] (retKP (f44C g34 g45) Try.f44.results f44o 65 [(.int .i64), (.int .i64)] true)) = [] := by kernel_rfl
  have h2 : keep [3] (lt (f44C g34 g45) k (bodyOf Try.f44) [.r, .r, .l, .r, .b, .b] [j3] (retKP (f44C g34 g45) Try.f44.results f44o 65 [(.int .i64), (.int .i64)] true)) = [(3, (fun s => loopAt (f44C g34 g45) k (bodyOf Try.f44) [.r, .r, .l, .r, .b] [] j3 (retKP (f44C g34 g45) Try.f44.results f44o 65 [(.int .i64), (.int .i64)] true) s))] := by kernel_rfl
  have h3 := evAt_cut (f44_s3 a0 a1 a2 a3 a4) [] [3] (by kernel_rfl) h1 h2 (by kernel_rfl) (by kernel_rfl) (by kernel_rfl)
  have h4 := f44_Al3 g34 g45 (fun s => loopAt (f44C g34 g45) k (bodyOf Try.f44) [.r, .r, .l, .r, .b] [] j3 (retKP (f44C g34 g45) Try.f44.results f44o 65 [(.int .i64), (.int .i64)] true) s) a0 a1 a2 a3 a4
  exact h0.trans (h3.trans (h4.trans (by kernel_rfl)))
set_option maxHeartbeats 4000000 in
set_option maxRecDepth 100000 in
theorem f44_ok (k : Nat) (g34 : ((Int) × (List (Int)) × (Int)) → Option (((Int) × (List (Int)) × (Int)) ⊕ ((Int) × (Int)))) (g45 : ((List (Int)) × (Int)) → Option (((List Int) × (Int) × (Int) × (Int) × (List (Int)) × (Int) × (List (YT0))) ⊕ ((Int) × (Int)))) (hg34 : SigOK Try.prog 34 ⟨f34i, f34o, mkFunP f34i.tys f34o.tys 65 [(.int .i64), (.int .i64)] true g34⟩) (hg45 : SigOK Try.prog 45 ⟨f45i, f45o, mkFunP f45i.tys f45o.tys 65 [(.int .i64), (.int .i64)] true g45⟩) : SigOK Try.prog 44 ⟨f44i, f44o, mkFunP f44i.tys f44o.tys 65 [(.int .i64), (.int .i64)] true (f44 k g34 g45)⟩ :=
  fnP_ok (C := (f44C g34 g45)) (l := f44E g34 g45) rfl ⟨⟨hg34, trivial⟩, ⟨hg45, trivial⟩, trivial⟩ (by kernel_rfl) k (fn := Try.f44) (by kernel_rfl) (by kernel_rfl) (by kernel_rfl) f44i f44o 65 [(.int .i64), (.int .i64)] true rfl rfl (show 1 ≤ 48 by decide) (show 0 ≤ 48 by decide)
noncomputable def c44 (k : Nat) : ((Int) × (List (Int)) × (Int)) → Option (((List (Int)) × (Int) × (List (YT1))) ⊕ ((Int) × (Int))) := f44 k (c34 k) (c45 k)
theorem c44_ok (k : Nat) : SigOK Try.prog 44 ⟨f44i, f44o, mkFunP f44i.tys f44o.tys 65 [(.int .i64), (.int .i64)] true (c44 k)⟩ := f44_ok k (c34 k) (c45 k) (c34_ok k) (c45_ok k)

/-! (*carrefour/device.reader).ring -/
def f41i : Sk := ⟨[.lf (.ptr 0 0)], [[.pv (.slice (.int .u8)), .pv (.int .i64)]], []⟩
def f41o : Sk := ⟨[.lf (.own 0)], [[.pv (.slice (.int .u8)), .pv (.int .i64)]], [some (48, yt1)]⟩
noncomputable def f41E (g44 : ((Int) × (List (Int)) × (Int)) → Option (((List (Int)) × (Int) × (List (YT1))) ⊕ ((Int) × (Int)))) : List (Nat × List Sig) := [(44, [⟨f44i, f44o, mkFunP f44i.tys f44o.tys 65 [(.int .i64), (.int .i64)] true g44⟩])]
noncomputable def f41C (g44 : ((Int) × (List (Int)) × (Int)) → Option (((List (Int)) × (Int) × (List (YT1))) ⊕ ((Int) × (Int)))) : Cfg := { P := Try.prog, env := lookS (f41E g44), n := 55, npB := 1, npO := 0, hint := fun i => look none [] i, pops := [] }
def f41_s (a0 : List (Int)) (a1 : Int) : St := { enc f41i 55 [⟨(.slice (.int .u8)), a0⟩, ⟨(.int .i64), a1⟩] with slots := encAs f41i.slots [⟨(.slice (.int .u8)), a0⟩, ⟨(.int .i64), a1⟩] ++ List.replicate 6 .dead }
noncomputable def f41 (k : Nat) (g44 : ((Int) × (List (Int)) × (Int)) → Option (((List (Int)) × (Int) × (List (YT1))) ⊕ ((Int) × (Int)))) : ((List (Int)) × (Int)) → Option (((List (Int)) × (Int) × (List (YT1))) ⊕ ((Int) × (Int))) := fnOfP (f41C g44) k Try.f41 f41i f41o 65 [(.int .i64), (.int .i64)] true
def f41_t (g44 : ((Int) × (List (Int)) × (Int)) → Option (((List (Int)) × (Int) × (List (YT1))) ⊕ ((Int) × (Int))))  (a0 : List (Int)) (a1 : Int) : Option (((List (Int)) × (Int) × (List (YT1))) ⊕ ((Int) × (Int))) :=
  (g44 ((4 : Int), a0, a1)).bind (orP (fun o1 => some (.inl (o1.1, o1.2.1, o1.2.2))) (fun o2 => some (.inr (o2.1, o2.2))))
set_option maxHeartbeats 4000000 in
set_option maxRecDepth 100000 in
theorem f41_A (g44 : ((Int) × (List (Int)) × (Int)) → Option (((List (Int)) × (Int) × (List (YT1))) ⊕ ((Int) × (Int))))  (a0 : List (Int)) (a1 : Int) : evAtJ (f41C g44) [] [] (bodyOf Try.f41) [] (retKP (f41C g44) Try.f41.results f41o 65 [(.int .i64), (.int .i64)] true) (f41_s a0 a1) = f41_t g44  a0 a1 := by
  kernel_rfl
set_option maxHeartbeats 4000000 in
set_option maxRecDepth 100000 in
theorem f41_e (k : Nat) (g44 : ((Int) × (List (Int)) × (Int)) → Option (((List (Int)) × (Int) × (List (YT1))) ⊕ ((Int) × (Int))))  (a0 : List (Int)) (a1 : Int) : f41 k g44 (a0, a1) = f41_t g44  a0 a1 := by
  have h0 : f41 k g44 (a0, a1) = evAt (f41C g44) k (bodyOf Try.f41) [] [] (retKP (f41C g44) Try.f41.results f41o 65 [(.int .i64), (.int .i64)] true) (f41_s a0 a1) := by kernel_rfl
  have h1 : keep [] (jt (f41C g44) k (bodyOf Try.f41) [] [] (retKP (f41C g44) Try.f41.results f41o 65 [(.int .i64), (.int .i64)] true)) = [] := by kernel_rfl
  have h2 : keep [] (lt (f41C g44) k (bodyOf Try.f41) [] [] (retKP (f41C g44) Try.f41.results f41o 65 [(.int .i64), (.int .i64)] true)) = [] := by kernel_rfl
  have h3 := evAt_cut (f41_s a0 a1) [] [] (by kernel_rfl) h1 h2 (by kernel_rfl) (by kernel_rfl) (by kernel_rfl)
  have h4 := f41_A g44  a0 a1
  exact h0.trans (h3.trans (h4.trans (by kernel_rfl)))
set_option maxHeartbeats 4000000 in
set_option maxRecDepth 100000 in
theorem f41_ok (k : Nat) (g44 : ((Int) × (List (Int)) × (Int)) → Option (((List (Int)) × (Int) × (List (YT1))) ⊕ ((Int) × (Int)))) (hg44 : SigOK Try.prog 44 ⟨f44i, f44o, mkFunP f44i.tys f44o.tys 65 [(.int .i64), (.int .i64)] true g44⟩) : SigOK Try.prog 41 ⟨f41i, f41o, mkFunP f41i.tys f41o.tys 65 [(.int .i64), (.int .i64)] true (f41 k g44)⟩ :=
  fnP_ok (C := (f41C g44)) (l := f41E g44) rfl ⟨⟨hg44, trivial⟩, trivial⟩ (by kernel_rfl) k (fn := Try.f41) (by kernel_rfl) (by kernel_rfl) (by kernel_rfl) f41i f41o 65 [(.int .i64), (.int .i64)] true rfl rfl (show 1 ≤ 48 by decide) (show 0 ≤ 48 by decide)
noncomputable def c41 (k : Nat) : ((List (Int)) × (Int)) → Option (((List (Int)) × (Int) × (List (YT1))) ⊕ ((Int) × (Int))) := f41 k (c44 k)
theorem c41_ok (k : Nat) : SigOK Try.prog 41 ⟨f41i, f41o, mkFunP f41i.tys f41o.tys 65 [(.int .i64), (.int .i64)] true (c41 k)⟩ := f41_ok k (c44 k) (c44_ok k)

/-! carrefour/device.take[[]carrefour/api.Slot] -/
def f40i : Sk := ⟨[.lf (.ptr 0 0), .lf (.pv (.int .i64)), .lf (.fn 41 [(0, 0)] [])], [[.pv (.slice (.int .u8)), .pv (.int .i64)]], []⟩
def f40o : Sk := ⟨[.lf (.own 0)], [[.pv (.slice (.int .u8)), .pv (.int .i64)]], [some (45, (.slice yt1))]⟩
def f40_k3 : Sk := ⟨sparse 20 [(0, .lf (.ptr 0 0)), (2, .lf (.fn 41 [(0, 0)] [])), (7, .lf (.own 0)), (10, .lf (.pv (.int .i64))), (11, .lf (.pv (.int .i64)))], [[.pv (.slice (.int .u8)), .pv (.int .i64)]], [some (45, (.slice yt1))]⟩
noncomputable def f40E (g34 : ((Int) × (List (Int)) × (Int)) → Option (((Int) × (List (Int)) × (Int)) ⊕ ((Int) × (Int)))) (g41 : ((List (Int)) × (Int)) → Option (((List (Int)) × (Int) × (List (YT1))) ⊕ ((Int) × (Int)))) : List (Nat × List Sig) := [(34, [⟨f34i, f34o, mkFunP f34i.tys f34o.tys 65 [(.int .i64), (.int .i64)] true g34⟩]), (41, [⟨f41i, f41o, mkFunP f41i.tys f41o.tys 65 [(.int .i64), (.int .i64)] true g41⟩])]
noncomputable def f40C (g34 : ((Int) × (List (Int)) × (Int)) → Option (((Int) × (List (Int)) × (Int)) ⊕ ((Int) × (Int)))) (g41 : ((List (Int)) × (Int)) → Option (((List (Int)) × (Int) × (List (YT1))) ⊕ ((Int) × (Int)))) : Cfg := { P := Try.prog, env := lookS (f40E g34 g41), n := 68, npB := 1, npO := 0, hint := fun i => look none [(3, some f40_k3)] i, pops := [] }
def f40_s (a0 : Int) (a1 : List (Int)) (a2 : Int) : St := { enc f40i 68 [⟨(.int .i64), a0⟩, ⟨(.slice (.int .u8)), a1⟩, ⟨(.int .i64), a2⟩] with slots := encAs f40i.slots [⟨(.int .i64), a0⟩, ⟨(.slice (.int .u8)), a1⟩, ⟨(.int .i64), a2⟩] ++ List.replicate 17 .dead }
def f40_s3 (a0 : Int) (a1 : Int) (a2 : List (Int)) (a3 : Int) (a4 : List (List (YT1))) : St := enc f40_k3 68 [⟨(.int .i64), a0⟩, ⟨(.int .i64), a1⟩, ⟨(.slice (.int .u8)), a2⟩, ⟨(.int .i64), a3⟩, ⟨(.slice (.slice yt1)), a4⟩]
noncomputable def f40 (k : Nat) (g34 : ((Int) × (List (Int)) × (Int)) → Option (((Int) × (List (Int)) × (Int)) ⊕ ((Int) × (Int)))) (g41 : ((List (Int)) × (Int)) → Option (((List (Int)) × (Int) × (List (YT1))) ⊕ ((Int) × (Int)))) : ((Int) × (List (Int)) × (Int)) → Option (((List (Int)) × (Int) × (List (List (YT1)))) ⊕ ((Int) × (Int))) := fnOfP (f40C g34 g41) k Try.f40 f40i f40o 65 [(.int .i64), (.int .i64)] true
noncomputable def f40_l3 (k : Nat) (g34 : ((Int) × (List (Int)) × (Int)) → Option (((Int) × (List (Int)) × (Int)) ⊕ ((Int) × (Int)))) (g41 : ((List (Int)) × (Int)) → Option (((List (Int)) × (Int) × (List (YT1))) ⊕ ((Int) × (Int)))) (j3 : Nat) (a0 : Int) (a1 : Int) (a2 : List (Int)) (a3 : Int) (a4 : List (List (YT1))) : Option (((List (Int)) × (Int) × (List (List (YT1)))) ⊕ ((Int) × (Int))) := loopAt (f40C g34 g41) k (bodyOf Try.f40) [.r, .r, .l, .r, .b] [] j3 (retKP (f40C g34 g41) Try.f40.results f40o 65 [(.int .i64), (.int .i64)] true) (f40_s3 a0 a1 a2 a3 a4)
def f40_t (g34 : ((Int) × (List (Int)) × (Int)) → Option (((Int) × (List (Int)) × (Int)) ⊕ ((Int) × (Int)))) (g41 : ((List (Int)) × (Int)) → Option (((List (Int)) × (Int) × (List (YT1))) ⊕ ((Int) × (Int)))) (Jl3 : Int → Int → (List (Int)) → Int → (List (List (YT1))) → Option (((List (Int)) × (Int) × (List (List (YT1)))) ⊕ ((Int) × (Int)))) (a0 : Int) (a1 : List (Int)) (a2 : Int) : Option (((List (Int)) × (Int) × (List (List (YT1)))) ⊕ ((Int) × (Int))) :=
  (g34 (a0, a1, a2)).bind (orP (fun o1 => Jl3 (o1.1) (0 : Int) (o1.2.1) (o1.2.2) ([])) (fun o2 => some (.inr (o2.1, o2.2))))
set_option maxHeartbeats 4000000 in
set_option maxRecDepth 100000 in
theorem f40_A (g34 : ((Int) × (List (Int)) × (Int)) → Option (((Int) × (List (Int)) × (Int)) ⊕ ((Int) × (Int)))) (g41 : ((List (Int)) × (Int)) → Option (((List (Int)) × (Int) × (List (YT1))) ⊕ ((Int) × (Int)))) (Jl3 : St → Option (((List (Int)) × (Int) × (List (List (YT1)))) ⊕ ((Int) × (Int)))) (a0 : Int) (a1 : List (Int)) (a2 : Int) : evAtJ (f40C g34 g41) [] [(3, Jl3)] (bodyOf Try.f40) [] (retKP (f40C g34 g41) Try.f40.results f40o 65 [(.int .i64), (.int .i64)] true) (f40_s a0 a1 a2) = f40_t g34 g41 (fun a0 a1 a2 a3 a4 => Jl3 (f40_s3 a0 a1 a2 a3 a4)) a0 a1 a2 := by
  kernel_rfl
set_option maxHeartbeats 4000000 in
set_option maxRecDepth 100000 in
theorem f40_e (k : Nat) (g34 : ((Int) × (List (Int)) × (Int)) → Option (((Int) × (List (Int)) × (Int)) ⊕ ((Int) × (Int)))) (g41 : ((List (Int)) × (Int)) → Option (((List (Int)) × (Int) × (List (YT1))) ⊕ ((Int) × (Int))))  (a0 : Int) (a1 : List (Int)) (a2 : Int) : f40 k g34 g41 (a0, a1, a2) = f40_t g34 g41 (f40_l3 k g34 g41  k) a0 a1 a2 := by
  have h0 : f40 k g34 g41 (a0, a1, a2) = evAt (f40C g34 g41) k (bodyOf Try.f40) [] [] (retKP (f40C g34 g41) Try.f40.results f40o 65 [(.int .i64), (.int .i64)] true) (f40_s a0 a1 a2) := by kernel_rfl
  have h1 : keep [] (jt (f40C g34 g41) k (bodyOf Try.f40) [] [] (retKP (f40C g34 g41) Try.f40.results f40o 65 [(.int .i64), (.int .i64)] true)) = [] := by kernel_rfl
  have h2 : keep [3] (lt (f40C g34 g41) k (bodyOf Try.f40) [] [] (retKP (f40C g34 g41) Try.f40.results f40o 65 [(.int .i64), (.int .i64)] true)) = [(3, (fun s => loopAt (f40C g34 g41) k (bodyOf Try.f40) [.r, .r, .l, .r, .b] [] k (retKP (f40C g34 g41) Try.f40.results f40o 65 [(.int .i64), (.int .i64)] true) s))] := by kernel_rfl
  have h3 := evAt_cut (f40_s a0 a1 a2) [] [3] (by kernel_rfl) h1 h2 (by kernel_rfl) (by kernel_rfl) (by kernel_rfl)
  have h4 := f40_A g34 g41 (fun s => loopAt (f40C g34 g41) k (bodyOf Try.f40) [.r, .r, .l, .r, .b] [] k (retKP (f40C g34 g41) Try.f40.results f40o 65 [(.int .i64), (.int .i64)] true) s) a0 a1 a2
  exact h0.trans (h3.trans (h4.trans (by kernel_rfl)))
def f40_tl3 (g34 : ((Int) × (List (Int)) × (Int)) → Option (((Int) × (List (Int)) × (Int)) ⊕ ((Int) × (Int)))) (g41 : ((List (Int)) × (Int)) → Option (((List (Int)) × (Int) × (List (YT1))) ⊕ ((Int) × (Int)))) (Jl3 : Int → Int → (List (Int)) → Int → (List (List (YT1))) → Option (((List (Int)) × (Int) × (List (List (YT1)))) ⊕ ((Int) × (Int)))) (a0 : Int) (a1 : Int) (a2 : List (Int)) (a3 : Int) (a4 : List (List (YT1))) : Option (((List (Int)) × (Int) × (List (List (YT1)))) ⊕ ((Int) × (Int))) :=
  bif (decide (a1 < a0)) then ((g41 (a2, a3)).bind (orP (fun o1 => bif (appB 24 (List.length a4) (List.length ([o1.2.2] : List (List (YT1))))) then Jl3 a0 (IntKind.wrap .i64 (a1 + (1 : Int))) (o1.1) (o1.2.1) (a4 ++ ([o1.2.2] : List (List (YT1)))) else none) (fun o2 => some (.inr (o2.1, o2.2))))) else (some (.inl (a2, a3, a4)))
set_option maxHeartbeats 4000000 in
set_option maxRecDepth 100000 in
theorem f40_Al3 (g34 : ((Int) × (List (Int)) × (Int)) → Option (((Int) × (List (Int)) × (Int)) ⊕ ((Int) × (Int)))) (g41 : ((List (Int)) × (Int)) → Option (((List (Int)) × (Int) × (List (YT1))) ⊕ ((Int) × (Int)))) (Jl3 : St → Option (((List (Int)) × (Int) × (List (List (YT1)))) ⊕ ((Int) × (Int)))) (a0 : Int) (a1 : Int) (a2 : List (Int)) (a3 : Int) (a4 : List (List (YT1))) : evAtJ (f40C g34 g41) [] [(3, Jl3)] (bodyOf Try.f40) [.r, .r, .l, .r, .b, .b] (retKP (f40C g34 g41) Try.f40.results f40o 65 [(.int .i64), (.int .i64)] true) (f40_s3 a0 a1 a2 a3 a4) = f40_tl3 g34 g41 (fun a0 a1 a2 a3 a4 => Jl3 (f40_s3 a0 a1 a2 a3 a4)) a0 a1 a2 a3 a4 := by
  kernel_rfl
set_option maxHeartbeats 4000000 in
set_option maxRecDepth 100000 in
theorem f40_el3 (k : Nat) (g34 : ((Int) × (List (Int)) × (Int)) → Option (((Int) × (List (Int)) × (Int)) ⊕ ((Int) × (Int)))) (g41 : ((List (Int)) × (Int)) → Option (((List (Int)) × (Int) × (List (YT1))) ⊕ ((Int) × (Int)))) (j3 : Nat) (a0 : Int) (a1 : Int) (a2 : List (Int)) (a3 : Int) (a4 : List (List (YT1))) : f40_l3 k g34 g41 (j3 + 1) a0 a1 a2 a3 a4 = f40_tl3 g34 g41 (f40_l3 k g34 g41  j3) a0 a1 a2 a3 a4 := by
  have h0 : f40_l3 k g34 g41 (j3 + 1) a0 a1 a2 a3 a4 = evAt (f40C g34 g41) k (bodyOf Try.f40) [.r, .r, .l, .r, .b, .b] [j3] (retKP (f40C g34 g41) Try.f40.results f40o 65 [(.int .i64), (.int .i64)] true) (f40_s3 a0 a1 a2 a3 a4) := by kernel_rfl
  have h1 : keep [] (jt (f40C g34 g41) k (bodyOf Try.f40) [.r, .r, .l, .r, .b, .b] [j3] (retKP (f40C g34 g41) Try.f40.results f40o 65 [(.int .i64), (.int .i64)] true)) = [] := by kernel_rfl
  have h2 : keep [3] (lt (f40C g34 g41) k (bodyOf Try.f40) [.r, .r, .l, .r, .b, .b] [j3] (retKP (f40C g34 g41) Try.f40.results f40o 65 [(.int .i64), (.int .i64)] true)) = [(3, (fun s => loopAt (f40C g34 g41) k (bodyOf Try.f40) [.r, .r, .l, .r, .b] [] j3 (retKP (f40C g34 g41) Try.f40.results f40o 65 [(.int .i64), (.int .i64)] true) s))] := by kernel_rfl
  have h3 := evAt_cut (f40_s3 a0 a1 a2 a3 a4) [] [3] (by kernel_rfl) h1 h2 (by kernel_rfl) (by kernel_rfl) (by kernel_rfl)
  have h4 := f40_Al3 g34 g41 (fun s => loopAt (f40C g34 g41) k (bodyOf Try.f40) [.r, .r, .l, .r, .b] [] j3 (retKP (f40C g34 g41) Try.f40.results f40o 65 [(.int .i64), (.int .i64)] true) s) a0 a1 a2 a3 a4
  exact h0.trans (h3.trans (h4.trans (by kernel_rfl)))
set_option maxHeartbeats 4000000 in
set_option maxRecDepth 100000 in
theorem f40_ok (k : Nat) (g34 : ((Int) × (List (Int)) × (Int)) → Option (((Int) × (List (Int)) × (Int)) ⊕ ((Int) × (Int)))) (g41 : ((List (Int)) × (Int)) → Option (((List (Int)) × (Int) × (List (YT1))) ⊕ ((Int) × (Int)))) (hg34 : SigOK Try.prog 34 ⟨f34i, f34o, mkFunP f34i.tys f34o.tys 65 [(.int .i64), (.int .i64)] true g34⟩) (hg41 : SigOK Try.prog 41 ⟨f41i, f41o, mkFunP f41i.tys f41o.tys 65 [(.int .i64), (.int .i64)] true g41⟩) : SigOK Try.prog 40 ⟨f40i, f40o, mkFunP f40i.tys f40o.tys 65 [(.int .i64), (.int .i64)] true (f40 k g34 g41)⟩ :=
  fnP_ok (C := (f40C g34 g41)) (l := f40E g34 g41) rfl ⟨⟨hg34, trivial⟩, ⟨hg41, trivial⟩, trivial⟩ (by kernel_rfl) k (fn := Try.f40) (by kernel_rfl) (by kernel_rfl) (by kernel_rfl) f40i f40o 65 [(.int .i64), (.int .i64)] true rfl rfl (show 1 ≤ 48 by decide) (show 0 ≤ 48 by decide)
noncomputable def c40 (k : Nat) : ((Int) × (List (Int)) × (Int)) → Option (((List (Int)) × (Int) × (List (List (YT1)))) ⊕ ((Int) × (Int))) := f40 k (c34 k) (c41 k)
theorem c40_ok (k : Nat) : SigOK Try.prog 40 ⟨f40i, f40o, mkFunP f40i.tys f40o.tys 65 [(.int .i64), (.int .i64)] true (c40 k)⟩ := f40_ok k (c34 k) (c41 k) (c34_ok k) (c41_ok k)
end Go.Proofs.YtghmhkpgdmgepaaV
