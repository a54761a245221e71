import Derived.Test.YtghmhkpgdmgepaaD0
set_option linter.unusedVariables false
namespace Go.Proofs.YtghmhkpgdmgepaaV
open Go Go.RowKit

/-! (*carrefour/device.writer).slot -/
def f39i : Sk := ⟨[.lf (.ptr 0 0), .agg [.pv .str, .pv (.int .i64), .pv (.int .i64), .pv (.int .i64), .pv (.slice yt0)]], [[.own 0]], [some (5, (.int .u8))]⟩
def f39o : Sk := ⟨[], [[.own 1]], [none, some (5, (.int .u8))]⟩
noncomputable def f39E (g21 : ((List Int) × (List (Int))) → Option ((List (Int)) ⊕ (Unit))) (g12 : ((List (Int)) × (List (Int))) → Option ((List (Int)) ⊕ (Unit))) (g42 : ((List (YT0)) × (Int) × (List (Int))) → Option ((List (Int)) ⊕ (Unit))) : List (Nat × List Sig) := [(21, [⟨f21i, f21o, mkFunP f21i.tys f21o.tys 52 [] true g21⟩]), (12, [⟨f12i, f12o, mkFunP f12i.tys f12o.tys 52 [] true g12⟩]), (42, [⟨f42i, f42o, mkFunP f42i.tys f42o.tys 52 [] true g42⟩])]
noncomputable def f39C (g21 : ((List Int) × (List (Int))) → Option ((List (Int)) ⊕ (Unit))) (g12 : ((List (Int)) × (List (Int))) → Option ((List (Int)) ⊕ (Unit))) (g42 : ((List (YT0)) × (Int) × (List (Int))) → Option ((List (Int)) ⊕ (Unit))) : Cfg := { P := Try.prog, env := lookS (f39E g21 g12 g42), n := 94, npB := 1, npO := 1, hint := fun i => look none [] i, pops := [] }
def f39_s (a0 : List Int) (a1 : Int) (a2 : Int) (a3 : Int) (a4 : List (YT0)) (a5 : List (Int)) : St := { enc f39i 94 [⟨.str, a0⟩, ⟨(.int .i64), a1⟩, ⟨(.int .i64), a2⟩, ⟨(.int .i64), a3⟩, ⟨(.slice yt0), a4⟩, ⟨(.slice (.int .u8)), a5⟩] with slots := encAs f39i.slots [⟨.str, a0⟩, ⟨(.int .i64), a1⟩, ⟨(.int .i64), a2⟩, ⟨(.int .i64), a3⟩, ⟨(.slice yt0), a4⟩, ⟨(.slice (.int .u8)), a5⟩] ++ List.replicate 21 .dead }
noncomputable def f39 (k : Nat) (g21 : ((List Int) × (List (Int))) → Option ((List (Int)) ⊕ (Unit))) (g12 : ((List (Int)) × (List (Int))) → Option ((List (Int)) ⊕ (Unit))) (g42 : ((List (YT0)) × (Int) × (List (Int))) → Option ((List (Int)) ⊕ (Unit))) : ((List Int) × (Int) × (Int) × (Int) × (List (YT0)) × (List (Int))) → Option ((List (Int)) ⊕ (Unit)) := fnOfP (f39C g21 g12 g42) k Try.f39 f39i f39o 52 [] true
def f39_t (g21 : ((List Int) × (List (Int))) → Option ((List (Int)) ⊕ (Unit))) (g12 : ((List (Int)) × (List (Int))) → Option ((List (Int)) ⊕ (Unit))) (g42 : ((List (YT0)) × (Int) × (List (Int))) → Option ((List (Int)) ⊕ (Unit)))  (a0 : List Int) (a1 : Int) (a2 : Int) (a3 : Int) (a4 : List (YT0)) (a5 : List (Int)) : Option ((List (Int)) ⊕ (Unit)) :=
  (g21 (a0, a5)).bind (orP (fun o1 => (g12 (([a1, a2, a3] : List (Int)), o1)).bind (orP (fun o3 => (g42 (a4, (8 : Int), o3)).bind (orP (fun o5 => some (.inl o5)) (fun o6 => some (.inr ())))) (fun o4 => some (.inr ())))) (fun o2 => some (.inr ())))
set_option maxHeartbeats 4000000 in
set_option maxRecDepth 100000 in
theorem f39_A (g21 : ((List Int) × (List (Int))) → Option ((List (Int)) ⊕ (Unit))) (g12 : ((List (Int)) × (List (Int))) → Option ((List (Int)) ⊕ (Unit))) (g42 : ((List (YT0)) × (Int) × (List (Int))) → Option ((List (Int)) ⊕ (Unit)))  (a0 : List Int) (a1 : Int) (a2 : Int) (a3 : Int) (a4 : List (YT0)) (a5 : List (Int)) : evAtJ (f39C g21 g12 g42) [] [] (bodyOf Try.f39) [] (retKP (f39C g21 g12 g42) Try.f39.results f39o 52 [] true) (f39_s a0 a1 a2 a3 a4 a5) = f39_t g21 g12 g42  a0 a1 a2 a3 a4 a5 := by
  kernel_rfl
set_option maxHeartbeats 4000000 in
set_option maxRecDepth 100000 in
theorem f39_e (k : Nat) (g21 : ((List Int) × (List (Int))) → Option ((List (Int)) ⊕ (Unit))) (g12 : ((List (Int)) × (List (Int))) → Option ((List (Int)) ⊕ (Unit))) (g42 : ((List (YT0)) × (Int) × (List (Int))) → Option ((List (Int)) ⊕ (Unit)))  (a0 : List Int) (a1 : Int) (a2 : Int) (a3 : Int) (a4 : List (YT0)) (a5 : List (Int)) : f39 k g21 g12 g42 (a0, a1, a2, a3, a4, a5) = f39_t g21 g12 g42  a0 a1 a2 a3 a4 a5 := by
  have h0 : f39 k g21 g12 g42 (a0, a1, a2, a3, a4, a5) = evAt (f39C g21 g12 g42) k (bodyOf Try.f39) [] [] (retKP (f39C g21 g12 g42) Try.f39.results f39o 52 [] true) (f39_s a0 a1 a2 a3 a4 a5) := by kernel_rfl
  have h1 : keep [] (jt (f39C g21 g12 g42) k (bodyOf Try.f39) [] [] (retKP (f39C g21 g12 g42) Try.f39.results f39o 52 [] true)) = [] := by kernel_rfl
  have h2 : keep [] (lt (f39C g21 g12 g42) k (bodyOf Try.f39) [] [] (retKP (f39C g21 g12 g42) Try.f39.results f39o 52 [] true)) = [] := by kernel_rfl
  have h3 := evAt_cut (f39_s a0 a1 a2 a3 a4 a5) [] [] (by kernel_rfl) h1 h2 (by kernel_rfl) (by kernel_rfl) (by kernel_rfl)
  have h4 := f39_A g21 g12 g42  a0 a1 a2 a3 a4 a5
  exact h0.trans (h3.trans (h4.trans (by kernel_rfl)))
set_option maxHeartbeats 4000000 in
set_option maxRecDepth 100000 in
theorem f39_ok (k : Nat) (g21 : ((List Int) × (List (Int))) → Option ((List (Int)) ⊕ (Unit))) (g12 : ((List (Int)) × (List (Int))) → Option ((List (Int)) ⊕ (Unit))) (g42 : ((List (YT0)) × (Int) × (List (Int))) → Option ((List (Int)) ⊕ (Unit))) (hg21 : SigOK Try.prog 21 ⟨f21i, f21o, mkFunP f21i.tys f21o.tys 52 [] true g21⟩) (hg12 : SigOK Try.prog 12 ⟨f12i, f12o, mkFunP f12i.tys f12o.tys 52 [] true g12⟩) (hg42 : SigOK Try.prog 42 ⟨f42i, f42o, mkFunP f42i.tys f42o.tys 52 [] true g42⟩) : SigOK Try.prog 39 ⟨f39i, f39o, mkFunP f39i.tys f39o.tys 52 [] true (f39 k g21 g12 g42)⟩ :=
  fnP_ok (C := (f39C g21 g12 g42)) (l := f39E g21 g12 g42) rfl ⟨⟨hg21, trivial⟩, ⟨hg12, trivial⟩, ⟨hg42, trivial⟩, trivial⟩ (by kernel_rfl) k (fn := Try.f39) (by kernel_rfl) (by kernel_rfl) (by kernel_rfl) f39i f39o 52 [] true rfl rfl (show 1 ≤ 48 by decide) (show 1 ≤ 48 by decide)
noncomputable def c39 (k : Nat) : ((List Int) × (Int) × (Int) × (Int) × (List (YT0)) × (List (Int))) → Option ((List (Int)) ⊕ (Unit)) := f39 k (c21 k) (c12 k) (c42 k)
theorem c39_ok (k : Nat) : SigOK Try.prog 39 ⟨f39i, f39o, mkFunP f39i.tys f39o.tys 52 [] true (c39 k)⟩ := f39_ok k (c21 k) (c12 k) (c42 k) (c21_ok k) (c12_ok k) (c42_ok k)

/-! carrefour/device.put[carrefour/api.Slot] -/
def f38i : Sk := ⟨[.lf (.ptr 0 0), .lf (.pv (.slice yt1)), .lf (.pv (.int .i64)), .lf (.fn 39 [(0, 0)] [])], [[.own 0]], [some (5, (.int .u8))]⟩
def f38o : Sk := ⟨[], [[.own 1]], [none, some (5, (.int .u8))]⟩
def f38_k2 : Sk := ⟨sparse 31 [(0, .lf (.ptr 0 0)), (1, .lf (.pv (.slice yt1))), (3, .lf (.fn 39 [(0, 0)] []))], [[.own 0]], [some (5, (.int .u8))]⟩
def f38_k4 : Sk := ⟨sparse 31 [(0, .lf (.ptr 0 0)), (3, .lf (.fn 39 [(0, 0)] [])), (21, .lf (.pv (.slice yt1))), (22, .lf (.pv (.int .i64))), (23, .lf (.pv (.int .i64)))], [[.own 1]], [none, some (5, (.int .u8))]⟩
noncomputable def f38E (g12 : ((List (Int)) × (List (Int))) → Option ((List (Int)) ⊕ (Unit))) (g39 : ((List Int) × (Int) × (Int) × (Int) × (List (YT0)) × (List (Int))) → Option ((List (Int)) ⊕ (Unit))) : List (Nat × List Sig) := [(12, [⟨f12i, f12o, mkFunP f12i.tys f12o.tys 52 [] true g12⟩]), (39, [⟨f39i, f39o, mkFunP f39i.tys f39o.tys 52 [] true g39⟩])]
noncomputable def f38C (g12 : ((List (Int)) × (List (Int))) → Option ((List (Int)) ⊕ (Unit))) (g39 : ((List Int) × (Int) × (Int) × (Int) × (List (YT0)) × (List (Int))) → Option ((List (Int)) ⊕ (Unit))) : Cfg := { P := Try.prog, env := lookS (f38E g12 g39), n := 110, npB := 1, npO := 1, hint := fun i => look none [(2, some f38_k2), (4, some f38_k4)] i, pops := [] }
def f38_s (a0 : List (YT1)) (a1 : Int) (a2 : List (Int)) : St := { enc f38i 110 [⟨(.slice yt1), a0⟩, ⟨(.int .i64), a1⟩, ⟨(.slice (.int .u8)), a2⟩] with slots := encAs f38i.slots [⟨(.slice yt1), a0⟩, ⟨(.int .i64), a1⟩, ⟨(.slice (.int .u8)), a2⟩] ++ List.replicate 27 .dead }
def f38_s2 (a0 : List (YT1)) (a1 : List (Int)) : St := enc f38_k2 110 [⟨(.slice yt1), a0⟩, ⟨(.slice (.int .u8)), a1⟩]
def f38_s4 (a0 : List (YT1)) (a1 : Int) (a2 : Int) (a3 : List (Int)) : St := enc f38_k4 110 [⟨(.slice yt1), a0⟩, ⟨(.int .i64), a1⟩, ⟨(.int .i64), a2⟩, ⟨(.slice (.int .u8)), a3⟩]
noncomputable def f38 (k : Nat) (g12 : ((List (Int)) × (List (Int))) → Option ((List (Int)) ⊕ (Unit))) (g39 : ((List Int) × (Int) × (Int) × (Int) × (List (YT0)) × (List (Int))) → Option ((List (Int)) ⊕ (Unit))) : ((List (YT1)) × (Int) × (List (Int))) → Option ((List (Int)) ⊕ (Unit)) := fnOfP (f38C g12 g39) k Try.f38 f38i f38o 52 [] true
noncomputable def f38_j2 (k : Nat) (g12 : ((List (Int)) × (List (Int))) → Option ((List (Int)) ⊕ (Unit))) (g39 : ((List Int) × (Int) × (Int) × (Int) × (List (YT0)) × (List (Int))) → Option ((List (Int)) ⊕ (Unit)))  (a0 : List (YT1)) (a1 : List (Int)) : Option ((List (Int)) ⊕ (Unit)) := evAt (f38C g12 g39) k (bodyOf Try.f38) [.r] [] (retKP (f38C g12 g39) Try.f38.results f38o 52 [] true) (f38_s2 a0 a1)
noncomputable def f38_l4 (k : Nat) (g12 : ((List (Int)) × (List (Int))) → Option ((List (Int)) ⊕ (Unit))) (g39 : ((List Int) × (Int) × (Int) × (Int) × (List (YT0)) × (List (Int))) → Option ((List (Int)) ⊕ (Unit))) (j4 : Nat) (a0 : List (YT1)) (a1 : Int) (a2 : Int) (a3 : List (Int)) : Option ((List (Int)) ⊕ (Unit)) := loopAt (f38C g12 g39) k (bodyOf Try.f38) [.r, .r, .r, .b] [] j4 (retKP (f38C g12 g39) Try.f38.results f38o 52 [] true) (f38_s4 a0 a1 a2 a3)
def f38_t (g12 : ((List (Int)) × (List (Int))) → Option ((List (Int)) ⊕ (Unit))) (g39 : ((List Int) × (Int) × (Int) × (Int) × (List (YT0)) × (List (Int))) → Option ((List (Int)) ⊕ (Unit))) (Jj2 : (List (YT1)) → (List (Int)) → Option ((List (Int)) ⊕ (Unit))) (a0 : List (YT1)) (a1 : Int) (a2 : List (Int)) : Option ((List (Int)) ⊕ (Unit)) :=
  bif (decide (((List.length a0 : Nat) : Int) > a1)) then (some (.inr ())) else (Jj2 a0 a2)
set_option maxHeartbeats 4000000 in
set_option maxRecDepth 100000 in
theorem f38_A (g12 : ((List (Int)) × (List (Int))) → Option ((List (Int)) ⊕ (Unit))) (g39 : ((List Int) × (Int) × (Int) × (Int) × (List (YT0)) × (List (Int))) → Option ((List (Int)) ⊕ (Unit))) (Jj2 : St → Option ((List (Int)) ⊕ (Unit))) (Jl4 : St → Option ((List (Int)) ⊕ (Unit))) (a0 : List (YT1)) (a1 : Int) (a2 : List (Int)) : evAtJ (f38C g12 g39) [(2, Jj2)] [(4, Jl4)] (bodyOf Try.f38) [] (retKP (f38C g12 g39) Try.f38.results f38o 52 [] true) (f38_s a0 a1 a2) = f38_t g12 g39 (fun a0 a1 => Jj2 (f38_s2 a0 a1)) a0 a1 a2 := by
  kernel_rfl
set_option maxHeartbeats 4000000 in
set_option maxRecDepth 100000 in
theorem f38_e (k : Nat) (g12 : ((List (Int)) × (List (Int))) → Option ((List (Int)) ⊕ (Unit))) (g39 : ((List Int) × (Int) × (Int) × (Int) × (List (YT0)) × (List (Int))) → Option ((List (Int)) ⊕ (Unit)))  (a0 : List (YT1)) (a1 : Int) (a2 : List (Int)) : f38 k g12 g39 (a0, a1, a2) = f38_t g12 g39 (f38_j2 k g12 g39 ) a0 a1 a2 := by
  have h0 : f38 k g12 g39 (a0, a1, a2) = evAt (f38C g12 g39) k (bodyOf Try.f38) [] [] (retKP (f38C g12 g39) Try.f38.results f38o 52 [] true) (f38_s a0 a1 a2) := by kernel_rfl
  have h1 : keep [2] (jt (f38C g12 g39) k (bodyOf Try.f38) [] [] (retKP (f38C g12 g39) Try.f38.results f38o 52 [] true)) = [(2, (fun s => evAt (f38C g12 g39) k (bodyOf Try.f38) [.r] [] (retKP (f38C g12 g39) Try.f38.results f38o 52 [] true) s))] := by kernel_rfl
  have h2 : keep [4] (lt (f38C g12 g39) k (bodyOf Try.f38) [] [] (retKP (f38C g12 g39) Try.f38.results f38o 52 [] true)) = [(4, (fun s => loopAt (f38C g12 g39) k (bodyOf Try.f38) [.r, .r, .r, .b] [] k (retKP (f38C g12 g39) Try.f38.results f38o 52 [] true) s))] := by kernel_rfl
  have h3 := evAt_cut (f38_s a0 a1 a2) [2] [4] (by kernel_rfl) h1 h2 (by kernel_rfl) (by kernel_rfl) (by kernel_rfl)
  have h4 := f38_A g12 g39 (fun s => evAt (f38C g12 g39) k (bodyOf Try.f38) [.r] [] (retKP (f38C g12 g39) Try.f38.results f38o 52 [] true) s) (fun s => loopAt (f38C g12 g39) k (bodyOf Try.f38) [.r, .r, .r, .b] [] k (retKP (f38C g12 g39) Try.f38.results f38o 52 [] true) s) a0 a1 a2
  exact h0.trans (h3.trans (h4.trans (by kernel_rfl)))
def f38_tj2 (g12 : ((List (Int)) × (List (Int))) → Option ((List (Int)) ⊕ (Unit))) (g39 : ((List Int) × (Int) × (Int) × (Int) × (List (YT0)) × (List (Int))) → Option ((List (Int)) ⊕ (Unit))) (Jl4 : (List (YT1)) → Int → Int → (List (Int)) → Option ((List (Int)) ⊕ (Unit))) (a0 : List (YT1)) (a1 : List (Int)) : Option ((List (Int)) ⊕ (Unit)) :=
  (g12 (([((List.length a0 : Nat) : Int)] : List (Int)), a1)).bind (orP (fun o1 => Jl4 a0 ((List.length a0 : Nat) : Int) (0 : Int) o1) (fun o2 => some (.inr ())))
set_option maxHeartbeats 4000000 in
set_option maxRecDepth 100000 in
theorem f38_Aj2 (g12 : ((List (Int)) × (List (Int))) → Option ((List (Int)) ⊕ (Unit))) (g39 : ((List Int) × (Int) × (Int) × (Int) × (List (YT0)) × (List (Int))) → Option ((List (Int)) ⊕ (Unit))) (Jj2 : St → Option ((List (Int)) ⊕ (Unit))) (Jl4 : St → Option ((List (Int)) ⊕ (Unit))) (a0 : List (YT1)) (a1 : List (Int)) : evAtJ (f38C g12 g39) [(2, Jj2)] [(4, Jl4)] (bodyOf Try.f38) [.r] (retKP (f38C g12 g39) Try.f38.results f38o 52 [] true) (f38_s2 a0 a1) = f38_tj2 g12 g39 (fun a0 a1 a2 a3 => Jl4 (f38_s4 a0 a1 a2 a3)) a0 a1 := by
  kernel_rfl
set_option maxHeartbeats 4000000 in
set_option maxRecDepth 100000 in
theorem f38_ej2 (k : Nat) (g12 : ((List (Int)) × (List (Int))) → Option ((List (Int)) ⊕ (Unit))) (g39 : ((List Int) × (Int) × (Int) × (Int) × (List (YT0)) × (List (Int))) → Option ((List (Int)) ⊕ (Unit)))  (a0 : List (YT1)) (a1 : List (Int)) : f38_j2 k g12 g39  a0 a1 = f38_tj2 g12 g39 (f38_l4 k g12 g39  k) a0 a1 := by
  have h0 : f38_j2 k g12 g39  a0 a1 = evAt (f38C g12 g39) k (bodyOf Try.f38) [.r] [] (retKP (f38C g12 g39) Try.f38.results f38o 52 [] true) (f38_s2 a0 a1) := by kernel_rfl
  have h1 : keep [2] (jt (f38C g12 g39) k (bodyOf Try.f38) [.r] [] (retKP (f38C g12 g39) Try.f38.results f38o 52 [] true)) = [(2, (fun s => evAt (f38C g12 g39) k (bodyOf Try.f38) [.r] [] (retKP (f38C g12 g39) Try.f38.results f38o 52 [] true) s))] := by kernel_rfl
  have h2 : keep [4] (lt (f38C g12 g39) k (bodyOf Try.f38) [.r] [] (retKP (f38C g12 g39) Try.f38.results f38o 52 [] true)) = [(4, (fun s => loopAt (f38C g12 g39) k (bodyOf Try.f38) [.r, .r, .r, .b] [] k (retKP (f38C g12 g39) Try.f38.results f38o 52 [] true) s))] := by kernel_rfl
  have h3 := evAt_cut (f38_s2 a0 a1) [2] [4] (by kernel_rfl) h1 h2 (by kernel_rfl) (by kernel_rfl) (by kernel_rfl)
  have h4 := f38_Aj2 g12 g39 (fun s => evAt (f38C g12 g39) k (bodyOf Try.f38) [.r] [] (retKP (f38C g12 g39) Try.f38.results f38o 52 [] true) s) (fun s => loopAt (f38C g12 g39) k (bodyOf Try.f38) [.r, .r, .r, .b] [] k (retKP (f38C g12 g39) Try.f38.results f38o 52 [] true) s) a0 a1
  exact h0.trans (h3.trans (h4.trans (by kernel_rfl)))
def f38_tl4 (g12 : ((List (Int)) × (List (Int))) → Option ((List (Int)) ⊕ (Unit))) (g39 : ((List Int) × (Int) × (Int) × (Int) × (List (YT0)) × (List (Int))) → Option ((List (Int)) ⊕ (Unit))) (Jl4 : (List (YT1)) → Int → Int → (List (Int)) → Option ((List (Int)) ⊕ (Unit))) (a0 : List (YT1)) (a1 : Int) (a2 : Int) (a3 : List (Int)) : Option ((List (Int)) ⊕ (Unit)) :=
  bif (decide (a2 < a1)) then (bif (inB a2 (List.length a0)) then (g39 ((rdA zt1 a0 (Int.toNat a2)).1, (rdA zt1 a0 (Int.toNat a2)).2.1, (rdA zt1 a0 (Int.toNat a2)).2.2.1, (rdA zt1 a0 (Int.toNat a2)).2.2.2.1, (rdA zt1 a0 (Int.toNat a2)).2.2.2.2.1, a3)).bind (orP (fun o1 => Jl4 a0 a1 (IntKind.wrap .i64 (a2 + (1 : Int))) o1) (fun o2 => some (.inr ()))) else none) else (some (.inl a3))
set_option maxHeartbeats 4000000 in
set_option maxRecDepth 100000 in
theorem f38_Al4 (g12 : ((List (Int)) × (List (Int))) → Option ((List (Int)) ⊕ (Unit))) (g39 : ((List Int) × (Int) × (Int) × (Int) × (List (YT0)) × (List (Int))) → Option ((List (Int)) ⊕ (Unit))) (Jj2 : St → Option ((List (Int)) ⊕ (Unit))) (Jl4 : St → Option ((List (Int)) ⊕ (Unit))) (a0 : List (YT1)) (a1 : Int) (a2 : Int) (a3 : List (Int)) : evAtJ (f38C g12 g39) [(2, Jj2)] [(4, Jl4)] (bodyOf Try.f38) [.r, .r, .r, .b, .b] (retKP (f38C g12 g39) Try.f38.results f38o 52 [] true) (f38_s4 a0 a1 a2 a3) = f38_tl4 g12 g39 (fun a0 a1 a2 a3 => Jl4 (f38_s4 a0 a1 a2 a3)) a0 a1 a2 a3 := by
  kernel_rfl
set_option maxHeartbeats 4000000 in
set_option maxRecDepth 100000 in
theorem f38_el4 (k : Nat) (g12 : ((List (Int)) × (List (Int))) → Option ((List (Int)) ⊕ (Unit))) (g39 : ((List Int) × (Int) × (Int) × (Int) × (List (YT0)) × (List (Int))) → Option ((List (Int)) ⊕ (Unit))) (j4 : Nat) (a0 : List (YT1)) (a1 : Int) (a2 : Int) (a3 : List (Int)) : f38_l4 k g12 g39 (j4 + 1) a0 a1 a2 a3 = f38_tl4 g12 g39 (f38_l4 k g12 g39  j4) a0 a1 a2 a3 := by
  have h0 : f38_l4 k g12 g39 (j4 + 1) a0 a1 a2 a3 = evAt (f38C g12 g39) k (bodyOf Try.f38) [.r, .r, .r, .b, .b] [j4] (retKP (f38C g12 g39) Try.f38.results f38o 52 [] true) (f38_s4 a0 a1 a2 a3) := by kernel_rfl
  have h1 : keep [2] (jt (f38C g12 g39) k (bodyOf Try.f38) [.r, .r, .r, .b, .b] [j4] (retKP (f38C g12 g39) Try.f38.results f38o 52 [] true)) = [(2, (fun s => evAt (f38C g12 g39) k (bodyOf Try.f38) [.r] [] (retKP (f38C g12 g39) Try.f38.results f38o 52 [] true) s))] := by kernel_rfl
  have h2 : keep [4] (lt (f38C g12 g39) k (bodyOf Try.f38) [.r, .r, .r, .b, .b] [j4] (retKP (f38C g12 g39) Try.f38.results f38o 52 [] true)) = [(4, (fun s => loopAt (f38C g12 g39) k (bodyOf Try.f38) [.r, .r, .r, .b] [] j4 (retKP (f38C g12 g39) Try.f38.results f38o 52 [] true) s))] := by kernel_rfl
  have h3 := evAt_cut (f38_s4 a0 a1 a2 a3) [2] [4] (by kernel_rfl) h1 h2 (by kernel_rfl) (by kernel_rfl) (by kernel_rfl)
  have h4 := f38_Al4 g12 g39 (fun s => evAt (f38C g12 g39) k (bodyOf Try.f38) [.r] [] (retKP (f38C g12 g39) Try.f38.results f38o 52 [] true) s) (fun s => loopAt (f38C g12 g39) k (bodyOf Try.f38) [.r, .r, .r, .b] [] j4 (retKP (f38C g12 g39) Try.f38.results f38o 52 [] true) s) a0 a1 a2 a3
  exact h0.trans (h3.trans (h4.trans (by kernel_rfl)))
set_option maxHeartbeats 4000000 in
set_option maxRecDepth 100000 in
theorem f38_ok (k : Nat) (g12 : ((List (Int)) × (List (Int))) → Option ((List (Int)) ⊕ (Unit))) (g39 : ((List Int) × (Int) × (Int) × (Int) × (List (YT0)) × (List (Int))) → Option ((List (Int)) ⊕ (Unit))) (hg12 : SigOK Try.prog 12 ⟨f12i, f12o, mkFunP f12i.tys f12o.tys 52 [] true g12⟩) (hg39 : SigOK Try.prog 39 ⟨f39i, f39o, mkFunP f39i.tys f39o.tys 52 [] true g39⟩) : SigOK Try.prog 38 ⟨f38i, f38o, mkFunP f38i.tys f38o.tys 52 [] true (f38 k g12 g39)⟩ :=
  fnP_ok (C := (f38C g12 g39)) (l := f38E g12 g39) rfl ⟨⟨hg12, trivial⟩, ⟨hg39, trivial⟩, trivial⟩ (by kernel_rfl) k (fn := Try.f38) (by kernel_rfl) (by kernel_rfl) (by kernel_rfl) f38i f38o 52 [] true rfl rfl (show 1 ≤ 48 by decide) (show 1 ≤ 48 by decide)
noncomputable def c38 (k : Nat) : ((List (YT1)) × (Int) × (List (Int))) → Option ((List (Int)) ⊕ (Unit)) := f38 k (c12 k) (c39 k)
theorem c38_ok (k : Nat) : SigOK Try.prog 38 ⟨f38i, f38o, mkFunP f38i.tys f38o.tys 52 [] true (c38 k)⟩ := f38_ok k (c12 k) (c39 k) (c12_ok k) (c39_ok k)

/-! (*carrefour/device.writer).ring -/
def f33i : Sk := ⟨[.lf (.ptr 0 0), .lf (.pv (.slice yt1))], [[.own 0]], [some (5, (.int .u8))]⟩
def f33o : Sk := ⟨[], [[.own 1]], [none, some (5, (.int .u8))]⟩
noncomputable def f33E (g38 : ((List (YT1)) × (Int) × (List (Int))) → Option ((List (Int)) ⊕ (Unit))) : List (Nat × List Sig) := [(38, [⟨f38i, f38o, mkFunP f38i.tys f38o.tys 52 [] true g38⟩])]
noncomputable def f33C (g38 : ((List (YT1)) × (Int) × (List (Int))) → Option ((List (Int)) ⊕ (Unit))) : Cfg := { P := Try.prog, env := lookS (f33E g38), n := 66, npB := 1, npO := 1, hint := fun i => look none [] i, pops := [] }
def f33_s (a0 : List (YT1)) (a1 : List (Int)) : St := { enc f33i 66 [⟨(.slice yt1), a0⟩, ⟨(.slice (.int .u8)), a1⟩] with slots := encAs f33i.slots [⟨(.slice yt1), a0⟩, ⟨(.slice (.int .u8)), a1⟩] ++ List.replicate 7 .dead }
noncomputable def f33 (k : Nat) (g38 : ((List (YT1)) × (Int) × (List (Int))) → Option ((List (Int)) ⊕ (Unit))) : ((List (YT1)) × (List (Int))) → Option ((List (Int)) ⊕ (Unit)) := fnOfP (f33C g38) k Try.f33 f33i f33o 52 [] true
def f33_t (g38 : ((List (YT1)) × (Int) × (List (Int))) → Option ((List (Int)) ⊕ (Unit)))  (a0 : List (YT1)) (a1 : List (Int)) : Option ((List (Int)) ⊕ (Unit)) :=
  (g38 (a0, (4 : Int), a1)).bind (orP (fun o1 => some (.inl o1)) (fun o2 => some (.inr ())))
set_option maxHeartbeats 4000000 in
set_option maxRecDepth 100000 in
theorem f33_A (g38 : ((List (YT1)) × (Int) × (List (Int))) → Option ((List (Int)) ⊕ (Unit)))  (a0 : List (YT1)) (a1 : List (Int)) : evAtJ (f33C g38) [] [] (bodyOf Try.f33) [] (retKP (f33C g38) Try.f33.results f33o 52 [] true) (f33_s a0 a1) = f33_t g38  a0 a1 := by
  kernel_rfl
set_option maxHeartbeats 4000000 in
set_option maxRecDepth 100000 in
theorem f33_e (k : Nat) (g38 : ((List (YT1)) × (Int) × (List (Int))) → Option ((List (Int)) ⊕ (Unit)))  (a0 : List (YT1)) (a1 : List (Int)) : f33 k g38 (a0, a1) = f33_t g38  a0 a1 := by
  have h0 : f33 k g38 (a0, a1) = evAt (f33C g38) k (bodyOf Try.f33) [] [] (retKP (f33C g38) Try.f33.results f33o 52 [] true) (f33_s a0 a1) := by kernel_rfl
  have h1 : keep [] (jt (f33C g38) k (bodyOf Try.f33) [] [] (retKP (f33C g38) Try.f33.results f33o 52 [] true)) = [] := by kernel_rfl
  have h2 : keep [] (lt (f33C g38) k (bodyOf Try.f33) [] [] (retKP (f33C g38) Try.f33.results f33o 52 [] true)) = [] := by kernel_rfl
  have h3 := evAt_cut (f33_s a0 a1) [] [] (by kernel_rfl) h1 h2 (by kernel_rfl) (by kernel_rfl) (by kernel_rfl)
  have h4 := f33_A g38  a0 a1
  exact h0.trans (h3.trans (h4.trans (by kernel_rfl)))
set_option maxHeartbeats 4000000 in
set_option maxRecDepth 100000 in
theorem f33_ok (k : Nat) (g38 : ((List (YT1)) × (Int) × (List (Int))) → Option ((List (Int)) ⊕ (Unit))) (hg38 : SigOK Try.prog 38 ⟨f38i, f38o, mkFunP f38i.tys f38o.tys 52 [] true g38⟩) : SigOK Try.prog 33 ⟨f33i, f33o, mkFunP f33i.tys f33o.tys 52 [] true (f33 k g38)⟩ :=
  fnP_ok (C := (f33C g38)) (l := f33E g38) rfl ⟨⟨hg38, trivial⟩, trivial⟩ (by kernel_rfl) k (fn := Try.f33) (by kernel_rfl) (by kernel_rfl) (by kernel_rfl) f33i f33o 52 [] true rfl rfl (show 1 ≤ 48 by decide) (show 1 ≤ 48 by decide)
noncomputable def c33 (k : Nat) : ((List (YT1)) × (List (Int))) → Option ((List (Int)) ⊕ (Unit)) := f33 k (c38 k)
theorem c33_ok (k : Nat) : SigOK Try.prog 33 ⟨f33i, f33o, mkFunP f33i.tys f33o.tys 52 [] true (c33 k)⟩ := f33_ok k (c38 k) (c38_ok k)

/-! carrefour/device.put[[]carrefour/api.Slot] -/
def f32i : Sk := ⟨[.lf (.ptr 0 0), .lf (.pv (.slice (.slice yt1))), .lf (.pv (.int .i64)), .lf (.fn 33 [(0, 0)] [])], [[.own 0]], [some (5, (.int .u8))]⟩
def f32o : Sk := ⟨[], [[.own 1]], [none, some (5, (.int .u8))]⟩
def f32_k2 : Sk := ⟨sparse 31 [(0, .lf (.ptr 0 0)), (1, .lf (.pv (.slice (.slice yt1)))), (3, .lf (.fn 33 [(0, 0)] []))], [[.own 0]], [some (5, (.int .u8))]⟩
def f32_k4 : Sk := ⟨sparse 31 [(0, .lf (.ptr 0 0)), (3, .lf (.fn 33 [(0, 0)] [])), (21, .lf (.pv (.slice (.slice yt1)))), (22, .lf (.pv (.int .i64))), (23, .lf (.pv (.int .i64)))], [[.own 1]], [none, some (5, (.int .u8))]⟩
noncomputable def f32E (g12 : ((List (Int)) × (List (Int))) → Option ((List (Int)) ⊕ (Unit))) (g33 : ((List (YT1)) × (List (Int))) → Option ((List (Int)) ⊕ (Unit))) : List (Nat × List Sig) := [(12, [⟨f12i, f12o, mkFunP f12i.tys f12o.tys 52 [] true g12⟩]), (33, [⟨f33i, f33o, mkFunP f33i.tys f33o.tys 52 [] true g33⟩])]
noncomputable def f32C (g12 : ((List (Int)) × (List (Int))) → Option ((List (Int)) ⊕ (Unit))) (g33 : ((List (YT1)) × (List (Int))) → Option ((List (Int)) ⊕ (Unit))) : Cfg := { P := Try.prog, env := lookS (f32E g12 g33), n := 110, npB := 1, npO := 1, hint := fun i => look none [(2, some f32_k2), (4, some f32_k4)] i, pops := [] }
def f32_s (a0 : List (List (YT1))) (a1 : Int) (a2 : List (Int)) : St := { enc f32i 110 [⟨(.slice (.slice yt1)), a0⟩, ⟨(.int .i64), a1⟩, ⟨(.slice (.int .u8)), a2⟩] with slots := encAs f32i.slots [⟨(.slice (.slice yt1)), a0⟩, ⟨(.int .i64), a1⟩, ⟨(.slice (.int .u8)), a2⟩] ++ List.replicate 27 .dead }
def f32_s2 (a0 : List (List (YT1))) (a1 : List (Int)) : St := enc f32_k2 110 [⟨(.slice (.slice yt1)), a0⟩, ⟨(.slice (.int .u8)), a1⟩]
def f32_s4 (a0 : List (List (YT1))) (a1 : Int) (a2 : Int) (a3 : List (Int)) : St := enc f32_k4 110 [⟨(.slice (.slice yt1)), a0⟩, ⟨(.int .i64), a1⟩, ⟨(.int .i64), a2⟩, ⟨(.slice (.int .u8)), a3⟩]
noncomputable def f32 (k : Nat) (g12 : ((List (Int)) × (List (Int))) → Option ((List (Int)) ⊕ (Unit))) (g33 : ((List (YT1)) × (List (Int))) → Option ((List (Int)) ⊕ (Unit))) : ((List (List (YT1))) × (Int) × (List (Int))) → Option ((List (Int)) ⊕ (Unit)) := fnOfP (f32C g12 g33) k Try.f32 f32i f32o 52 [] true
noncomputable def f32_j2 (k : Nat) (g12 : ((List (Int)) × (List (Int))) → Option ((List (Int)) ⊕ (Unit))) (g33 : ((List (YT1)) × (List (Int))) → Option ((List (Int)) ⊕ (Unit)))  (a0 : List (List (YT1))) (a1 : List (Int)) : Option ((List (Int)) ⊕ (Unit)) := evAt (f32C g12 g33) k (bodyOf Try.f32) [.r] [] (retKP (f32C g12 g33) Try.f32.results f32o 52 [] true) (f32_s2 a0 a1)
noncomputable def f32_l4 (k : Nat) (g12 : ((List (Int)) × (List (Int))) → Option ((List (Int)) ⊕ (Unit))) (g33 : ((List (YT1)) × (List (Int))) → Option ((List (Int)) ⊕ (Unit))) (j4 : Nat) (a0 : List (List (YT1))) (a1 : Int) (a2 : Int) (a3 : List (Int)) : Option ((List (Int)) ⊕ (Unit)) := loopAt (f32C g12 g33) k (bodyOf Try.f32) [.r, .r, .r, .b] [] j4 (retKP (f32C g12 g33) Try.f32.results f32o 52 [] true) (f32_s4 a0 a1 a2 a3)
def f32_t (g12 : ((List (Int)) × (List (Int))) → Option ((List (Int)) ⊕ (Unit))) (g33 : ((List (YT1)) × (List (Int))) → Option ((List (Int)) ⊕ (Unit))) (Jj2 : (List (List (YT1))) → (List (Int)) → Option ((List (Int)) ⊕ (Unit))) (a0 : List (List (YT1))) (a1 : Int) (a2 : List (Int)) : Option ((List (Int)) ⊕ (Unit)) :=
  bif (decide (((List.length a0 : Nat) : Int) > a1)) then (some (.inr ())) else (Jj2 a0 a2)
set_option maxHeartbeats 4000000 in
set_option maxRecDepth 100000 in
theorem f32_A (g12 : ((List (Int)) × (List (Int))) → Option ((List (Int)) ⊕ (Unit))) (g33 : ((List (YT1)) × (List (Int))) → Option ((List (Int)) ⊕ (Unit))) (Jj2 : St → Option ((List (Int)) ⊕ (Unit))) (Jl4 : St → Option ((List (Int)) ⊕ (Unit))) (a0 : List (List (YT1))) (a1 : Int) (a2 : List (Int)) : evAtJ (f32C g12 g33) [(2, Jj2)] [(4, Jl4)] (bodyOf Try.f32) [] (retKP (f32C g12 g33) Try.f32.results f32o 52 [] true) (f32_s a0 a1 a2) = f32_t g12 g33 (fun a0 a1 => Jj2 (f32_s2 a0 a1)) a0 a1 a2 := by
  kernel_rfl
set_option maxHeartbeats 4000000 in
set_option maxRecDepth 100000 in
theorem f32_e (k : Nat) (g12 : ((List (Int)) × (List (Int))) → Option ((List (Int)) ⊕ (Unit))) (g33 : ((List (YT1)) × (List (Int))) → Option ((List (Int)) ⊕ (Unit)))  (a0 : List (List (YT1))) (a1 : Int) (a2 : List (Int)) : f32 k g12 g33 (a0, a1, a2) = f32_t g12 g33 (f32_j2 k g12 g33 ) a0 a1 a2 := by
  have h0 : f32 k g12 g33 (a0, a1, a2) = evAt (f32C g12 g33) k (bodyOf Try.f32) [] [] (retKP (f32C g12 g33) Try.f32.results f32o 52 [] true) (f32_s a0 a1 a2) := by kernel_rfl
  have h1 : keep [2] (jt (f32C g12 g33) k (bodyOf Try.f32) [] [] (retKP (f32C g12 g33) Try.f32.results f32o 52 [] true)) = [(2, (fun s => evAt (f32C g12 g33) k (bodyOf Try.f32) [.r] [] (retKP (f32C g12 g33) Try.f32.results f32o 52 [] true) s))] := by kernel_rfl
  have h2 : keep [4] (lt (f32C g12 g33) k (bodyOf Try.f32) [] [] (retKP (f32C g12 g33) Try.f32.results f32o 52 [] true)) = [(4, (fun s => loopAt (f32C g12 g33) k (bodyOf Try.f32) [.r, .r, .r, .b] [] k (retKP (f32C g12 g33) Try.f32.results f32o 52 [] true) s))] := by kernel_rfl
  have h3 := evAt_cut (f32_s a0 a1 a2) [2] [4] (by kernel_rfl) h1 h2 (by kernel_rfl) (by kernel_rfl) (by kernel_rfl)
  have h4 := f32_A g12 g33 (fun s => evAt (f32C g12 g33) k (bodyOf Try.f32) [.r] [] (retKP (f32C g12 g33) Try.f32.results f32o 52 [] true) s) (fun s => loopAt (f32C g12 g33) k (bodyOf Try.f32) [.r, .r, .r, .b] [] k (retKP (f32C g12 g33) Try.f32.results f32o 52 [] true) s) a0 a1 a2
  exact h0.trans (h3.trans (h4.trans (by kernel_rfl)))
def f32_tj2 (g12 : ((List (Int)) × (List (Int))) → Option ((List (Int)) ⊕ (Unit))) (g33 : ((List (YT1)) × (List (Int))) → Option ((List (Int)) ⊕ (Unit))) (Jl4 : (List (List (YT1))) → Int → Int → (List (Int)) → Option ((List (Int)) ⊕ (Unit))) (a0 : List (List (YT1))) (a1 : List (Int)) : Option ((List (Int)) ⊕ (Unit)) :=
  (g12 (([((List.length a0 : Nat) : Int)] : List (Int)), a1)).bind (orP (fun o1 => Jl4 a0 ((List.length a0 : Nat) : Int) (0 : Int) o1) (fun o2 => some (.inr ())))
set_option maxHeartbeats 4000000 in
set_option maxRecDepth 100000 in
theorem f32_Aj2 (g12 : ((List (Int)) × (List (Int))) → Option ((List (Int)) ⊕ (Unit))) (g33 : ((List (YT1)) × (List (Int))) → Option ((List (Int)) ⊕ (Unit))) (Jj2 : St → Option ((List (Int)) ⊕ (Unit))) (Jl4 : St → Option ((List (Int)) ⊕ (Unit))) (a0 : List (List (YT1))) (a1 : List (Int)) : evAtJ (f32C g12 g33) [(2, Jj2)] [(4, Jl4)] (bodyOf Try.f32) [.r] (retKP (f32C g12 g33) Try.f32.results f32o 52 [] true) (f32_s2 a0 a1) = f32_tj2 g12 g33 (fun a0 a1 a2 a3 => Jl4 (f32_s4 a0 a1 a2 a3)) a0 a1 := by
  kernel_rfl
set_option maxHeartbeats 4000000 in
set_option maxRecDepth 100000 in
theorem f32_ej2 (k : Nat) (g12 : ((List (Int)) × (List (Int))) → Option ((List (Int)) ⊕ (Unit))) (g33 : ((List (YT1)) × (List (Int))) → Option ((List (Int)) ⊕ (Unit)))  (a0 : List (List (YT1))) (a1 : List (Int)) : f32_j2 k g12 g33  a0 a1 = f32_tj2 g12 g33 (f32_l4 k g12 g33  k) a0 a1 := by
  have h0 : f32_j2 k g12 g33  a0 a1 = evAt (f32C g12 g33) k (bodyOf Try.f32) [.r] [] (retKP (f32C g12 g33) Try.f32.results f32o 52 [] true) (f32_s2 a0 a1) := by kernel_rfl
  have h1 : keep [2] (jt (f32C g12 g33) k (bodyOf Try.f32) [.r] [] (retKP (f32C g12 g33) Try.f32.results f32o 52 [] true)) = [(2, (fun s => evAt (f32C g12 g33) k (bodyOf Try.f32) [.r] [] (retKP (f32C g12 g33) Try.f32.results f32o 52 [] true) s))] := by kernel_rfl
  have h2 : keep [4] (lt (f32C g12 g33) k (bodyOf Try.f32) [.r] [] (retKP (f32C g12 g33) Try.f32.results f32o 52 [] true)) = [(4, (fun s => loopAt (f32C g12 g33) k (bodyOf Try.f32) [.r, .r, .r, .b] [] k (retKP (f32C g12 g33) Try.f32.results f32o 52 [] true) s))] := by kernel_rfl
  have h3 := evAt_cut (f32_s2 a0 a1) [2] [4] (by kernel_rfl) h1 h2 (by kernel_rfl) (by kernel_rfl) (by kernel_rfl)
  have h4 := f32_Aj2 g12 g33 (fun s => evAt (f32C g12 g33) k (bodyOf Try.f32) [.r] [] (retKP (f32C g12 g33) Try.f32.results f32o 52 [] true) s) (fun s => loopAt (f32C g12 g33) k (bodyOf Try.f32) [.r, .r, .r, .b] [] k (retKP (f32C g12 g33) Try.f32.results f32o 52 [] true) s) a0 a1
  exact h0.trans (h3.trans (h4.trans (by kernel_rfl)))
def f32_tl4 (g12 : ((List (Int)) × (List (Int))) → Option ((List (Int)) ⊕ (Unit))) (g33 : ((List (YT1)) × (List (Int))) → Option ((List (Int)) ⊕ (Unit))) (Jl4 : (List (List (YT1))) → Int → Int → (List (Int)) → Option ((List (Int)) ⊕ (Unit))) (a0 : List (List (YT1))) (a1 : Int) (a2 : Int) (a3 : List (Int)) : Option ((List (Int)) ⊕ (Unit)) :=
  bif (decide (a2 < a1)) then (bif (inB a2 (List.length a0)) then (g33 ((rdA [] a0 (Int.toNat a2)), a3)).bind (orP (fun o1 => Jl4 a0 a1 (IntKind.wrap .i64 (a2 + (1 : Int))) o1) (fun o2 => some (.inr ()))) else none) else (some (.inl a3))
set_option maxHeartbeats 4000000 in
set_option maxRecDepth 100000 in
theorem f32_Al4 (g12 : ((List (Int)) × (List (Int))) → Option ((List (Int)) ⊕ (Unit))) (g33 : ((List (YT1)) × (List (Int))) → Option ((List (Int)) ⊕ (Unit))) (Jj2 : St → Option ((List (Int)) ⊕ (Unit))) (Jl4 : St → Option ((List (Int)) ⊕ (Unit))) (a0 : List (List (YT1))) (a1 : Int) (a2 : Int) (a3 : List (Int)) : evAtJ (f32C g12 g33) [(2, Jj2)] [(4, Jl4)] (bodyOf Try.f32) [.r, .r, .r, .b, .b] (retKP (f32C g12 g33) Try.f32.results f32o 52 [] true) (f32_s4 a0 a1 a2 a3) = f32_tl4 g12 g33 (fun a0 a1 a2 a3 => Jl4 (f32_s4 a0 a1 a2 a3)) a0 a1 a2 a3 := by
  kernel_rfl
set_option maxHeartbeats 4000000 in
set_option maxRecDepth 100000 in
theorem f32_el4 (k : Nat) (g12 : ((List (Int)) × (List (Int))) → Option ((List (Int)) ⊕ (Unit))) (g33 : ((List (YT1)) × (List (Int))) → Option ((List (Int)) ⊕ (Unit))) (j4 : Nat) (a0 : List (List (YT1))) (a1 : Int) (a2 : Int) (a3 : List (Int)) : f32_l4 k g12 g33 (j4 + 1) a0 a1 a2 a3 = f32_tl4 g12 g33 (f32_l4 k g12 g33  j4) a0 a1 a2 a3 := by
  have h0 : f32_l4 k g12 g33 (j4 + 1) a0 a1 a2 a3 = evAt (f32C g12 g33) k (bodyOf Try.f32) [.r, .r, .r, .b, .b] [j4] (retKP (f32C g12 g33) Try.f32.results f32o 52 [] true) (f32_s4 a0 a1 a2 a3) := by kernel_rfl
  have h1 : keep [2] (jt (f32C g12 g33) k (bodyOf Try.f32) [.r, .r, .r, .b, .b] [j4] (retKP (f32C g12 g33) Try.f32.results f32o 52 [] true)) = [(2, (fun s => evAt (f32C g12 g33) k (bodyOf Try.f32) [.r] [] (retKP (f32C g12 g33) Try.f32.results f32o 52 [] true) s))] := by kernel_rfl
  have h2 : keep [4] (lt (f32C g12 g33) k (bodyOf Try.f32) [.r, .r, .r, .b, .b] [j4] (retKP (f32C g12 g33) Try.f32.results f32o 52 [] true)) = [(4, (fun s => loopAt (f32C g12 g33) k (bodyOf Try.f32) [.r, .r, .r, .b] [] j4 (retKP (f32C g12 g33) Try.f32.results f32o 52 [] true) s))] := by kernel_rfl
  have h3 := evAt_cut (f32_s4 a0 a1 a2 a3) [2] [4] (by kernel_rfl) h1 h2 (by kernel_rfl) (by kernel_rfl) (by kernel_rfl)
  have h4 := f32_Al4 g12 g33 (fun s => evAt (f32C g12 g33) k (bodyOf Try.f32) [.r] [] (retKP (f32C g12 g33) Try.f32.results f32o 52 [] true) s) (fun s => loopAt (f32C g12 g33) k (bodyOf Try.f32) [.r, .r, .r, .b] [] j4 (retKP (f32C g12 g33) Try.f32.results f32o 52 [] true) s) a0 a1 a2 a3
  exact h0.trans (h3.trans (h4.trans (by kernel_rfl)))
set_option maxHeartbeats 4000000 in
set_option maxRecDepth 100000 in
theorem f32_ok (k : Nat) (g12 : ((List (Int)) × (List (Int))) → Option ((List (Int)) ⊕ (Unit))) (g33 : ((List (YT1)) × (List (Int))) → Option ((List (Int)) ⊕ (Unit))) (hg12 : SigOK Try.prog 12 ⟨f12i, f12o, mkFunP f12i.tys f12o.tys 52 [] true g12⟩) (hg33 : SigOK Try.prog 33 ⟨f33i, f33o, mkFunP f33i.tys f33o.tys 52 [] true g33⟩) : SigOK Try.prog 32 ⟨f32i, f32o, mkFunP f32i.tys f32o.tys 52 [] true (f32 k g12 g33)⟩ :=
  fnP_ok (C := (f32C g12 g33)) (l := f32E g12 g33) rfl ⟨⟨hg12, trivial⟩, ⟨hg33, trivial⟩, trivial⟩ (by kernel_rfl) k (fn := Try.f32) (by kernel_rfl) (by kernel_rfl) (by kernel_rfl) f32i f32o 52 [] true rfl rfl (show 1 ≤ 48 by decide) (show 1 ≤ 48 by decide)
noncomputable def c32 (k : Nat) : ((List (List (YT1))) × (Int) × (List (Int))) → Option ((List (Int)) ⊕ (Unit)) := f32 k (c12 k) (c33 k)
theorem c32_ok (k : Nat) : SigOK Try.prog 32 ⟨f32i, f32o, mkFunP f32i.tys f32o.tys 52 [] true (c32 k)⟩ := f32_ok k (c12 k) (c33 k) (c12_ok k) (c33_ok k)

/-! (*carrefour/device.writer).span -/
def f23i : Sk := ⟨[.lf (.ptr 0 0), .agg [.pv (.slice (.slice yt1))]], [[.own 0]], [some (5, (.int .u8))]⟩
def f23o : Sk := ⟨[], [[.own 1]], [none, some (5, (.int .u8))]⟩
noncomputable def f23E (g32 : ((List (List (YT1))) × (Int) × (List (Int))) → Option ((List (Int)) ⊕ (Unit))) : List (Nat × List Sig) := [(32, [⟨f32i, f32o, mkFunP f32i.tys f32o.tys 52 [] true g32⟩])]
noncomputable def f23C (g32 : ((List (List (YT1))) × (Int) × (List (Int))) → Option ((List (Int)) ⊕ (Unit))) : Cfg := { P := Try.prog, env := lookS (f23E g32), n := 68, npB := 1, npO := 1, hint := fun i => look none [] i, pops := [] }
def f23_s (a0 : List (List (YT1))) (a1 : List (Int)) : St := { enc f23i 68 [⟨(.slice (.slice yt1)), a0⟩, ⟨(.slice (.int .u8)), a1⟩] with slots := encAs f23i.slots [⟨(.slice (.slice yt1)), a0⟩, ⟨(.slice (.int .u8)), a1⟩] ++ List.replicate 8 .dead }
noncomputable def f23 (k : Nat) (g32 : ((List (List (YT1))) × (Int) × (List (Int))) → Option ((List (Int)) ⊕ (Unit))) : ((List (List (YT1))) × (List (Int))) → Option ((List (Int)) ⊕ (Unit)) := fnOfP (f23C g32) k Try.f23 f23i f23o 52 [] true
def f23_t (g32 : ((List (List (YT1))) × (Int) × (List (Int))) → Option ((List (Int)) ⊕ (Unit)))  (a0 : List (List (YT1))) (a1 : List (Int)) : Option ((List (Int)) ⊕ (Unit)) :=
  (g32 (a0, (2 : Int), a1)).bind (orP (fun o1 => some (.inl o1)) (fun o2 => some (.inr ())))
set_option maxHeartbeats 4000000 in
set_option maxRecDepth 100000 in
theorem f23_A (g32 : ((List (List (YT1))) × (Int) × (List (Int))) → Option ((List (Int)) ⊕ (Unit)))  (a0 : List (List (YT1))) (a1 : List (Int)) : evAtJ (f23C g32) [] [] (bodyOf Try.f23) [] (retKP (f23C g32) Try.f23.results f23o 52 [] true) (f23_s a0 a1) = f23_t g32  a0 a1 := by
  kernel_rfl
set_option maxHeartbeats 4000000 in
set_option maxRecDepth 100000 in
theorem f23_e (k : Nat) (g32 : ((List (List (YT1))) × (Int) × (List (Int))) → Option ((List (Int)) ⊕ (Unit)))  (a0 : List (List (YT1))) (a1 : List (Int)) : f23 k g32 (a0, a1) = f23_t g32  a0 a1 := by
  have h0 : f23 k g32 (a0, a1) = evAt (f23C g32) k (bodyOf Try.f23) [] [] (retKP (f23C g32) Try.f23.results f23o 52 [] true) (f23_s a0 a1) := by kernel_rfl
  have h1 : keep [] (jt (f23C g32) k (bodyOf Try.f23) [] [] (retKP (f23C g32) Try.f23.results f23o 52 [] true)) = [] := by kernel_rfl
  have h2 : keep [] (lt (f23C g32) k (bodyOf Try.f23) [] [] (retKP (f23C g32) Try.f23.results f23o 52 [] true)) = [] := by kernel_rfl
  have h3 := evAt_cut (f23_s a0 a1) [] [] (by kernel_rfl) h1 h2 (by kernel_rfl) (by kernel_rfl) (by kernel_rfl)
  have h4 := f23_A g32  a0 a1
  exact h0.trans (h3.trans (h4.trans (by kernel_rfl)))
set_option maxHeartbeats 4000000 in
set_option maxRecDepth 100000 in
theorem f23_ok (k : Nat) (g32 : ((List (List (YT1))) × (Int) × (List (Int))) → Option ((List (Int)) ⊕ (Unit))) (hg32 : SigOK Try.prog 32 ⟨f32i, f32o, mkFunP f32i.tys f32o.tys 52 [] true g32⟩) : SigOK Try.prog 23 ⟨f23i, f23o, mkFunP f23i.tys f23o.tys 52 [] true (f23 k g32)⟩ :=
  fnP_ok (C := (f23C g32)) (l := f23E g32) rfl ⟨⟨hg32, trivial⟩, trivial⟩ (by kernel_rfl) k (fn := Try.f23) (by kernel_rfl) (by kernel_rfl) (by kernel_rfl) f23i f23o 52 [] true rfl rfl (show 1 ≤ 48 by decide) (show 1 ≤ 48 by decide)
noncomputable def c23 (k : Nat) : ((List (List (YT1))) × (List (Int))) → Option ((List (Int)) ⊕ (Unit)) := f23 k (c32 k)
theorem c23_ok (k : Nat) : SigOK Try.prog 23 ⟨f23i, f23o, mkFunP f23i.tys f23o.tys 52 [] true (c23 k)⟩ := f23_ok k (c32 k) (c32_ok k)

/-! carrefour/device.put[carrefour/api.Span] -/
def f22i : Sk := ⟨[.lf (.ptr 0 0), .lf (.pv (.slice (.cons (.slice (.slice yt1)) .nil))), .lf (.pv (.int .i64)), .lf (.fn 23 [(0, 0)] [])], [[.own 0]], [some (5, (.int .u8))]⟩
def f22o : Sk := ⟨[], [[.own 1]], [none, some (5, (.int .u8))]⟩
def f22_k2 : Sk := ⟨sparse 31 [(0, .lf (.ptr 0 0)), (1, .lf (.pv (.slice (.cons (.slice (.slice yt1)) .nil)))), (3, .lf (.fn 23 [(0, 0)] []))], [[.own 0]], [some (5, (.int .u8))]⟩
def f22_k4 : Sk := ⟨sparse 31 [(0, .lf (.ptr 0 0)), (3, .lf (.fn 23 [(0, 0)] [])), (21, .lf (.pv (.slice (.cons (.slice (.slice yt1)) .nil)))), (22, .lf (.pv (.int .i64))), (23, .lf (.pv (.int .i64)))], [[.own 1]], [none, some (5, (.int .u8))]⟩
noncomputable def f22E (g12 : ((List (Int)) × (List (Int))) → Option ((List (Int)) ⊕ (Unit))) (g23 : ((List (List (YT1))) × (List (Int))) → Option ((List (Int)) ⊕ (Unit))) : List (Nat × List Sig) := [(12, [⟨f12i, f12o, mkFunP f12i.tys f12o.tys 52 [] true g12⟩]), (23, [⟨f23i, f23o, mkFunP f23i.tys f23o.tys 52 [] true g23⟩])]
noncomputable def f22C (g12 : ((List (Int)) × (List (Int))) → Option ((List (Int)) ⊕ (Unit))) (g23 : ((List (List (YT1))) × (List (Int))) → Option ((List (Int)) ⊕ (Unit))) : Cfg := { P := Try.prog, env := lookS (f22E g12 g23), n := 110, npB := 1, npO := 1, hint := fun i => look none [(2, some f22_k2), (4, some f22_k4)] i, pops := [] }
def f22_s (a0 : List ((List (List (YT1))) × (Unit))) (a1 : Int) (a2 : List (Int)) : St := { enc f22i 110 [⟨(.slice (.cons (.slice (.slice yt1)) .nil)), a0⟩, ⟨(.int .i64), a1⟩, ⟨(.slice (.int .u8)), a2⟩] with slots := encAs f22i.slots [⟨(.slice (.cons (.slice (.slice yt1)) .nil)), a0⟩, ⟨(.int .i64), a1⟩, ⟨(.slice (.int .u8)), a2⟩] ++ List.replicate 27 .dead }
def f22_s2 (a0 : List ((List (List (YT1))) × (Unit))) (a1 : List (Int)) : St := enc f22_k2 110 [⟨(.slice (.cons (.slice (.slice yt1)) .nil)), a0⟩, ⟨(.slice (.int .u8)), a1⟩]
def f22_s4 (a0 : List ((List (List (YT1))) × (Unit))) (a1 : Int) (a2 : Int) (a3 : List (Int)) : St := enc f22_k4 110 [⟨(.slice (.cons (.slice (.slice yt1)) .nil)), a0⟩, ⟨(.int .i64), a1⟩, ⟨(.int .i64), a2⟩, ⟨(.slice (.int .u8)), a3⟩]
noncomputable def f22 (k : Nat) (g12 : ((List (Int)) × (List (Int))) → Option ((List (Int)) ⊕ (Unit))) (g23 : ((List (List (YT1))) × (List (Int))) → Option ((List (Int)) ⊕ (Unit))) : ((List ((List (List (YT1))) × (Unit))) × (Int) × (List (Int))) → Option ((List (Int)) ⊕ (Unit)) := fnOfP (f22C g12 g23) k Try.f22 f22i f22o 52 [] true
noncomputable def f22_j2 (k : Nat) (g12 : ((List (Int)) × (List (Int))) → Option ((List (Int)) ⊕ (Unit))) (g23 : ((List (List (YT1))) × (List (Int))) → Option ((List (Int)) ⊕ (Unit)))  (a0 : List ((List (List (YT1))) × (Unit))) (a1 : List (Int)) : Option ((List (Int)) ⊕ (Unit)) := evAt (f22C g12 g23) k (bodyOf Try.f22) [.r] [] (retKP (f22C g12 g23) Try.f22.results f22o 52 [] true) (f22_s2 a0 a1)
noncomputable def f22_l4 (k : Nat) (g12 : ((List (Int)) × (List (Int))) → Option ((List (Int)) ⊕ (Unit))) (g23 : ((List (List (YT1))) × (List (Int))) → Option ((List (Int)) ⊕ (Unit))) (j4 : Nat) (a0 : List ((List (List (YT1))) × (Unit))) (a1 : Int) (a2 : Int) (a3 : List (Int)) : Option ((List (Int)) ⊕ (Unit)) := loopAt (f22C g12 g23) k (bodyOf Try.f22) [.r, .r, .r, .b] [] j4 (retKP (f22C g12 g23) Try.f22.results f22o 52 [] true) (f22_s4 a0 a1 a2 a3)
def f22_t (g12 : ((List (Int)) × (List (Int))) → Option ((List (Int)) ⊕ (Unit))) (g23 : ((List (List (YT1))) × (List (Int))) → Option ((List (Int)) ⊕ (Unit))) (Jj2 : (List ((List (List (YT1))) × (Unit))) → (List (Int)) → Option ((List (Int)) ⊕ (Unit))) (a0 : List ((List (List (YT1))) × (Unit))) (a1 : Int) (a2 : List (Int)) : Option ((List (Int)) ⊕ (Unit)) :=
  bif (decide (((List.length a0 : Nat) : Int) > a1)) then (some (.inr ())) else (Jj2 a0 a2)
set_option maxHeartbeats 4000000 in
set_option maxRecDepth 100000 in
theorem f22_A (g12 : ((List (Int)) × (List (Int))) → Option ((List (Int)) ⊕ (Unit))) (g23 : ((List (List (YT1))) × (List (Int))) → Option ((List (Int)) ⊕ (Unit))) (Jj2 : St → Option ((List (Int)) ⊕ (Unit))) (Jl4 : St → Option ((List (Int)) ⊕ (Unit))) (a0 : List ((List (List (YT1))) × (Unit))) (a1 : Int) (a2 : List (Int)) : evAtJ (f22C g12 g23) [(2, Jj2)] [(4, Jl4)] (bodyOf Try.f22) [] (retKP (f22C g12 g23) Try.f22.results f22o 52 [] true) (f22_s a0 a1 a2) = f22_t g12 g23 (fun a0 a1 => Jj2 (f22_s2 a0 a1)) a0 a1 a2 := by
  kernel_rfl
set_option maxHeartbeats 4000000 in
set_option maxRecDepth 100000 in
theorem f22_e (k : Nat) (g12 : ((List (Int)) × (List (Int))) → Option ((List (Int)) ⊕ (Unit))) (g23 : ((List (List (YT1))) × (List (Int))) → Option ((List (Int)) ⊕ (Unit)))  (a0 : List ((List (List (YT1))) × (Unit))) (a1 : Int) (a2 : List (Int)) : f22 k g12 g23 (a0, a1, a2) = f22_t g12 g23 (f22_j2 k g12 g23 ) a0 a1 a2 := by
  have h0 : f22 k g12 g23 (a0, a1, a2) = evAt (f22C g12 g23) k (bodyOf Try.f22) [] [] (retKP (f22C g12 g23) Try.f22.results f22o 52 [] true) (f22_s a0 a1 a2) := by kernel_rfl
  have h1 : keep [2] (jt (f22C g12 g23) k (bodyOf Try.f22) [] [] (retKP (f22C g12 g23) Try.f22.results f22o 52 [] true)) = [(2, (fun s => evAt (f22C g12 g23) k (bodyOf Try.f22) [.r] [] (retKP (f22C g12 g23) Try.f22.results f22o 52 [] true) s))] := by kernel_rfl
  have h2 : keep [4] (lt (f22C g12 g23) k (bodyOf Try.f22) [] [] (retKP (f22C g12 g23) Try.f22.results f22o 52 [] true)) = [(4, (fun s => loopAt (f22C g12 g23) k (bodyOf Try.f22) [.r, .r, .r, .b] [] k (retKP (f22C g12 g23) Try.f22.results f22o 52 [] true) s))] := by kernel_rfl
  have h3 := evAt_cut (f22_s a0 a1 a2) [2] [4] (by kernel_rfl) h1 h2 (by kernel_rfl) (by kernel_rfl) (by kernel_rfl)
  have h4 := f22_A g12 g23 (fun s => evAt (f22C g12 g23) k (bodyOf Try.f22) [.r] [] (retKP (f22C g12 g23) Try.f22.results f22o 52 [] true) s) (fun s => loopAt (f22C g12 g23) k (bodyOf Try.f22) [.r, .r, .r, .b] [] k (retKP (f22C g12 g23) Try.f22.results f22o 52 [] true) s) a0 a1 a2
  exact h0.trans (h3.trans (h4.trans (by kernel_rfl)))
def f22_tj2 (g12 : ((List (Int)) × (List (Int))) → Option ((List (Int)) ⊕ (Unit))) (g23 : ((List (List (YT1))) × (List (Int))) → Option ((List (Int)) ⊕ (Unit))) (Jl4 : (List ((List (List (YT1))) × (Unit))) → Int → Int → (List (Int)) → Option ((List (Int)) ⊕ (Unit))) (a0 : List ((List (List (YT1))) × (Unit))) (a1 : List (Int)) : Option ((List (Int)) ⊕ (Unit)) :=
  (g12 (([((List.length a0 : Nat) : Int)] : List (Int)), a1)).bind (orP (fun o1 => Jl4 a0 ((List.length a0 : Nat) : Int) (0 : Int) o1) (fun o2 => some (.inr ())))
set_option maxHeartbeats 4000000 in
set_option maxRecDepth 100000 in
theorem f22_Aj2 (g12 : ((List (Int)) × (List (Int))) → Option ((List (Int)) ⊕ (Unit))) (g23 : ((List (List (YT1))) × (List (Int))) → Option ((List (Int)) ⊕ (Unit))) (Jj2 : St → Option ((List (Int)) ⊕ (Unit))) (Jl4 : St → Option ((List (Int)) ⊕ (Unit))) (a0 : List ((List (List (YT1))) × (Unit))) (a1 : List (Int)) : evAtJ (f22C g12 g23) [(2, Jj2)] [(4, Jl4)] (bodyOf Try.f22) [.r] (retKP (f22C g12 g23) Try.f22.results f22o 52 [] true) (f22_s2 a0 a1) = f22_tj2 g12 g23 (fun a0 a1 a2 a3 => Jl4 (f22_s4 a0 a1 a2 a3)) a0 a1 := by
  kernel_rfl
set_option maxHeartbeats 4000000 in
set_option maxRecDepth 100000 in
theorem f22_ej2 (k : Nat) (g12 : ((List (Int)) × (List (Int))) → Option ((List (Int)) ⊕ (Unit))) (g23 : ((List (List (YT1))) × (List (Int))) → Option ((List (Int)) ⊕ (Unit)))  (a0 : List ((List (List (YT1))) × (Unit))) (a1 : List (Int)) : f22_j2 k g12 g23  a0 a1 = f22_tj2 g12 g23 (f22_l4 k g12 g23  k) a0 a1 := by
  have h0 : f22_j2 k g12 g23  a0 a1 = evAt (f22C g12 g23) k (bodyOf Try.f22) [.r] [] (retKP (f22C g12 g23) Try.f22.results f22o 52 [] true) (f22_s2 a0 a1) := by kernel_rfl
  have h1 : keep [2] (jt (f22C g12 g23) k (bodyOf Try.f22) [.r] [] (retKP (f22C g12 g23) Try.f22.results f22o 52 [] true)) = [(2, (fun s => evAt (f22C g12 g23) k (bodyOf Try.f22) [.r] [] (retKP (f22C g12 g23) Try.f22.results f22o 52 [] true) s))] := by kernel_rfl
  have h2 : keep [4] (lt (f22C g12 g23) k (bodyOf Try.f22) [.r] [] (retKP (f22C g12 g23) Try.f22.results f22o 52 [] true)) = [(4, (fun s => loopAt (f22C g12 g23) k (bodyOf Try.f22) [.r, .r, .r, .b] [] k (retKP (f22C g12 g23) Try.f22.results f22o 52 [] true) s))] := by kernel_rfl
  have h3 := evAt_cut (f22_s2 a0 a1) [2] [4] (by kernel_rfl) h1 h2 (by kernel_rfl) (by kernel_rfl) (by kernel_rfl)
  have h4 := f22_Aj2 g12 g23 (fun s => evAt (f22C g12 g23) k (bodyOf Try.f22) [.r] [] (retKP (f22C g12 g23) Try.f22.results f22o 52 [] true) s) (fun s => loopAt (f22C g12 g23) k (bodyOf Try.f22) [.r, .r, .r, .b] [] k (retKP (f22C g12 g23) Try.f22.results f22o 52 [] true) s) a0 a1
  exact h0.trans (h3.trans (h4.trans (by kernel_rfl)))
def f22_tl4 (g12 : ((List (Int)) × (List (Int))) → Option ((List (Int)) ⊕ (Unit))) (g23 : ((List (List (YT1))) × (List (Int))) → Option ((List (Int)) ⊕ (Unit))) (Jl4 : (List ((List (List (YT1))) × (Unit))) → Int → Int → (List (Int)) → Option ((List (Int)) ⊕ (Unit))) (a0 : List ((List (List (YT1))) × (Unit))) (a1 : Int) (a2 : Int) (a3 : List (Int)) : Option ((List (Int)) ⊕ (Unit)) :=
  bif (decide (a2 < a1)) then (bif (inB a2 (List.length a0)) then (g23 ((rdA ([], ()) a0 (Int.toNat a2)).1, a3)).bind (orP (fun o1 => Jl4 a0 a1 (IntKind.wrap .i64 (a2 + (1 : Int))) o1) (fun o2 => some (.inr ()))) else none) else (some (.inl a3))
set_option maxHeartbeats 4000000 in
set_option maxRecDepth 100000 in
theorem f22_Al4 (g12 : ((List (Int)) × (List (Int))) → Option ((List (Int)) ⊕ (Unit))) (g23 : ((List (List (YT1))) × (List (Int))) → Option ((List (Int)) ⊕ (Unit))) (Jj2 : St → Option ((List (Int)) ⊕ (Unit))) (Jl4 : St → Option ((List (Int)) ⊕ (Unit))) (a0 : List ((List (List (YT1))) × (Unit))) (a1 : Int) (a2 : Int) (a3 : List (Int)) : evAtJ (f22C g12 g23) [(2, Jj2)] [(4, Jl4)] (bodyOf Try.f22) [.r, .r, .r, .b, .b] (retKP (f22C g12 g23) Try.f22.results f22o 52 [] true) (f22_s4 a0 a1 a2 a3) = f22_tl4 g12 g23 (fun a0 a1 a2 a3 => Jl4 (f22_s4 a0 a1 a2 a3)) a0 a1 a2 a3 := by
  kernel_rfl
set_option maxHeartbeats 4000000 in
set_option maxRecDepth 100000 in
theorem f22_el4 (k : Nat) (g12 : ((List (Int)) × (List (Int))) → Option ((List (Int)) ⊕ (Unit))) (g23 : ((List (List (YT1))) × (List (Int))) → Option ((List (Int)) ⊕ (Unit))) (j4 : Nat) (a0 : List ((List (List (YT1))) × (Unit))) (a1 : Int) (a2 : Int) (a3 : List (Int)) : f22_l4 k g12 g23 (j4 + 1) a0 a1 a2 a3 = f22_tl4 g12 g23 (f22_l4 k g12 g23  j4) a0 a1 a2 a3 := by
  have h0 : f22_l4 k g12 g23 (j4 + 1) a0 a1 a2 a3 = evAt (f22C g12 g23) k (bodyOf Try.f22) [.r, .r, .r, .b, .b] [j4] (retKP (f22C g12 g23) Try.f22.results f22o 52 [] true) (f22_s4 a0 a1 a2 a3) := by kernel_rfl
  have h1 : keep [2] (jt (f22C g12 g23) k (bodyOf Try.f22) [.r, .r, .r, .b, .b] [j4] (retKP (f22C g12 g23) Try.f22.results f22o 52 [] true)) = [(2, (fun s => evAt (f22C g12 g23) k (bodyOf Try.f22) [.r] [] (retKP (f22C g12 g23) Try.f22.results f22o 52 [] true) s))] := by kernel_rfl
  have h2 : keep [4] (lt (f22C g12 g23) k (bodyOf Try.f22) [.r, .r, .r, .b, .b] [j4] (retKP (f22C g12 g23) Try.f22.results f22o 52 [] true)) = [(4, (fun s => loopAt (f22C g12 g23) k (bodyOf Try.f22) [.r, .r, .r, .b] [] j4 (retKP (f22C g12 g23) Try.f22.results f22o 52 [] true) s))] := by kernel_rfl
  have h3 := evAt_cut (f22_s4 a0 a1 a2 a3) [2] [4] (by kernel_rfl) h1 h2 (by kernel_rfl) (by kernel_rfl) (by kernel_rfl)
  have h4 := f22_Al4 g12 g23 (fun s => evAt (f22C g12 g23) k (bodyOf Try.f22) [.r] [] (retKP (f22C g12 g23) Try.f22.results f22o 52 [] true) s) (fun s => loopAt (f22C g12 g23) k (bodyOf Try.f22) [.r, .r, .r, .b] [] j4 (retKP (f22C g12 g23) Try.f22.results f22o 52 [] true) s) a0 a1 a2 a3
  exact h0.trans (h3.trans (h4.trans (by kernel_rfl)))
set_option maxHeartbeats 4000000 in
set_option maxRecDepth 100000 in
theorem f22_ok (k : Nat) (g12 : ((List (Int)) × (List (Int))) → Option ((List (Int)) ⊕ (Unit))) (g23 : ((List (List (YT1))) × (List (Int))) → Option ((List (Int)) ⊕ (Unit))) (hg12 : SigOK Try.prog 12 ⟨f12i, f12o, mkFunP f12i.tys f12o.tys 52 [] true g12⟩) (hg23 : SigOK Try.prog 23 ⟨f23i, f23o, mkFunP f23i.tys f23o.tys 52 [] true g23⟩) : SigOK Try.prog 22 ⟨f22i, f22o, mkFunP f22i.tys f22o.tys 52 [] true (f22 k g12 g23)⟩ :=
  fnP_ok (C := (f22C g12 g23)) (l := f22E g12 g23) rfl ⟨⟨hg12, trivial⟩, ⟨hg23, trivial⟩, trivial⟩ (by kernel_rfl) k (fn := Try.f22) (by kernel_rfl) (by kernel_rfl) (by kernel_rfl) f22i f22o 52 [] true rfl rfl (show 1 ≤ 48 by decide) (show 1 ≤ 48 by decide)
noncomputable def c22 (k : Nat) : ((List ((List (List (YT1))) × (Unit))) × (Int) × (List (Int))) → Option ((List (Int)) ⊕ (Unit)) := f22 k (c12 k) (c23 k)
theorem c22_ok (k : Nat) : SigOK Try.prog 22 ⟨f22i, f22o, mkFunP f22i.tys f22o.tys 52 [] true (c22 k)⟩ := f22_ok k (c12 k) (c23 k) (c12_ok k) (c23_ok k)

/-! (*carrefour/device.writer).timing -/
def f14i : Sk := ⟨[.lf (.ptr 0 0), .agg [.pv .str, .pv (.int .i64), .pv (.slice (.cons (.slice (.slice yt1)) .nil)), .pv (.int .i64), .pv (.int .i64)]], [[.own 0]], [some (5, (.int .u8))]⟩
def f14o : Sk := ⟨[], [[.own 1]], [none, some (5, (.int .u8))]⟩
noncomputable def f14E (g21 : ((List Int) × (List (Int))) → Option ((List (Int)) ⊕ (Unit))) (g12 : ((List (Int)) × (List (Int))) → Option ((List (Int)) ⊕ (Unit))) (g22 : ((List ((List (List (YT1))) × (Unit))) × (Int) × (List (Int))) → Option ((List (Int)) ⊕ (Unit))) : List (Nat × List Sig) := [(21, [⟨f21i, f21o, mkFunP f21i.tys f21o.tys 52 [] true g21⟩]), (12, [⟨f12i, f12o, mkFunP f12i.tys f12o.tys 52 [] true g12⟩]), (22, [⟨f22i, f22o, mkFunP f22i.tys f22o.tys 52 [] true g22⟩])]
noncomputable def f14C (g21 : ((List Int) × (List (Int))) → Option ((List (Int)) ⊕ (Unit))) (g12 : ((List (Int)) × (List (Int))) → Option ((List (Int)) ⊕ (Unit))) (g22 : ((List ((List (List (YT1))) × (Unit))) × (Int) × (List (Int))) → Option ((List (Int)) ⊕ (Unit))) : Cfg := { P := Try.prog, env := lookS (f14E g21 g12 g22), n := 98, npB := 1, npO := 1, hint := fun i => look none [] i, pops := [] }
def f14_s (a0 : List Int) (a1 : Int) (a2 : List ((List (List (YT1))) × (Unit))) (a3 : Int) (a4 : Int) (a5 : List (Int)) : St := { enc f14i 98 [⟨.str, a0⟩, ⟨(.int .i64), a1⟩, ⟨(.slice (.cons (.slice (.slice yt1)) .nil)), a2⟩, ⟨(.int .i64), a3⟩, ⟨(.int .i64), a4⟩, ⟨(.slice (.int .u8)), a5⟩] with slots := encAs f14i.slots [⟨.str, a0⟩, ⟨(.int .i64), a1⟩, ⟨(.slice (.cons (.slice (.slice yt1)) .nil)), a2⟩, ⟨(.int .i64), a3⟩, ⟨(.int .i64), a4⟩, ⟨(.slice (.int .u8)), a5⟩] ++ List.replicate 23 .dead }
noncomputable def f14 (k : Nat) (g21 : ((List Int) × (List (Int))) → Option ((List (Int)) ⊕ (Unit))) (g12 : ((List (Int)) × (List (Int))) → Option ((List (Int)) ⊕ (Unit))) (g22 : ((List ((List (List (YT1))) × (Unit))) × (Int) × (List (Int))) → Option ((List (Int)) ⊕ (Unit))) : ((List Int) × (Int) × (List ((List (List (YT1))) × (Unit))) × (Int) × (Int) × (List (Int))) → Option ((List (Int)) ⊕ (Unit)) := fnOfP (f14C g21 g12 g22) k Try.f14 f14i f14o 52 [] true
def f14_t (g21 : ((List Int) × (List (Int))) → Option ((List (Int)) ⊕ (Unit))) (g12 : ((List (Int)) × (List (Int))) → Option ((List (Int)) ⊕ (Unit))) (g22 : ((List ((List (List (YT1))) × (Unit))) × (Int) × (List (Int))) → Option ((List (Int)) ⊕ (Unit)))  (a0 : List Int) (a1 : Int) (a2 : List ((List (List (YT1))) × (Unit))) (a3 : Int) (a4 : Int) (a5 : List (Int)) : Option ((List (Int)) ⊕ (Unit)) :=
  (g21 (a0, a5)).bind (orP (fun o1 => (g12 (([a1, a3, a4] : List (Int)), o1)).bind (orP (fun o3 => (g22 (a2, (4 : Int), o3)).bind (orP (fun o5 => some (.inl o5)) (fun o6 => some (.inr ())))) (fun o4 => some (.inr ())))) (fun o2 => some (.inr ())))
set_option maxHeartbeats 4000000 in
set_option maxRecDepth 100000 in
theorem f14_A (g21 : ((List Int) × (List (Int))) → Option ((List (Int)) ⊕ (Unit))) (g12 : ((List (Int)) × (List (Int))) → Option ((List (Int)) ⊕ (Unit))) (g22 : ((List ((List (List (YT1))) × (Unit))) × (Int) × (List (Int))) → Option ((List (Int)) ⊕ (Unit)))  (a0 : List Int) (a1 : Int) (a2 : List ((List (List (YT1))) × (Unit))) (a3 : Int) (a4 : Int) (a5 : List (Int)) : evAtJ (f14C g21 g12 g22) [] [] (bodyOf Try.f14) [] (retKP (f14C g21 g12 g22) Try.f14.results f14o 52 [] true) (f14_s a0 a1 a2 a3 a4 a5) = f14_t g21 g12 g22  a0 a1 a2 a3 a4 a5 := by
  kernel_rfl
set_option maxHeartbeats 4000000 in
set_option maxRecDepth 100000 in
theorem f14_e (k : Nat) (g21 : ((List Int) × (List (Int))) → Option ((List (Int)) ⊕ (Unit))) (g12 : ((List (Int)) × (List (Int))) → Option ((List (Int)) ⊕ (Unit))) (g22 : ((List ((List (List (YT1))) × (Unit))) × (Int) × (List (Int))) → Option ((List (Int)) ⊕ (Unit)))  (a0 : List Int) (a1 : Int) (a2 : List ((List (List (YT1))) × (Unit))) (a3 : Int) (a4 : Int) (a5 : List (Int)) : f14 k g21 g12 g22 (a0, a1, a2, a3, a4, a5) = f14_t g21 g12 g22  a0 a1 a2 a3 a4 a5 := by
  have h0 : f14 k g21 g12 g22 (a0, a1, a2, a3, a4, a5) = evAt (f14C g21 g12 g22) k (bodyOf Try.f14) [] [] (retKP (f14C g21 g12 g22) Try.f14.results f14o 52 [] true) (f14_s a0 a1 a2 a3 a4 a5) := by kernel_rfl
  have h1 : keep [] (jt (f14C g21 g12 g22) k (bodyOf Try.f14) [] [] (retKP (f14C g21 g12 g22) Try.f14.results f14o 52 [] true)) = [] := by kernel_rfl
  have h2 : keep [] (lt (f14C g21 g12 g22) k (bodyOf Try.f14) [] [] (retKP (f14C g21 g12 g22) Try.f14.results f14o 52 [] true)) = [] := by kernel_rfl
  have h3 := evAt_cut (f14_s a0 a1 a2 a3 a4 a5) [] [] (by kernel_rfl) h1 h2 (by kernel_rfl) (by kernel_rfl) (by kernel_rfl)
  have h4 := f14_A g21 g12 g22  a0 a1 a2 a3 a4 a5
  exact h0.trans (h3.trans (h4.trans (by kernel_rfl)))
set_option maxHeartbeats 4000000 in
set_option maxRecDepth 100000 in
theorem f14_ok (k : Nat) (g21 : ((List Int) × (List (Int))) → Option ((List (Int)) ⊕ (Unit))) (g12 : ((List (Int)) × (List (Int))) → Option ((List (Int)) ⊕ (Unit))) (g22 : ((List ((List (List (YT1))) × (Unit))) × (Int) × (List (Int))) → Option ((List (Int)) ⊕ (Unit))) (hg21 : SigOK Try.prog 21 ⟨f21i, f21o, mkFunP f21i.tys f21o.tys 52 [] true g21⟩) (hg12 : SigOK Try.prog 12 ⟨f12i, f12o, mkFunP f12i.tys f12o.tys 52 [] true g12⟩) (hg22 : SigOK Try.prog 22 ⟨f22i, f22o, mkFunP f22i.tys f22o.tys 52 [] true g22⟩) : SigOK Try.prog 14 ⟨f14i, f14o, mkFunP f14i.tys f14o.tys 52 [] true (f14 k g21 g12 g22)⟩ :=
  fnP_ok (C := (f14C g21 g12 g22)) (l := f14E g21 g12 g22) rfl ⟨⟨hg21, trivial⟩, ⟨hg12, trivial⟩, ⟨hg22, trivial⟩, trivial⟩ (by kernel_rfl) k (fn := Try.f14) (by kernel_rfl) (by kernel_rfl) (by kernel_rfl) f14i f14o 52 [] true rfl rfl (show 1 ≤ 48 by decide) (show 1 ≤ 48 by decide)
noncomputable def c14 (k : Nat) : ((List Int) × (Int) × (List ((List (List (YT1))) × (Unit))) × (Int) × (Int) × (List (Int))) → Option ((List (Int)) ⊕ (Unit)) := f14 k (c21 k) (c12 k) (c22 k)
theorem c14_ok (k : Nat) : SigOK Try.prog 14 ⟨f14i, f14o, mkFunP f14i.tys f14o.tys 52 [] true (c14 k)⟩ := f14_ok k (c21 k) (c12 k) (c22 k) (c21_ok k) (c12_ok k) (c22_ok k)

/-! carrefour/device.put[carrefour/api.Timing] -/
def f13i : Sk := ⟨[.lf (.ptr 0 0), .lf (.pv (.slice yt3)), .lf (.pv (.int .i64)), .lf (.fn 14 [(0, 0)] [])], [[.own 0]], [some (5, (.int .u8))]⟩
def f13o : Sk := ⟨[], [[.own 1]], [none, some (5, (.int .u8))]⟩
def f13_k2 : Sk := ⟨sparse 31 [(0, .lf (.ptr 0 0)), (1, .lf (.pv (.slice yt3))), (3, .lf (.fn 14 [(0, 0)] []))], [[.own 0]], [some (5, (.int .u8))]⟩
def f13_k4 : Sk := ⟨sparse 31 [(0, .lf (.ptr 0 0)), (3, .lf (.fn 14 [(0, 0)] [])), (21, .lf (.pv (.slice yt3))), (22, .lf (.pv (.int .i64))), (23, .lf (.pv (.int .i64)))], [[.own 1]], [none, some (5, (.int .u8))]⟩
noncomputable def f13E (g12 : ((List (Int)) × (List (Int))) → Option ((List (Int)) ⊕ (Unit))) (g14 : ((List Int) × (Int) × (List ((List (List (YT1))) × (Unit))) × (Int) × (Int) × (List (Int))) → Option ((List (Int)) ⊕ (Unit))) : List (Nat × List Sig) := [(12, [⟨f12i, f12o, mkFunP f12i.tys f12o.tys 52 [] true g12⟩]), (14, [⟨f14i, f14o, mkFunP f14i.tys f14o.tys 52 [] true g14⟩])]
noncomputable def f13C (g12 : ((List (Int)) × (List (Int))) → Option ((List (Int)) ⊕ (Unit))) (g14 : ((List Int) × (Int) × (List ((List (List (YT1))) × (Unit))) × (Int) × (Int) × (List (Int))) → Option ((List (Int)) ⊕ (Unit))) : Cfg := { P := Try.prog, env := lookS (f13E g12 g14), n := 110, npB := 1, npO := 1, hint := fun i => look none [(2, some f13_k2), (4, some f13_k4)] i, pops := [] }
def f13_s (a0 : List (YT3)) (a1 : Int) (a2 : List (Int)) : St := { enc f13i 110 [⟨(.slice yt3), a0⟩, ⟨(.int .i64), a1⟩, ⟨(.slice (.int .u8)), a2⟩] with slots := encAs f13i.slots [⟨(.slice yt3), a0⟩, ⟨(.int .i64), a1⟩, ⟨(.slice (.int .u8)), a2⟩] ++ List.replicate 27 .dead }
def f13_s2 (a0 : List (YT3)) (a1 : List (Int)) : St := enc f13_k2 110 [⟨(.slice yt3), a0⟩, ⟨(.slice (.int .u8)), a1⟩]
def f13_s4 (a0 : List (YT3)) (a1 : Int) (a2 : Int) (a3 : List (Int)) : St := enc f13_k4 110 [⟨(.slice yt3), a0⟩, ⟨(.int .i64), a1⟩, ⟨(.int .i64), a2⟩, ⟨(.slice (.int .u8)), a3⟩]
noncomputable def f13 (k : Nat) (g12 : ((List (Int)) × (List (Int))) → Option ((List (Int)) ⊕ (Unit))) (g14 : ((List Int) × (Int) × (List ((List (List (YT1))) × (Unit))) × (Int) × (Int) × (List (Int))) → Option ((List (Int)) ⊕ (Unit))) : ((List (YT3)) × (Int) × (List (Int))) → Option ((List (Int)) ⊕ (Unit)) := fnOfP (f13C g12 g14) k Try.f13 f13i f13o 52 [] true
noncomputable def f13_j2 (k : Nat) (g12 : ((List (Int)) × (List (Int))) → Option ((List (Int)) ⊕ (Unit))) (g14 : ((List Int) × (Int) × (List ((List (List (YT1))) × (Unit))) × (Int) × (Int) × (List (Int))) → Option ((List (Int)) ⊕ (Unit)))  (a0 : List (YT3)) (a1 : List (Int)) : Option ((List (Int)) ⊕ (Unit)) := evAt (f13C g12 g14) k (bodyOf Try.f13) [.r] [] (retKP (f13C g12 g14) Try.f13.results f13o 52 [] true) (f13_s2 a0 a1)
noncomputable def f13_l4 (k : Nat) (g12 : ((List (Int)) × (List (Int))) → Option ((List (Int)) ⊕ (Unit))) (g14 : ((List Int) × (Int) × (List ((List (List (YT1))) × (Unit))) × (Int) × (Int) × (List (Int))) → Option ((List (Int)) ⊕ (Unit))) (j4 : Nat) (a0 : List (YT3)) (a1 : Int) (a2 : Int) (a3 : List (Int)) : Option ((List (Int)) ⊕ (Unit)) := loopAt (f13C g12 g14) k (bodyOf Try.f13) [.r, .r, .r, .b] [] j4 (retKP (f13C g12 g14) Try.f13.results f13o 52 [] true) (f13_s4 a0 a1 a2 a3)
def f13_t (g12 : ((List (Int)) × (List (Int))) → Option ((List (Int)) ⊕ (Unit))) (g14 : ((List Int) × (Int) × (List ((List (List (YT1))) × (Unit))) × (Int) × (Int) × (List (Int))) → Option ((List (Int)) ⊕ (Unit))) (Jj2 : (List (YT3)) → (List (Int)) → Option ((List (Int)) ⊕ (Unit))) (a0 : List (YT3)) (a1 : Int) (a2 : List (Int)) : Option ((List (Int)) ⊕ (Unit)) :=
  bif (decide (((List.length a0 : Nat) : Int) > a1)) then (some (.inr ())) else (Jj2 a0 a2)
set_option maxHeartbeats 4000000 in
set_option maxRecDepth 100000 in
theorem f13_A (g12 : ((List (Int)) × (List (Int))) → Option ((List (Int)) ⊕ (Unit))) (g14 : ((List Int) × (Int) × (List ((List (List (YT1))) × (Unit))) × (Int) × (Int) × (List (Int))) → Option ((List (Int)) ⊕ (Unit))) (Jj2 : St → Option ((List (Int)) ⊕ (Unit))) (Jl4 : St → Option ((List (Int)) ⊕ (Unit))) (a0 : List (YT3)) (a1 : Int) (a2 : List (Int)) : evAtJ (f13C g12 g14) [(2, Jj2)] [(4, Jl4)] (bodyOf Try.f13) [] (retKP (f13C g12 g14) Try.f13.results f13o 52 [] true) (f13_s a0 a1 a2) = f13_t g12 g14 (fun a0 a1 => Jj2 (f13_s2 a0 a1)) a0 a1 a2 := by
  kernel_rfl
set_option maxHeartbeats 4000000 in
set_option maxRecDepth 100000 in
theorem f13_e (k : Nat) (g12 : ((List (Int)) × (List (Int))) → Option ((List (Int)) ⊕ (Unit))) (g14 : ((List Int) × (Int) × (List ((List (List (YT1))) × (Unit))) × (Int) × (Int) × (List (Int))) → Option ((List (Int)) ⊕ (Unit)))  (a0 : List (YT3)) (a1 : Int) (a2 : List (Int)) : f13 k g12 g14 (a0, a1, a2) = f13_t g12 g14 (f13_j2 k g12 g14 ) a0 a1 a2 := by
  have h0 : f13 k g12 g14 (a0, a1, a2) = evAt (f13C g12 g14) k (bodyOf Try.f13) [] [] (retKP (f13C g12 g14) Try.f13.results f13o 52 [] true) (f13_s a0 a1 a2) := by kernel_rfl
  have h1 : keep [2] (jt (f13C g12 g14) k (bodyOf Try.f13) [] [] (retKP (f13C g12 g14) Try.f13.results f13o 52 [] true)) = [(2, (fun s => evAt (f13C g12 g14) k (bodyOf Try.f13) [.r] [] (retKP (f13C g12 g14) Try.f13.results f13o 52 [] true) s))] := by kernel_rfl
  have h2 : keep [4] (lt (f13C g12 g14) k (bodyOf Try.f13) [] [] (retKP (f13C g12 g14) Try.f13.results f13o 52 [] true)) = [(4, (fun s => loopAt (f13C g12 g14) k (bodyOf Try.f13) [.r, .r, .r, .b] [] k (retKP (f13C g12 g14) Try.f13.results f13o 52 [] true) s))] := by kernel_rfl
  have h3 := evAt_cut (f13_s a0 a1 a2) [2] [4] (by kernel_rfl) h1 h2 (by kernel_rfl) (by kernel_rfl) (by kernel_rfl)
  have h4 := f13_A g12 g14 (fun s => evAt (f13C g12 g14) k (bodyOf Try.f13) [.r] [] (retKP (f13C g12 g14) Try.f13.results f13o 52 [] true) s) (fun s => loopAt (f13C g12 g14) k (bodyOf Try.f13) [.r, .r, .r, .b] [] k (retKP (f13C g12 g14) Try.f13.results f13o 52 [] true) s) a0 a1 a2
  exact h0.trans (h3.trans (h4.trans (by kernel_rfl)))
def f13_tj2 (g12 : ((List (Int)) × (List (Int))) → Option ((List (Int)) ⊕ (Unit))) (g14 : ((List Int) × (Int) × (List ((List (List (YT1))) × (Unit))) × (Int) × (Int) × (List (Int))) → Option ((List (Int)) ⊕ (Unit))) (Jl4 : (List (YT3)) → Int → Int → (List (Int)) → Option ((List (Int)) ⊕ (Unit))) (a0 : List (YT3)) (a1 : List (Int)) : Option ((List (Int)) ⊕ (Unit)) :=
  (g12 (([((List.length a0 : Nat) : Int)] : List (Int)), a1)).bind (orP (fun o1 => Jl4 a0 ((List.length a0 : Nat) : Int) (0 : Int) o1) (fun o2 => some (.inr ())))
set_option maxHeartbeats 4000000 in
set_option maxRecDepth 100000 in
theorem f13_Aj2 (g12 : ((List (Int)) × (List (Int))) → Option ((List (Int)) ⊕ (Unit))) (g14 : ((List Int) × (Int) × (List ((List (List (YT1))) × (Unit))) × (Int) × (Int) × (List (Int))) → Option ((List (Int)) ⊕ (Unit))) (Jj2 : St → Option ((List (Int)) ⊕ (Unit))) (Jl4 : St → Option ((List (Int)) ⊕ (Unit))) (a0 : List (YT3)) (a1 : List (Int)) : evAtJ (f13C g12 g14) [(2, Jj2)] [(4, Jl4)] (bodyOf Try.f13) [.r] (retKP (f13C g12 g14) Try.f13.results f13o 52 [] true) (f13_s2 a0 a1) = f13_tj2 g12 g14 (fun a0 a1 a2 a3 => Jl4 (f13_s4 a0 a1 a2 a3)) a0 a1 := by
  kernel_rfl
set_option maxHeartbeats 4000000 in
set_option maxRecDepth 100000 in
theorem f13_ej2 (k : Nat) (g12 : ((List (Int)) × (List (Int))) → Option ((List (Int)) ⊕ (Unit))) (g14 : ((List Int) × (Int) × (List ((List (List (YT1))) × (Unit))) × (Int) × (Int) × (List (Int))) → Option ((List (Int)) ⊕ (Unit)))  (a0 : List (YT3)) (a1 : List (Int)) : f13_j2 k g12 g14  a0 a1 = f13_tj2 g12 g14 (f13_l4 k g12 g14  k) a0 a1 := by
  have h0 : f13_j2 k g12 g14  a0 a1 = evAt (f13C g12 g14) k (bodyOf Try.f13) [.r] [] (retKP (f13C g12 g14) Try.f13.results f13o 52 [] true) (f13_s2 a0 a1) := by kernel_rfl
  have h1 : keep [2] (jt (f13C g12 g14) k (bodyOf Try.f13) [.r] [] (retKP (f13C g12 g14) Try.f13.results f13o 52 [] true)) = [(2, (fun s => evAt (f13C g12 g14) k (bodyOf Try.f13) [.r] [] (retKP (f13C g12 g14) Try.f13.results f13o 52 [] true) s))] := by kernel_rfl
  have h2 : keep [4] (lt (f13C g12 g14) k (bodyOf Try.f13) [.r] [] (retKP (f13C g12 g14) Try.f13.results f13o 52 [] true)) = [(4, (fun s => loopAt (f13C g12 g14) k (bodyOf Try.f13) [.r, .r, .r, .b] [] k (retKP (f13C g12 g14) Try.f13.results f13o 52 [] true) s))] := by kernel_rfl
  have h3 := evAt_cut (f13_s2 a0 a1) [2] [4] (by kernel_rfl) h1 h2 (by kernel_rfl) (by kernel_rfl) (by kernel_rfl)
  have h4 := f13_Aj2 g12 g14 (fun s => evAt (f13C g12 g14) k (bodyOf Try.f13) [.r] [] (retKP (f13C g12 g14) Try.f13.results f13o 52 [] true) s) (fun s => loopAt (f13C g12 g14) k (bodyOf Try.f13) [.r, .r, .r, .b] [] k (retKP (f13C g12 g14) Try.f13.results f13o 52 [] true) s) a0 a1
  exact h0.trans (h3.trans (h4.trans (by kernel_rfl)))
def f13_tl4 (g12 : ((List (Int)) × (List (Int))) → Option ((List (Int)) ⊕ (Unit))) (g14 : ((List Int) × (Int) × (List ((List (List (YT1))) × (Unit))) × (Int) × (Int) × (List (Int))) → Option ((List (Int)) ⊕ (Unit))) (Jl4 : (List (YT3)) → Int → Int → (List (Int)) → Option ((List (Int)) ⊕ (Unit))) (a0 : List (YT3)) (a1 : Int) (a2 : Int) (a3 : List (Int)) : Option ((List (Int)) ⊕ (Unit)) :=
  bif (decide (a2 < a1)) then (bif (inB a2 (List.length a0)) then (g14 ((rdA zt3 a0 (Int.toNat a2)).1, (rdA zt3 a0 (Int.toNat a2)).2.1, (rdA zt3 a0 (Int.toNat a2)).2.2.1, (rdA zt3 a0 (Int.toNat a2)).2.2.2.1.1, (rdA zt3 a0 (Int.toNat a2)).2.2.2.1.2.1, a3)).bind (orP (fun o1 => Jl4 a0 a1 (IntKind.wrap .i64 (a2 + (1 : Int))) o1) (fun o2 => some (.inr ()))) else none) else (some (.inl a3))
set_option maxHeartbeats 4000000 in
set_option maxRecDepth 100000 in
theorem f13_Al4 (g12 : ((List (Int)) × (List (Int))) → Option ((List (Int)) ⊕ (Unit))) (g14 : ((List Int) × (Int) × (List ((List (List (YT1))) × (Unit))) × (Int) × (Int) × (List (Int))) → Option ((List (Int)) ⊕ (Unit))) (Jj2 : St → Option ((List (Int)) ⊕ (Unit))) (Jl4 : St → Option ((List (Int)) ⊕ (Unit))) (a0 : List (YT3)) (a1 : Int) (a2 : Int) (a3 : List (Int)) : evAtJ (f13C g12 g14) [(2, Jj2)] [(4, Jl4)] (bodyOf Try.f13) [.r, .r, .r, .b, .b] (retKP (f13C g12 g14) Try.f13.results f13o 52 [] true) (f13_s4 a0 a1 a2 a3) = f13_tl4 g12 g14 (fun a0 a1 a2 a3 => Jl4 (f13_s4 a0 a1 a2 a3)) a0 a1 a2 a3 := by
  kernel_rfl
set_option maxHeartbeats 4000000 in
set_option maxRecDepth 100000 in
theorem f13_el4 (k : Nat) (g12 : ((List (Int)) × (List (Int))) → Option ((List (Int)) ⊕ (Unit))) (g14 : ((List Int) × (Int) × (List ((List (List (YT1))) × (Unit))) × (Int) × (Int) × (List (Int))) → Option ((List (Int)) ⊕ (Unit))) (j4 : Nat) (a0 : List (YT3)) (a1 : Int) (a2 : Int) (a3 : List (Int)) : f13_l4 k g12 g14 (j4 + 1) a0 a1 a2 a3 = f13_tl4 g12 g14 (f13_l4 k g12 g14  j4) a0 a1 a2 a3 := by
  have h0 : f13_l4 k g12 g14 (j4 + 1) a0 a1 a2 a3 = evAt (f13C g12 g14) k (bodyOf Try.f13) [.r, .r, .r, .b, .b] [j4] (retKP (f13C g12 g14) Try.f13.results f13o 52 [] true) (f13_s4 a0 a1 a2 a3) := by kernel_rfl
  have h1 : keep [2] (jt (f13C g12 g14) k (bodyOf Try.f13) [.r, .r, .r, .b, .b] [j4] (retKP (f13C g12 g14) Try.f13.results f13o 52 [] true)) = [(2, (fun s => evAt (f13C g12 g14) k (bodyOf Try.f13) [.r] [] (retKP (f13C g12 g14) Try.f13.results f13o 52 [] true) s))] := by kernel_rfl
  have h2 : keep [4] (lt (f13C g12 g14) k (bodyOf Try.f13) [.r, .r, .r, .b, .b] [j4] (retKP (f13C g12 g14) Try.f13.results f13o 52 [] true)) = [(4, (fun s => loopAt (f13C g12 g14) k (bodyOf Try.f13) [.r, .r, .r, .b] [] j4 (retKP (f13C g12 g14) Try.f13.results f13o 52 [] true) s))] := by kernel_rfl
  have h3 := evAt_cut (f13_s4 a0 a1 a2 a3) [2] [4] (by kernel_rfl) h1 h2 (by kernel_rfl) (by kernel_rfl) (by kernel_rfl)
  have h4 := f13_Al4 g12 g14 (fun s => evAt (f13C g12 g14) k (bodyOf Try.f13) [.r] [] (retKP (f13C g12 g14) Try.f13.results f13o 52 [] true) s) (fun s => loopAt (f13C g12 g14) k (bodyOf Try.f13) [.r, .r, .r, .b] [] j4 (retKP (f13C g12 g14) Try.f13.results f13o 52 [] true) s) a0 a1 a2 a3
  exact h0.trans (h3.trans (h4.trans (by kernel_rfl)))
set_option maxHeartbeats 4000000 in
set_option maxRecDepth 100000 in
theorem f13_ok (k : Nat) (g12 : ((List (Int)) × (List (Int))) → Option ((List (Int)) ⊕ (Unit))) (g14 : ((List Int) × (Int) × (List ((List (List (YT1))) × (Unit))) × (Int) × (Int) × (List (Int))) → Option ((List (Int)) ⊕ (Unit))) (hg12 : SigOK Try.prog 12 ⟨f12i, f12o, mkFunP f12i.tys f12o.tys 52 [] true g12⟩) (hg14 : SigOK Try.prog 14 ⟨f14i, f14o, mkFunP f14i.tys f14o.tys 52 [] true g14⟩) : SigOK Try.prog 13 ⟨f13i, f13o, mkFunP f13i.tys f13o.tys 52 [] true (f13 k g12 g14)⟩ :=
  fnP_ok (C := (f13C g12 g14)) (l := f13E g12 g14) rfl ⟨⟨hg12, trivial⟩, ⟨hg14, trivial⟩, trivial⟩ (by kernel_rfl) k (fn := Try.f13) (by kernel_rfl) (by kernel_rfl) (by kernel_rfl) f13i f13o 52 [] true rfl rfl (show 1 ≤ 48 by decide) (show 1 ≤ 48 by decide)
noncomputable def c13 (k : Nat) : ((List (YT3)) × (Int) × (List (Int))) → Option ((List (Int)) ⊕ (Unit)) := f13 k (c12 k) (c14 k)
theorem c13_ok (k : Nat) : SigOK Try.prog 13 ⟨f13i, f13o, mkFunP f13i.tys f13o.tys 52 [] true (c13 k)⟩ := f13_ok k (c12 k) (c14 k) (c12_ok k) (c14_ok k)

/-! carrefour/device.Encode -/
def f6i : Sk := ⟨[.agg [.pv (.int .i64), .pv (.slice yt3), .pv (.int .i64), .pv (.int .i64), .pv (.int .i64), .pv (.int .i64), .pv .bool, .pv (.int .i64)]], [], []⟩
def f6o : Sk := ⟨[.lf (.own 0), .lf (.pv (.int .i64))], [], [some (5, (.int .u8))]⟩
def f6_kd : Sk := ⟨sparse 57 [(0, .agg [.pv (.int .i64), .pv (.slice yt3), .pv (.int .i64), .pv (.int .i64), .pv (.int .i64), .pv (.int .i64), .pv .bool, .pv (.int .i64)]), (1, .lf (.ptr 2 0)), (2, .lf (.ptr 0 0)), (3, .lf (.ptr 1 0)), (6, .lf (.fn 11 [] [(0, 0), (1, 0)]))], [[.nil .sl], [.pv (.int .i64)], [.pv (.int .i64), .pv (.slice yt3), .pv (.int .i64), .pv (.int .i64), .pv (.int .i64), .pv (.int .i64), .pv .bool, .pv (.int .i64)]], []⟩
noncomputable def f6E (g12 : ((List (Int)) × (List (Int))) → Option ((List (Int)) ⊕ (Unit))) (g13 : ((List (YT3)) × (Int) × (List (Int))) → Option ((List (Int)) ⊕ (Unit))) : List (Nat × List Sig) := [(12, [⟨f12i, f12o, mkFunP f12i.tys f12o.tys 52 [] true g12⟩]), (13, [⟨f13i, f13o, mkFunP f13i.tys f13o.tys 52 [] true g13⟩])]
noncomputable def f6C (g12 : ((List (Int)) × (List (Int))) → Option ((List (Int)) ⊕ (Unit))) (g13 : ((List (YT3)) × (Int) × (List (Int))) → Option ((List (Int)) ⊕ (Unit))) : Cfg := { P := Try.prog, env := lookS (f6E g12 g13), n := 162, npB := 0, npO := 0, hint := fun _ => none, pops := [] }
noncomputable def f6C1 (g12 : ((List (Int)) × (List (Int))) → Option ((List (Int)) ⊕ (Unit))) (g13 : ((List (YT3)) × (Int) × (List (Int))) → Option ((List (Int)) ⊕ (Unit))) : Cfg := { P := Try.prog, env := lookS (f6E g12 g13), n := 162, npB := 2, npO := 0, hint := fun _ => none, pops := [] }
def f6D : DefC := { g := 11, kd := f6_kd, caps := [0, 1], pt := 52, tp := [], pg := true, new := new11 }
noncomputable def f6 (k : Nat) (g12 : ((List (Int)) × (List (Int))) → Option ((List (Int)) ⊕ (Unit))) (g13 : ((List (YT3)) × (Int) × (List (Int))) → Option ((List (Int)) ⊕ (Unit))) : ((Int) × (List (YT3)) × (Int) × (Int) × (Int) × (Int) × (Bool) × (Int)) → Option ((Int) × (List (Int))) := fnOfD (f6C g12 g13) (f6C1 g12 g13) f6D k Try.f6 1 f6i f6o
def f6_t (g12 : ((List (Int)) × (List (Int))) → Option ((List (Int)) ⊕ (Unit))) (g13 : ((List (YT3)) × (Int) × (List (Int))) → Option ((List (Int)) ⊕ (Unit))) (a0 : Int) (a1 : List (YT3)) (a2 : Int) (a3 : Int) (a4 : Int) (a5 : Int) (a6 : Bool) (a7 : Int) : Option ((Int) × (List (Int))) :=
  (g12 (([a0] : List (Int)), ([(67 : Int), (70 : Int), (1 : Int)] : List (Int)))).bind (orP (fun o1 => (g13 (a1, (12 : Int), o1)).bind (orP (fun o3 => (g12 (([a2, a3, a4, a5] : List (Int)), o3)).bind (orP (fun o5 => bif a6 then (bif (appB 1 (List.length o5) (List.length ([(1 : Int)] : List (Int)))) then (g12 (([a7] : List (Int)), (o5 ++ ([(1 : Int)] : List (Int))))).bind (orP (fun o7 => some ((0 : Int), o7)) (fun o8 => some ((1 : Int), []))) else none) else (bif (appB 1 (List.length o5) (List.length ([(0 : Int)] : List (Int)))) then (g12 (([a7] : List (Int)), (o5 ++ ([(0 : Int)] : List (Int))))).bind (orP (fun o9 => some ((0 : Int), o9)) (fun o10 => some ((1 : Int), []))) else none)) (fun o6 => some ((1 : Int), [])))) (fun o4 => some ((1 : Int), [])))) (fun o2 => some ((1 : Int), [])))
set_option maxHeartbeats 4000000 in
set_option maxRecDepth 100000 in
theorem f6_e (k : Nat) (g12 : ((List (Int)) × (List (Int))) → Option ((List (Int)) ⊕ (Unit))) (g13 : ((List (YT3)) × (Int) × (List (Int))) → Option ((List (Int)) ⊕ (Unit))) (a0 : Int) (a1 : List (YT3)) (a2 : Int) (a3 : Int) (a4 : Int) (a5 : Int) (a6 : Bool) (a7 : Int) : f6 k g12 g13 (a0, a1, a2, a3, a4, a5, a6, a7) = f6_t g12 g13 a0 a1 a2 a3 a4 a5 a6 a7 := by kernel_rfl
set_option maxHeartbeats 4000000 in
set_option maxRecDepth 100000 in
theorem f6_ok (k : Nat) (g12 : ((List (Int)) × (List (Int))) → Option ((List (Int)) ⊕ (Unit))) (g13 : ((List (YT3)) × (Int) × (List (Int))) → Option ((List (Int)) ⊕ (Unit))) (hR : CloR Try.prog f6D) (hP : CloP Try.prog f6D) (hg12 : SigOK Try.prog 12 ⟨f12i, f12o, mkFunP f12i.tys f12o.tys 52 [] true g12⟩) (hg13 : SigOK Try.prog 13 ⟨f13i, f13o, mkFunP f13i.tys f13o.tys 52 [] true g13⟩) : SigOK Try.prog 6 ⟨f6i, f6o, mkFun f6i.tys f6o.tys (f6 k g12 g13)⟩ :=
  fnD_ok (C := (f6C g12 g13)) (C1 := (f6C1 g12 g13)) (l := f6E g12 g13) rfl rfl ⟨⟨hg12, trivial⟩, ⟨hg13, trivial⟩, trivial⟩ (by kernel_rfl) rfl hR hP (show [0, 1].Nodup by decide) (show ∀ b ∈ [0, 1], b < 2 by decide) k 1 (fn := Try.f6) (by kernel_rfl) (by kernel_rfl) (by kernel_rfl) f6i f6o rfl rfl (show 0 ≤ 48 by decide) (show 0 ≤ 48 by decide) (show 2 ≤ 48 by decide) rfl (show 0 ≤ 2 by decide)
noncomputable def c6 (k : Nat) : ((Int) × (List (YT3)) × (Int) × (Int) × (Int) × (Int) × (Bool) × (Int)) → Option ((Int) × (List (Int))) := f6 k (c12 k) (c13 k)
theorem c6_ok (k : Nat) : SigOK Try.prog 6 ⟨f6i, f6o, mkFun f6i.tys f6o.tys (c6 k)⟩ := f6_ok k (c12 k) (c13 k) (clo11_R _ _ rfl) (clo11_P _ _ rfl) (c12_ok k) (c13_ok k)
end Go.Proofs.YtghmhkpgdmgepaaV
