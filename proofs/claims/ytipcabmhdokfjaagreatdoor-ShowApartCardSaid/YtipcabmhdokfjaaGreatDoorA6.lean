import Derived.Test.YtipcabmhdokfjaaGreatDoorA5
/-! Texts of the proof, joined: G1, G2. -/
set_option linter.unusedVariables false
set_option maxHeartbeats 4000000
set_option maxRecDepth 100000
namespace Go.Proofs.YtipcabmhdokfjaaGreatDoorV
open Go Go.RowKit

/-! carrefour/show.badHead -/
def fshowbadHeadi : Sk := ⟨[.agg [.pv .str, .pv (.int .i64), .pv (.int .i64), .pv (.int .i64), .pv (.int .i64), .pv (.int .i64), .pv (.int .i64), .pv (.int .i64), .pv (.int .i64), .pv (.int .i64), .pv (.int .i64)]], [], []⟩
def fshowbadHeado : Sk := ⟨[.lf (.pv .bool)], [], []⟩
abbrev fshowbadHeadT := (List Int) × (Int) × (Int) × (Int) × (Int) × (Int) × (Int) × (Int) × (Int) × (Int) × (Int)
abbrev fshowbadHeadR := Bool
noncomputable def fshowbadHeadE (k : Nat) : List (Nat × List Sig) := [(64, [sgshownames k]), (29, [sgshownums k])]
noncomputable def fshowbadHead (k : Nat) : FnX (Bool) := mkX { P := Tryz.prog, env := lookS (fshowbadHeadE k), n := 89, npB := 0, npO := 0, hint := fun i => look none [] i, pops := [], bl := [54, 56] } k Tryz.f66 fshowbadHeado
noncomputable def cshowbadHead (k : Nat) : fshowbadHeadT → Option (Bool) := fnOf (fshowbadHead k).C k Tryz.f66 fshowbadHeadi fshowbadHeado
noncomputable def sgshowbadHead (k : Nat) : Sig := ⟨fshowbadHeadi, fshowbadHeado, mkFun fshowbadHeadi.tys fshowbadHeado.tys (cshowbadHead k)⟩
noncomputable def fshowbadHead_t (k : Nat) (J : JF (Bool)) (L : LF (Bool)) : fshowbadHeadT → Option (Bool)
  | (a0, a1, a2, a3, a4, a5, a6, a7, a8, a9, a10) => ((cshownames k) (([a0] : List (List Int)))).bind fun o1 => bif (!o1) then (some true) else (((cshownums k) (([a1, a2, a3, a4, a5, a7, a8, a9] : List (Int)))).bind fun o2 => bif (!o2) then (some true) else (bif (decide (a6 < (-999999999999999999 : Int))) then (some true) else (some (decide (a6 > (999999999999999999 : Int))))))
theorem fshowbadHead_e (k : Nat) (x : fshowbadHeadT) : cshowbadHead k x = fshowbadHead_t k (fshowbadHead k).J (fshowbadHead k).L x := by
  apply cutX (fshowbadHead k) [] [] (st0 (fshowbadHead k).C Tryz.f66 fshowbadHeadi x) [] [] (fshowbadHead_t k · · x) <;> intros <;> kernel_rfl
theorem cshowbadHead_ok (k : Nat) : SigOK Tryz.prog 66 (sgshowbadHead k) :=
  fn_ok (C := (fshowbadHead k).C) (l := fshowbadHeadE k) rfl ⟨⟨cshownames_ok k, trivial⟩, ⟨cshownums_ok k, trivial⟩, trivial⟩ (by kernel_rfl) k (fn := Tryz.f66) (by kernel_rfl) (by kernel_rfl) (by kernel_rfl) fshowbadHeadi fshowbadHeado rfl rfl (show 0 ≤ 48 by decide) (show 0 ≤ 48 by decide)

/-! slices.IndexFunc[[]carrefour/api.Head,carrefour/api.Head] -/
def fixf_Headi : Sk := ⟨[.lf (.pv (.slice yt1)), .lf (.fn 66 [] [])], [], []⟩
def fixf_Heado : Sk := ⟨[.lf (.pv (.int .i64))], [], []⟩
def fixf_Head_k2 : Sk := ⟨sparse 19 [(0, .lf (.pv (.slice yt1))), (1, .lf (.fn 66 [] [])), (7, .lf (.pv (.int .i64))), (8, .lf (.pv (.int .i64)))], [], []⟩
abbrev fixf_Head_T2 := (List (YT1)) × (Int) × (Int)
def fixf_Head_s2 : fixf_Head_T2 → St := stOf fixf_Head_k2 67
abbrev fixf_HeadR := Int
noncomputable def fixf_HeadE (k : Nat) : List (Nat × List Sig) := [(66, [sgshowbadHead k])]
noncomputable def fixf_Head (k : Nat) : FnX (Int) := mkX { P := Tryz.prog, env := lookS (fixf_HeadE k), n := 67, npB := 0, npO := 0, hint := fun i => look none [(2, some fixf_Head_k2)] i, pops := [], bl := [54, 56] } k Tryz.f177 fixf_Heado
noncomputable def cixf_Head (k : Nat) : (List (YT1)) → Option (Int) := fnOf (fixf_Head k).C k Tryz.f177 fixf_Headi fixf_Heado
noncomputable def sgixf_Head (k : Nat) : Sig := ⟨fixf_Headi, fixf_Heado, mkFun fixf_Headi.tys fixf_Heado.tys (cixf_Head k)⟩
noncomputable def fixf_Head_t (k : Nat) (J : JF (Int)) (L : LF (Int)) : List (YT1) → Option (Int)
  | a0 => L 2 [] k (fixf_Head_s2 (a0, ((List.length a0 : Nat) : Int), (0 : Int)))
theorem fixf_Head_e (k : Nat) (x : List (YT1)) : cixf_Head k x = fixf_Head_t k (fixf_Head k).J (fixf_Head k).L x := by
  apply cutX (fixf_Head k) [] [] (st0 (fixf_Head k).C Tryz.f177 fixf_Headi x) [] [(2, [], k)] (fixf_Head_t k · · x) <;> intros <;> kernel_rfl
noncomputable def fixf_Head_tl2 (k j2 : Nat) (J : JF (Int)) (L : LF (Int)) : fixf_Head_T2 → Option (Int)
  | (a0, a1, a2) => bif (decide (a2 < a1)) then (idx zt1 a0 a2 fun o1 => ((cshowbadHead k) (o1.1, o1.2.1, o1.2.2.1, o1.2.2.2.1.1, o1.2.2.2.1.2.1, o1.2.2.2.2.1, o1.2.2.2.2.2.1, o1.2.2.2.2.2.2.1, o1.2.2.2.2.2.2.2.1, o1.2.2.2.2.2.2.2.2.1, o1.2.2.2.2.2.2.2.2.2.1)).bind fun o2 => bif o2 then (some a2) else (L 2 [] j2 (fixf_Head_s2 (a0, a1, (IntKind.wrap .i64 (a2 + (1 : Int))))))) else (some (-1 : Int))
theorem fixf_Head_el2 (k j2 : Nat) (x : fixf_Head_T2) : (fixf_Head k).L 2 [] (j2 + 1) (fixf_Head_s2 x) = fixf_Head_tl2 k j2 (fixf_Head k).J (fixf_Head k).L x := by
  apply cutX (fixf_Head k) [.r, .l, .r, .b, .b] [j2] (fixf_Head_s2 x) [] [(2, [], j2)] (fixf_Head_tl2 k j2 · · x) <;> intros <;> kernel_rfl
theorem cixf_Head_ok (k : Nat) : SigOK Tryz.prog 177 (sgixf_Head k) :=
  fn_ok (C := (fixf_Head k).C) (l := fixf_HeadE k) rfl ⟨⟨cshowbadHead_ok k, trivial⟩, trivial⟩ (by kernel_rfl) k (fn := Tryz.f177) (by kernel_rfl) (by kernel_rfl) (by kernel_rfl) fixf_Headi fixf_Heado rfl rfl (show 0 ≤ 48 by decide) (show 0 ≤ 48 by decide)

/-! slices.ContainsFunc[[]carrefour/api.Head,carrefour/api.Head] -/
def fctf_Headi : Sk := ⟨[.lf (.pv (.slice yt1)), .lf (.fn 66 [] [])], [], []⟩
def fctf_Heado : Sk := ⟨[.lf (.pv .bool)], [], []⟩
abbrev fctf_HeadR := Bool
noncomputable def fctf_HeadE (k : Nat) : List (Nat × List Sig) := [(177, [sgixf_Head k])]
noncomputable def fctf_Head (k : Nat) : FnX (Bool) := mkX { P := Tryz.prog, env := lookS (fctf_HeadE k), n := 57, npB := 0, npO := 0, hint := fun i => look none [] i, pops := [], bl := [54, 56] } k Tryz.f120 fctf_Heado
noncomputable def cctf_Head (k : Nat) : (List (YT1)) → Option (Bool) := fnOf (fctf_Head k).C k Tryz.f120 fctf_Headi fctf_Heado
noncomputable def sgctf_Head (k : Nat) : Sig := ⟨fctf_Headi, fctf_Heado, mkFun fctf_Headi.tys fctf_Heado.tys (cctf_Head k)⟩
noncomputable def fctf_Head_t (k : Nat) (J : JF (Bool)) (L : LF (Bool)) : List (YT1) → Option (Bool)
  | a0 => ((cixf_Head k) (a0)).bind fun o1 => some (decide (o1 ≥ (0 : Int)))
theorem fctf_Head_e (k : Nat) (x : List (YT1)) : cctf_Head k x = fctf_Head_t k (fctf_Head k).J (fctf_Head k).L x := by
  apply cutX (fctf_Head k) [] [] (st0 (fctf_Head k).C Tryz.f120 fctf_Headi x) [] [] (fctf_Head_t k · · x) <;> intros <;> kernel_rfl
theorem cctf_Head_ok (k : Nat) : SigOK Tryz.prog 120 (sgctf_Head k) :=
  fn_ok (C := (fctf_Head k).C) (l := fctf_HeadE k) rfl ⟨⟨cixf_Head_ok k, trivial⟩, trivial⟩ (by kernel_rfl) k (fn := Tryz.f120) (by kernel_rfl) (by kernel_rfl) (by kernel_rfl) fctf_Headi fctf_Heado rfl rfl (show 0 ≤ 48 by decide) (show 0 ≤ 48 by decide)

/-! carrefour/show.bad[carrefour/api.Head] -/
def fshowbad_Headi : Sk := ⟨[.lf (.pv (.slice yt1)), .lf (.pv (.int .i64)), .lf (.fn 66 [] [])], [], []⟩
def fshowbad_Heado : Sk := ⟨[.lf (.pv .bool)], [], []⟩
abbrev fshowbad_HeadT := (List (YT1)) × (Int)
abbrev fshowbad_HeadR := Bool
noncomputable def fshowbad_HeadE (k : Nat) : List (Nat × List Sig) := [(120, [sgctf_Head k])]
noncomputable def fshowbad_Head (k : Nat) : FnX (Bool) := mkX { P := Tryz.prog, env := lookS (fshowbad_HeadE k), n := 64, npB := 0, npO := 0, hint := fun i => look none [] i, pops := [], bl := [54, 56] } k Tryz.f65 fshowbad_Heado
noncomputable def cshowbad_Head (k : Nat) : fshowbad_HeadT → Option (Bool) := fnOf (fshowbad_Head k).C k Tryz.f65 fshowbad_Headi fshowbad_Heado
noncomputable def sgshowbad_Head (k : Nat) : Sig := ⟨fshowbad_Headi, fshowbad_Heado, mkFun fshowbad_Headi.tys fshowbad_Heado.tys (cshowbad_Head k)⟩
noncomputable def fshowbad_Head_t (k : Nat) (J : JF (Bool)) (L : LF (Bool)) : fshowbad_HeadT → Option (Bool)
  | (a0, a1) => bif (decide (((List.length a0 : Nat) : Int) > a1)) then (some true) else (((cctf_Head k) (a0)).bind fun o1 => some o1)
theorem fshowbad_Head_e (k : Nat) (x : fshowbad_HeadT) : cshowbad_Head k x = fshowbad_Head_t k (fshowbad_Head k).J (fshowbad_Head k).L x := by
  apply cutX (fshowbad_Head k) [] [] (st0 (fshowbad_Head k).C Tryz.f65 fshowbad_Headi x) [] [] (fshowbad_Head_t k · · x) <;> intros <;> kernel_rfl
theorem cshowbad_Head_ok (k : Nat) : SigOK Tryz.prog 65 (sgshowbad_Head k) :=
  fn_ok (C := (fshowbad_Head k).C) (l := fshowbad_HeadE k) rfl ⟨⟨cctf_Head_ok k, trivial⟩, trivial⟩ (by kernel_rfl) k (fn := Tryz.f65) (by kernel_rfl) (by kernel_rfl) (by kernel_rfl) fshowbad_Headi fshowbad_Heado rfl rfl (show 0 ≤ 48 by decide) (show 0 ≤ 48 by decide)

/-! carrefour/show.badPed -/
def fshowbadPedi : Sk := ⟨[.agg [.pv .str, .pv .str, .pv (.int .i64), .pv (.int .i64), .pv (.int .i64), .pv (.int .i64)]], [], []⟩
def fshowbadPedo : Sk := ⟨[.lf (.pv .bool)], [], []⟩
abbrev fshowbadPedT := (List Int) × (List Int) × (Int) × (Int) × (Int) × (Int)
abbrev fshowbadPedR := Bool
noncomputable def fshowbadPedE (k : Nat) : List (Nat × List Sig) := [(64, [sgshownames k]), (29, [sgshownums k])]
noncomputable def fshowbadPed (k : Nat) : FnX (Bool) := mkX { P := Tryz.prog, env := lookS (fshowbadPedE k), n := 69, npB := 0, npO := 0, hint := fun i => look none [] i, pops := [], bl := [54, 56] } k Tryz.f68 fshowbadPedo
noncomputable def cshowbadPed (k : Nat) : fshowbadPedT → Option (Bool) := fnOf (fshowbadPed k).C k Tryz.f68 fshowbadPedi fshowbadPedo
noncomputable def sgshowbadPed (k : Nat) : Sig := ⟨fshowbadPedi, fshowbadPedo, mkFun fshowbadPedi.tys fshowbadPedo.tys (cshowbadPed k)⟩
noncomputable def fshowbadPed_t (k : Nat) (J : JF (Bool)) (L : LF (Bool)) : fshowbadPedT → Option (Bool)
  | (a0, a1, a2, a3, a4, a5) => ((cshownames k) (([a0, a1] : List (List Int)))).bind fun o1 => bif (!o1) then (some true) else (((cshownums k) (([a2, a3, a4] : List (Int)))).bind fun o2 => some (!o2))
theorem fshowbadPed_e (k : Nat) (x : fshowbadPedT) : cshowbadPed k x = fshowbadPed_t k (fshowbadPed k).J (fshowbadPed k).L x := by
  apply cutX (fshowbadPed k) [] [] (st0 (fshowbadPed k).C Tryz.f68 fshowbadPedi x) [] [] (fshowbadPed_t k · · x) <;> intros <;> kernel_rfl
theorem cshowbadPed_ok (k : Nat) : SigOK Tryz.prog 68 (sgshowbadPed k) :=
  fn_ok (C := (fshowbadPed k).C) (l := fshowbadPedE k) rfl ⟨⟨cshownames_ok k, trivial⟩, ⟨cshownums_ok k, trivial⟩, trivial⟩ (by kernel_rfl) k (fn := Tryz.f68) (by kernel_rfl) (by kernel_rfl) (by kernel_rfl) fshowbadPedi fshowbadPedo rfl rfl (show 0 ≤ 48 by decide) (show 0 ≤ 48 by decide)

/-! slices.IndexFunc[[]carrefour/api.Ped,carrefour/api.Ped] -/
def fixf_Pedi : Sk := ⟨[.lf (.pv (.slice yt2)), .lf (.fn 68 [] [])], [], []⟩
def fixf_Pedo : Sk := ⟨[.lf (.pv (.int .i64))], [], []⟩
def fixf_Ped_k2 : Sk := ⟨sparse 19 [(0, .lf (.pv (.slice yt2))), (1, .lf (.fn 68 [] [])), (7, .lf (.pv (.int .i64))), (8, .lf (.pv (.int .i64)))], [], []⟩
abbrev fixf_Ped_T2 := (List (YT2)) × (Int) × (Int)
def fixf_Ped_s2 : fixf_Ped_T2 → St := stOf fixf_Ped_k2 67
abbrev fixf_PedR := Int
noncomputable def fixf_PedE (k : Nat) : List (Nat × List Sig) := [(68, [sgshowbadPed k])]
noncomputable def fixf_Ped (k : Nat) : FnX (Int) := mkX { P := Tryz.prog, env := lookS (fixf_PedE k), n := 67, npB := 0, npO := 0, hint := fun i => look none [(2, some fixf_Ped_k2)] i, pops := [], bl := [54, 56] } k Tryz.f178 fixf_Pedo
noncomputable def cixf_Ped (k : Nat) : (List (YT2)) → Option (Int) := fnOf (fixf_Ped k).C k Tryz.f178 fixf_Pedi fixf_Pedo
noncomputable def sgixf_Ped (k : Nat) : Sig := ⟨fixf_Pedi, fixf_Pedo, mkFun fixf_Pedi.tys fixf_Pedo.tys (cixf_Ped k)⟩
noncomputable def fixf_Ped_t (k : Nat) (J : JF (Int)) (L : LF (Int)) : List (YT2) → Option (Int)
  | a0 => L 2 [] k (fixf_Ped_s2 (a0, ((List.length a0 : Nat) : Int), (0 : Int)))
theorem fixf_Ped_e (k : Nat) (x : List (YT2)) : cixf_Ped k x = fixf_Ped_t k (fixf_Ped k).J (fixf_Ped k).L x := by
  apply cutX (fixf_Ped k) [] [] (st0 (fixf_Ped k).C Tryz.f178 fixf_Pedi x) [] [(2, [], k)] (fixf_Ped_t k · · x) <;> intros <;> kernel_rfl
noncomputable def fixf_Ped_tl2 (k j2 : Nat) (J : JF (Int)) (L : LF (Int)) : fixf_Ped_T2 → Option (Int)
  | (a0, a1, a2) => bif (decide (a2 < a1)) then (idx zt2 a0 a2 fun o1 => ((cshowbadPed k) (o1.1, o1.2.1, o1.2.2.1, o1.2.2.2.1, o1.2.2.2.2.1, o1.2.2.2.2.2.1)).bind fun o2 => bif o2 then (some a2) else (L 2 [] j2 (fixf_Ped_s2 (a0, a1, (IntKind.wrap .i64 (a2 + (1 : Int))))))) else (some (-1 : Int))
theorem fixf_Ped_el2 (k j2 : Nat) (x : fixf_Ped_T2) : (fixf_Ped k).L 2 [] (j2 + 1) (fixf_Ped_s2 x) = fixf_Ped_tl2 k j2 (fixf_Ped k).J (fixf_Ped k).L x := by
  apply cutX (fixf_Ped k) [.r, .l, .r, .b, .b] [j2] (fixf_Ped_s2 x) [] [(2, [], j2)] (fixf_Ped_tl2 k j2 · · x) <;> intros <;> kernel_rfl
theorem cixf_Ped_ok (k : Nat) : SigOK Tryz.prog 178 (sgixf_Ped k) :=
  fn_ok (C := (fixf_Ped k).C) (l := fixf_PedE k) rfl ⟨⟨cshowbadPed_ok k, trivial⟩, trivial⟩ (by kernel_rfl) k (fn := Tryz.f178) (by kernel_rfl) (by kernel_rfl) (by kernel_rfl) fixf_Pedi fixf_Pedo rfl rfl (show 0 ≤ 48 by decide) (show 0 ≤ 48 by decide)

/-! slices.ContainsFunc[[]carrefour/api.Ped,carrefour/api.Ped] -/
def fctf_Pedi : Sk := ⟨[.lf (.pv (.slice yt2)), .lf (.fn 68 [] [])], [], []⟩
def fctf_Pedo : Sk := ⟨[.lf (.pv .bool)], [], []⟩
abbrev fctf_PedR := Bool
noncomputable def fctf_PedE (k : Nat) : List (Nat × List Sig) := [(178, [sgixf_Ped k])]
noncomputable def fctf_Ped (k : Nat) : FnX (Bool) := mkX { P := Tryz.prog, env := lookS (fctf_PedE k), n := 57, npB := 0, npO := 0, hint := fun i => look none [] i, pops := [], bl := [54, 56] } k Tryz.f121 fctf_Pedo
noncomputable def cctf_Ped (k : Nat) : (List (YT2)) → Option (Bool) := fnOf (fctf_Ped k).C k Tryz.f121 fctf_Pedi fctf_Pedo
noncomputable def sgctf_Ped (k : Nat) : Sig := ⟨fctf_Pedi, fctf_Pedo, mkFun fctf_Pedi.tys fctf_Pedo.tys (cctf_Ped k)⟩
noncomputable def fctf_Ped_t (k : Nat) (J : JF (Bool)) (L : LF (Bool)) : List (YT2) → Option (Bool)
  | a0 => ((cixf_Ped k) (a0)).bind fun o1 => some (decide (o1 ≥ (0 : Int)))
theorem fctf_Ped_e (k : Nat) (x : List (YT2)) : cctf_Ped k x = fctf_Ped_t k (fctf_Ped k).J (fctf_Ped k).L x := by
  apply cutX (fctf_Ped k) [] [] (st0 (fctf_Ped k).C Tryz.f121 fctf_Pedi x) [] [] (fctf_Ped_t k · · x) <;> intros <;> kernel_rfl
theorem cctf_Ped_ok (k : Nat) : SigOK Tryz.prog 121 (sgctf_Ped k) :=
  fn_ok (C := (fctf_Ped k).C) (l := fctf_PedE k) rfl ⟨⟨cixf_Ped_ok k, trivial⟩, trivial⟩ (by kernel_rfl) k (fn := Tryz.f121) (by kernel_rfl) (by kernel_rfl) (by kernel_rfl) fctf_Pedi fctf_Pedo rfl rfl (show 0 ≤ 48 by decide) (show 0 ≤ 48 by decide)

/-! carrefour/show.bad[carrefour/api.Ped] -/
def fshowbad_Pedi : Sk := ⟨[.lf (.pv (.slice yt2)), .lf (.pv (.int .i64)), .lf (.fn 68 [] [])], [], []⟩
def fshowbad_Pedo : Sk := ⟨[.lf (.pv .bool)], [], []⟩
abbrev fshowbad_PedT := (List (YT2)) × (Int)
abbrev fshowbad_PedR := Bool
noncomputable def fshowbad_PedE (k : Nat) : List (Nat × List Sig) := [(121, [sgctf_Ped k])]
noncomputable def fshowbad_Ped (k : Nat) : FnX (Bool) := mkX { P := Tryz.prog, env := lookS (fshowbad_PedE k), n := 64, npB := 0, npO := 0, hint := fun i => look none [] i, pops := [], bl := [54, 56] } k Tryz.f67 fshowbad_Pedo
noncomputable def cshowbad_Ped (k : Nat) : fshowbad_PedT → Option (Bool) := fnOf (fshowbad_Ped k).C k Tryz.f67 fshowbad_Pedi fshowbad_Pedo
noncomputable def sgshowbad_Ped (k : Nat) : Sig := ⟨fshowbad_Pedi, fshowbad_Pedo, mkFun fshowbad_Pedi.tys fshowbad_Pedo.tys (cshowbad_Ped k)⟩
noncomputable def fshowbad_Ped_t (k : Nat) (J : JF (Bool)) (L : LF (Bool)) : fshowbad_PedT → Option (Bool)
  | (a0, a1) => bif (decide (((List.length a0 : Nat) : Int) > a1)) then (some true) else (((cctf_Ped k) (a0)).bind fun o1 => some o1)
theorem fshowbad_Ped_e (k : Nat) (x : fshowbad_PedT) : cshowbad_Ped k x = fshowbad_Ped_t k (fshowbad_Ped k).J (fshowbad_Ped k).L x := by
  apply cutX (fshowbad_Ped k) [] [] (st0 (fshowbad_Ped k).C Tryz.f67 fshowbad_Pedi x) [] [] (fshowbad_Ped_t k · · x) <;> intros <;> kernel_rfl
theorem cshowbad_Ped_ok (k : Nat) : SigOK Tryz.prog 67 (sgshowbad_Ped k) :=
  fn_ok (C := (fshowbad_Ped k).C) (l := fshowbad_PedE k) rfl ⟨⟨cctf_Ped_ok k, trivial⟩, trivial⟩ (by kernel_rfl) k (fn := Tryz.f67) (by kernel_rfl) (by kernel_rfl) (by kernel_rfl) fshowbad_Pedi fshowbad_Pedo rfl rfl (show 0 ≤ 48 by decide) (show 0 ≤ 48 by decide)

/-! carrefour/show.row -/
def fshowrowi : Sk := ⟨[.lf (.pv (.slice .str)), .lf (.pv (.int .i64))], [], []⟩
def fshowrowo : Sk := ⟨[.lf (.pv .bool)], [], []⟩
abbrev fshowrowT := (List (List Int)) × (Int)
abbrev fshowrowR := Bool
noncomputable def fshowrowE (k : Nat) : List (Nat × List Sig) := [(64, [sgshownames k])]
noncomputable def fshowrow (k : Nat) : FnX (Bool) := mkX { P := Tryz.prog, env := lookS (fshowrowE k), n := 66, npB := 0, npO := 0, hint := fun i => look none [] i, pops := [], bl := [54, 56] } k Tryz.f123 fshowrowo
noncomputable def cshowrow (k : Nat) : fshowrowT → Option (Bool) := fnOf (fshowrow k).C k Tryz.f123 fshowrowi fshowrowo
noncomputable def sgshowrow (k : Nat) : Sig := ⟨fshowrowi, fshowrowo, mkFun fshowrowi.tys fshowrowo.tys (cshowrow k)⟩
noncomputable def fshowrow_t (k : Nat) (J : JF (Bool)) (L : LF (Bool)) : fshowrowT → Option (Bool)
  | (a0, a1) => bif (decide ((0 : Int) < ((List.length a0 : Nat) : Int))) then (bif (decide (((List.length a0 : Nat) : Int) ≤ a1)) then (((cshownames k) (a0)).bind fun o1 => some o1) else (some false)) else (some false)
theorem fshowrow_e (k : Nat) (x : fshowrowT) : cshowrow k x = fshowrow_t k (fshowrow k).J (fshowrow k).L x := by
  apply cutX (fshowrow k) [] [] (st0 (fshowrow k).C Tryz.f123 fshowrowi x) [] [] (fshowrow_t k · · x) <;> intros <;> kernel_rfl
theorem cshowrow_ok (k : Nat) : SigOK Tryz.prog 123 (sgshowrow k) :=
  fn_ok (C := (fshowrow k).C) (l := fshowrowE k) rfl ⟨⟨cshownames_ok k, trivial⟩, trivial⟩ (by kernel_rfl) k (fn := Tryz.f123) (by kernel_rfl) (by kernel_rfl) (by kernel_rfl) fshowrowi fshowrowo rfl rfl (show 0 ≤ 48 by decide) (show 0 ≤ 48 by decide)

/-! carrefour/show.badPhase -/
def fshowbadPhasei : Sk := ⟨[.agg [.pv .str, .pv (.slice .str), .pv (.int .i64)]], [], []⟩
def fshowbadPhaseo : Sk := ⟨[.lf (.pv .bool)], [], []⟩
abbrev fshowbadPhaseT := (List Int) × (List (List Int)) × (Int)
abbrev fshowbadPhaseR := Bool
noncomputable def fshowbadPhaseE (k : Nat) : List (Nat × List Sig) := [(64, [sgshownames k]), (123, [sgshowrow k])]
noncomputable def fshowbadPhase (k : Nat) : FnX (Bool) := mkX { P := Tryz.prog, env := lookS (fshowbadPhaseE k), n := 62, npB := 0, npO := 0, hint := fun i => look none [] i, pops := [], bl := [54, 56] } k Tryz.f70 fshowbadPhaseo
noncomputable def cshowbadPhase (k : Nat) : fshowbadPhaseT → Option (Bool) := fnOf (fshowbadPhase k).C k Tryz.f70 fshowbadPhasei fshowbadPhaseo
noncomputable def sgshowbadPhase (k : Nat) : Sig := ⟨fshowbadPhasei, fshowbadPhaseo, mkFun fshowbadPhasei.tys fshowbadPhaseo.tys (cshowbadPhase k)⟩
noncomputable def fshowbadPhase_t (k : Nat) (J : JF (Bool)) (L : LF (Bool)) : fshowbadPhaseT → Option (Bool)
  | (a0, a1, a2) => ((cshownames k) (([a0] : List (List Int)))).bind fun o1 => bif (!o1) then (some true) else (((cshowrow k) (a1, (16 : Int))).bind fun o2 => some (!o2))
theorem fshowbadPhase_e (k : Nat) (x : fshowbadPhaseT) : cshowbadPhase k x = fshowbadPhase_t k (fshowbadPhase k).J (fshowbadPhase k).L x := by
  apply cutX (fshowbadPhase k) [] [] (st0 (fshowbadPhase k).C Tryz.f70 fshowbadPhasei x) [] [] (fshowbadPhase_t k · · x) <;> intros <;> kernel_rfl
theorem cshowbadPhase_ok (k : Nat) : SigOK Tryz.prog 70 (sgshowbadPhase k) :=
  fn_ok (C := (fshowbadPhase k).C) (l := fshowbadPhaseE k) rfl ⟨⟨cshownames_ok k, trivial⟩, ⟨cshowrow_ok k, trivial⟩, trivial⟩ (by kernel_rfl) k (fn := Tryz.f70) (by kernel_rfl) (by kernel_rfl) (by kernel_rfl) fshowbadPhasei fshowbadPhaseo rfl rfl (show 0 ≤ 48 by decide) (show 0 ≤ 48 by decide)

/-! slices.IndexFunc[[]carrefour/api.Phase,carrefour/api.Phase] -/
def fixf_Phasei : Sk := ⟨[.lf (.pv (.slice yt3)), .lf (.fn 70 [] [])], [], []⟩
def fixf_Phaseo : Sk := ⟨[.lf (.pv (.int .i64))], [], []⟩
def fixf_Phase_k2 : Sk := ⟨sparse 19 [(0, .lf (.pv (.slice yt3))), (1, .lf (.fn 70 [] [])), (7, .lf (.pv (.int .i64))), (8, .lf (.pv (.int .i64)))], [], []⟩
abbrev fixf_Phase_T2 := (List (YT3)) × (Int) × (Int)
def fixf_Phase_s2 : fixf_Phase_T2 → St := stOf fixf_Phase_k2 67
abbrev fixf_PhaseR := Int
noncomputable def fixf_PhaseE (k : Nat) : List (Nat × List Sig) := [(70, [sgshowbadPhase k])]
noncomputable def fixf_Phase (k : Nat) : FnX (Int) := mkX { P := Tryz.prog, env := lookS (fixf_PhaseE k), n := 67, npB := 0, npO := 0, hint := fun i => look none [(2, some fixf_Phase_k2)] i, pops := [], bl := [54, 56] } k Tryz.f179 fixf_Phaseo
noncomputable def cixf_Phase (k : Nat) : (List (YT3)) → Option (Int) := fnOf (fixf_Phase k).C k Tryz.f179 fixf_Phasei fixf_Phaseo
noncomputable def sgixf_Phase (k : Nat) : Sig := ⟨fixf_Phasei, fixf_Phaseo, mkFun fixf_Phasei.tys fixf_Phaseo.tys (cixf_Phase k)⟩
noncomputable def fixf_Phase_t (k : Nat) (J : JF (Int)) (L : LF (Int)) : List (YT3) → Option (Int)
  | a0 => L 2 [] k (fixf_Phase_s2 (a0, ((List.length a0 : Nat) : Int), (0 : Int)))
theorem fixf_Phase_e (k : Nat) (x : List (YT3)) : cixf_Phase k x = fixf_Phase_t k (fixf_Phase k).J (fixf_Phase k).L x := by
  apply cutX (fixf_Phase k) [] [] (st0 (fixf_Phase k).C Tryz.f179 fixf_Phasei x) [] [(2, [], k)] (fixf_Phase_t k · · x) <;> intros <;> kernel_rfl
noncomputable def fixf_Phase_tl2 (k j2 : Nat) (J : JF (Int)) (L : LF (Int)) : fixf_Phase_T2 → Option (Int)
  | (a0, a1, a2) => bif (decide (a2 < a1)) then (idx zt3 a0 a2 fun o1 => ((cshowbadPhase k) (o1.1, o1.2.1, o1.2.2.1)).bind fun o2 => bif o2 then (some a2) else (L 2 [] j2 (fixf_Phase_s2 (a0, a1, (IntKind.wrap .i64 (a2 + (1 : Int))))))) else (some (-1 : Int))
theorem fixf_Phase_el2 (k j2 : Nat) (x : fixf_Phase_T2) : (fixf_Phase k).L 2 [] (j2 + 1) (fixf_Phase_s2 x) = fixf_Phase_tl2 k j2 (fixf_Phase k).J (fixf_Phase k).L x := by
  apply cutX (fixf_Phase k) [.r, .l, .r, .b, .b] [j2] (fixf_Phase_s2 x) [] [(2, [], j2)] (fixf_Phase_tl2 k j2 · · x) <;> intros <;> kernel_rfl
theorem cixf_Phase_ok (k : Nat) : SigOK Tryz.prog 179 (sgixf_Phase k) :=
  fn_ok (C := (fixf_Phase k).C) (l := fixf_PhaseE k) rfl ⟨⟨cshowbadPhase_ok k, trivial⟩, trivial⟩ (by kernel_rfl) k (fn := Tryz.f179) (by kernel_rfl) (by kernel_rfl) (by kernel_rfl) fixf_Phasei fixf_Phaseo rfl rfl (show 0 ≤ 48 by decide) (show 0 ≤ 48 by decide)

/-! slices.ContainsFunc[[]carrefour/api.Phase,carrefour/api.Phase] -/
def fctf_Phasei : Sk := ⟨[.lf (.pv (.slice yt3)), .lf (.fn 70 [] [])], [], []⟩
def fctf_Phaseo : Sk := ⟨[.lf (.pv .bool)], [], []⟩
abbrev fctf_PhaseR := Bool
noncomputable def fctf_PhaseE (k : Nat) : List (Nat × List Sig) := [(179, [sgixf_Phase k])]
noncomputable def fctf_Phase (k : Nat) : FnX (Bool) := mkX { P := Tryz.prog, env := lookS (fctf_PhaseE k), n := 57, npB := 0, npO := 0, hint := fun i => look none [] i, pops := [], bl := [54, 56] } k Tryz.f122 fctf_Phaseo
noncomputable def cctf_Phase (k : Nat) : (List (YT3)) → Option (Bool) := fnOf (fctf_Phase k).C k Tryz.f122 fctf_Phasei fctf_Phaseo
noncomputable def sgctf_Phase (k : Nat) : Sig := ⟨fctf_Phasei, fctf_Phaseo, mkFun fctf_Phasei.tys fctf_Phaseo.tys (cctf_Phase k)⟩
noncomputable def fctf_Phase_t (k : Nat) (J : JF (Bool)) (L : LF (Bool)) : List (YT3) → Option (Bool)
  | a0 => ((cixf_Phase k) (a0)).bind fun o1 => some (decide (o1 ≥ (0 : Int)))
theorem fctf_Phase_e (k : Nat) (x : List (YT3)) : cctf_Phase k x = fctf_Phase_t k (fctf_Phase k).J (fctf_Phase k).L x := by
  apply cutX (fctf_Phase k) [] [] (st0 (fctf_Phase k).C Tryz.f122 fctf_Phasei x) [] [] (fctf_Phase_t k · · x) <;> intros <;> kernel_rfl
theorem cctf_Phase_ok (k : Nat) : SigOK Tryz.prog 122 (sgctf_Phase k) :=
  fn_ok (C := (fctf_Phase k).C) (l := fctf_PhaseE k) rfl ⟨⟨cixf_Phase_ok k, trivial⟩, trivial⟩ (by kernel_rfl) k (fn := Tryz.f122) (by kernel_rfl) (by kernel_rfl) (by kernel_rfl) fctf_Phasei fctf_Phaseo rfl rfl (show 0 ≤ 48 by decide) (show 0 ≤ 48 by decide)

/-! carrefour/show.bad[carrefour/api.Phase] -/
def fshowbad_Phasei : Sk := ⟨[.lf (.pv (.slice yt3)), .lf (.pv (.int .i64)), .lf (.fn 70 [] [])], [], []⟩
def fshowbad_Phaseo : Sk := ⟨[.lf (.pv .bool)], [], []⟩
abbrev fshowbad_PhaseT := (List (YT3)) × (Int)
abbrev fshowbad_PhaseR := Bool
noncomputable def fshowbad_PhaseE (k : Nat) : List (Nat × List Sig) := [(122, [sgctf_Phase k])]
noncomputable def fshowbad_Phase (k : Nat) : FnX (Bool) := mkX { P := Tryz.prog, env := lookS (fshowbad_PhaseE k), n := 64, npB := 0, npO := 0, hint := fun i => look none [] i, pops := [], bl := [54, 56] } k Tryz.f69 fshowbad_Phaseo
noncomputable def cshowbad_Phase (k : Nat) : fshowbad_PhaseT → Option (Bool) := fnOf (fshowbad_Phase k).C k Tryz.f69 fshowbad_Phasei fshowbad_Phaseo
noncomputable def sgshowbad_Phase (k : Nat) : Sig := ⟨fshowbad_Phasei, fshowbad_Phaseo, mkFun fshowbad_Phasei.tys fshowbad_Phaseo.tys (cshowbad_Phase k)⟩
noncomputable def fshowbad_Phase_t (k : Nat) (J : JF (Bool)) (L : LF (Bool)) : fshowbad_PhaseT → Option (Bool)
  | (a0, a1) => bif (decide (((List.length a0 : Nat) : Int) > a1)) then (some true) else (((cctf_Phase k) (a0)).bind fun o1 => some o1)
theorem fshowbad_Phase_e (k : Nat) (x : fshowbad_PhaseT) : cshowbad_Phase k x = fshowbad_Phase_t k (fshowbad_Phase k).J (fshowbad_Phase k).L x := by
  apply cutX (fshowbad_Phase k) [] [] (st0 (fshowbad_Phase k).C Tryz.f69 fshowbad_Phasei x) [] [] (fshowbad_Phase_t k · · x) <;> intros <;> kernel_rfl
theorem cshowbad_Phase_ok (k : Nat) : SigOK Tryz.prog 69 (sgshowbad_Phase k) :=
  fn_ok (C := (fshowbad_Phase k).C) (l := fshowbad_PhaseE k) rfl ⟨⟨cctf_Phase_ok k, trivial⟩, trivial⟩ (by kernel_rfl) k (fn := Tryz.f69) (by kernel_rfl) (by kernel_rfl) (by kernel_rfl) fshowbad_Phasei fshowbad_Phaseo rfl rfl (show 0 ≤ 48 by decide) (show 0 ≤ 48 by decide)

/-! carrefour/show.badRing -/
def fshowbadRingi : Sk := ⟨[.agg [.pv .bool, .pv (.slice .str)]], [], []⟩
def fshowbadRingo : Sk := ⟨[.lf (.pv .bool)], [], []⟩
abbrev fshowbadRingT := (Bool) × (List (List Int))
abbrev fshowbadRingR := Bool
noncomputable def fshowbadRingE (k : Nat) : List (Nat × List Sig) := [(123, [sgshowrow k])]
noncomputable def fshowbadRing (k : Nat) : FnX (Bool) := mkX { P := Tryz.prog, env := lookS (fshowbadRingE k), n := 55, npB := 0, npO := 0, hint := fun i => look none [] i, pops := [], bl := [54, 56] } k Tryz.f126 fshowbadRingo
noncomputable def cshowbadRing (k : Nat) : fshowbadRingT → Option (Bool) := fnOf (fshowbadRing k).C k Tryz.f126 fshowbadRingi fshowbadRingo
noncomputable def sgshowbadRing (k : Nat) : Sig := ⟨fshowbadRingi, fshowbadRingo, mkFun fshowbadRingi.tys fshowbadRingo.tys (cshowbadRing k)⟩
noncomputable def fshowbadRing_t (k : Nat) (J : JF (Bool)) (L : LF (Bool)) : fshowbadRingT → Option (Bool)
  | (a0, a1) => ((cshowrow k) (a1, (4 : Int))).bind fun o1 => some (!o1)
theorem fshowbadRing_e (k : Nat) (x : fshowbadRingT) : cshowbadRing k x = fshowbadRing_t k (fshowbadRing k).J (fshowbadRing k).L x := by
  apply cutX (fshowbadRing k) [] [] (st0 (fshowbadRing k).C Tryz.f126 fshowbadRingi x) [] [] (fshowbadRing_t k · · x) <;> intros <;> kernel_rfl
theorem cshowbadRing_ok (k : Nat) : SigOK Tryz.prog 126 (sgshowbadRing k) :=
  fn_ok (C := (fshowbadRing k).C) (l := fshowbadRingE k) rfl ⟨⟨cshowrow_ok k, trivial⟩, trivial⟩ (by kernel_rfl) k (fn := Tryz.f126) (by kernel_rfl) (by kernel_rfl) (by kernel_rfl) fshowbadRingi fshowbadRingo rfl rfl (show 0 ≤ 48 by decide) (show 0 ≤ 48 by decide)

/-! slices.IndexFunc[[]carrefour/api.Row,carrefour/api.Row] -/
def fixf_Rowi : Sk := ⟨[.lf (.pv (.slice yt4)), .lf (.fn 126 [] [])], [], []⟩
def fixf_Rowo : Sk := ⟨[.lf (.pv (.int .i64))], [], []⟩
def fixf_Row_k2 : Sk := ⟨sparse 19 [(0, .lf (.pv (.slice yt4))), (1, .lf (.fn 126 [] [])), (7, .lf (.pv (.int .i64))), (8, .lf (.pv (.int .i64)))], [], []⟩
abbrev fixf_Row_T2 := (List (YT4)) × (Int) × (Int)
def fixf_Row_s2 : fixf_Row_T2 → St := stOf fixf_Row_k2 67
abbrev fixf_RowR := Int
noncomputable def fixf_RowE (k : Nat) : List (Nat × List Sig) := [(126, [sgshowbadRing k])]
noncomputable def fixf_Row (k : Nat) : FnX (Int) := mkX { P := Tryz.prog, env := lookS (fixf_RowE k), n := 67, npB := 0, npO := 0, hint := fun i => look none [(2, some fixf_Row_k2)] i, pops := [], bl := [54, 56] } k Tryz.f181 fixf_Rowo
noncomputable def cixf_Row (k : Nat) : (List (YT4)) → Option (Int) := fnOf (fixf_Row k).C k Tryz.f181 fixf_Rowi fixf_Rowo
noncomputable def sgixf_Row (k : Nat) : Sig := ⟨fixf_Rowi, fixf_Rowo, mkFun fixf_Rowi.tys fixf_Rowo.tys (cixf_Row k)⟩
noncomputable def fixf_Row_t (k : Nat) (J : JF (Int)) (L : LF (Int)) : List (YT4) → Option (Int)
  | a0 => L 2 [] k (fixf_Row_s2 (a0, ((List.length a0 : Nat) : Int), (0 : Int)))
theorem fixf_Row_e (k : Nat) (x : List (YT4)) : cixf_Row k x = fixf_Row_t k (fixf_Row k).J (fixf_Row k).L x := by
  apply cutX (fixf_Row k) [] [] (st0 (fixf_Row k).C Tryz.f181 fixf_Rowi x) [] [(2, [], k)] (fixf_Row_t k · · x) <;> intros <;> kernel_rfl
noncomputable def fixf_Row_tl2 (k j2 : Nat) (J : JF (Int)) (L : LF (Int)) : fixf_Row_T2 → Option (Int)
  | (a0, a1, a2) => bif (decide (a2 < a1)) then (idx zt4 a0 a2 fun o1 => ((cshowbadRing k) (o1.1, o1.2.1)).bind fun o2 => bif o2 then (some a2) else (L 2 [] j2 (fixf_Row_s2 (a0, a1, (IntKind.wrap .i64 (a2 + (1 : Int))))))) else (some (-1 : Int))
theorem fixf_Row_el2 (k j2 : Nat) (x : fixf_Row_T2) : (fixf_Row k).L 2 [] (j2 + 1) (fixf_Row_s2 x) = fixf_Row_tl2 k j2 (fixf_Row k).J (fixf_Row k).L x := by
  apply cutX (fixf_Row k) [.r, .l, .r, .b, .b] [j2] (fixf_Row_s2 x) [] [(2, [], j2)] (fixf_Row_tl2 k j2 · · x) <;> intros <;> kernel_rfl
theorem cixf_Row_ok (k : Nat) : SigOK Tryz.prog 181 (sgixf_Row k) :=
  fn_ok (C := (fixf_Row k).C) (l := fixf_RowE k) rfl ⟨⟨cshowbadRing_ok k, trivial⟩, trivial⟩ (by kernel_rfl) k (fn := Tryz.f181) (by kernel_rfl) (by kernel_rfl) (by kernel_rfl) fixf_Rowi fixf_Rowo rfl rfl (show 0 ≤ 48 by decide) (show 0 ≤ 48 by decide)

/-! slices.ContainsFunc[[]carrefour/api.Row,carrefour/api.Row] -/
def fctf_Rowi : Sk := ⟨[.lf (.pv (.slice yt4)), .lf (.fn 126 [] [])], [], []⟩
def fctf_Rowo : Sk := ⟨[.lf (.pv .bool)], [], []⟩
abbrev fctf_RowR := Bool
noncomputable def fctf_RowE (k : Nat) : List (Nat × List Sig) := [(181, [sgixf_Row k])]
noncomputable def fctf_Row (k : Nat) : FnX (Bool) := mkX { P := Tryz.prog, env := lookS (fctf_RowE k), n := 57, npB := 0, npO := 0, hint := fun i => look none [] i, pops := [], bl := [54, 56] } k Tryz.f125 fctf_Rowo
noncomputable def cctf_Row (k : Nat) : (List (YT4)) → Option (Bool) := fnOf (fctf_Row k).C k Tryz.f125 fctf_Rowi fctf_Rowo
noncomputable def sgctf_Row (k : Nat) : Sig := ⟨fctf_Rowi, fctf_Rowo, mkFun fctf_Rowi.tys fctf_Rowo.tys (cctf_Row k)⟩
noncomputable def fctf_Row_t (k : Nat) (J : JF (Bool)) (L : LF (Bool)) : List (YT4) → Option (Bool)
  | a0 => ((cixf_Row k) (a0)).bind fun o1 => some (decide (o1 ≥ (0 : Int)))
theorem fctf_Row_e (k : Nat) (x : List (YT4)) : cctf_Row k x = fctf_Row_t k (fctf_Row k).J (fctf_Row k).L x := by
  apply cutX (fctf_Row k) [] [] (st0 (fctf_Row k).C Tryz.f125 fctf_Rowi x) [] [] (fctf_Row_t k · · x) <;> intros <;> kernel_rfl
theorem cctf_Row_ok (k : Nat) : SigOK Tryz.prog 125 (sgctf_Row k) :=
  fn_ok (C := (fctf_Row k).C) (l := fctf_RowE k) rfl ⟨⟨cixf_Row_ok k, trivial⟩, trivial⟩ (by kernel_rfl) k (fn := Tryz.f125) (by kernel_rfl) (by kernel_rfl) (by kernel_rfl) fctf_Rowi fctf_Rowo rfl rfl (show 0 ≤ 48 by decide) (show 0 ≤ 48 by decide)

/-! carrefour/show.badGroup -/
def fshowbadGroupi : Sk := ⟨[.agg [.pv (.slice yt4)]], [], []⟩
def fshowbadGroupo : Sk := ⟨[.lf (.pv .bool)], [], []⟩
abbrev fshowbadGroupR := Bool
noncomputable def fshowbadGroupE (k : Nat) : List (Nat × List Sig) := [(125, [sgctf_Row k])]
noncomputable def fshowbadGroup (k : Nat) : FnX (Bool) := mkX { P := Tryz.prog, env := lookS (fshowbadGroupE k), n := 66, npB := 0, npO := 0, hint := fun i => look none [] i, pops := [], bl := [54, 56] } k Tryz.f72 fshowbadGroupo
noncomputable def cshowbadGroup (k : Nat) : (List (YT4)) → Option (Bool) := fnOf (fshowbadGroup k).C k Tryz.f72 fshowbadGroupi fshowbadGroupo
noncomputable def sgshowbadGroup (k : Nat) : Sig := ⟨fshowbadGroupi, fshowbadGroupo, mkFun fshowbadGroupi.tys fshowbadGroupo.tys (cshowbadGroup k)⟩
noncomputable def fshowbadGroup_t (k : Nat) (J : JF (Bool)) (L : LF (Bool)) : List (YT4) → Option (Bool)
  | a0 => bif (decide (((List.length a0 : Nat) : Int) < (1 : Int))) then (some true) else (bif (decide (((List.length a0 : Nat) : Int) > (2 : Int))) then (some true) else (((cctf_Row k) (a0)).bind fun o1 => some o1))
theorem fshowbadGroup_e (k : Nat) (x : List (YT4)) : cshowbadGroup k x = fshowbadGroup_t k (fshowbadGroup k).J (fshowbadGroup k).L x := by
  apply cutX (fshowbadGroup k) [] [] (st0 (fshowbadGroup k).C Tryz.f72 fshowbadGroupi x) [] [] (fshowbadGroup_t k · · x) <;> intros <;> kernel_rfl
theorem cshowbadGroup_ok (k : Nat) : SigOK Tryz.prog 72 (sgshowbadGroup k) :=
  fn_ok (C := (fshowbadGroup k).C) (l := fshowbadGroupE k) rfl ⟨⟨cctf_Row_ok k, trivial⟩, trivial⟩ (by kernel_rfl) k (fn := Tryz.f72) (by kernel_rfl) (by kernel_rfl) (by kernel_rfl) fshowbadGroupi fshowbadGroupo rfl rfl (show 0 ≤ 48 by decide) (show 0 ≤ 48 by decide)

/-! slices.IndexFunc[[]carrefour/api.Group,carrefour/api.Group] -/
def fixf_Groupi : Sk := ⟨[.lf (.pv (.slice (.cons (.slice yt4) .nil))), .lf (.fn 72 [] [])], [], []⟩
def fixf_Groupo : Sk := ⟨[.lf (.pv (.int .i64))], [], []⟩
def fixf_Group_k2 : Sk := ⟨sparse 19 [(0, .lf (.pv (.slice (.cons (.slice yt4) .nil)))), (1, .lf (.fn 72 [] [])), (7, .lf (.pv (.int .i64))), (8, .lf (.pv (.int .i64)))], [], []⟩
abbrev fixf_Group_T2 := (List ((List (YT4)) × (Unit))) × (Int) × (Int)
def fixf_Group_s2 : fixf_Group_T2 → St := stOf fixf_Group_k2 67
abbrev fixf_GroupR := Int
noncomputable def fixf_GroupE (k : Nat) : List (Nat × List Sig) := [(72, [sgshowbadGroup k])]
noncomputable def fixf_Group (k : Nat) : FnX (Int) := mkX { P := Tryz.prog, env := lookS (fixf_GroupE k), n := 67, npB := 0, npO := 0, hint := fun i => look none [(2, some fixf_Group_k2)] i, pops := [], bl := [54, 56] } k Tryz.f180 fixf_Groupo
noncomputable def cixf_Group (k : Nat) : (List ((List (YT4)) × (Unit))) → Option (Int) := fnOf (fixf_Group k).C k Tryz.f180 fixf_Groupi fixf_Groupo
noncomputable def sgixf_Group (k : Nat) : Sig := ⟨fixf_Groupi, fixf_Groupo, mkFun fixf_Groupi.tys fixf_Groupo.tys (cixf_Group k)⟩
noncomputable def fixf_Group_t (k : Nat) (J : JF (Int)) (L : LF (Int)) : List ((List (YT4)) × (Unit)) → Option (Int)
  | a0 => L 2 [] k (fixf_Group_s2 (a0, ((List.length a0 : Nat) : Int), (0 : Int)))
theorem fixf_Group_e (k : Nat) (x : List ((List (YT4)) × (Unit))) : cixf_Group k x = fixf_Group_t k (fixf_Group k).J (fixf_Group k).L x := by
  apply cutX (fixf_Group k) [] [] (st0 (fixf_Group k).C Tryz.f180 fixf_Groupi x) [] [(2, [], k)] (fixf_Group_t k · · x) <;> intros <;> kernel_rfl
noncomputable def fixf_Group_tl2 (k j2 : Nat) (J : JF (Int)) (L : LF (Int)) : fixf_Group_T2 → Option (Int)
  | (a0, a1, a2) => bif (decide (a2 < a1)) then (idx ([], ()) a0 a2 fun o1 => ((cshowbadGroup k) (o1.1)).bind fun o2 => bif o2 then (some a2) else (L 2 [] j2 (fixf_Group_s2 (a0, a1, (IntKind.wrap .i64 (a2 + (1 : Int))))))) else (some (-1 : Int))
theorem fixf_Group_el2 (k j2 : Nat) (x : fixf_Group_T2) : (fixf_Group k).L 2 [] (j2 + 1) (fixf_Group_s2 x) = fixf_Group_tl2 k j2 (fixf_Group k).J (fixf_Group k).L x := by
  apply cutX (fixf_Group k) [.r, .l, .r, .b, .b] [j2] (fixf_Group_s2 x) [] [(2, [], j2)] (fixf_Group_tl2 k j2 · · x) <;> intros <;> kernel_rfl
theorem cixf_Group_ok (k : Nat) : SigOK Tryz.prog 180 (sgixf_Group k) :=
  fn_ok (C := (fixf_Group k).C) (l := fixf_GroupE k) rfl ⟨⟨cshowbadGroup_ok k, trivial⟩, trivial⟩ (by kernel_rfl) k (fn := Tryz.f180) (by kernel_rfl) (by kernel_rfl) (by kernel_rfl) fixf_Groupi fixf_Groupo rfl rfl (show 0 ≤ 48 by decide) (show 0 ≤ 48 by decide)

/-! slices.ContainsFunc[[]carrefour/api.Group,carrefour/api.Group] -/
def fctf_Groupi : Sk := ⟨[.lf (.pv (.slice (.cons (.slice yt4) .nil))), .lf (.fn 72 [] [])], [], []⟩
def fctf_Groupo : Sk := ⟨[.lf (.pv .bool)], [], []⟩
abbrev fctf_GroupR := Bool
noncomputable def fctf_GroupE (k : Nat) : List (Nat × List Sig) := [(180, [sgixf_Group k])]
noncomputable def fctf_Group (k : Nat) : FnX (Bool) := mkX { P := Tryz.prog, env := lookS (fctf_GroupE k), n := 57, npB := 0, npO := 0, hint := fun i => look none [] i, pops := [], bl := [54, 56] } k Tryz.f124 fctf_Groupo
noncomputable def cctf_Group (k : Nat) : (List ((List (YT4)) × (Unit))) → Option (Bool) := fnOf (fctf_Group k).C k Tryz.f124 fctf_Groupi fctf_Groupo
noncomputable def sgctf_Group (k : Nat) : Sig := ⟨fctf_Groupi, fctf_Groupo, mkFun fctf_Groupi.tys fctf_Groupo.tys (cctf_Group k)⟩
noncomputable def fctf_Group_t (k : Nat) (J : JF (Bool)) (L : LF (Bool)) : List ((List (YT4)) × (Unit)) → Option (Bool)
  | a0 => ((cixf_Group k) (a0)).bind fun o1 => some (decide (o1 ≥ (0 : Int)))
theorem fctf_Group_e (k : Nat) (x : List ((List (YT4)) × (Unit))) : cctf_Group k x = fctf_Group_t k (fctf_Group k).J (fctf_Group k).L x := by
  apply cutX (fctf_Group k) [] [] (st0 (fctf_Group k).C Tryz.f124 fctf_Groupi x) [] [] (fctf_Group_t k · · x) <;> intros <;> kernel_rfl
theorem cctf_Group_ok (k : Nat) : SigOK Tryz.prog 124 (sgctf_Group k) :=
  fn_ok (C := (fctf_Group k).C) (l := fctf_GroupE k) rfl ⟨⟨cixf_Group_ok k, trivial⟩, trivial⟩ (by kernel_rfl) k (fn := Tryz.f124) (by kernel_rfl) (by kernel_rfl) (by kernel_rfl) fctf_Groupi fctf_Groupo rfl rfl (show 0 ≤ 48 by decide) (show 0 ≤ 48 by decide)

/-! carrefour/show.bad[carrefour/api.Group] -/
def fshowbad_Groupi : Sk := ⟨[.lf (.pv (.slice (.cons (.slice yt4) .nil))), .lf (.pv (.int .i64)), .lf (.fn 72 [] [])], [], []⟩
def fshowbad_Groupo : Sk := ⟨[.lf (.pv .bool)], [], []⟩
abbrev fshowbad_GroupT := (List ((List (YT4)) × (Unit))) × (Int)
abbrev fshowbad_GroupR := Bool
noncomputable def fshowbad_GroupE (k : Nat) : List (Nat × List Sig) := [(124, [sgctf_Group k])]
noncomputable def fshowbad_Group (k : Nat) : FnX (Bool) := mkX { P := Tryz.prog, env := lookS (fshowbad_GroupE k), n := 64, npB := 0, npO := 0, hint := fun i => look none [] i, pops := [], bl := [54, 56] } k Tryz.f71 fshowbad_Groupo
noncomputable def cshowbad_Group (k : Nat) : fshowbad_GroupT → Option (Bool) := fnOf (fshowbad_Group k).C k Tryz.f71 fshowbad_Groupi fshowbad_Groupo
noncomputable def sgshowbad_Group (k : Nat) : Sig := ⟨fshowbad_Groupi, fshowbad_Groupo, mkFun fshowbad_Groupi.tys fshowbad_Groupo.tys (cshowbad_Group k)⟩
noncomputable def fshowbad_Group_t (k : Nat) (J : JF (Bool)) (L : LF (Bool)) : fshowbad_GroupT → Option (Bool)
  | (a0, a1) => bif (decide (((List.length a0 : Nat) : Int) > a1)) then (some true) else (((cctf_Group k) (a0)).bind fun o1 => some o1)
theorem fshowbad_Group_e (k : Nat) (x : fshowbad_GroupT) : cshowbad_Group k x = fshowbad_Group_t k (fshowbad_Group k).J (fshowbad_Group k).L x := by
  apply cutX (fshowbad_Group k) [] [] (st0 (fshowbad_Group k).C Tryz.f71 fshowbad_Groupi x) [] [] (fshowbad_Group_t k · · x) <;> intros <;> kernel_rfl
theorem cshowbad_Group_ok (k : Nat) : SigOK Tryz.prog 71 (sgshowbad_Group k) :=
  fn_ok (C := (fshowbad_Group k).C) (l := fshowbad_GroupE k) rfl ⟨⟨cctf_Group_ok k, trivial⟩, trivial⟩ (by kernel_rfl) k (fn := Tryz.f71) (by kernel_rfl) (by kernel_rfl) (by kernel_rfl) fshowbad_Groupi fshowbad_Groupo rfl rfl (show 0 ≤ 48 by decide) (show 0 ≤ 48 by decide)

/-! carrefour/show.badFoe -/
def fshowbadFoei : Sk := ⟨[.agg [.pv .str, .pv .str, .pv (.int .i64)]], [], []⟩
def fshowbadFoeo : Sk := ⟨[.lf (.pv .bool)], [], []⟩
abbrev fshowbadFoeT := (List Int) × (List Int) × (Int)
abbrev fshowbadFoeR := Bool
noncomputable def fshowbadFoeE (k : Nat) : List (Nat × List Sig) := [(64, [sgshownames k])]
noncomputable def fshowbadFoe (k : Nat) : FnX (Bool) := mkX { P := Tryz.prog, env := lookS (fshowbadFoeE k), n := 58, npB := 0, npO := 0, hint := fun i => look none [] i, pops := [], bl := [54, 56] } k Tryz.f74 fshowbadFoeo
noncomputable def cshowbadFoe (k : Nat) : fshowbadFoeT → Option (Bool) := fnOf (fshowbadFoe k).C k Tryz.f74 fshowbadFoei fshowbadFoeo
noncomputable def sgshowbadFoe (k : Nat) : Sig := ⟨fshowbadFoei, fshowbadFoeo, mkFun fshowbadFoei.tys fshowbadFoeo.tys (cshowbadFoe k)⟩
noncomputable def fshowbadFoe_t (k : Nat) (J : JF (Bool)) (L : LF (Bool)) : fshowbadFoeT → Option (Bool)
  | (a0, a1, a2) => ((cshownames k) (([a0, a1] : List (List Int)))).bind fun o1 => some (!o1)
theorem fshowbadFoe_e (k : Nat) (x : fshowbadFoeT) : cshowbadFoe k x = fshowbadFoe_t k (fshowbadFoe k).J (fshowbadFoe k).L x := by
  apply cutX (fshowbadFoe k) [] [] (st0 (fshowbadFoe k).C Tryz.f74 fshowbadFoei x) [] [] (fshowbadFoe_t k · · x) <;> intros <;> kernel_rfl
theorem cshowbadFoe_ok (k : Nat) : SigOK Tryz.prog 74 (sgshowbadFoe k) :=
  fn_ok (C := (fshowbadFoe k).C) (l := fshowbadFoeE k) rfl ⟨⟨cshownames_ok k, trivial⟩, trivial⟩ (by kernel_rfl) k (fn := Tryz.f74) (by kernel_rfl) (by kernel_rfl) (by kernel_rfl) fshowbadFoei fshowbadFoeo rfl rfl (show 0 ≤ 48 by decide) (show 0 ≤ 48 by decide)

/-! slices.IndexFunc[[]carrefour/api.Foe,carrefour/api.Foe] -/
def fixf_Foei : Sk := ⟨[.lf (.pv (.slice yt5)), .lf (.fn 74 [] [])], [], []⟩
def fixf_Foeo : Sk := ⟨[.lf (.pv (.int .i64))], [], []⟩
def fixf_Foe_k2 : Sk := ⟨sparse 19 [(0, .lf (.pv (.slice yt5))), (1, .lf (.fn 74 [] [])), (7, .lf (.pv (.int .i64))), (8, .lf (.pv (.int .i64)))], [], []⟩
abbrev fixf_Foe_T2 := (List (YT5)) × (Int) × (Int)
def fixf_Foe_s2 : fixf_Foe_T2 → St := stOf fixf_Foe_k2 67
abbrev fixf_FoeR := Int
noncomputable def fixf_FoeE (k : Nat) : List (Nat × List Sig) := [(74, [sgshowbadFoe k])]
noncomputable def fixf_Foe (k : Nat) : FnX (Int) := mkX { P := Tryz.prog, env := lookS (fixf_FoeE k), n := 67, npB := 0, npO := 0, hint := fun i => look none [(2, some fixf_Foe_k2)] i, pops := [], bl := [54, 56] } k Tryz.f182 fixf_Foeo
noncomputable def cixf_Foe (k : Nat) : (List (YT5)) → Option (Int) := fnOf (fixf_Foe k).C k Tryz.f182 fixf_Foei fixf_Foeo
noncomputable def sgixf_Foe (k : Nat) : Sig := ⟨fixf_Foei, fixf_Foeo, mkFun fixf_Foei.tys fixf_Foeo.tys (cixf_Foe k)⟩
noncomputable def fixf_Foe_t (k : Nat) (J : JF (Int)) (L : LF (Int)) : List (YT5) → Option (Int)
  | a0 => L 2 [] k (fixf_Foe_s2 (a0, ((List.length a0 : Nat) : Int), (0 : Int)))
theorem fixf_Foe_e (k : Nat) (x : List (YT5)) : cixf_Foe k x = fixf_Foe_t k (fixf_Foe k).J (fixf_Foe k).L x := by
  apply cutX (fixf_Foe k) [] [] (st0 (fixf_Foe k).C Tryz.f182 fixf_Foei x) [] [(2, [], k)] (fixf_Foe_t k · · x) <;> intros <;> kernel_rfl
noncomputable def fixf_Foe_tl2 (k j2 : Nat) (J : JF (Int)) (L : LF (Int)) : fixf_Foe_T2 → Option (Int)
  | (a0, a1, a2) => bif (decide (a2 < a1)) then (idx zt5 a0 a2 fun o1 => ((cshowbadFoe k) (o1.1, o1.2.1, o1.2.2.1)).bind fun o2 => bif o2 then (some a2) else (L 2 [] j2 (fixf_Foe_s2 (a0, a1, (IntKind.wrap .i64 (a2 + (1 : Int))))))) else (some (-1 : Int))
theorem fixf_Foe_el2 (k j2 : Nat) (x : fixf_Foe_T2) : (fixf_Foe k).L 2 [] (j2 + 1) (fixf_Foe_s2 x) = fixf_Foe_tl2 k j2 (fixf_Foe k).J (fixf_Foe k).L x := by
  apply cutX (fixf_Foe k) [.r, .l, .r, .b, .b] [j2] (fixf_Foe_s2 x) [] [(2, [], j2)] (fixf_Foe_tl2 k j2 · · x) <;> intros <;> kernel_rfl
theorem cixf_Foe_ok (k : Nat) : SigOK Tryz.prog 182 (sgixf_Foe k) :=
  fn_ok (C := (fixf_Foe k).C) (l := fixf_FoeE k) rfl ⟨⟨cshowbadFoe_ok k, trivial⟩, trivial⟩ (by kernel_rfl) k (fn := Tryz.f182) (by kernel_rfl) (by kernel_rfl) (by kernel_rfl) fixf_Foei fixf_Foeo rfl rfl (show 0 ≤ 48 by decide) (show 0 ≤ 48 by decide)

/-! slices.ContainsFunc[[]carrefour/api.Foe,carrefour/api.Foe] -/
def fctf_Foei : Sk := ⟨[.lf (.pv (.slice yt5)), .lf (.fn 74 [] [])], [], []⟩
def fctf_Foeo : Sk := ⟨[.lf (.pv .bool)], [], []⟩
abbrev fctf_FoeR := Bool
noncomputable def fctf_FoeE (k : Nat) : List (Nat × List Sig) := [(182, [sgixf_Foe k])]
noncomputable def fctf_Foe (k : Nat) : FnX (Bool) := mkX { P := Tryz.prog, env := lookS (fctf_FoeE k), n := 57, npB := 0, npO := 0, hint := fun i => look none [] i, pops := [], bl := [54, 56] } k Tryz.f127 fctf_Foeo
noncomputable def cctf_Foe (k : Nat) : (List (YT5)) → Option (Bool) := fnOf (fctf_Foe k).C k Tryz.f127 fctf_Foei fctf_Foeo
noncomputable def sgctf_Foe (k : Nat) : Sig := ⟨fctf_Foei, fctf_Foeo, mkFun fctf_Foei.tys fctf_Foeo.tys (cctf_Foe k)⟩
noncomputable def fctf_Foe_t (k : Nat) (J : JF (Bool)) (L : LF (Bool)) : List (YT5) → Option (Bool)
  | a0 => ((cixf_Foe k) (a0)).bind fun o1 => some (decide (o1 ≥ (0 : Int)))
theorem fctf_Foe_e (k : Nat) (x : List (YT5)) : cctf_Foe k x = fctf_Foe_t k (fctf_Foe k).J (fctf_Foe k).L x := by
  apply cutX (fctf_Foe k) [] [] (st0 (fctf_Foe k).C Tryz.f127 fctf_Foei x) [] [] (fctf_Foe_t k · · x) <;> intros <;> kernel_rfl
theorem cctf_Foe_ok (k : Nat) : SigOK Tryz.prog 127 (sgctf_Foe k) :=
  fn_ok (C := (fctf_Foe k).C) (l := fctf_FoeE k) rfl ⟨⟨cixf_Foe_ok k, trivial⟩, trivial⟩ (by kernel_rfl) k (fn := Tryz.f127) (by kernel_rfl) (by kernel_rfl) (by kernel_rfl) fctf_Foei fctf_Foeo rfl rfl (show 0 ≤ 48 by decide) (show 0 ≤ 48 by decide)

/-! carrefour/show.bad[carrefour/api.Foe] -/
def fshowbad_Foei : Sk := ⟨[.lf (.pv (.slice yt5)), .lf (.pv (.int .i64)), .lf (.fn 74 [] [])], [], []⟩
def fshowbad_Foeo : Sk := ⟨[.lf (.pv .bool)], [], []⟩
abbrev fshowbad_FoeT := (List (YT5)) × (Int)
abbrev fshowbad_FoeR := Bool
noncomputable def fshowbad_FoeE (k : Nat) : List (Nat × List Sig) := [(127, [sgctf_Foe k])]
noncomputable def fshowbad_Foe (k : Nat) : FnX (Bool) := mkX { P := Tryz.prog, env := lookS (fshowbad_FoeE k), n := 64, npB := 0, npO := 0, hint := fun i => look none [] i, pops := [], bl := [54, 56] } k Tryz.f73 fshowbad_Foeo
noncomputable def cshowbad_Foe (k : Nat) : fshowbad_FoeT → Option (Bool) := fnOf (fshowbad_Foe k).C k Tryz.f73 fshowbad_Foei fshowbad_Foeo
noncomputable def sgshowbad_Foe (k : Nat) : Sig := ⟨fshowbad_Foei, fshowbad_Foeo, mkFun fshowbad_Foei.tys fshowbad_Foeo.tys (cshowbad_Foe k)⟩
noncomputable def fshowbad_Foe_t (k : Nat) (J : JF (Bool)) (L : LF (Bool)) : fshowbad_FoeT → Option (Bool)
  | (a0, a1) => bif (decide (((List.length a0 : Nat) : Int) > a1)) then (some true) else (((cctf_Foe k) (a0)).bind fun o1 => some o1)
theorem fshowbad_Foe_e (k : Nat) (x : fshowbad_FoeT) : cshowbad_Foe k x = fshowbad_Foe_t k (fshowbad_Foe k).J (fshowbad_Foe k).L x := by
  apply cutX (fshowbad_Foe k) [] [] (st0 (fshowbad_Foe k).C Tryz.f73 fshowbad_Foei x) [] [] (fshowbad_Foe_t k · · x) <;> intros <;> kernel_rfl
theorem cshowbad_Foe_ok (k : Nat) : SigOK Tryz.prog 73 (sgshowbad_Foe k) :=
  fn_ok (C := (fshowbad_Foe k).C) (l := fshowbad_FoeE k) rfl ⟨⟨cctf_Foe_ok k, trivial⟩, trivial⟩ (by kernel_rfl) k (fn := Tryz.f73) (by kernel_rfl) (by kernel_rfl) (by kernel_rfl) fshowbad_Foei fshowbad_Foeo rfl rfl (show 0 ≤ 48 by decide) (show 0 ≤ 48 by decide)

/-! carrefour/show.badNode -/
def fshowbadNodei : Sk := ⟨[.agg [.pv .str, .pv (.slice yt1), .pv (.slice yt2), .pv (.slice yt3), .pv (.slice (.cons (.slice yt4) .nil)), .pv (.slice yt5), .pv (.int .i64)]], [], []⟩
def fshowbadNodeo : Sk := ⟨[.lf (.pv .bool)], [], []⟩
abbrev fshowbadNodeT := (List Int) × (List (YT1)) × (List (YT2)) × (List (YT3)) × (List ((List (YT4)) × (Unit))) × (List (YT5)) × (Int)
abbrev fshowbadNodeR := Bool
noncomputable def fshowbadNodeE (k : Nat) : List (Nat × List Sig) := [(64, [sgshownames k]), (65, [sgshowbad_Head k]), (67, [sgshowbad_Ped k]), (69, [sgshowbad_Phase k]), (71, [sgshowbad_Group k]), (73, [sgshowbad_Foe k])]
noncomputable def fshowbadNode (k : Nat) : FnX (Bool) := mkX { P := Tryz.prog, env := lookS (fshowbadNodeE k), n := 81, npB := 0, npO := 0, hint := fun i => look none [] i, pops := [], bl := [54, 56] } k Tryz.f31 fshowbadNodeo
noncomputable def cshowbadNode (k : Nat) : fshowbadNodeT → Option (Bool) := fnOf (fshowbadNode k).C k Tryz.f31 fshowbadNodei fshowbadNodeo
noncomputable def sgshowbadNode (k : Nat) : Sig := ⟨fshowbadNodei, fshowbadNodeo, mkFun fshowbadNodei.tys fshowbadNodeo.tys (cshowbadNode k)⟩
noncomputable def fshowbadNode_t (k : Nat) (J : JF (Bool)) (L : LF (Bool)) : fshowbadNodeT → Option (Bool)
  | (a0, a1, a2, a3, a4, a5, a6) => ((cshownames k) (([a0] : List (List Int)))).bind fun o1 => bif (!o1) then (some true) else (((cshowbad_Head k) (a1, (16 : Int))).bind fun o2 => bif o2 then (some true) else (((cshowbad_Ped k) (a2, (8 : Int))).bind fun o3 => bif o3 then (some true) else (((cshowbad_Phase k) (a3, (16 : Int))).bind fun o4 => bif o4 then (some true) else (((cshowbad_Group k) (a4, (4 : Int))).bind fun o5 => bif o5 then (some true) else (((cshowbad_Foe k) (a5, (64 : Int))).bind fun o6 => some o6)))))
theorem fshowbadNode_e (k : Nat) (x : fshowbadNodeT) : cshowbadNode k x = fshowbadNode_t k (fshowbadNode k).J (fshowbadNode k).L x := by
  apply cutX (fshowbadNode k) [] [] (st0 (fshowbadNode k).C Tryz.f31 fshowbadNodei x) [] [] (fshowbadNode_t k · · x) <;> intros <;> kernel_rfl
theorem cshowbadNode_ok (k : Nat) : SigOK Tryz.prog 31 (sgshowbadNode k) :=
  fn_ok (C := (fshowbadNode k).C) (l := fshowbadNodeE k) rfl ⟨⟨cshownames_ok k, trivial⟩, ⟨cshowbad_Head_ok k, trivial⟩, ⟨cshowbad_Ped_ok k, trivial⟩, ⟨cshowbad_Phase_ok k, trivial⟩, ⟨cshowbad_Group_ok k, trivial⟩, ⟨cshowbad_Foe_ok k, trivial⟩, trivial⟩ (by kernel_rfl) k (fn := Tryz.f31) (by kernel_rfl) (by kernel_rfl) (by kernel_rfl) fshowbadNodei fshowbadNodeo rfl rfl (show 0 ≤ 48 by decide) (show 0 ≤ 48 by decide)

/-! slices.IndexFunc[[]carrefour/api.Node,carrefour/api.Node] -/
def fixf_Nodei : Sk := ⟨[.lf (.pv (.slice yt6)), .lf (.fn 31 [] [])], [], []⟩
def fixf_Nodeo : Sk := ⟨[.lf (.pv (.int .i64))], [], []⟩
def fixf_Node_k2 : Sk := ⟨sparse 19 [(0, .lf (.pv (.slice yt6))), (1, .lf (.fn 31 [] [])), (7, .lf (.pv (.int .i64))), (8, .lf (.pv (.int .i64)))], [], []⟩
abbrev fixf_Node_T2 := (List (YT6)) × (Int) × (Int)
def fixf_Node_s2 : fixf_Node_T2 → St := stOf fixf_Node_k2 67
abbrev fixf_NodeR := Int
noncomputable def fixf_NodeE (k : Nat) : List (Nat × List Sig) := [(31, [sgshowbadNode k])]
noncomputable def fixf_Node (k : Nat) : FnX (Int) := mkX { P := Tryz.prog, env := lookS (fixf_NodeE k), n := 67, npB := 0, npO := 0, hint := fun i => look none [(2, some fixf_Node_k2)] i, pops := [], bl := [54, 56] } k Tryz.f115 fixf_Nodeo
noncomputable def cixf_Node (k : Nat) : (List (YT6)) → Option (Int) := fnOf (fixf_Node k).C k Tryz.f115 fixf_Nodei fixf_Nodeo
noncomputable def sgixf_Node (k : Nat) : Sig := ⟨fixf_Nodei, fixf_Nodeo, mkFun fixf_Nodei.tys fixf_Nodeo.tys (cixf_Node k)⟩
noncomputable def fixf_Node_t (k : Nat) (J : JF (Int)) (L : LF (Int)) : List (YT6) → Option (Int)
  | a0 => L 2 [] k (fixf_Node_s2 (a0, ((List.length a0 : Nat) : Int), (0 : Int)))
theorem fixf_Node_e (k : Nat) (x : List (YT6)) : cixf_Node k x = fixf_Node_t k (fixf_Node k).J (fixf_Node k).L x := by
  apply cutX (fixf_Node k) [] [] (st0 (fixf_Node k).C Tryz.f115 fixf_Nodei x) [] [(2, [], k)] (fixf_Node_t k · · x) <;> intros <;> kernel_rfl
noncomputable def fixf_Node_tl2 (k j2 : Nat) (J : JF (Int)) (L : LF (Int)) : fixf_Node_T2 → Option (Int)
  | (a0, a1, a2) => bif (decide (a2 < a1)) then (idx zt6 a0 a2 fun o1 => ((cshowbadNode k) (o1.1, o1.2.1, o1.2.2.1, o1.2.2.2.1, o1.2.2.2.2.1, o1.2.2.2.2.2.1, o1.2.2.2.2.2.2.1)).bind fun o2 => bif o2 then (some a2) else (L 2 [] j2 (fixf_Node_s2 (a0, a1, (IntKind.wrap .i64 (a2 + (1 : Int))))))) else (some (-1 : Int))
theorem fixf_Node_el2 (k j2 : Nat) (x : fixf_Node_T2) : (fixf_Node k).L 2 [] (j2 + 1) (fixf_Node_s2 x) = fixf_Node_tl2 k j2 (fixf_Node k).J (fixf_Node k).L x := by
  apply cutX (fixf_Node k) [.r, .l, .r, .b, .b] [j2] (fixf_Node_s2 x) [] [(2, [], j2)] (fixf_Node_tl2 k j2 · · x) <;> intros <;> kernel_rfl
theorem cixf_Node_ok (k : Nat) : SigOK Tryz.prog 115 (sgixf_Node k) :=
  fn_ok (C := (fixf_Node k).C) (l := fixf_NodeE k) rfl ⟨⟨cshowbadNode_ok k, trivial⟩, trivial⟩ (by kernel_rfl) k (fn := Tryz.f115) (by kernel_rfl) (by kernel_rfl) (by kernel_rfl) fixf_Nodei fixf_Nodeo rfl rfl (show 0 ≤ 48 by decide) (show 0 ≤ 48 by decide)

/-! slices.ContainsFunc[[]carrefour/api.Node,carrefour/api.Node] -/
def fctf_Nodei : Sk := ⟨[.lf (.pv (.slice yt6)), .lf (.fn 31 [] [])], [], []⟩
def fctf_Nodeo : Sk := ⟨[.lf (.pv .bool)], [], []⟩
abbrev fctf_NodeR := Bool
noncomputable def fctf_NodeE (k : Nat) : List (Nat × List Sig) := [(115, [sgixf_Node k])]
noncomputable def fctf_Node (k : Nat) : FnX (Bool) := mkX { P := Tryz.prog, env := lookS (fctf_NodeE k), n := 57, npB := 0, npO := 0, hint := fun i => look none [] i, pops := [], bl := [54, 56] } k Tryz.f63 fctf_Nodeo
noncomputable def cctf_Node (k : Nat) : (List (YT6)) → Option (Bool) := fnOf (fctf_Node k).C k Tryz.f63 fctf_Nodei fctf_Nodeo
noncomputable def sgctf_Node (k : Nat) : Sig := ⟨fctf_Nodei, fctf_Nodeo, mkFun fctf_Nodei.tys fctf_Nodeo.tys (cctf_Node k)⟩
noncomputable def fctf_Node_t (k : Nat) (J : JF (Bool)) (L : LF (Bool)) : List (YT6) → Option (Bool)
  | a0 => ((cixf_Node k) (a0)).bind fun o1 => some (decide (o1 ≥ (0 : Int)))
theorem fctf_Node_e (k : Nat) (x : List (YT6)) : cctf_Node k x = fctf_Node_t k (fctf_Node k).J (fctf_Node k).L x := by
  apply cutX (fctf_Node k) [] [] (st0 (fctf_Node k).C Tryz.f63 fctf_Nodei x) [] [] (fctf_Node_t k · · x) <;> intros <;> kernel_rfl
theorem cctf_Node_ok (k : Nat) : SigOK Tryz.prog 63 (sgctf_Node k) :=
  fn_ok (C := (fctf_Node k).C) (l := fctf_NodeE k) rfl ⟨⟨cixf_Node_ok k, trivial⟩, trivial⟩ (by kernel_rfl) k (fn := Tryz.f63) (by kernel_rfl) (by kernel_rfl) (by kernel_rfl) fctf_Nodei fctf_Nodeo rfl rfl (show 0 ≤ 48 by decide) (show 0 ≤ 48 by decide)

/-! carrefour/show.bad[carrefour/api.Node] -/
def fshowbad_Nodei : Sk := ⟨[.lf (.pv (.slice yt6)), .lf (.pv (.int .i64)), .lf (.fn 31 [] [])], [], []⟩
def fshowbad_Nodeo : Sk := ⟨[.lf (.pv .bool)], [], []⟩
abbrev fshowbad_NodeT := (List (YT6)) × (Int)
abbrev fshowbad_NodeR := Bool
noncomputable def fshowbad_NodeE (k : Nat) : List (Nat × List Sig) := [(63, [sgctf_Node k])]
noncomputable def fshowbad_Node (k : Nat) : FnX (Bool) := mkX { P := Tryz.prog, env := lookS (fshowbad_NodeE k), n := 64, npB := 0, npO := 0, hint := fun i => look none [] i, pops := [], bl := [54, 56] } k Tryz.f30 fshowbad_Nodeo
noncomputable def cshowbad_Node (k : Nat) : fshowbad_NodeT → Option (Bool) := fnOf (fshowbad_Node k).C k Tryz.f30 fshowbad_Nodei fshowbad_Nodeo
noncomputable def sgshowbad_Node (k : Nat) : Sig := ⟨fshowbad_Nodei, fshowbad_Nodeo, mkFun fshowbad_Nodei.tys fshowbad_Nodeo.tys (cshowbad_Node k)⟩
noncomputable def fshowbad_Node_t (k : Nat) (J : JF (Bool)) (L : LF (Bool)) : fshowbad_NodeT → Option (Bool)
  | (a0, a1) => bif (decide (((List.length a0 : Nat) : Int) > a1)) then (some true) else (((cctf_Node k) (a0)).bind fun o1 => some o1)
theorem fshowbad_Node_e (k : Nat) (x : fshowbad_NodeT) : cshowbad_Node k x = fshowbad_Node_t k (fshowbad_Node k).J (fshowbad_Node k).L x := by
  apply cutX (fshowbad_Node k) [] [] (st0 (fshowbad_Node k).C Tryz.f30 fshowbad_Nodei x) [] [] (fshowbad_Node_t k · · x) <;> intros <;> kernel_rfl
theorem cshowbad_Node_ok (k : Nat) : SigOK Tryz.prog 30 (sgshowbad_Node k) :=
  fn_ok (C := (fshowbad_Node k).C) (l := fshowbad_NodeE k) rfl ⟨⟨cctf_Node_ok k, trivial⟩, trivial⟩ (by kernel_rfl) k (fn := Tryz.f30) (by kernel_rfl) (by kernel_rfl) (by kernel_rfl) fshowbad_Nodei fshowbad_Nodeo rfl rfl (show 0 ≤ 48 by decide) (show 0 ≤ 48 by decide)

/-! carrefour/show.badStop -/
def fshowbadStopi : Sk := ⟨[.agg [.pv .str, .pv .str, .pv .str, .pv (.int .i64), .pv (.int .i64), .pv (.int .i64)]], [], []⟩
def fshowbadStopo : Sk := ⟨[.lf (.pv .bool)], [], []⟩
abbrev fshowbadStopT := (List Int) × (List Int) × (List Int) × (Int) × (Int) × (Int)
abbrev fshowbadStopR := Bool
noncomputable def fshowbadStopE (k : Nat) : List (Nat × List Sig) := [(64, [sgshownames k]), (29, [sgshownums k])]
noncomputable def fshowbadStop (k : Nat) : FnX (Bool) := mkX { P := Tryz.prog, env := lookS (fshowbadStopE k), n := 69, npB := 0, npO := 0, hint := fun i => look none [] i, pops := [], bl := [54, 56] } k Tryz.f33 fshowbadStopo
noncomputable def cshowbadStop (k : Nat) : fshowbadStopT → Option (Bool) := fnOf (fshowbadStop k).C k Tryz.f33 fshowbadStopi fshowbadStopo
noncomputable def sgshowbadStop (k : Nat) : Sig := ⟨fshowbadStopi, fshowbadStopo, mkFun fshowbadStopi.tys fshowbadStopo.tys (cshowbadStop k)⟩
noncomputable def fshowbadStop_t (k : Nat) (J : JF (Bool)) (L : LF (Bool)) : fshowbadStopT → Option (Bool)
  | (a0, a1, a2, a3, a4, a5) => ((cshownames k) (([a0, a1, a2] : List (List Int)))).bind fun o1 => bif (!o1) then (some true) else (((cshownums k) (([a3, a4] : List (Int)))).bind fun o2 => some (!o2))
theorem fshowbadStop_e (k : Nat) (x : fshowbadStopT) : cshowbadStop k x = fshowbadStop_t k (fshowbadStop k).J (fshowbadStop k).L x := by
  apply cutX (fshowbadStop k) [] [] (st0 (fshowbadStop k).C Tryz.f33 fshowbadStopi x) [] [] (fshowbadStop_t k · · x) <;> intros <;> kernel_rfl
theorem cshowbadStop_ok (k : Nat) : SigOK Tryz.prog 33 (sgshowbadStop k) :=
  fn_ok (C := (fshowbadStop k).C) (l := fshowbadStopE k) rfl ⟨⟨cshownames_ok k, trivial⟩, ⟨cshownums_ok k, trivial⟩, trivial⟩ (by kernel_rfl) k (fn := Tryz.f33) (by kernel_rfl) (by kernel_rfl) (by kernel_rfl) fshowbadStopi fshowbadStopo rfl rfl (show 0 ≤ 48 by decide) (show 0 ≤ 48 by decide)

/-! slices.IndexFunc[[]carrefour/api.Stop,carrefour/api.Stop] -/
def fixf_Stopi : Sk := ⟨[.lf (.pv (.slice yt7)), .lf (.fn 33 [] [])], [], []⟩
def fixf_Stopo : Sk := ⟨[.lf (.pv (.int .i64))], [], []⟩
def fixf_Stop_k2 : Sk := ⟨sparse 19 [(0, .lf (.pv (.slice yt7))), (1, .lf (.fn 33 [] [])), (7, .lf (.pv (.int .i64))), (8, .lf (.pv (.int .i64)))], [], []⟩
abbrev fixf_Stop_T2 := (List (YT7)) × (Int) × (Int)
def fixf_Stop_s2 : fixf_Stop_T2 → St := stOf fixf_Stop_k2 67
abbrev fixf_StopR := Int
noncomputable def fixf_StopE (k : Nat) : List (Nat × List Sig) := [(33, [sgshowbadStop k])]
noncomputable def fixf_Stop (k : Nat) : FnX (Int) := mkX { P := Tryz.prog, env := lookS (fixf_StopE k), n := 67, npB := 0, npO := 0, hint := fun i => look none [(2, some fixf_Stop_k2)] i, pops := [], bl := [54, 56] } k Tryz.f128 fixf_Stopo
noncomputable def cixf_Stop (k : Nat) : (List (YT7)) → Option (Int) := fnOf (fixf_Stop k).C k Tryz.f128 fixf_Stopi fixf_Stopo
noncomputable def sgixf_Stop (k : Nat) : Sig := ⟨fixf_Stopi, fixf_Stopo, mkFun fixf_Stopi.tys fixf_Stopo.tys (cixf_Stop k)⟩
noncomputable def fixf_Stop_t (k : Nat) (J : JF (Int)) (L : LF (Int)) : List (YT7) → Option (Int)
  | a0 => L 2 [] k (fixf_Stop_s2 (a0, ((List.length a0 : Nat) : Int), (0 : Int)))
theorem fixf_Stop_e (k : Nat) (x : List (YT7)) : cixf_Stop k x = fixf_Stop_t k (fixf_Stop k).J (fixf_Stop k).L x := by
  apply cutX (fixf_Stop k) [] [] (st0 (fixf_Stop k).C Tryz.f128 fixf_Stopi x) [] [(2, [], k)] (fixf_Stop_t k · · x) <;> intros <;> kernel_rfl
noncomputable def fixf_Stop_tl2 (k j2 : Nat) (J : JF (Int)) (L : LF (Int)) : fixf_Stop_T2 → Option (Int)
  | (a0, a1, a2) => bif (decide (a2 < a1)) then (idx zt7 a0 a2 fun o1 => ((cshowbadStop k) (o1.1, o1.2.1, o1.2.2.1, o1.2.2.2.1, o1.2.2.2.2.1, o1.2.2.2.2.2.1)).bind fun o2 => bif o2 then (some a2) else (L 2 [] j2 (fixf_Stop_s2 (a0, a1, (IntKind.wrap .i64 (a2 + (1 : Int))))))) else (some (-1 : Int))
theorem fixf_Stop_el2 (k j2 : Nat) (x : fixf_Stop_T2) : (fixf_Stop k).L 2 [] (j2 + 1) (fixf_Stop_s2 x) = fixf_Stop_tl2 k j2 (fixf_Stop k).J (fixf_Stop k).L x := by
  apply cutX (fixf_Stop k) [.r, .l, .r, .b, .b] [j2] (fixf_Stop_s2 x) [] [(2, [], j2)] (fixf_Stop_tl2 k j2 · · x) <;> intros <;> kernel_rfl
theorem cixf_Stop_ok (k : Nat) : SigOK Tryz.prog 128 (sgixf_Stop k) :=
  fn_ok (C := (fixf_Stop k).C) (l := fixf_StopE k) rfl ⟨⟨cshowbadStop_ok k, trivial⟩, trivial⟩ (by kernel_rfl) k (fn := Tryz.f128) (by kernel_rfl) (by kernel_rfl) (by kernel_rfl) fixf_Stopi fixf_Stopo rfl rfl (show 0 ≤ 48 by decide) (show 0 ≤ 48 by decide)

/-! slices.ContainsFunc[[]carrefour/api.Stop,carrefour/api.Stop] -/
def fctf_Stopi : Sk := ⟨[.lf (.pv (.slice yt7)), .lf (.fn 33 [] [])], [], []⟩
def fctf_Stopo : Sk := ⟨[.lf (.pv .bool)], [], []⟩
abbrev fctf_StopR := Bool
noncomputable def fctf_StopE (k : Nat) : List (Nat × List Sig) := [(128, [sgixf_Stop k])]
noncomputable def fctf_Stop (k : Nat) : FnX (Bool) := mkX { P := Tryz.prog, env := lookS (fctf_StopE k), n := 57, npB := 0, npO := 0, hint := fun i => look none [] i, pops := [], bl := [54, 56] } k Tryz.f75 fctf_Stopo
noncomputable def cctf_Stop (k : Nat) : (List (YT7)) → Option (Bool) := fnOf (fctf_Stop k).C k Tryz.f75 fctf_Stopi fctf_Stopo
noncomputable def sgctf_Stop (k : Nat) : Sig := ⟨fctf_Stopi, fctf_Stopo, mkFun fctf_Stopi.tys fctf_Stopo.tys (cctf_Stop k)⟩
noncomputable def fctf_Stop_t (k : Nat) (J : JF (Bool)) (L : LF (Bool)) : List (YT7) → Option (Bool)
  | a0 => ((cixf_Stop k) (a0)).bind fun o1 => some (decide (o1 ≥ (0 : Int)))
theorem fctf_Stop_e (k : Nat) (x : List (YT7)) : cctf_Stop k x = fctf_Stop_t k (fctf_Stop k).J (fctf_Stop k).L x := by
  apply cutX (fctf_Stop k) [] [] (st0 (fctf_Stop k).C Tryz.f75 fctf_Stopi x) [] [] (fctf_Stop_t k · · x) <;> intros <;> kernel_rfl
theorem cctf_Stop_ok (k : Nat) : SigOK Tryz.prog 75 (sgctf_Stop k) :=
  fn_ok (C := (fctf_Stop k).C) (l := fctf_StopE k) rfl ⟨⟨cixf_Stop_ok k, trivial⟩, trivial⟩ (by kernel_rfl) k (fn := Tryz.f75) (by kernel_rfl) (by kernel_rfl) (by kernel_rfl) fctf_Stopi fctf_Stopo rfl rfl (show 0 ≤ 48 by decide) (show 0 ≤ 48 by decide)

/-! carrefour/show.bad[carrefour/api.Stop] -/
def fshowbad_Stopi : Sk := ⟨[.lf (.pv (.slice yt7)), .lf (.pv (.int .i64)), .lf (.fn 33 [] [])], [], []⟩
def fshowbad_Stopo : Sk := ⟨[.lf (.pv .bool)], [], []⟩
abbrev fshowbad_StopT := (List (YT7)) × (Int)
abbrev fshowbad_StopR := Bool
noncomputable def fshowbad_StopE (k : Nat) : List (Nat × List Sig) := [(75, [sgctf_Stop k])]
noncomputable def fshowbad_Stop (k : Nat) : FnX (Bool) := mkX { P := Tryz.prog, env := lookS (fshowbad_StopE k), n := 64, npB := 0, npO := 0, hint := fun i => look none [] i, pops := [], bl := [54, 56] } k Tryz.f32 fshowbad_Stopo
noncomputable def cshowbad_Stop (k : Nat) : fshowbad_StopT → Option (Bool) := fnOf (fshowbad_Stop k).C k Tryz.f32 fshowbad_Stopi fshowbad_Stopo
noncomputable def sgshowbad_Stop (k : Nat) : Sig := ⟨fshowbad_Stopi, fshowbad_Stopo, mkFun fshowbad_Stopi.tys fshowbad_Stopo.tys (cshowbad_Stop k)⟩
noncomputable def fshowbad_Stop_t (k : Nat) (J : JF (Bool)) (L : LF (Bool)) : fshowbad_StopT → Option (Bool)
  | (a0, a1) => bif (decide (((List.length a0 : Nat) : Int) > a1)) then (some true) else (((cctf_Stop k) (a0)).bind fun o1 => some o1)
theorem fshowbad_Stop_e (k : Nat) (x : fshowbad_StopT) : cshowbad_Stop k x = fshowbad_Stop_t k (fshowbad_Stop k).J (fshowbad_Stop k).L x := by
  apply cutX (fshowbad_Stop k) [] [] (st0 (fshowbad_Stop k).C Tryz.f32 fshowbad_Stopi x) [] [] (fshowbad_Stop_t k · · x) <;> intros <;> kernel_rfl
theorem cshowbad_Stop_ok (k : Nat) : SigOK Tryz.prog 32 (sgshowbad_Stop k) :=
  fn_ok (C := (fshowbad_Stop k).C) (l := fshowbad_StopE k) rfl ⟨⟨cctf_Stop_ok k, trivial⟩, trivial⟩ (by kernel_rfl) k (fn := Tryz.f32) (by kernel_rfl) (by kernel_rfl) (by kernel_rfl) fshowbad_Stopi fshowbad_Stopo rfl rfl (show 0 ≤ 48 by decide) (show 0 ≤ 48 by decide)

/-! carrefour/show.Right -/
def fshowRighti : Sk := ⟨[.agg [.pv (.int .i64), .pv (.int .i64), .pv (.int .i64), .pv (.int .i64), .pv (.int .i64), .pv (.slice yt6), .pv (.slice yt7), .pv (.int .i64), .pv (.int .i64)]], [], []⟩
def fshowRighto : Sk := ⟨[.lf (.pv .bool)], [], []⟩
abbrev fshowRightT := (Int) × (Int) × (Int) × (Int) × (Int) × (List (YT6)) × (List (YT7)) × (Int) × (Int)
abbrev fshowRightR := Bool
noncomputable def fshowRightE (k : Nat) : List (Nat × List Sig) := [(29, [sgshownums k]), (30, [sgshowbad_Node k]), (32, [sgshowbad_Stop k])]
noncomputable def fshowRight (k : Nat) : FnX (Bool) := mkX { P := Tryz.prog, env := lookS (fshowRightE k), n := 81, npB := 0, npO := 0, hint := fun i => look none [] i, pops := [], bl := [54, 56] } k Tryz.f10 fshowRighto
noncomputable def cshowRight (k : Nat) : fshowRightT → Option (Bool) := fnOf (fshowRight k).C k Tryz.f10 fshowRighti fshowRighto
noncomputable def sgshowRight (k : Nat) : Sig := ⟨fshowRighti, fshowRighto, mkFun fshowRighti.tys fshowRighto.tys (cshowRight k)⟩
noncomputable def fshowRight_t (k : Nat) (J : JF (Bool)) (L : LF (Bool)) : fshowRightT → Option (Bool)
  | (a0, a1, a2, a3, a4, a5, a6, a7, a8) => ((cshownums k) (([a0, a1, a2, a3, a4, a7, a8] : List (Int)))).bind fun o1 => bif o1 then (((cshowbad_Node k) (a5, (12 : Int))).bind fun o2 => bif (!o2) then (((cshowbad_Stop k) (a6, (12 : Int))).bind fun o3 => some (!o3)) else (some false)) else (some false)
theorem fshowRight_e (k : Nat) (x : fshowRightT) : cshowRight k x = fshowRight_t k (fshowRight k).J (fshowRight k).L x := by
  apply cutX (fshowRight k) [] [] (st0 (fshowRight k).C Tryz.f10 fshowRighti x) [] [] (fshowRight_t k · · x) <;> intros <;> kernel_rfl
theorem cshowRight_ok (k : Nat) : SigOK Tryz.prog 10 (sgshowRight k) :=
  fn_ok (C := (fshowRight k).C) (l := fshowRightE k) rfl ⟨⟨cshownums_ok k, trivial⟩, ⟨cshowbad_Node_ok k, trivial⟩, ⟨cshowbad_Stop_ok k, trivial⟩, trivial⟩ (by kernel_rfl) k (fn := Tryz.f10) (by kernel_rfl) (by kernel_rfl) (by kernel_rfl) fshowRighti fshowRighto rfl rfl (show 0 ≤ 48 by decide) (show 0 ≤ 48 by decide)

/-! strconv.FormatInt: given -/
def fstrconvFormatInti : Sk := ⟨[.lf (.pv (.int .i64)), .lf (.pv (.int .i64))], [], []⟩
def fstrconvFormatInto : Sk := ⟨[.lf (.pv .str)], [], []⟩
def cstrconvFormatInt (k : Nat) : ((Int) × (Int)) → Option (List Int) := fmtI
theorem cstrconvFormatInt_ok (k : Nat) : SigOK Tryz.prog 54 ⟨fstrconvFormatInti, fstrconvFormatInto, mkFun fstrconvFormatInti.tys fstrconvFormatInto.tys (cstrconvFormatInt k)⟩ := fmtI_ok
noncomputable def sgstrconvFormatInt (k : Nat) : Sig := ⟨fstrconvFormatInti, fstrconvFormatInto, mkFun fstrconvFormatInti.tys fstrconvFormatInto.tys (cstrconvFormatInt k)⟩

/-! carrefour/show.num -/
def fshownumi : Sk := ⟨[.lf (.pv (.int .i64))], [], []⟩
def fshownumo : Sk := ⟨[.lf (.pv .str)], [], []⟩
abbrev fshownumR := List Int
noncomputable def fshownumE (k : Nat) : List (Nat × List Sig) := [(54, [sgstrconvFormatInt k])]
noncomputable def fshownum (k : Nat) : FnX (List Int) := mkX { P := Tryz.prog, env := lookS (fshownumE k), n := 53, npB := 0, npO := 0, hint := fun i => look none [] i, pops := [], bl := [54, 56] } k Tryz.f18 fshownumo
noncomputable def cshownum (k : Nat) : (Int) → Option (List Int) := fnOf (fshownum k).C k Tryz.f18 fshownumi fshownumo
noncomputable def sgshownum (k : Nat) : Sig := ⟨fshownumi, fshownumo, mkFun fshownumi.tys fshownumo.tys (cshownum k)⟩
noncomputable def fshownum_t (k : Nat) (J : JF (List Int)) (L : LF (List Int)) : Int → Option (List Int)
  | a0 => ((cstrconvFormatInt k) (a0, (10 : Int))).bind fun o1 => some o1
theorem fshownum_e (k : Nat) (x : Int) : cshownum k x = fshownum_t k (fshownum k).J (fshownum k).L x := by
  apply cutX (fshownum k) [] [] (st0 (fshownum k).C Tryz.f18 fshownumi x) [] [] (fshownum_t k · · x) <;> intros <;> kernel_rfl
theorem cshownum_ok (k : Nat) : SigOK Tryz.prog 18 (sgshownum k) :=
  fn_ok (C := (fshownum k).C) (l := fshownumE k) rfl ⟨⟨cstrconvFormatInt_ok k, trivial⟩, trivial⟩ (by kernel_rfl) k (fn := Tryz.f18) (by kernel_rfl) (by kernel_rfl) (by kernel_rfl) fshownumi fshownumo rfl rfl (show 0 ≤ 48 by decide) (show 0 ≤ 48 by decide)

/-! strings.Repeat: given -/
def fstringsRepeati : Sk := ⟨[.lf (.pv .str), .lf (.pv (.int .i64))], [], []⟩
def fstringsRepeato : Sk := ⟨[.lf (.pv .str)], [], []⟩
def cstringsRepeat (k : Nat) : ((List Int) × (Int)) → Option (List Int) := repS
theorem cstringsRepeat_ok (k : Nat) : SigOK Tryz.prog 51 ⟨fstringsRepeati, fstringsRepeato, mkFun fstringsRepeati.tys fstringsRepeato.tys (cstringsRepeat k)⟩ := repS_ok
noncomputable def sgstringsRepeat (k : Nat) : Sig := ⟨fstringsRepeati, fstringsRepeato, mkFun fstringsRepeati.tys fstringsRepeato.tys (cstringsRepeat k)⟩

/-! (*strings.Builder).copyCheck: given -/
def fstringsB_copyChecki : Sk := ⟨[.lf (.ptr 0 0)], [[.bld 0 56, .own 0, .pv (.int .i64)]], [some (5, (.int .u8))]⟩
def fstringsB_copyChecko : Sk := ⟨[], [[.bld 0 56, .own 0, .pv (.int .i64)]], [some (5, (.int .u8))]⟩
def cstringsB_copyCheck (k : Nat) : ((Bool) × (Int) × (List (Int))) → Option ((Bool) × (Int) × (List (Int))) := copyC
theorem cstringsB_copyCheck_ok (k : Nat) : SigOK Tryz.prog 107 ⟨fstringsB_copyChecki, fstringsB_copyChecko, mkFun fstringsB_copyChecki.tys fstringsB_copyChecko.tys (cstringsB_copyCheck k)⟩ := copyC_ok
noncomputable def sgstringsB_copyCheck (k : Nat) : Sig := ⟨fstringsB_copyChecki, fstringsB_copyChecko, mkFun fstringsB_copyChecki.tys fstringsB_copyChecko.tys (cstringsB_copyCheck k)⟩

/-! (*strings.Builder).WriteString -/
def fstringsB_WriteStringi : Sk := ⟨[.lf (.ptr 0 0), .lf (.pv .str)], [[.bld 0 56, .nil .sl, .pv (.int .i64)]], []⟩
def fstringsB_WriteStringo : Sk := ⟨[.lf (.pv (.int .i64)), .lf (.nil .ifc)], [[.bld 0 56, .own 0, .pv (.int .i64)]], [some (5, (.int .u8))]⟩
abbrev fstringsB_WriteStringT := (List Int) × (Bool) × (Int)
abbrev fstringsB_WriteStringR := (Int) × (Bool) × (Int) × (List (Int))
noncomputable def fstringsB_WriteStringE (k : Nat) : List (Nat × List Sig) := [(107, [sgstringsB_copyCheck k])]
noncomputable def fstringsB_WriteString (k : Nat) : FnX fstringsB_WriteStringR := mkX { P := Tryz.prog, env := lookS (fstringsB_WriteStringE k), n := 67, npB := 1, npO := 0, hint := fun i => look none [] i, pops := [], bl := [54, 56] } k Tryz.f50 fstringsB_WriteStringo
noncomputable def cstringsB_WriteString (k : Nat) : fstringsB_WriteStringT → Option fstringsB_WriteStringR := fnOf (fstringsB_WriteString k).C k Tryz.f50 fstringsB_WriteStringi fstringsB_WriteStringo
noncomputable def sgstringsB_WriteString (k : Nat) : Sig := ⟨fstringsB_WriteStringi, fstringsB_WriteStringo, mkFun fstringsB_WriteStringi.tys fstringsB_WriteStringo.tys (cstringsB_WriteString k)⟩
noncomputable def fstringsB_WriteString_t (k : Nat) (J : JF fstringsB_WriteStringR) (L : LF fstringsB_WriteStringR) : fstringsB_WriteStringT → Option fstringsB_WriteStringR
  | (a0, a1, a2) => ((cstringsB_copyCheck k) (a1, a2, [])).bind fun o1 => app 1 o1.2.2 a0 fun o2 => some (((List.length a0 : Nat) : Int), o1.1, o1.2.1, o2)
theorem fstringsB_WriteString_e (k : Nat) (x : fstringsB_WriteStringT) : cstringsB_WriteString k x = fstringsB_WriteString_t k (fstringsB_WriteString k).J (fstringsB_WriteString k).L x := by
  apply cutX (fstringsB_WriteString k) [] [] (st0 (fstringsB_WriteString k).C Tryz.f50 fstringsB_WriteStringi x) [] [] (fstringsB_WriteString_t k · · x) <;> intros <;> kernel_rfl
theorem cstringsB_WriteString_ok (k : Nat) : SigOK Tryz.prog 50 (sgstringsB_WriteString k) :=
  fn_ok (C := (fstringsB_WriteString k).C) (l := fstringsB_WriteStringE k) rfl ⟨⟨cstringsB_copyCheck_ok k, trivial⟩, trivial⟩ (by kernel_rfl) k (fn := Tryz.f50) (by kernel_rfl) (by kernel_rfl) (by kernel_rfl) fstringsB_WriteStringi fstringsB_WriteStringo rfl rfl (show 1 ≤ 48 by decide) (show 0 ≤ 48 by decide)

/-! strings.Join: given -/
def fstringsJoini : Sk := ⟨[.lf (.pv (.slice .str)), .lf (.pv .str)], [], []⟩
def fstringsJoino : Sk := ⟨[.lf (.pv .str)], [], []⟩
def cstringsJoin (k : Nat) : ((List (List Int)) × (List Int)) → Option (List Int) := joinS
theorem cstringsJoin_ok (k : Nat) : SigOK Tryz.prog 52 ⟨fstringsJoini, fstringsJoino, mkFun fstringsJoini.tys fstringsJoino.tys (cstringsJoin k)⟩ := joinS_ok
noncomputable def sgstringsJoin (k : Nat) : Sig := ⟨fstringsJoini, fstringsJoino, mkFun fstringsJoini.tys fstringsJoino.tys (cstringsJoin k)⟩

/-! (*strings.Builder).WriteString -/
def fstringsB_WriteString'1i : Sk := ⟨[.lf (.ptr 0 0), .lf (.pv .str)], [[.bld 0 56, .own 0, .pv (.int .i64)]], [some (5, (.int .u8))]⟩
def fstringsB_WriteString'1o : Sk := ⟨[.lf (.pv (.int .i64)), .lf (.nil .ifc)], [[.bld 0 56, .own 1, .pv (.int .i64)]], [none, some (5, (.int .u8))]⟩
abbrev fstringsB_WriteString'1T := (List Int) × (Bool) × (Int) × (List (Int))
abbrev fstringsB_WriteString'1R := (Int) × (Bool) × (Int) × (List (Int))
noncomputable def fstringsB_WriteString'1E (k : Nat) : List (Nat × List Sig) := [(107, [sgstringsB_copyCheck k])]
noncomputable def fstringsB_WriteString'1 (k : Nat) : FnX fstringsB_WriteString'1R := mkX { P := Tryz.prog, env := lookS (fstringsB_WriteString'1E k), n := 67, npB := 1, npO := 1, hint := fun i => look none [] i, pops := [], bl := [54, 56] } k Tryz.f50 fstringsB_WriteString'1o
noncomputable def cstringsB_WriteString'1 (k : Nat) : fstringsB_WriteString'1T → Option fstringsB_WriteString'1R := fnOf (fstringsB_WriteString'1 k).C k Tryz.f50 fstringsB_WriteString'1i fstringsB_WriteString'1o
noncomputable def sgstringsB_WriteString'1 (k : Nat) : Sig := ⟨fstringsB_WriteString'1i, fstringsB_WriteString'1o, mkFun fstringsB_WriteString'1i.tys fstringsB_WriteString'1o.tys (cstringsB_WriteString'1 k)⟩
noncomputable def fstringsB_WriteString'1_t (k : Nat) (J : JF fstringsB_WriteString'1R) (L : LF fstringsB_WriteString'1R) : fstringsB_WriteString'1T → Option fstringsB_WriteString'1R
  | (a0, a1, a2, a3) => ((cstringsB_copyCheck k) (a1, a2, a3)).bind fun o1 => app 1 o1.2.2 a0 fun o2 => some (((List.length a0 : Nat) : Int), o1.1, o1.2.1, o2)
theorem fstringsB_WriteString'1_e (k : Nat) (x : fstringsB_WriteString'1T) : cstringsB_WriteString'1 k x = fstringsB_WriteString'1_t k (fstringsB_WriteString'1 k).J (fstringsB_WriteString'1 k).L x := by
  apply cutX (fstringsB_WriteString'1 k) [] [] (st0 (fstringsB_WriteString'1 k).C Tryz.f50 fstringsB_WriteString'1i x) [] [] (fstringsB_WriteString'1_t k · · x) <;> intros <;> kernel_rfl
theorem cstringsB_WriteString'1_ok (k : Nat) : SigOK Tryz.prog 50 (sgstringsB_WriteString'1 k) :=
  fn_ok (C := (fstringsB_WriteString'1 k).C) (l := fstringsB_WriteString'1E k) rfl ⟨⟨cstringsB_copyCheck_ok k, trivial⟩, trivial⟩ (by kernel_rfl) k (fn := Tryz.f50) (by kernel_rfl) (by kernel_rfl) (by kernel_rfl) fstringsB_WriteString'1i fstringsB_WriteString'1o rfl rfl (show 1 ≤ 48 by decide) (show 1 ≤ 48 by decide)
end Go.Proofs.YtipcabmhdokfjaaGreatDoorV

set_option linter.unusedVariables false
set_option maxHeartbeats 4000000
set_option maxRecDepth 100000
namespace Go.Proofs.YtipcabmhdokfjaaGreatDoorV
open Go Go.RowKit

/-! (*strings.Builder).WriteByte -/
def fstringsB_WriteBytei : Sk := ⟨[.lf (.ptr 0 0), .lf (.pv (.int .u8))], [[.bld 0 56, .own 0, .pv (.int .i64)]], [some (5, (.int .u8))]⟩
def fstringsB_WriteByteo : Sk := ⟨[.lf (.nil .ifc)], [[.bld 0 56, .own 1, .pv (.int .i64)]], [none, some (5, (.int .u8))]⟩
abbrev fstringsB_WriteByteT := (Int) × (Bool) × (Int) × (List (Int))
abbrev fstringsB_WriteByteR := (Bool) × (Int) × (List (Int))
noncomputable def fstringsB_WriteByteE (k : Nat) : List (Nat × List Sig) := [(107, [sgstringsB_copyCheck k])]
noncomputable def fstringsB_WriteByte (k : Nat) : FnX fstringsB_WriteByteR := mkX { P := Tryz.prog, env := lookS (fstringsB_WriteByteE k), n := 65, npB := 1, npO := 1, hint := fun i => look none [] i, pops := [], bl := [54, 56] } k Tryz.f53 fstringsB_WriteByteo
noncomputable def cstringsB_WriteByte (k : Nat) : fstringsB_WriteByteT → Option fstringsB_WriteByteR := fnOf (fstringsB_WriteByte k).C k Tryz.f53 fstringsB_WriteBytei fstringsB_WriteByteo
noncomputable def sgstringsB_WriteByte (k : Nat) : Sig := ⟨fstringsB_WriteBytei, fstringsB_WriteByteo, mkFun fstringsB_WriteBytei.tys fstringsB_WriteByteo.tys (cstringsB_WriteByte k)⟩
noncomputable def fstringsB_WriteByte_t (k : Nat) (J : JF fstringsB_WriteByteR) (L : LF fstringsB_WriteByteR) : fstringsB_WriteByteT → Option fstringsB_WriteByteR
  | (a0, a1, a2, a3) => ((cstringsB_copyCheck k) (a1, a2, a3)).bind fun o1 => app 1 o1.2.2 ([a0] : List (Int)) fun o2 => some (o1.1, o1.2.1, o2)
theorem fstringsB_WriteByte_e (k : Nat) (x : fstringsB_WriteByteT) : cstringsB_WriteByte k x = fstringsB_WriteByte_t k (fstringsB_WriteByte k).J (fstringsB_WriteByte k).L x := by
  apply cutX (fstringsB_WriteByte k) [] [] (st0 (fstringsB_WriteByte k).C Tryz.f53 fstringsB_WriteBytei x) [] [] (fstringsB_WriteByte_t k · · x) <;> intros <;> kernel_rfl
theorem cstringsB_WriteByte_ok (k : Nat) : SigOK Tryz.prog 53 (sgstringsB_WriteByte k) :=
  fn_ok (C := (fstringsB_WriteByte k).C) (l := fstringsB_WriteByteE k) rfl ⟨⟨cstringsB_copyCheck_ok k, trivial⟩, trivial⟩ (by kernel_rfl) k (fn := Tryz.f53) (by kernel_rfl) (by kernel_rfl) (by kernel_rfl) fstringsB_WriteBytei fstringsB_WriteByteo rfl rfl (show 1 ≤ 48 by decide) (show 1 ≤ 48 by decide)

/-! (*carrefour/show.printer).line -/
def fshowp_linei : Sk := ⟨[.lf (.ptr 0 0), .lf (.pv .str), .lf (.pv (.slice .str))], [[.bld 0 56, .nil .sl, .pv (.int .i64)]], []⟩
def fshowp_lineo : Sk := ⟨[], [[.bld 0 56, .own 0, .pv (.int .i64)]], [some (5, (.int .u8))]⟩
abbrev fshowp_lineT := (List Int) × (List (List Int)) × (Bool) × (Int)
abbrev fshowp_lineR := (Bool) × (Int) × (List (Int))
noncomputable def fshowp_lineE (k : Nat) : List (Nat × List Sig) := [(51, [sgstringsRepeat k]), (50, [sgstringsB_WriteString k, sgstringsB_WriteString'1 k]), (52, [sgstringsJoin k]), (53, [sgstringsB_WriteByte k])]
noncomputable def fshowp_line (k : Nat) : FnX fshowp_lineR := mkX { P := Tryz.prog, env := lookS (fshowp_lineE k), n := 108, npB := 1, npO := 0, hint := fun i => look none [] i, pops := [], bl := [54, 56], ef := [(14, (([0], []), ([], [62]))), (20, (([0], [62]), ([], [68])))], ld := [(7, 9999), (8, 9999), (10, 9999), (11, 9999), (12, 0), (16, 9999), (17, 9999)] } k Tryz.f17 fshowp_lineo
noncomputable def cshowp_line (k : Nat) : fshowp_lineT → Option fshowp_lineR := fnOf (fshowp_line k).C k Tryz.f17 fshowp_linei fshowp_lineo
noncomputable def sgshowp_line (k : Nat) : Sig := ⟨fshowp_linei, fshowp_lineo, mkFun fshowp_linei.tys fshowp_lineo.tys (cshowp_line k)⟩
noncomputable def fshowp_line_t (k : Nat) (J : JF fshowp_lineR) (L : LF fshowp_lineR) : fshowp_lineT → Option fshowp_lineR
  | (a0, a1, a2, a3) => ((cstringsRepeat k) (([32, 32] : List Int), a3)).bind fun o1 => ((cstringsB_WriteString k) (o1, a2, a3)).bind fun o2 => ((cstringsJoin k) (a1, ([32] : List Int))).bind fun o3 => ((cstringsB_WriteString'1 k) (o3, o2.2.1, o2.2.2.1, o2.2.2.2)).bind fun o4 => ((cstringsB_WriteString'1 k) (a0, o4.2.1, o4.2.2.1, o4.2.2.2)).bind fun o5 => ((cstringsB_WriteByte k) ((10 : Int), o5.2.1, o5.2.2.1, o5.2.2.2)).bind fun o6 => some (o6.1, o6.2.1, o6.2.2)
theorem fshowp_line_e (k : Nat) (x : fshowp_lineT) : cshowp_line k x = fshowp_line_t k (fshowp_line k).J (fshowp_line k).L x := by
  apply cutX (fshowp_line k) [] [] (st0 (fshowp_line k).C Tryz.f17 fshowp_linei x) [] [] (fshowp_line_t k · · x) <;> intros <;> kernel_rfl
theorem cshowp_line_ok (k : Nat) : SigOK Tryz.prog 17 (sgshowp_line k) :=
  fn_ok (C := (fshowp_line k).C) (l := fshowp_lineE k) rfl ⟨⟨cstringsRepeat_ok k, trivial⟩, ⟨cstringsB_WriteString_ok k, cstringsB_WriteString'1_ok k, trivial⟩, ⟨cstringsJoin_ok k, trivial⟩, ⟨cstringsB_WriteByte_ok k, trivial⟩, trivial⟩ (by kernel_rfl) k (fn := Tryz.f17) (by kernel_rfl) (by kernel_rfl) (by kernel_rfl) fshowp_linei fshowp_lineo rfl rfl (show 1 ≤ 48 by decide) (show 0 ≤ 48 by decide)

/-! carrefour/show.frac -/
def fshowfraci : Sk := ⟨[.agg [.pv (.int .i64), .pv (.int .i64)]], [], []⟩
def fshowfraco : Sk := ⟨[.lf (.pv .str)], [], []⟩
abbrev fshowfracT := (Int) × (Int)
abbrev fshowfracR := List Int
noncomputable def fshowfracE (k : Nat) : List (Nat × List Sig) := [(18, [sgshownum k])]
noncomputable def fshowfrac (k : Nat) : FnX (List Int) := mkX { P := Tryz.prog, env := lookS (fshowfracE k), n := 59, npB := 0, npO := 0, hint := fun i => look none [] i, pops := [], bl := [54, 56] } k Tryz.f19 fshowfraco
noncomputable def cshowfrac (k : Nat) : fshowfracT → Option (List Int) := fnOf (fshowfrac k).C k Tryz.f19 fshowfraci fshowfraco
noncomputable def sgshowfrac (k : Nat) : Sig := ⟨fshowfraci, fshowfraco, mkFun fshowfraci.tys fshowfraco.tys (cshowfrac k)⟩
noncomputable def fshowfrac_t (k : Nat) (J : JF (List Int)) (L : LF (List Int)) : fshowfracT → Option (List Int)
  | (a0, a1) => ((cshownum k) (a0)).bind fun o1 => cat o1 ([47] : List Int) fun o2 => ((cshownum k) (a1)).bind fun o3 => cat o2 o3 fun o4 => some o4
theorem fshowfrac_e (k : Nat) (x : fshowfracT) : cshowfrac k x = fshowfrac_t k (fshowfrac k).J (fshowfrac k).L x := by
  apply cutX (fshowfrac k) [] [] (st0 (fshowfrac k).C Tryz.f19 fshowfraci x) [] [] (fshowfrac_t k · · x) <;> intros <;> kernel_rfl
theorem cshowfrac_ok (k : Nat) : SigOK Tryz.prog 19 (sgshowfrac k) :=
  fn_ok (C := (fshowfrac k).C) (l := fshowfracE k) rfl ⟨⟨cshownum_ok k, trivial⟩, trivial⟩ (by kernel_rfl) k (fn := Tryz.f19) (by kernel_rfl) (by kernel_rfl) (by kernel_rfl) fshowfraci fshowfraco rfl rfl (show 0 ≤ 48 by decide) (show 0 ≤ 48 by decide)

/-! (*carrefour/show.printer).line -/
def fshowp_line'1i : Sk := ⟨[.lf (.ptr 0 0), .lf (.pv .str), .lf (.pv (.slice .str))], [[.bld 0 56, .own 0, .pv (.int .i64)]], [some (5, (.int .u8))]⟩
def fshowp_line'1o : Sk := ⟨[], [[.bld 0 56, .own 1, .pv (.int .i64)]], [none, some (5, (.int .u8))]⟩
abbrev fshowp_line'1T := (List Int) × (List (List Int)) × (Bool) × (Int) × (List (Int))
abbrev fshowp_line'1R := (Bool) × (Int) × (List (Int))
noncomputable def fshowp_line'1E (k : Nat) : List (Nat × List Sig) := [(51, [sgstringsRepeat k]), (50, [sgstringsB_WriteString'1 k]), (52, [sgstringsJoin k]), (53, [sgstringsB_WriteByte k])]
noncomputable def fshowp_line'1 (k : Nat) : FnX fshowp_line'1R := mkX { P := Tryz.prog, env := lookS (fshowp_line'1E k), n := 108, npB := 1, npO := 1, hint := fun i => look none [] i, pops := [], bl := [54, 56], ef := [(14, (([0], [0]), ([], [62]))), (20, (([0], [62]), ([], [68])))], ld := [(7, 9999), (8, 9999), (10, 9999), (11, 9999), (12, 0), (16, 9999), (17, 9999)] } k Tryz.f17 fshowp_line'1o
noncomputable def cshowp_line'1 (k : Nat) : fshowp_line'1T → Option fshowp_line'1R := fnOf (fshowp_line'1 k).C k Tryz.f17 fshowp_line'1i fshowp_line'1o
noncomputable def sgshowp_line'1 (k : Nat) : Sig := ⟨fshowp_line'1i, fshowp_line'1o, mkFun fshowp_line'1i.tys fshowp_line'1o.tys (cshowp_line'1 k)⟩
noncomputable def fshowp_line'1_t (k : Nat) (J : JF fshowp_line'1R) (L : LF fshowp_line'1R) : fshowp_line'1T → Option fshowp_line'1R
  | (a0, a1, a2, a3, a4) => ((cstringsRepeat k) (([32, 32] : List Int), a3)).bind fun o1 => ((cstringsB_WriteString'1 k) (o1, a2, a3, a4)).bind fun o2 => ((cstringsJoin k) (a1, ([32] : List Int))).bind fun o3 => ((cstringsB_WriteString'1 k) (o3, o2.2.1, o2.2.2.1, o2.2.2.2)).bind fun o4 => ((cstringsB_WriteString'1 k) (a0, o4.2.1, o4.2.2.1, o4.2.2.2)).bind fun o5 => ((cstringsB_WriteByte k) ((10 : Int), o5.2.1, o5.2.2.1, o5.2.2.2)).bind fun o6 => some (o6.1, o6.2.1, o6.2.2)
theorem fshowp_line'1_e (k : Nat) (x : fshowp_line'1T) : cshowp_line'1 k x = fshowp_line'1_t k (fshowp_line'1 k).J (fshowp_line'1 k).L x := by
  apply cutX (fshowp_line'1 k) [] [] (st0 (fshowp_line'1 k).C Tryz.f17 fshowp_line'1i x) [] [] (fshowp_line'1_t k · · x) <;> intros <;> kernel_rfl
theorem cshowp_line'1_ok (k : Nat) : SigOK Tryz.prog 17 (sgshowp_line'1 k) :=
  fn_ok (C := (fshowp_line'1 k).C) (l := fshowp_line'1E k) rfl ⟨⟨cstringsRepeat_ok k, trivial⟩, ⟨cstringsB_WriteString'1_ok k, trivial⟩, ⟨cstringsJoin_ok k, trivial⟩, ⟨cstringsB_WriteByte_ok k, trivial⟩, trivial⟩ (by kernel_rfl) k (fn := Tryz.f17) (by kernel_rfl) (by kernel_rfl) (by kernel_rfl) fshowp_line'1i fshowp_line'1o rfl rfl (show 1 ≤ 48 by decide) (show 1 ≤ 48 by decide)

/-! (*carrefour/show.printer).head -/
def fshowp_headi : Sk := ⟨[.lf (.ptr 0 0), .agg [.pv .str, .pv (.int .i64), .pv (.int .i64), .pv (.int .i64), .pv (.int .i64), .pv (.int .i64), .pv (.int .i64), .pv (.int .i64), .pv (.int .i64), .pv (.int .i64), .pv (.int .i64)]], [[.bld 0 56, .own 0, .pv (.int .i64)]], [some (5, (.int .u8))]⟩
def fshowp_heado : Sk := ⟨[], [[.bld 0 56, .own 1, .pv (.int .i64)]], [none, some (5, (.int .u8))]⟩
abbrev fshowp_headT := (List Int) × (Int) × (Int) × (Int) × (Int) × (Int) × (Int) × (Int) × (Int) × (Int) × (Int) × (Bool) × (Int) × (List (Int))
abbrev fshowp_headR := (Bool) × (Int) × (List (Int))
noncomputable def fshowp_headE (k : Nat) : List (Nat × List Sig) := [(18, [sgshownum k]), (19, [sgshowfrac k]), (17, [sgshowp_line'1 k])]
noncomputable def fshowp_head (k : Nat) : FnX fshowp_headR := mkX { P := Tryz.prog, env := lookS (fshowp_headE k), n := 114, npB := 1, npO := 1, hint := fun i => look none [] i, pops := [], bl := [54, 56], ef := [(32, (([0], [0]), ([], [80])))], ld := [(5, 9999), (6, 51), (7, 9999), (8, 51), (10, 9999), (11, 51), (13, 9999), (14, 51), (16, 9999), (17, 51), (19, 9999), (20, 51), (22, 9999), (23, 51), (25, 9999), (26, 51), (28, 9999), (29, 51)] } k Tryz.f55 fshowp_heado
noncomputable def cshowp_head (k : Nat) : fshowp_headT → Option fshowp_headR := fnOf (fshowp_head k).C k Tryz.f55 fshowp_headi fshowp_heado
noncomputable def sgshowp_head (k : Nat) : Sig := ⟨fshowp_headi, fshowp_heado, mkFun fshowp_headi.tys fshowp_heado.tys (cshowp_head k)⟩
noncomputable def fshowp_head_t (k : Nat) (J : JF fshowp_headR) (L : LF fshowp_headR) : fshowp_headT → Option fshowp_headR
  | (a0, a1, a2, a3, a4, a5, a6, a7, a8, a9, a10, a11, a12, a13) => ((cshownum k) (a1)).bind fun o1 => ((cshownum k) (a2)).bind fun o2 => ((cshowfrac k) (a3, a4)).bind fun o3 => ((cshownum k) (a5)).bind fun o4 => ((cshownum k) (a6)).bind fun o5 => ((cshownum k) (a7)).bind fun o6 => ((cshownum k) (a8)).bind fun o7 => ((cshownum k) (a9)).bind fun o8 => ((cshowp_line'1 k) (([59] : List Int), ([([104, 101, 97, 100] : List Int), a0, ([118, 111, 108, 117, 109, 101] : List Int), o1, ([102, 108, 111, 119] : List Int), o2, ([117, 115, 101] : List Int), o3, ([115, 112, 101, 101, 100] : List Int), o4, ([103, 114, 97, 100, 101] : List Int), o5, ([119, 105, 100, 116, 104] : List Int), o6, ([108, 101, 110, 103, 116, 104] : List Int), o7, ([103, 114, 101, 101, 110] : List Int), o8] : List (List Int)), a11, a12, a13)).bind fun o9 => some (o9.1, o9.2.1, o9.2.2)
theorem fshowp_head_e (k : Nat) (x : fshowp_headT) : cshowp_head k x = fshowp_head_t k (fshowp_head k).J (fshowp_head k).L x := by
  apply cutX (fshowp_head k) [] [] (st0 (fshowp_head k).C Tryz.f55 fshowp_headi x) [] [] (fshowp_head_t k · · x) <;> intros <;> kernel_rfl
theorem cshowp_head_ok (k : Nat) : SigOK Tryz.prog 55 (sgshowp_head k) :=
  fn_ok (C := (fshowp_head k).C) (l := fshowp_headE k) rfl ⟨⟨cshownum_ok k, trivial⟩, ⟨cshowfrac_ok k, trivial⟩, ⟨cshowp_line'1_ok k, trivial⟩, trivial⟩ (by kernel_rfl) k (fn := Tryz.f55) (by kernel_rfl) (by kernel_rfl) (by kernel_rfl) fshowp_headi fshowp_heado rfl rfl (show 1 ≤ 48 by decide) (show 1 ≤ 48 by decide)

/-! carrefour/show.list -/
def fshowlisti : Sk := ⟨[.lf (.pv (.slice .str))], [], []⟩
def fshowlisto : Sk := ⟨[.lf (.pv .str)], [], []⟩
abbrev fshowlistR := List Int
noncomputable def fshowlistE (k : Nat) : List (Nat × List Sig) := [(52, [sgstringsJoin k])]
noncomputable def fshowlist (k : Nat) : FnX (List Int) := mkX { P := Tryz.prog, env := lookS (fshowlistE k), n := 53, npB := 0, npO := 0, hint := fun i => look none [] i, pops := [], bl := [54, 56] } k Tryz.f56 fshowlisto
noncomputable def cshowlist (k : Nat) : (List (List Int)) → Option (List Int) := fnOf (fshowlist k).C k Tryz.f56 fshowlisti fshowlisto
noncomputable def sgshowlist (k : Nat) : Sig := ⟨fshowlisti, fshowlisto, mkFun fshowlisti.tys fshowlisto.tys (cshowlist k)⟩
noncomputable def fshowlist_t (k : Nat) (J : JF (List Int)) (L : LF (List Int)) : List (List Int) → Option (List Int)
  | a0 => ((cstringsJoin k) (a0, ([44, 32] : List Int))).bind fun o1 => some o1
theorem fshowlist_e (k : Nat) (x : List (List Int)) : cshowlist k x = fshowlist_t k (fshowlist k).J (fshowlist k).L x := by
  apply cutX (fshowlist k) [] [] (st0 (fshowlist k).C Tryz.f56 fshowlisti x) [] [] (fshowlist_t k · · x) <;> intros <;> kernel_rfl
theorem cshowlist_ok (k : Nat) : SigOK Tryz.prog 56 (sgshowlist k) :=
  fn_ok (C := (fshowlist k).C) (l := fshowlistE k) rfl ⟨⟨cstringsJoin_ok k, trivial⟩, trivial⟩ (by kernel_rfl) k (fn := Tryz.f56) (by kernel_rfl) (by kernel_rfl) (by kernel_rfl) fshowlisti fshowlisto rfl rfl (show 0 ≤ 48 by decide) (show 0 ≤ 48 by decide)

/-! carrefour/show.list -/
def fshowlist'1i : Sk := ⟨[.lf (.pv (.slice .str))], [], []⟩
def fshowlist'1o : Sk := ⟨[.lf (.pv .str)], [], []⟩
abbrev fshowlist'1R := List Int
noncomputable def fshowlist'1E (k : Nat) : List (Nat × List Sig) := [(52, [sgstringsJoin k])]
noncomputable def fshowlist'1 (k : Nat) : FnX (List Int) := mkX { P := Tryz.prog, env := lookS (fshowlist'1E k), n := 53, npB := 0, npO := 0, hint := fun i => look none [] i, pops := [], bl := [54, 56] } k Tryz.f56 fshowlist'1o
noncomputable def cshowlist'1 (k : Nat) : (List (List Int)) → Option (List Int) := fnOf (fshowlist'1 k).C k Tryz.f56 fshowlist'1i fshowlist'1o
noncomputable def sgshowlist'1 (k : Nat) : Sig := ⟨fshowlist'1i, fshowlist'1o, mkFun fshowlist'1i.tys fshowlist'1o.tys (cshowlist'1 k)⟩
noncomputable def fshowlist'1_t (k : Nat) (J : JF (List Int)) (L : LF (List Int)) : List (List Int) → Option (List Int)
  | a0 => ((cstringsJoin k) (a0, ([44, 32] : List Int))).bind fun o1 => some o1
theorem fshowlist'1_e (k : Nat) (x : List (List Int)) : cshowlist'1 k x = fshowlist'1_t k (fshowlist'1 k).J (fshowlist'1 k).L x := by
  apply cutX (fshowlist'1 k) [] [] (st0 (fshowlist'1 k).C Tryz.f56 fshowlist'1i x) [] [] (fshowlist'1_t k · · x) <;> intros <;> kernel_rfl
theorem cshowlist'1_ok (k : Nat) : SigOK Tryz.prog 56 (sgshowlist'1 k) :=
  fn_ok (C := (fshowlist'1 k).C) (l := fshowlist'1E k) rfl ⟨⟨cstringsJoin_ok k, trivial⟩, trivial⟩ (by kernel_rfl) k (fn := Tryz.f56) (by kernel_rfl) (by kernel_rfl) (by kernel_rfl) fshowlist'1i fshowlist'1o rfl rfl (show 0 ≤ 48 by decide) (show 0 ≤ 48 by decide)

/-! (*carrefour/show.printer).group -/
def fshowp_groupi : Sk := ⟨[.lf (.ptr 0 0), .agg [.pv (.slice yt4)]], [[.bld 0 56, .own 0, .pv (.int .i64)]], [some (5, (.int .u8))]⟩
def fshowp_groupo : Sk := ⟨[], [[.bld 0 56, .own 1, .pv (.int .i64)]], [none, some (5, (.int .u8))]⟩
def fshowp_group_k2 : Sk := ⟨sparse 29 [(0, .lf (.ptr 0 0)), (8, .lf (.pv (.slice yt4))), (9, .lf (.pv (.int .i64))), (10, .lf (.pv (.int .i64)))], [[.bld 0 56, .own 1, .pv (.int .i64)]], [none, some (5, (.int .u8))]⟩
abbrev fshowp_group_T2 := (List (YT4)) × (Int) × (Int) × (Bool) × (Int) × (List (Int))
def fshowp_group_s2 : fshowp_group_T2 → St := stOf fshowp_group_k2 106
def fshowp_group_k7 : Sk := ⟨sparse 29 [(0, .lf (.ptr 0 0)), (5, .lf (.ptr 1 0)), (6, .lf (.own 1)), (8, .lf (.pv (.slice yt4))), (9, .lf (.pv (.int .i64))), (10, .lf (.pv (.int .i64)))], [[.bld 0 56, .own 2, .pv (.int .i64)], [.pv .bool, .pv (.slice .str)]], [none, some (9, .str), some (5, (.int .u8))]⟩
abbrev fshowp_group_T7 := (List (YT4)) × (Int) × (Int) × (Bool) × (Int) × (Bool) × (List (List Int)) × (List (List Int)) × (List (Int))
def fshowp_group_s7 : fshowp_group_T7 → St := stOf fshowp_group_k7 106
abbrev fshowp_groupT := (List (YT4)) × (Bool) × (Int) × (List (Int))
abbrev fshowp_groupR := (Bool) × (Int) × (List (Int))
noncomputable def fshowp_groupE (k : Nat) : List (Nat × List Sig) := [(56, [sgshowlist'1 k]), (17, [sgshowp_line'1 k])]
noncomputable def fshowp_group (k : Nat) : FnX fshowp_groupR := mkX { P := Tryz.prog, env := lookS (fshowp_groupE k), n := 106, npB := 1, npO := 1, hint := fun i => look none [(2, some fshowp_group_k2), (7, some fshowp_group_k7)] i, pops := [], bl := [54, 56] } k Tryz.f58 fshowp_groupo
noncomputable def cshowp_group (k : Nat) : fshowp_groupT → Option fshowp_groupR := fnOf (fshowp_group k).C k Tryz.f58 fshowp_groupi fshowp_groupo
noncomputable def sgshowp_group (k : Nat) : Sig := ⟨fshowp_groupi, fshowp_groupo, mkFun fshowp_groupi.tys fshowp_groupo.tys (cshowp_group k)⟩
noncomputable def fshowp_group_t (k : Nat) (J : JF fshowp_groupR) (L : LF fshowp_groupR) : fshowp_groupT → Option fshowp_groupR
  | (a0, a1, a2, a3) => L 2 [] k (fshowp_group_s2 (a0, ((List.length a0 : Nat) : Int), (0 : Int), a1, a2, a3))
theorem fshowp_group_e (k : Nat) (x : fshowp_groupT) : cshowp_group k x = fshowp_group_t k (fshowp_group k).J (fshowp_group k).L x := by
  apply cutX (fshowp_group k) [] [] (st0 (fshowp_group k).C Tryz.f58 fshowp_groupi x) [] [(2, [], k)] (fshowp_group_t k · · x) <;> intros <;> kernel_rfl
noncomputable def fshowp_group_tl2 (k j2 : Nat) (J : JF fshowp_groupR) (L : LF fshowp_groupR) : fshowp_group_T2 → Option fshowp_groupR
  | (a0, a1, a2, a3, a4, a5) => bif (decide (a2 < a1)) then (idx zt4 a0 a2 fun o1 => bif o1.1 then (app 16 ([([114, 105, 110, 103] : List Int)] : List (List Int)) ([([102, 114, 101, 101] : List Int)] : List (List Int)) fun o2 => J 7 [j2] (fshowp_group_s7 (a0, a1, a2, a3, a4, o1.1, o1.2.1, o2, a5))) else (J 7 [j2] (fshowp_group_s7 (a0, a1, a2, a3, a4, o1.1, o1.2.1, ([([114, 105, 110, 103] : List Int)] : List (List Int)), a5)))) else (some (a3, a4, a5))
theorem fshowp_group_el2 (k j2 : Nat) (x : fshowp_group_T2) : (fshowp_group k).L 2 [] (j2 + 1) (fshowp_group_s2 x) = fshowp_group_tl2 k j2 (fshowp_group k).J (fshowp_group k).L x := by
  apply cutX (fshowp_group k) [.r, .r, .b, .b] [j2] (fshowp_group_s2 x) [(7, [j2])] [(2, [], j2)] (fshowp_group_tl2 k j2 · · x) <;> intros <;> kernel_rfl
noncomputable def fshowp_group_tj7 (k j2 : Nat) (J : JF fshowp_groupR) (L : LF fshowp_groupR) : fshowp_group_T7 → Option fshowp_groupR
  | (a0, a1, a2, a3, a4, a5, a6, a7, a8) => ((cshowlist'1 k) (a6)).bind fun o1 => app 16 a7 ([o1] : List (List Int)) fun o2 => ((cshowp_line'1 k) (([59] : List Int), o2, a3, a4, a8)).bind fun o3 => L 2 [] j2 (fshowp_group_s2 (a0, a1, (IntKind.wrap .i64 (a2 + (1 : Int))), o3.1, o3.2.1, o3.2.2))
theorem fshowp_group_ej7 (k j2 : Nat) (x : fshowp_group_T7) : (fshowp_group k).J 7 [j2] (fshowp_group_s7 x) = fshowp_group_tj7 k j2 (fshowp_group k).J (fshowp_group k).L x := by
  apply cutX (fshowp_group k) [.r, .r, .b, .b, .r, .r, .l, .b, .r, .r, .r] [j2] (fshowp_group_s7 x) [(7, [j2])] [(2, [], j2)] (fshowp_group_tj7 k j2 · · x) <;> intros <;> kernel_rfl
theorem cshowp_group_ok (k : Nat) : SigOK Tryz.prog 58 (sgshowp_group k) :=
  fn_ok (C := (fshowp_group k).C) (l := fshowp_groupE k) rfl ⟨⟨cshowlist'1_ok k, trivial⟩, ⟨cshowp_line'1_ok k, trivial⟩, trivial⟩ (by kernel_rfl) k (fn := Tryz.f58) (by kernel_rfl) (by kernel_rfl) (by kernel_rfl) fshowp_groupi fshowp_groupo rfl rfl (show 1 ≤ 48 by decide) (show 1 ≤ 48 by decide)

/-! (*carrefour/show.printer).node$1 -/
def fshowp_node_1i : Sk := ⟨[.lf (.ptr 0 0), .lf (.ptr 1 0)], [[.ptr 2 0], [.pv (.slice yt4)], [.bld 2 56, .own 0, .pv (.int .i64)]], [some (5, (.int .u8))]⟩
def fshowp_node_1o : Sk := ⟨[], [[.ptr 2 0], [.pv (.slice yt4)], [.bld 2 56, .own 1, .pv (.int .i64)]], [none, some (5, (.int .u8))]⟩
abbrev fshowp_node_1T := (List (YT4)) × (Bool) × (Int) × (List (Int))
abbrev fshowp_node_1R := (List (YT4)) × (Bool) × (Int) × (List (Int))
noncomputable def fshowp_node_1E (k : Nat) : List (Nat × List Sig) := [(58, [sgshowp_group k])]
noncomputable def fshowp_node_1 (k : Nat) : FnX fshowp_node_1R := mkX { P := Tryz.prog, env := lookS (fshowp_node_1E k), n := 58, npB := 3, npO := 1, hint := fun i => look none [] i, pops := [], bl := [54, 56] } k Tryz.f57 fshowp_node_1o
noncomputable def cshowp_node_1 (k : Nat) : fshowp_node_1T → Option fshowp_node_1R := fnOf (fshowp_node_1 k).C k Tryz.f57 fshowp_node_1i fshowp_node_1o
noncomputable def sgshowp_node_1 (k : Nat) : Sig := ⟨fshowp_node_1i, fshowp_node_1o, mkFun fshowp_node_1i.tys fshowp_node_1o.tys (cshowp_node_1 k)⟩
noncomputable def fshowp_node_1_t (k : Nat) (J : JF fshowp_node_1R) (L : LF fshowp_node_1R) : fshowp_node_1T → Option fshowp_node_1R
  | (a0, a1, a2, a3) => ((cshowp_group k) (a0, a1, a2, a3)).bind fun o1 => some (a0, o1.1, o1.2.1, o1.2.2)
theorem fshowp_node_1_e (k : Nat) (x : fshowp_node_1T) : cshowp_node_1 k x = fshowp_node_1_t k (fshowp_node_1 k).J (fshowp_node_1 k).L x := by
  apply cutX (fshowp_node_1 k) [] [] (st0 (fshowp_node_1 k).C Tryz.f57 fshowp_node_1i x) [] [] (fshowp_node_1_t k · · x) <;> intros <;> kernel_rfl
theorem cshowp_node_1_ok (k : Nat) : SigOK Tryz.prog 57 (sgshowp_node_1 k) :=
  fn_ok (C := (fshowp_node_1 k).C) (l := fshowp_node_1E k) rfl ⟨⟨cshowp_group_ok k, trivial⟩, trivial⟩ (by kernel_rfl) k (fn := Tryz.f57) (by kernel_rfl) (by kernel_rfl) (by kernel_rfl) fshowp_node_1i fshowp_node_1o rfl rfl (show 3 ≤ 48 by decide) (show 1 ≤ 48 by decide)

/-! (*carrefour/show.printer).block -/
def fshowp_block'1i : Sk := ⟨[.lf (.ptr 0 0), .lf (.fn 57 [] [(1, 0), (2, 0)]), .lf (.pv (.slice .str))], [[.bld 0 56, .own 0, .pv (.int .i64)], [.ptr 0 0], [.pv (.slice yt4)]], [some (5, (.int .u8))]⟩
def fshowp_block'1o : Sk := ⟨[], [[.bld 0 56, .own 1, .pv (.int .i64)], [.ptr 0 0], [.pv (.slice yt4)]], [none, some (5, (.int .u8))]⟩
abbrev fshowp_block'1T := (List (List Int)) × (Bool) × (Int) × (List (YT4)) × (List (Int))
abbrev fshowp_block'1R := (Bool) × (Int) × (List (YT4)) × (List (Int))
noncomputable def fshowp_block'1E (k : Nat) : List (Nat × List Sig) := [(17, [sgshowp_line'1 k]), (57, [sgshowp_node_1 k])]
noncomputable def fshowp_block'1 (k : Nat) : FnX fshowp_block'1R := mkX { P := Tryz.prog, env := lookS (fshowp_block'1E k), n := 102, npB := 3, npO := 1, hint := fun i => look none [] i, pops := [], bl := [54, 56] } k Tryz.f20 fshowp_block'1o
noncomputable def cshowp_block'1 (k : Nat) : fshowp_block'1T → Option fshowp_block'1R := fnOf (fshowp_block'1 k).C k Tryz.f20 fshowp_block'1i fshowp_block'1o
noncomputable def sgshowp_block'1 (k : Nat) : Sig := ⟨fshowp_block'1i, fshowp_block'1o, mkFun fshowp_block'1i.tys fshowp_block'1o.tys (cshowp_block'1 k)⟩
noncomputable def fshowp_block'1_t (k : Nat) (J : JF fshowp_block'1R) (L : LF fshowp_block'1R) : fshowp_block'1T → Option fshowp_block'1R
  | (a0, a1, a2, a3, a4) => ((cshowp_line'1 k) (([32, 123] : List Int), a0, a1, a2, a4)).bind fun o1 => ((cshowp_node_1 k) (a3, o1.1, (IntKind.wrap .i64 (o1.2.1 + (1 : Int))), o1.2.2)).bind fun o2 => ((cshowp_line'1 k) (([125] : List Int), [], o2.2.1, (IntKind.wrap .i64 (o2.2.2.1 - (1 : Int))), o2.2.2.2)).bind fun o3 => some (o3.1, o3.2.1, o2.1, o3.2.2)
theorem fshowp_block'1_e (k : Nat) (x : fshowp_block'1T) : cshowp_block'1 k x = fshowp_block'1_t k (fshowp_block'1 k).J (fshowp_block'1 k).L x := by
  apply cutX (fshowp_block'1 k) [] [] (st0 (fshowp_block'1 k).C Tryz.f20 fshowp_block'1i x) [] [] (fshowp_block'1_t k · · x) <;> intros <;> kernel_rfl
theorem cshowp_block'1_ok (k : Nat) : SigOK Tryz.prog 20 (sgshowp_block'1 k) :=
  fn_ok (C := (fshowp_block'1 k).C) (l := fshowp_block'1E k) rfl ⟨⟨cshowp_line'1_ok k, trivial⟩, ⟨cshowp_node_1_ok k, trivial⟩, trivial⟩ (by kernel_rfl) k (fn := Tryz.f20) (by kernel_rfl) (by kernel_rfl) (by kernel_rfl) fshowp_block'1i fshowp_block'1o rfl rfl (show 3 ≤ 48 by decide) (show 1 ≤ 48 by decide)

/-! (*carrefour/show.printer).node -/
def fshowp_nodei : Sk := ⟨[.lf (.ptr 0 0), .agg [.pv .str, .pv (.slice yt1), .pv (.slice yt2), .pv (.slice yt3), .pv (.slice (.cons (.slice yt4) .nil)), .pv (.slice yt5), .pv (.int .i64)]], [[.bld 0 56, .own 0, .pv (.int .i64)]], [some (5, (.int .u8))]⟩
def fshowp_nodeo : Sk := ⟨[], [[.bld 0 56, .own 1, .pv (.int .i64)]], [none, some (5, (.int .u8))]⟩
def fshowp_node_k2 : Sk := ⟨sparse 93 [(0, .lf (.ptr 0 0)), (2, .lf (.ptr 1 0)), (3, .lf (.ptr 2 0)), (15, .lf (.pv (.slice yt1))), (16, .lf (.pv (.int .i64))), (17, .lf (.pv (.int .i64)))], [[.bld 0 56, .own 1, .pv (.int .i64)], [.ptr 0 0], [.pv .str, .pv (.slice yt1), .pv (.slice yt2), .pv (.slice yt3), .pv (.slice (.cons (.slice yt4) .nil)), .pv (.slice yt5), .pv (.int .i64)]], [none, some (5, (.int .u8))]⟩
abbrev fshowp_node_T2 := (List (YT1)) × (Int) × (Int) × (Bool) × (Int) × (List Int) × (List (YT1)) × (List (YT2)) × (List (YT3)) × (List ((List (YT4)) × (Unit))) × (List (YT5)) × (Int) × (List (Int))
def fshowp_node_s2 : fshowp_node_T2 → St := stOf fshowp_node_k2 234
def fshowp_node_k7 : Sk := ⟨sparse 93 [(0, .lf (.ptr 0 0)), (2, .lf (.ptr 1 0)), (3, .lf (.ptr 2 0)), (26, .lf (.pv (.slice yt2))), (27, .lf (.pv (.int .i64))), (28, .lf (.pv (.int .i64)))], [[.bld 0 56, .own 1, .pv (.int .i64)], [.ptr 0 0], [.pv .str, .pv (.slice yt1), .pv (.slice yt2), .pv (.slice yt3), .pv (.slice (.cons (.slice yt4) .nil)), .pv (.slice yt5), .pv (.int .i64)]], [none, some (5, (.int .u8))]⟩
abbrev fshowp_node_T7 := (List (YT2)) × (Int) × (Int) × (Bool) × (Int) × (List Int) × (List (YT1)) × (List (YT2)) × (List (YT3)) × (List ((List (YT4)) × (Unit))) × (List (YT5)) × (Int) × (List (Int))
def fshowp_node_s7 : fshowp_node_T7 → St := stOf fshowp_node_k7 234
def fshowp_node_k12 : Sk := ⟨sparse 93 [(0, .lf (.ptr 0 0)), (2, .lf (.ptr 1 0)), (3, .lf (.ptr 2 0)), (50, .lf (.pv (.slice yt3))), (51, .lf (.pv (.int .i64))), (52, .lf (.pv (.int .i64)))], [[.bld 0 56, .own 1, .pv (.int .i64)], [.ptr 0 0], [.pv .str, .pv (.slice yt1), .pv (.slice yt2), .pv (.slice yt3), .pv (.slice (.cons (.slice yt4) .nil)), .pv (.slice yt5), .pv (.int .i64)]], [none, some (5, (.int .u8))]⟩
abbrev fshowp_node_T12 := (List (YT3)) × (Int) × (Int) × (Bool) × (Int) × (List Int) × (List (YT1)) × (List (YT2)) × (List (YT3)) × (List ((List (YT4)) × (Unit))) × (List (YT5)) × (Int) × (List (Int))
def fshowp_node_s12 : fshowp_node_T12 → St := stOf fshowp_node_k12 234
def fshowp_node_k17 : Sk := ⟨sparse 93 [(0, .lf (.ptr 0 0)), (2, .lf (.ptr 1 0)), (3, .lf (.ptr 2 0)), (67, .lf (.pv (.slice (.cons (.slice yt4) .nil)))), (68, .lf (.pv (.int .i64))), (69, .lf (.pv (.int .i64)))], [[.bld 0 56, .own 1, .pv (.int .i64)], [.ptr 0 0], [.pv .str, .pv (.slice yt1), .pv (.slice yt2), .pv (.slice yt3), .pv (.slice (.cons (.slice yt4) .nil)), .pv (.slice yt5), .pv (.int .i64)]], [none, some (5, (.int .u8))]⟩
abbrev fshowp_node_T17 := (List ((List (YT4)) × (Unit))) × (Int) × (Int) × (Bool) × (Int) × (List Int) × (List (YT1)) × (List (YT2)) × (List (YT3)) × (List ((List (YT4)) × (Unit))) × (List (YT5)) × (Int) × (List (Int))
def fshowp_node_s17 : fshowp_node_T17 → St := stOf fshowp_node_k17 234
def fshowp_node_k22 : Sk := ⟨sparse 93 [(0, .lf (.ptr 0 0)), (2, .lf (.ptr 1 0)), (79, .lf (.pv (.slice yt5))), (80, .lf (.pv (.int .i64))), (81, .lf (.pv (.int .i64)))], [[.bld 0 56, .own 1, .pv (.int .i64)], [.ptr 0 0]], [none, some (5, (.int .u8))]⟩
abbrev fshowp_node_T22 := (List (YT5)) × (Int) × (Int) × (Bool) × (Int) × (List (Int))
def fshowp_node_s22 : fshowp_node_T22 → St := stOf fshowp_node_k22 234
abbrev fshowp_nodeT := (List Int) × (List (YT1)) × (List (YT2)) × (List (YT3)) × (List ((List (YT4)) × (Unit))) × (List (YT5)) × (Int) × (Bool) × (Int) × (List (Int))
abbrev fshowp_nodeR := (Bool) × (Int) × (List (Int))
noncomputable def fshowp_nodeE (k : Nat) : List (Nat × List Sig) := [(55, [sgshowp_head k]), (18, [sgshownum k]), (17, [sgshowp_line'1 k]), (56, [sgshowlist'1 k, sgshowlist k]), (20, [sgshowp_block'1 k])]
noncomputable def fshowp_node (k : Nat) : FnX fshowp_nodeR := mkX { P := Tryz.prog, env := lookS (fshowp_nodeE k), n := 234, npB := 1, npO := 1, hint := fun i => look none [(2, some fshowp_node_k2), (7, some fshowp_node_k7), (12, some fshowp_node_k12), (17, some fshowp_node_k17), (22, some fshowp_node_k22)] i, pops := [], bl := [54, 56], ef := [(47, (([0], [0, 1]), ([], [95]))), (64, (([0], [0, 1]), ([], [112])))], ld := [(32, 1), (33, 9999), (34, 55), (35, 9999), (36, 55), (37, 9999), (38, 55), (40, 9999), (41, 55), (43, 9999), (44, 55), (56, 1), (57, 9999), (58, 57), (60, 9999), (61, 57)] } k Tryz.f22 fshowp_nodeo
noncomputable def cshowp_node (k : Nat) : fshowp_nodeT → Option fshowp_nodeR := fnOf (fshowp_node k).C k Tryz.f22 fshowp_nodei fshowp_nodeo
noncomputable def sgshowp_node (k : Nat) : Sig := ⟨fshowp_nodei, fshowp_nodeo, mkFun fshowp_nodei.tys fshowp_nodeo.tys (cshowp_node k)⟩
noncomputable def fshowp_node_t (k : Nat) (J : JF fshowp_nodeR) (L : LF fshowp_nodeR) : fshowp_nodeT → Option fshowp_nodeR
  | (a0, a1, a2, a3, a4, a5, a6, a7, a8, a9) => L 2 [] k (fshowp_node_s2 (a1, ((List.length a1 : Nat) : Int), (0 : Int), a7, a8, a0, a1, a2, a3, a4, a5, a6, a9))
theorem fshowp_node_e (k : Nat) (x : fshowp_nodeT) : cshowp_node k x = fshowp_node_t k (fshowp_node k).J (fshowp_node k).L x := by
  apply cutX (fshowp_node k) [] [] (st0 (fshowp_node k).C Tryz.f22 fshowp_nodei x) [] [(2, [], k), (7, [], k), (12, [], k), (17, [], k), (22, [], k)] (fshowp_node_t k · · x) <;> intros <;> kernel_rfl
noncomputable def fshowp_node_tl2 (k j2 : Nat) (J : JF fshowp_nodeR) (L : LF fshowp_nodeR) : fshowp_node_T2 → Option fshowp_nodeR
  | (a0, a1, a2, a3, a4, a5, a6, a7, a8, a9, a10, a11, a12) => bif (decide (a2 < a1)) then (idx zt1 a0 a2 fun o1 => ((cshowp_head k) (o1.1, o1.2.1, o1.2.2.1, o1.2.2.2.1.1, o1.2.2.2.1.2.1, o1.2.2.2.2.1, o1.2.2.2.2.2.1, o1.2.2.2.2.2.2.1, o1.2.2.2.2.2.2.2.1, o1.2.2.2.2.2.2.2.2.1, o1.2.2.2.2.2.2.2.2.2.1, a3, a4, a12)).bind fun o2 => L 2 [] j2 (fshowp_node_s2 (a0, a1, (IntKind.wrap .i64 (a2 + (1 : Int))), o2.1, o2.2.1, a5, a6, a7, a8, a9, a10, a11, o2.2.2))) else (L 7 [] k (fshowp_node_s7 (a7, ((List.length a7 : Nat) : Int), (0 : Int), a3, a4, a5, a6, a7, a8, a9, a10, a11, a12)))
theorem fshowp_node_el2 (k j2 : Nat) (x : fshowp_node_T2) : (fshowp_node k).L 2 [] (j2 + 1) (fshowp_node_s2 x) = fshowp_node_tl2 k j2 (fshowp_node k).J (fshowp_node k).L x := by
  apply cutX (fshowp_node k) [.r, .l, .r, .b, .b] [j2] (fshowp_node_s2 x) [] [(2, [], j2), (7, [], k), (12, [], k), (17, [], k), (22, [], k)] (fshowp_node_tl2 k j2 · · x) <;> intros <;> kernel_rfl
noncomputable def fshowp_node_tl7 (k j7 : Nat) (J : JF fshowp_nodeR) (L : LF fshowp_nodeR) : fshowp_node_T7 → Option fshowp_nodeR
  | (a0, a1, a2, a3, a4, a5, a6, a7, a8, a9, a10, a11, a12) => bif (decide (a2 < a1)) then (idx zt2 a0 a2 fun o1 => ((cshownum k) (o1.2.2.1)).bind fun o2 => ((cshownum k) (o1.2.2.2.1)).bind fun o3 => ((cshownum k) (o1.2.2.2.2.1)).bind fun o4 => ((cshowp_line'1 k) (([59] : List Int), ([([119, 97, 108, 107] : List Int), o1.1, ([119, 105, 116, 104] : List Int), o1.2.1, ([108, 111, 110, 103] : List Int), o2, ([112, 97, 99, 101] : List Int), o3, ([108, 101, 97, 115, 116] : List Int), o4] : List (List Int)), a3, a4, a12)).bind fun o5 => L 7 [] j7 (fshowp_node_s7 (a0, a1, (IntKind.wrap .i64 (a2 + (1 : Int))), o5.1, o5.2.1, a5, a6, a7, a8, a9, a10, a11, o5.2.2))) else (L 12 [] k (fshowp_node_s12 (a8, ((List.length a8 : Nat) : Int), (0 : Int), a3, a4, a5, a6, a7, a8, a9, a10, a11, a12)))
theorem fshowp_node_el7 (k j7 : Nat) (x : fshowp_node_T7) : (fshowp_node k).L 7 [] (j7 + 1) (fshowp_node_s7 x) = fshowp_node_tl7 k j7 (fshowp_node k).J (fshowp_node k).L x := by
  apply cutX (fshowp_node k) [.r, .r, .l, .r, .b, .b] [j7] (fshowp_node_s7 x) [] [(2, [], k), (7, [], j7), (12, [], k), (17, [], k), (22, [], k)] (fshowp_node_tl7 k j7 · · x) <;> intros <;> kernel_rfl
noncomputable def fshowp_node_tl12 (k j12 : Nat) (J : JF fshowp_nodeR) (L : LF fshowp_nodeR) : fshowp_node_T12 → Option fshowp_nodeR
  | (a0, a1, a2, a3, a4, a5, a6, a7, a8, a9, a10, a11, a12) => bif (decide (a2 < a1)) then (idx zt3 a0 a2 fun o1 => cat o1.1 ([58] : List Int) fun o2 => ((cshowlist'1 k) (o1.2.1)).bind fun o3 => ((cshowp_line'1 k) (([59] : List Int), ([([112, 104, 97, 115, 101] : List Int), o2, o3] : List (List Int)), a3, a4, a12)).bind fun o4 => L 12 [] j12 (fshowp_node_s12 (a0, a1, (IntKind.wrap .i64 (a2 + (1 : Int))), o4.1, o4.2.1, a5, a6, a7, a8, a9, a10, a11, o4.2.2))) else (L 17 [] k (fshowp_node_s17 (a9, ((List.length a9 : Nat) : Int), (0 : Int), a3, a4, a5, a6, a7, a8, a9, a10, a11, a12)))
theorem fshowp_node_el12 (k j12 : Nat) (x : fshowp_node_T12) : (fshowp_node k).L 12 [] (j12 + 1) (fshowp_node_s12 x) = fshowp_node_tl12 k j12 (fshowp_node k).J (fshowp_node k).L x := by
  apply cutX (fshowp_node k) [.r, .r, .r, .l, .r, .b, .b] [j12] (fshowp_node_s12 x) [] [(2, [], k), (7, [], k), (12, [], j12), (17, [], k), (22, [], k)] (fshowp_node_tl12 k j12 · · x) <;> intros <;> kernel_rfl
noncomputable def fshowp_node_tl17 (k j17 : Nat) (J : JF fshowp_nodeR) (L : LF fshowp_nodeR) : fshowp_node_T17 → Option fshowp_nodeR
  | (a0, a1, a2, a3, a4, a5, a6, a7, a8, a9, a10, a11, a12) => bif (decide (a2 < a1)) then (idx ([], ()) a0 a2 fun o1 => ((cshowp_block'1 k) (([([103, 114, 111, 117, 112] : List Int)] : List (List Int)), a3, a4, o1.1, a12)).bind fun o2 => L 17 [] j17 (fshowp_node_s17 (a0, a1, (IntKind.wrap .i64 (a2 + (1 : Int))), o2.1, o2.2.1, a5, a6, a7, a8, a9, a10, a11, o2.2.2.2))) else (L 22 [] k (fshowp_node_s22 (a10, ((List.length a10 : Nat) : Int), (0 : Int), a3, a4, a12)))
theorem fshowp_node_el17 (k j17 : Nat) (x : fshowp_node_T17) : (fshowp_node k).L 17 [] (j17 + 1) (fshowp_node_s17 x) = fshowp_node_tl17 k j17 (fshowp_node k).J (fshowp_node k).L x := by
  apply cutX (fshowp_node k) [.r, .r, .r, .r, .l, .r, .b, .b] [j17] (fshowp_node_s17 x) [] [(2, [], k), (7, [], k), (12, [], k), (17, [], j17), (22, [], k)] (fshowp_node_tl17 k j17 · · x) <;> intros <;> kernel_rfl
noncomputable def fshowp_node_tl22 (k j22 : Nat) (J : JF fshowp_nodeR) (L : LF fshowp_nodeR) : fshowp_node_T22 → Option fshowp_nodeR
  | (a0, a1, a2, a3, a4, a5) => bif (decide (a2 < a1)) then (idx zt5 a0 a2 fun o1 => ((cshowp_line'1 k) (([59] : List Int), ([([102, 111, 101] : List Int), o1.1, o1.2.1] : List (List Int)), a3, a4, a5)).bind fun o2 => L 22 [] j22 (fshowp_node_s22 (a0, a1, (IntKind.wrap .i64 (a2 + (1 : Int))), o2.1, o2.2.1, o2.2.2))) else (some (a3, a4, a5))
theorem fshowp_node_el22 (k j22 : Nat) (x : fshowp_node_T22) : (fshowp_node k).L 22 [] (j22 + 1) (fshowp_node_s22 x) = fshowp_node_tl22 k j22 (fshowp_node k).J (fshowp_node k).L x := by
  apply cutX (fshowp_node k) [.r, .r, .r, .r, .r, .r, .b, .b] [j22] (fshowp_node_s22 x) [] [(2, [], k), (7, [], k), (12, [], k), (17, [], k), (22, [], j22)] (fshowp_node_tl22 k j22 · · x) <;> intros <;> kernel_rfl
theorem cshowp_node_ok (k : Nat) : SigOK Tryz.prog 22 (sgshowp_node k) :=
  fn_ok (C := (fshowp_node k).C) (l := fshowp_nodeE k) rfl ⟨⟨cshowp_head_ok k, trivial⟩, ⟨cshownum_ok k, trivial⟩, ⟨cshowp_line'1_ok k, trivial⟩, ⟨cshowlist'1_ok k, cshowlist_ok k, trivial⟩, ⟨cshowp_block'1_ok k, trivial⟩, trivial⟩ (by kernel_rfl) k (fn := Tryz.f22) (by kernel_rfl) (by kernel_rfl) (by kernel_rfl) fshowp_nodei fshowp_nodeo rfl rfl (show 1 ≤ 48 by decide) (show 1 ≤ 48 by decide)

/-! carrefour/show.Show$1 -/
def fshowShow_1i : Sk := ⟨[.lf (.ptr 0 0), .lf (.ptr 1 0)], [[.ptr 2 0], [.pv .str, .pv (.slice yt1), .pv (.slice yt2), .pv (.slice yt3), .pv (.slice (.cons (.slice yt4) .nil)), .pv (.slice yt5), .pv (.int .i64)], [.bld 2 56, .own 0, .pv (.int .i64)]], [some (5, (.int .u8))]⟩
def fshowShow_1o : Sk := ⟨[], [[.ptr 2 0], [.pv .str, .pv (.slice yt1), .pv (.slice yt2), .pv (.slice yt3), .pv (.slice (.cons (.slice yt4) .nil)), .pv (.slice yt5), .pv (.int .i64)], [.bld 2 56, .own 1, .pv (.int .i64)]], [none, some (5, (.int .u8))]⟩
abbrev fshowShow_1T := (List Int) × (List (YT1)) × (List (YT2)) × (List (YT3)) × (List ((List (YT4)) × (Unit))) × (List (YT5)) × (Int) × (Bool) × (Int) × (List (Int))
abbrev fshowShow_1R := (List Int) × (List (YT1)) × (List (YT2)) × (List (YT3)) × (List ((List (YT4)) × (Unit))) × (List (YT5)) × (Int) × (Bool) × (Int) × (List (Int))
noncomputable def fshowShow_1E (k : Nat) : List (Nat × List Sig) := [(22, [sgshowp_node k])]
noncomputable def fshowShow_1 (k : Nat) : FnX fshowShow_1R := mkX { P := Tryz.prog, env := lookS (fshowShow_1E k), n := 58, npB := 3, npO := 1, hint := fun i => look none [] i, pops := [], bl := [54, 56] } k Tryz.f21 fshowShow_1o
noncomputable def cshowShow_1 (k : Nat) : fshowShow_1T → Option fshowShow_1R := fnOf (fshowShow_1 k).C k Tryz.f21 fshowShow_1i fshowShow_1o
noncomputable def sgshowShow_1 (k : Nat) : Sig := ⟨fshowShow_1i, fshowShow_1o, mkFun fshowShow_1i.tys fshowShow_1o.tys (cshowShow_1 k)⟩
noncomputable def fshowShow_1_t (k : Nat) (J : JF fshowShow_1R) (L : LF fshowShow_1R) : fshowShow_1T → Option fshowShow_1R
  | (a0, a1, a2, a3, a4, a5, a6, a7, a8, a9) => ((cshowp_node k) (a0, a1, a2, a3, a4, a5, a6, a7, a8, a9)).bind fun o1 => some (a0, a1, a2, a3, a4, a5, a6, o1.1, o1.2.1, o1.2.2)
theorem fshowShow_1_e (k : Nat) (x : fshowShow_1T) : cshowShow_1 k x = fshowShow_1_t k (fshowShow_1 k).J (fshowShow_1 k).L x := by
  apply cutX (fshowShow_1 k) [] [] (st0 (fshowShow_1 k).C Tryz.f21 fshowShow_1i x) [] [] (fshowShow_1_t k · · x) <;> intros <;> kernel_rfl
theorem cshowShow_1_ok (k : Nat) : SigOK Tryz.prog 21 (sgshowShow_1 k) :=
  fn_ok (C := (fshowShow_1 k).C) (l := fshowShow_1E k) rfl ⟨⟨cshowp_node_ok k, trivial⟩, trivial⟩ (by kernel_rfl) k (fn := Tryz.f21) (by kernel_rfl) (by kernel_rfl) (by kernel_rfl) fshowShow_1i fshowShow_1o rfl rfl (show 3 ≤ 48 by decide) (show 1 ≤ 48 by decide)

/-! (*carrefour/show.printer).block -/
def fshowp_blocki : Sk := ⟨[.lf (.ptr 0 0), .lf (.fn 21 [] [(1, 0), (2, 0)]), .lf (.pv (.slice .str))], [[.bld 0 56, .own 0, .pv (.int .i64)], [.ptr 0 0], [.pv .str, .pv (.slice yt1), .pv (.slice yt2), .pv (.slice yt3), .pv (.slice (.cons (.slice yt4) .nil)), .pv (.slice yt5), .pv (.int .i64)]], [some (5, (.int .u8))]⟩
def fshowp_blocko : Sk := ⟨[], [[.bld 0 56, .own 1, .pv (.int .i64)], [.ptr 0 0], [.pv .str, .pv (.slice yt1), .pv (.slice yt2), .pv (.slice yt3), .pv (.slice (.cons (.slice yt4) .nil)), .pv (.slice yt5), .pv (.int .i64)]], [none, some (5, (.int .u8))]⟩
abbrev fshowp_blockT := (List (List Int)) × (Bool) × (Int) × (List Int) × (List (YT1)) × (List (YT2)) × (List (YT3)) × (List ((List (YT4)) × (Unit))) × (List (YT5)) × (Int) × (List (Int))
abbrev fshowp_blockR := (Bool) × (Int) × (List Int) × (List (YT1)) × (List (YT2)) × (List (YT3)) × (List ((List (YT4)) × (Unit))) × (List (YT5)) × (Int) × (List (Int))
noncomputable def fshowp_blockE (k : Nat) : List (Nat × List Sig) := [(17, [sgshowp_line'1 k]), (21, [sgshowShow_1 k])]
noncomputable def fshowp_block (k : Nat) : FnX fshowp_blockR := mkX { P := Tryz.prog, env := lookS (fshowp_blockE k), n := 102, npB := 3, npO := 1, hint := fun i => look none [] i, pops := [], bl := [54, 56] } k Tryz.f20 fshowp_blocko
noncomputable def cshowp_block (k : Nat) : fshowp_blockT → Option fshowp_blockR := fnOf (fshowp_block k).C k Tryz.f20 fshowp_blocki fshowp_blocko
noncomputable def sgshowp_block (k : Nat) : Sig := ⟨fshowp_blocki, fshowp_blocko, mkFun fshowp_blocki.tys fshowp_blocko.tys (cshowp_block k)⟩
noncomputable def fshowp_block_t (k : Nat) (J : JF fshowp_blockR) (L : LF fshowp_blockR) : fshowp_blockT → Option fshowp_blockR
  | (a0, a1, a2, a3, a4, a5, a6, a7, a8, a9, a10) => ((cshowp_line'1 k) (([32, 123] : List Int), a0, a1, a2, a10)).bind fun o1 => ((cshowShow_1 k) (a3, a4, a5, a6, a7, a8, a9, o1.1, (IntKind.wrap .i64 (o1.2.1 + (1 : Int))), o1.2.2)).bind fun o2 => ((cshowp_line'1 k) (([125] : List Int), [], o2.2.2.2.2.2.2.2.1, (IntKind.wrap .i64 (o2.2.2.2.2.2.2.2.2.1 - (1 : Int))), o2.2.2.2.2.2.2.2.2.2)).bind fun o3 => some (o3.1, o3.2.1, o2.1, o2.2.1, o2.2.2.1, o2.2.2.2.1, o2.2.2.2.2.1, o2.2.2.2.2.2.1, o2.2.2.2.2.2.2.1, o3.2.2)
theorem fshowp_block_e (k : Nat) (x : fshowp_blockT) : cshowp_block k x = fshowp_block_t k (fshowp_block k).J (fshowp_block k).L x := by
  apply cutX (fshowp_block k) [] [] (st0 (fshowp_block k).C Tryz.f20 fshowp_blocki x) [] [] (fshowp_block_t k · · x) <;> intros <;> kernel_rfl
theorem cshowp_block_ok (k : Nat) : SigOK Tryz.prog 20 (sgshowp_block k) :=
  fn_ok (C := (fshowp_block k).C) (l := fshowp_blockE k) rfl ⟨⟨cshowp_line'1_ok k, trivial⟩, ⟨cshowShow_1_ok k, trivial⟩, trivial⟩ (by kernel_rfl) k (fn := Tryz.f20) (by kernel_rfl) (by kernel_rfl) (by kernel_rfl) fshowp_blocki fshowp_blocko rfl rfl (show 3 ≤ 48 by decide) (show 1 ≤ 48 by decide)

/-! (*carrefour/show.printer).artery -/
def fshowp_arteryi : Sk := ⟨[.lf (.ptr 0 0), .agg [.pv (.int .i64), .pv (.int .i64), .pv (.int .i64), .pv (.int .i64), .pv (.int .i64), .pv (.slice yt6), .pv (.slice yt7), .pv (.int .i64), .pv (.int .i64)]], [[.bld 0 56, .own 0, .pv (.int .i64)]], [some (5, (.int .u8))]⟩
def fshowp_arteryo : Sk := ⟨[], [[.bld 0 56, .own 1, .pv (.int .i64)]], [none, some (5, (.int .u8))]⟩
def fshowp_artery_k2 : Sk := ⟨sparse 38 [(0, .lf (.ptr 0 0)), (3, .lf (.ptr 1 0)), (7, .lf (.pv (.slice yt7))), (8, .lf (.pv (.int .i64))), (9, .lf (.pv (.int .i64)))], [[.bld 0 56, .own 1, .pv (.int .i64)], [.pv (.int .i64), .pv (.int .i64), .pv (.int .i64), .pv (.int .i64), .pv (.int .i64), .pv (.slice yt6), .pv (.slice yt7), .pv (.int .i64), .pv (.int .i64)]], [none, some (5, (.int .u8))]⟩
abbrev fshowp_artery_T2 := (List (YT7)) × (Int) × (Int) × (Bool) × (Int) × (Int) × (Int) × (Int) × (Int) × (Int) × (List (YT6)) × (List (YT7)) × (Int) × (Int) × (List (Int))
def fshowp_artery_s2 : fshowp_artery_T2 → St := stOf fshowp_artery_k2 124
abbrev fshowp_arteryT := (Int) × (Int) × (Int) × (Int) × (Int) × (List (YT6)) × (List (YT7)) × (Int) × (Int) × (Bool) × (Int) × (List (Int))
abbrev fshowp_arteryR := (Bool) × (Int) × (List (Int))
noncomputable def fshowp_arteryE (k : Nat) : List (Nat × List Sig) := [(18, [sgshownum k]), (17, [sgshowp_line'1 k])]
noncomputable def fshowp_artery (k : Nat) : FnX fshowp_arteryR := mkX { P := Tryz.prog, env := lookS (fshowp_arteryE k), n := 124, npB := 1, npO := 1, hint := fun i => look none [(2, some fshowp_artery_k2)] i, pops := [], bl := [54, 56], ef := [(27, (([0], [0, 1]), ([], [75]))), (37, (([0], [0, 1]), ([], [85])))], ld := [(14, 9999), (15, 53), (16, 9999), (17, 53), (18, 9999), (19, 53), (20, 9999), (21, 53), (23, 9999), (24, 53), (30, 9999), (31, 1), (33, 9999), (34, 1)] } k Tryz.f24 fshowp_arteryo
noncomputable def cshowp_artery (k : Nat) : fshowp_arteryT → Option fshowp_arteryR := fnOf (fshowp_artery k).C k Tryz.f24 fshowp_arteryi fshowp_arteryo
noncomputable def sgshowp_artery (k : Nat) : Sig := ⟨fshowp_arteryi, fshowp_arteryo, mkFun fshowp_arteryi.tys fshowp_arteryo.tys (cshowp_artery k)⟩
noncomputable def fshowp_artery_t (k : Nat) (J : JF fshowp_arteryR) (L : LF fshowp_arteryR) : fshowp_arteryT → Option fshowp_arteryR
  | (a0, a1, a2, a3, a4, a5, a6, a7, a8, a9, a10, a11) => L 2 [] k (fshowp_artery_s2 (a6, ((List.length a6 : Nat) : Int), (0 : Int), a9, a10, a0, a1, a2, a3, a4, a5, a6, a7, a8, a11))
theorem fshowp_artery_e (k : Nat) (x : fshowp_arteryT) : cshowp_artery k x = fshowp_artery_t k (fshowp_artery k).J (fshowp_artery k).L x := by
  apply cutX (fshowp_artery k) [] [] (st0 (fshowp_artery k).C Tryz.f24 fshowp_arteryi x) [] [(2, [], k)] (fshowp_artery_t k · · x) <;> intros <;> kernel_rfl
noncomputable def fshowp_artery_tl2 (k j2 : Nat) (J : JF fshowp_arteryR) (L : LF fshowp_arteryR) : fshowp_artery_T2 → Option fshowp_arteryR
  | (a0, a1, a2, a3, a4, a5, a6, a7, a8, a9, a10, a11, a12, a13, a14) => bif (decide (a2 < a1)) then (idx zt7 a0 a2 fun o1 => ((cshownum k) (o1.2.2.2.1)).bind fun o2 => ((cshownum k) (o1.2.2.2.2.1)).bind fun o3 => ((cshowp_line'1 k) (([59] : List Int), ([([115, 116, 111, 112] : List Int), o1.1, ([111, 117, 116] : List Int), o1.2.1, ([105, 110] : List Int), o1.2.2.1, ([97, 104, 101, 97, 100] : List Int), o2, ([98, 97, 99, 107] : List Int), o3] : List (List Int)), a3, a4, a14)).bind fun o4 => L 2 [] j2 (fshowp_artery_s2 (a0, a1, (IntKind.wrap .i64 (a2 + (1 : Int))), o4.1, o4.2.1, a5, a6, a7, a8, a9, a10, a11, a12, a13, o4.2.2))) else (((cshownum k) (a12)).bind fun o5 => ((cshownum k) (a13)).bind fun o6 => ((cshowp_line'1 k) (([59] : List Int), ([([119, 101, 105, 103, 104, 116, 115] : List Int), o5, o6] : List (List Int)), a3, a4, a14)).bind fun o7 => some (o7.1, o7.2.1, o7.2.2))
theorem fshowp_artery_el2 (k j2 : Nat) (x : fshowp_artery_T2) : (fshowp_artery k).L 2 [] (j2 + 1) (fshowp_artery_s2 x) = fshowp_artery_tl2 k j2 (fshowp_artery k).J (fshowp_artery k).L x := by
  apply cutX (fshowp_artery k) [.r, .l, .r, .b, .b] [j2] (fshowp_artery_s2 x) [] [(2, [], j2)] (fshowp_artery_tl2 k j2 · · x) <;> intros <;> kernel_rfl
theorem cshowp_artery_ok (k : Nat) : SigOK Tryz.prog 24 (sgshowp_artery k) :=
  fn_ok (C := (fshowp_artery k).C) (l := fshowp_arteryE k) rfl ⟨⟨cshownum_ok k, trivial⟩, ⟨cshowp_line'1_ok k, trivial⟩, trivial⟩ (by kernel_rfl) k (fn := Tryz.f24) (by kernel_rfl) (by kernel_rfl) (by kernel_rfl) fshowp_arteryi fshowp_arteryo rfl rfl (show 1 ≤ 48 by decide) (show 1 ≤ 48 by decide)

/-! carrefour/show.Show$2 -/
def fshowShow_2i : Sk := ⟨[.lf (.ptr 0 0), .lf (.ptr 1 0)], [[.ptr 2 0], [.pv (.int .i64), .pv (.int .i64), .pv (.int .i64), .pv (.int .i64), .pv (.int .i64), .pv (.slice yt6), .pv (.slice yt7), .pv (.int .i64), .pv (.int .i64)], [.bld 2 56, .own 0, .pv (.int .i64)]], [some (5, (.int .u8))]⟩
def fshowShow_2o : Sk := ⟨[], [[.ptr 2 0], [.pv (.int .i64), .pv (.int .i64), .pv (.int .i64), .pv (.int .i64), .pv (.int .i64), .pv (.slice yt6), .pv (.slice yt7), .pv (.int .i64), .pv (.int .i64)], [.bld 2 56, .own 1, .pv (.int .i64)]], [none, some (5, (.int .u8))]⟩
abbrev fshowShow_2T := (Int) × (Int) × (Int) × (Int) × (Int) × (List (YT6)) × (List (YT7)) × (Int) × (Int) × (Bool) × (Int) × (List (Int))
abbrev fshowShow_2R := (Int) × (Int) × (Int) × (Int) × (Int) × (List (YT6)) × (List (YT7)) × (Int) × (Int) × (Bool) × (Int) × (List (Int))
noncomputable def fshowShow_2E (k : Nat) : List (Nat × List Sig) := [(24, [sgshowp_artery k])]
noncomputable def fshowShow_2 (k : Nat) : FnX fshowShow_2R := mkX { P := Tryz.prog, env := lookS (fshowShow_2E k), n := 58, npB := 3, npO := 1, hint := fun i => look none [] i, pops := [], bl := [54, 56] } k Tryz.f23 fshowShow_2o
noncomputable def cshowShow_2 (k : Nat) : fshowShow_2T → Option fshowShow_2R := fnOf (fshowShow_2 k).C k Tryz.f23 fshowShow_2i fshowShow_2o
noncomputable def sgshowShow_2 (k : Nat) : Sig := ⟨fshowShow_2i, fshowShow_2o, mkFun fshowShow_2i.tys fshowShow_2o.tys (cshowShow_2 k)⟩
noncomputable def fshowShow_2_t (k : Nat) (J : JF fshowShow_2R) (L : LF fshowShow_2R) : fshowShow_2T → Option fshowShow_2R
  | (a0, a1, a2, a3, a4, a5, a6, a7, a8, a9, a10, a11) => ((cshowp_artery k) (a0, a1, a2, a3, a4, a5, a6, a7, a8, a9, a10, a11)).bind fun o1 => some (a0, a1, a2, a3, a4, a5, a6, a7, a8, o1.1, o1.2.1, o1.2.2)
theorem fshowShow_2_e (k : Nat) (x : fshowShow_2T) : cshowShow_2 k x = fshowShow_2_t k (fshowShow_2 k).J (fshowShow_2 k).L x := by
  apply cutX (fshowShow_2 k) [] [] (st0 (fshowShow_2 k).C Tryz.f23 fshowShow_2i x) [] [] (fshowShow_2_t k · · x) <;> intros <;> kernel_rfl
theorem cshowShow_2_ok (k : Nat) : SigOK Tryz.prog 23 (sgshowShow_2 k) :=
  fn_ok (C := (fshowShow_2 k).C) (l := fshowShow_2E k) rfl ⟨⟨cshowp_artery_ok k, trivial⟩, trivial⟩ (by kernel_rfl) k (fn := Tryz.f23) (by kernel_rfl) (by kernel_rfl) (by kernel_rfl) fshowShow_2i fshowShow_2o rfl rfl (show 3 ≤ 48 by decide) (show 1 ≤ 48 by decide)

/-! (*carrefour/show.printer).block -/
def fshowp_block'2i : Sk := ⟨[.lf (.ptr 0 0), .lf (.fn 23 [] [(1, 0), (2, 0)]), .lf (.pv (.slice .str))], [[.bld 0 56, .own 0, .pv (.int .i64)], [.ptr 0 0], [.pv (.int .i64), .pv (.int .i64), .pv (.int .i64), .pv (.int .i64), .pv (.int .i64), .pv (.slice yt6), .pv (.slice yt7), .pv (.int .i64), .pv (.int .i64)]], [some (5, (.int .u8))]⟩
def fshowp_block'2o : Sk := ⟨[], [[.bld 0 56, .own 1, .pv (.int .i64)], [.ptr 0 0], [.pv (.int .i64), .pv (.int .i64), .pv (.int .i64), .pv (.int .i64), .pv (.int .i64), .pv (.slice yt6), .pv (.slice yt7), .pv (.int .i64), .pv (.int .i64)]], [none, some (5, (.int .u8))]⟩
abbrev fshowp_block'2T := (List (List Int)) × (Bool) × (Int) × (Int) × (Int) × (Int) × (Int) × (Int) × (List (YT6)) × (List (YT7)) × (Int) × (Int) × (List (Int))
abbrev fshowp_block'2R := (Bool) × (Int) × (Int) × (Int) × (Int) × (Int) × (Int) × (List (YT6)) × (List (YT7)) × (Int) × (Int) × (List (Int))
noncomputable def fshowp_block'2E (k : Nat) : List (Nat × List Sig) := [(17, [sgshowp_line'1 k]), (23, [sgshowShow_2 k])]
noncomputable def fshowp_block'2 (k : Nat) : FnX fshowp_block'2R := mkX { P := Tryz.prog, env := lookS (fshowp_block'2E k), n := 102, npB := 3, npO := 1, hint := fun i => look none [] i, pops := [], bl := [54, 56] } k Tryz.f20 fshowp_block'2o
noncomputable def cshowp_block'2 (k : Nat) : fshowp_block'2T → Option fshowp_block'2R := fnOf (fshowp_block'2 k).C k Tryz.f20 fshowp_block'2i fshowp_block'2o
noncomputable def sgshowp_block'2 (k : Nat) : Sig := ⟨fshowp_block'2i, fshowp_block'2o, mkFun fshowp_block'2i.tys fshowp_block'2o.tys (cshowp_block'2 k)⟩
noncomputable def fshowp_block'2_t (k : Nat) (J : JF fshowp_block'2R) (L : LF fshowp_block'2R) : fshowp_block'2T → Option fshowp_block'2R
  | (a0, a1, a2, a3, a4, a5, a6, a7, a8, a9, a10, a11, a12) => ((cshowp_line'1 k) (([32, 123] : List Int), a0, a1, a2, a12)).bind fun o1 => ((cshowShow_2 k) (a3, a4, a5, a6, a7, a8, a9, a10, a11, o1.1, (IntKind.wrap .i64 (o1.2.1 + (1 : Int))), o1.2.2)).bind fun o2 => ((cshowp_line'1 k) (([125] : List Int), [], o2.2.2.2.2.2.2.2.2.2.1, (IntKind.wrap .i64 (o2.2.2.2.2.2.2.2.2.2.2.1 - (1 : Int))), o2.2.2.2.2.2.2.2.2.2.2.2)).bind fun o3 => some (o3.1, o3.2.1, o2.1, o2.2.1, o2.2.2.1, o2.2.2.2.1, o2.2.2.2.2.1, o2.2.2.2.2.2.1, o2.2.2.2.2.2.2.1, o2.2.2.2.2.2.2.2.1, o2.2.2.2.2.2.2.2.2.1, o3.2.2)
theorem fshowp_block'2_e (k : Nat) (x : fshowp_block'2T) : cshowp_block'2 k x = fshowp_block'2_t k (fshowp_block'2 k).J (fshowp_block'2 k).L x := by
  apply cutX (fshowp_block'2 k) [] [] (st0 (fshowp_block'2 k).C Tryz.f20 fshowp_block'2i x) [] [] (fshowp_block'2_t k · · x) <;> intros <;> kernel_rfl
theorem cshowp_block'2_ok (k : Nat) : SigOK Tryz.prog 20 (sgshowp_block'2 k) :=
  fn_ok (C := (fshowp_block'2 k).C) (l := fshowp_block'2E k) rfl ⟨⟨cshowp_line'1_ok k, trivial⟩, ⟨cshowShow_2_ok k, trivial⟩, trivial⟩ (by kernel_rfl) k (fn := Tryz.f20) (by kernel_rfl) (by kernel_rfl) (by kernel_rfl) fshowp_block'2i fshowp_block'2o rfl rfl (show 3 ≤ 48 by decide) (show 1 ≤ 48 by decide)

/-! (*strings.Builder).String: given -/
def fstringsB_Stringi : Sk := ⟨[.lf (.ptr 0 0)], [[.bld 0 56, .own 0, .pv (.int .i64)]], [some (5, (.int .u8))]⟩
def fstringsB_Stringo : Sk := ⟨[.lf (.pv .str)], [[.bld 0 56, .dead, .pv (.int .i64)]], [none]⟩
def cstringsB_String (k : Nat) : ((Bool) × (Int) × (List (Int))) → Option ((List Int) × (Bool) × (Int)) := strC
theorem cstringsB_String_ok (k : Nat) : SigOK Tryz.prog 25 ⟨fstringsB_Stringi, fstringsB_Stringo, mkFun fstringsB_Stringi.tys fstringsB_Stringo.tys (cstringsB_String k)⟩ := strC_ok
noncomputable def sgstringsB_String (k : Nat) : Sig := ⟨fstringsB_Stringi, fstringsB_Stringo, mkFun fstringsB_Stringi.tys fstringsB_Stringo.tys (cstringsB_String k)⟩

/-! carrefour/show.Show -/
def fshowShowi : Sk := ⟨[.agg [.pv (.int .i64), .pv (.int .i64), .pv (.int .i64), .pv (.int .i64), .pv (.int .i64), .pv (.slice yt6), .pv (.slice yt7), .pv (.int .i64), .pv (.int .i64)]], [], []⟩
def fshowShowo : Sk := ⟨[.lf (.pv (.slice (.int .u8))), .lf (.pv (.int .i64))], [], []⟩
def fshowShow_k7 : Sk := ⟨sparse 67 [(1, .lf (.ptr 0 0)), (4, .lf (.ptr 1 0)), (31, .lf (.pv (.slice yt6))), (32, .lf (.pv (.int .i64))), (33, .lf (.pv (.int .i64)))], [[.pv (.int .i64), .pv (.int .i64), .pv (.int .i64), .pv (.int .i64), .pv (.int .i64), .pv (.slice yt6), .pv (.slice yt7), .pv (.int .i64), .pv (.int .i64)], [.ptr 2 0], [.bld 2 56, .own 0, .pv (.int .i64)]], [some (5, (.int .u8))]⟩
abbrev fshowShow_T7 := (List (YT6)) × (Int) × (Int) × (Int) × (Int) × (Int) × (Int) × (Int) × (List (YT6)) × (List (YT7)) × (Int) × (Int) × (Bool) × (Int) × (List (Int))
def fshowShow_s7 : fshowShow_T7 → St := stOf fshowShow_k7 182
def fshowShow_k13 : Sk := ⟨sparse 67 [(4, .lf (.ptr 0 0))], [[.ptr 1 0], [.bld 1 56, .own 0, .pv (.int .i64)]], [some (5, (.int .u8))]⟩
abbrev fshowShow_T13 := (Bool) × (Int) × (List (Int))
def fshowShow_s13 : fshowShow_T13 → St := stOf fshowShow_k13 182
abbrev fshowShowT := (Int) × (Int) × (Int) × (Int) × (Int) × (List (YT6)) × (List (YT7)) × (Int) × (Int)
abbrev fshowShowR := (List (Int)) × (Int)
noncomputable def fshowShowE (k : Nat) : List (Nat × List Sig) := [(10, [sgshowRight k]), (18, [sgshownum k]), (17, [sgshowp_line k, sgshowp_line'1 k]), (19, [sgshowfrac k]), (20, [sgshowp_block k, sgshowp_block'2 k]), (25, [sgstringsB_String k])]
noncomputable def fshowShow (k : Nat) : FnX fshowShowR := mkX { P := Tryz.prog, env := lookS (fshowShowE k), n := 182, npB := 0, npO := 0, hint := fun i => look none [(7, some fshowShow_k7), (13, some fshowShow_k13)] i, pops := [], bl := [54, 56], ef := [(23, (([59], []), ([], [71]))), (29, (([59], [71]), ([], [77])))], ld := [(12, 52), (13, 9999), (14, 49), (16, 9999), (17, 49), (19, 9999), (20, 49), (24, 52), (25, 9999), (26, 49)] } k Tryz.f8 fshowShowo
noncomputable def cshowShow (k : Nat) : fshowShowT → Option fshowShowR := fnOf (fshowShow k).C k Tryz.f8 fshowShowi fshowShowo
noncomputable def sgshowShow (k : Nat) : Sig := ⟨fshowShowi, fshowShowo, mkFun fshowShowi.tys fshowShowo.tys (cshowShow k)⟩
noncomputable def fshowShow_t (k : Nat) (J : JF fshowShowR) (L : LF fshowShowR) : fshowShowT → Option fshowShowR
  | (a0, a1, a2, a3, a4, a5, a6, a7, a8) => ((cshowRight k) (a0, a1, a2, a3, a4, a5, a6, a7, a8)).bind fun o1 => bif (!o1) then (some ([], (1 : Int))) else (((cshownum k) (a0)).bind fun o2 => ((cshownum k) (a1)).bind fun o3 => ((cshownum k) (a2)).bind fun o4 => ((cshowp_line k) (([59] : List Int), ([([99, 121, 99, 108, 101] : List Int), o2, ([116, 111] : List Int), o3, ([98, 121] : List Int), o4] : List (List Int)), true, (0 : Int))).bind fun o5 => ((cshowfrac k) (a3, a4)).bind fun o6 => ((cshowp_line'1 k) (([59] : List Int), ([([112, 101, 97, 107] : List Int), o6] : List (List Int)), o5.1, o5.2.1, o5.2.2)).bind fun o7 => L 7 [] k (fshowShow_s7 (a5, ((List.length a5 : Nat) : Int), (0 : Int), a0, a1, a2, a3, a4, a5, a6, a7, a8, o7.1, o7.2.1, o7.2.2)))
theorem fshowShow_e (k : Nat) (x : fshowShowT) : cshowShow k x = fshowShow_t k (fshowShow k).J (fshowShow k).L x := by
  apply cutX (fshowShow k) [] [] (st0 (fshowShow k).C Tryz.f8 fshowShowi x) [(13, [])] [(7, [], k)] (fshowShow_t k · · x) <;> intros <;> kernel_rfl
noncomputable def fshowShow_tl7 (k j7 : Nat) (J : JF fshowShowR) (L : LF fshowShowR) : fshowShow_T7 → Option fshowShowR
  | (a0, a1, a2, a3, a4, a5, a6, a7, a8, a9, a10, a11, a12, a13, a14) => bif (decide (a2 < a1)) then (idx zt6 a0 a2 fun o1 => ((cshowp_block k) (([([110, 111, 100, 101] : List Int), o1.1] : List (List Int)), a12, a13, o1.1, o1.2.1, o1.2.2.1, o1.2.2.2.1, o1.2.2.2.2.1, o1.2.2.2.2.2.1, o1.2.2.2.2.2.2.1, a14)).bind fun o2 => L 7 [] j7 (fshowShow_s7 (a0, a1, (IntKind.wrap .i64 (a2 + (1 : Int))), a3, a4, a5, a6, a7, a8, a9, a10, a11, o2.1, o2.2.1, o2.2.2.2.2.2.2.2.2.2))) else (bif (decide (((List.length a9 : Nat) : Int) > (0 : Int))) then (((cshowp_block'2 k) (([([97, 114, 116, 101, 114, 121] : List Int)] : List (List Int)), a12, a13, a3, a4, a5, a6, a7, a8, a9, a10, a11, a14)).bind fun o3 => J 13 [] (fshowShow_s13 (o3.1, o3.2.1, o3.2.2.2.2.2.2.2.2.2.2.2))) else (bif (a10 != (0 : Int)) then (((cshowp_block'2 k) (([([97, 114, 116, 101, 114, 121] : List Int)] : List (List Int)), a12, a13, a3, a4, a5, a6, a7, a8, a9, a10, a11, a14)).bind fun o4 => J 13 [] (fshowShow_s13 (o4.1, o4.2.1, o4.2.2.2.2.2.2.2.2.2.2.2))) else (bif (a11 != (0 : Int)) then (((cshowp_block'2 k) (([([97, 114, 116, 101, 114, 121] : List Int)] : List (List Int)), a12, a13, a3, a4, a5, a6, a7, a8, a9, a10, a11, a14)).bind fun o5 => J 13 [] (fshowShow_s13 (o5.1, o5.2.1, o5.2.2.2.2.2.2.2.2.2.2.2))) else (J 13 [] (fshowShow_s13 (a12, a13, a14))))))
theorem fshowShow_el7 (k j7 : Nat) (x : fshowShow_T7) : (fshowShow k).L 7 [] (j7 + 1) (fshowShow_s7 x) = fshowShow_tl7 k j7 (fshowShow k).J (fshowShow k).L x := by
  apply cutX (fshowShow k) [.r, .r, .r, .r, .r, .l, .r, .b, .b] [j7] (fshowShow_s7 x) [(13, [])] [(7, [], j7)] (fshowShow_tl7 k j7 · · x) <;> intros <;> kernel_rfl
noncomputable def fshowShow_tj13 (k : Nat) (J : JF fshowShowR) (L : LF fshowShowR) : fshowShow_T13 → Option fshowShowR
  | (a0, a1, a2) => ((cstringsB_String k) (a0, a1, a2)).bind fun o1 => some (o1.1, (0 : Int))
theorem fshowShow_ej13 (k : Nat) (x : fshowShow_T13) : (fshowShow k).J 13 [] (fshowShow_s13 x) = fshowShow_tj13 k (fshowShow k).J (fshowShow k).L x := by
  apply cutX (fshowShow k) [.r, .r, .r, .r, .r, .r, .r] [] (fshowShow_s13 x) [(13, [])] [(7, [], k)] (fshowShow_tj13 k · · x) <;> intros <;> kernel_rfl
theorem cshowShow_ok (k : Nat) : SigOK Tryz.prog 8 (sgshowShow k) :=
  fn_ok (C := (fshowShow k).C) (l := fshowShowE k) rfl ⟨⟨cshowRight_ok k, trivial⟩, ⟨cshownum_ok k, trivial⟩, ⟨cshowp_line_ok k, cshowp_line'1_ok k, trivial⟩, ⟨cshowfrac_ok k, trivial⟩, ⟨cshowp_block_ok k, cshowp_block'2_ok k, trivial⟩, ⟨cstringsB_String_ok k, trivial⟩, trivial⟩ (by kernel_rfl) k (fn := Tryz.f8) (by kernel_rfl) (by kernel_rfl) (by kernel_rfl) fshowShowi fshowShowo rfl rfl (show 0 ≤ 48 by decide) (show 0 ≤ 48 by decide)

/-! carrefour/carrefourref06.Num -/
def fr06Numi : Sk := ⟨[.lf (.pv (.int .i64))], [], []⟩
def fr06Numo : Sk := ⟨[.lf (.pv .bool)], [], []⟩
abbrev fr06NumR := Bool
noncomputable def fr06NumE (k : Nat) : List (Nat × List Sig) := []
noncomputable def fr06Num (k : Nat) : FnX (Bool) := mkX { P := Tryz.prog, env := lookS (fr06NumE k), n := 57, npB := 0, npO := 0, hint := fun i => look none [] i, pops := [], bl := [54, 56] } k Tryz.f34 fr06Numo
noncomputable def cr06Num (k : Nat) : (Int) → Option (Bool) := fnOf (fr06Num k).C k Tryz.f34 fr06Numi fr06Numo
noncomputable def sgr06Num (k : Nat) : Sig := ⟨fr06Numi, fr06Numo, mkFun fr06Numi.tys fr06Numo.tys (cr06Num k)⟩
noncomputable def fr06Num_t (k : Nat) (J : JF (Bool)) (L : LF (Bool)) : Int → Option (Bool)
  | a0 => bif (decide (a0 ≥ (0 : Int))) then (some (decide (a0 ≤ (999999999999999999 : Int)))) else (some false)
theorem fr06Num_e (k : Nat) (x : Int) : cr06Num k x = fr06Num_t k (fr06Num k).J (fr06Num k).L x := by
  apply cutX (fr06Num k) [] [] (st0 (fr06Num k).C Tryz.f34 fr06Numi x) [] [] (fr06Num_t k · · x) <;> intros <;> kernel_rfl
theorem cr06Num_ok (k : Nat) : SigOK Tryz.prog 34 (sgr06Num k) :=
  fn_ok (C := (fr06Num k).C) (l := fr06NumE k) rfl trivial (by kernel_rfl) k (fn := Tryz.f34) (by kernel_rfl) (by kernel_rfl) (by kernel_rfl) fr06Numi fr06Numo rfl rfl (show 0 ≤ 48 by decide) (show 0 ≤ 48 by decide)

/-! carrefour/carrefourref06.Frac -/
def fr06Fraci : Sk := ⟨[.agg [.pv (.int .i64), .pv (.int .i64)]], [], []⟩
def fr06Fraco : Sk := ⟨[.lf (.pv .bool)], [], []⟩
abbrev fr06FracT := (Int) × (Int)
abbrev fr06FracR := Bool
noncomputable def fr06FracE (k : Nat) : List (Nat × List Sig) := [(34, [sgr06Num k])]
noncomputable def fr06Frac (k : Nat) : FnX (Bool) := mkX { P := Tryz.prog, env := lookS (fr06FracE k), n := 59, npB := 0, npO := 0, hint := fun i => look none [] i, pops := [], bl := [54, 56] } k Tryz.f35 fr06Fraco
noncomputable def cr06Frac (k : Nat) : fr06FracT → Option (Bool) := fnOf (fr06Frac k).C k Tryz.f35 fr06Fraci fr06Fraco
noncomputable def sgr06Frac (k : Nat) : Sig := ⟨fr06Fraci, fr06Fraco, mkFun fr06Fraci.tys fr06Fraco.tys (cr06Frac k)⟩
noncomputable def fr06Frac_t (k : Nat) (J : JF (Bool)) (L : LF (Bool)) : fr06FracT → Option (Bool)
  | (a0, a1) => ((cr06Num k) (a0)).bind fun o1 => bif o1 then (((cr06Num k) (a1)).bind fun o2 => some o2) else (some false)
theorem fr06Frac_e (k : Nat) (x : fr06FracT) : cr06Frac k x = fr06Frac_t k (fr06Frac k).J (fr06Frac k).L x := by
  apply cutX (fr06Frac k) [] [] (st0 (fr06Frac k).C Tryz.f35 fr06Fraci x) [] [] (fr06Frac_t k · · x) <;> intros <;> kernel_rfl
theorem cr06Frac_ok (k : Nat) : SigOK Tryz.prog 35 (sgr06Frac k) :=
  fn_ok (C := (fr06Frac k).C) (l := fr06FracE k) rfl ⟨⟨cr06Num_ok k, trivial⟩, trivial⟩ (by kernel_rfl) k (fn := Tryz.f35) (by kernel_rfl) (by kernel_rfl) (by kernel_rfl) fr06Fraci fr06Fraco rfl rfl (show 0 ≤ 48 by decide) (show 0 ≤ 48 by decide)

/-! carrefour/carrefourref04.skip -/
def fr04skipi : Sk := ⟨[.lf (.pv (.slice (.int .u8))), .lf (.pv (.int .i64))], [], []⟩
def fr04skipo : Sk := ⟨[.lf (.pv (.int .i64))], [], []⟩
def fr04skip_k1 : Sk := ⟨sparse 57 [(0, .lf (.pv (.slice (.int .u8)))), (1, .lf (.pv (.int .i64)))], [], []⟩
abbrev fr04skip_T1 := (List (Int)) × (Int)
def fr04skip_s1 : fr04skip_T1 → St := stOf fr04skip_k1 105
def fr04skip_k3 : Sk := ⟨sparse 57 [(0, .lf (.pv (.slice (.int .u8)))), (1, .lf (.pv (.int .i64)))], [], []⟩
abbrev fr04skip_T3 := (List (Int)) × (Int)
def fr04skip_s3 : fr04skip_T3 → St := stOf fr04skip_k3 105
abbrev fr04skipT := (List (Int)) × (Int)
abbrev fr04skipR := Int
noncomputable def fr04skipE (k : Nat) : List (Nat × List Sig) := []
noncomputable def fr04skip (k : Nat) : FnX (Int) := mkX { P := Tryz.prog, env := lookS (fr04skipE k), n := 105, npB := 0, npO := 0, hint := fun i => look none [(1, some fr04skip_k1), (3, some fr04skip_k3)] i, pops := [], bl := [54, 56] } k Tryz.f131 fr04skipo
noncomputable def cr04skip (k : Nat) : fr04skipT → Option (Int) := fnOf (fr04skip k).C k Tryz.f131 fr04skipi fr04skipo
noncomputable def sgr04skip (k : Nat) : Sig := ⟨fr04skipi, fr04skipo, mkFun fr04skipi.tys fr04skipo.tys (cr04skip k)⟩
noncomputable def fr04skip_t (k : Nat) (J : JF (Int)) (L : LF (Int)) : fr04skipT → Option (Int)
  | (a0, a1) => L 1 [] k (fr04skip_s1 (a0, a1))
theorem fr04skip_e (k : Nat) (x : fr04skipT) : cr04skip k x = fr04skip_t k (fr04skip k).J (fr04skip k).L x := by
  apply cutX (fr04skip k) [] [] (st0 (fr04skip k).C Tryz.f131 fr04skipi x) [] [(1, [], k)] (fr04skip_t k · · x) <;> intros <;> kernel_rfl
noncomputable def fr04skip_tl1 (k j1 : Nat) (J : JF (Int)) (L : LF (Int)) : fr04skip_T1 → Option (Int)
  | (a0, a1) => bif (decide (a1 < ((List.length a0 : Nat) : Int))) then (bif (inB a1 (List.length a0)) then bif ((rdI a0 (Int.toNat a1)) == (35 : Int)) then (L 3 [j1] k (fr04skip_s3 (a0, a1))) else (bif (inB a1 (List.length a0)) then bif ((rdI a0 (Int.toNat a1)) == (32 : Int)) then (L 1 [] j1 (fr04skip_s1 (a0, (IntKind.wrap .i64 (a1 + (1 : Int)))))) else (bif (inB a1 (List.length a0)) then bif ((rdI a0 (Int.toNat a1)) == (9 : Int)) then (L 1 [] j1 (fr04skip_s1 (a0, (IntKind.wrap .i64 (a1 + (1 : Int)))))) else (bif (inB a1 (List.length a0)) then bif ((rdI a0 (Int.toNat a1)) == (10 : Int)) then (L 1 [] j1 (fr04skip_s1 (a0, (IntKind.wrap .i64 (a1 + (1 : Int)))))) else (bif (inB a1 (List.length a0)) then bif ((rdI a0 (Int.toNat a1)) == (13 : Int)) then (L 1 [] j1 (fr04skip_s1 (a0, (IntKind.wrap .i64 (a1 + (1 : Int)))))) else (some a1) else none) else none) else none) else none) else none) else (some a1)
theorem fr04skip_el1 (k j1 : Nat) (x : fr04skip_T1) : (fr04skip k).L 1 [] (j1 + 1) (fr04skip_s1 x) = fr04skip_tl1 k j1 (fr04skip k).J (fr04skip k).L x := by
  apply cutX (fr04skip k) [.r, .l, .b, .b] [j1] (fr04skip_s1 x) [] [(1, [], j1), (3, [j1], k)] (fr04skip_tl1 k j1 · · x) <;> intros <;> kernel_rfl
noncomputable def fr04skip_tl3 (k j1 j3 : Nat) (J : JF (Int)) (L : LF (Int)) : fr04skip_T3 → Option (Int)
  | (a0, a1) => bif (decide (a1 < ((List.length a0 : Nat) : Int))) then (bif (inB a1 (List.length a0)) then bif ((rdI a0 (Int.toNat a1)) != (10 : Int)) then (L 3 [j1] j3 (fr04skip_s3 (a0, (IntKind.wrap .i64 (a1 + (1 : Int)))))) else (L 1 [] j1 (fr04skip_s1 (a0, a1))) else none) else (L 1 [] j1 (fr04skip_s1 (a0, a1)))
theorem fr04skip_el3 (k j1 j3 : Nat) (x : fr04skip_T3) : (fr04skip k).L 3 [j1] (j3 + 1) (fr04skip_s3 x) = fr04skip_tl3 k j1 j3 (fr04skip k).J (fr04skip k).L x := by
  apply cutX (fr04skip k) [.r, .l, .b, .b, .r, .b, .r, .t, .b, .b] [j1, j3] (fr04skip_s3 x) [] [(1, [], j1), (3, [j1], j3)] (fr04skip_tl3 k j1 j3 · · x) <;> intros <;> kernel_rfl
theorem cr04skip_ok (k : Nat) : SigOK Tryz.prog 131 (sgr04skip k) :=
  fn_ok (C := (fr04skip k).C) (l := fr04skipE k) rfl trivial (by kernel_rfl) k (fn := Tryz.f131) (by kernel_rfl) (by kernel_rfl) (by kernel_rfl) fr04skipi fr04skipo rfl rfl (show 0 ≤ 48 by decide) (show 0 ≤ 48 by decide)

/-! carrefour/carrefourref04.small -/
def fr04smalli : Sk := ⟨[.lf (.pv (.int .u8))], [], []⟩
def fr04smallo : Sk := ⟨[.lf (.pv .bool)], [], []⟩
abbrev fr04smallR := Bool
noncomputable def fr04smallE (k : Nat) : List (Nat × List Sig) := []
noncomputable def fr04small (k : Nat) : FnX (Bool) := mkX { P := Tryz.prog, env := lookS (fr04smallE k), n := 57, npB := 0, npO := 0, hint := fun i => look none [] i, pops := [], bl := [54, 56] } k Tryz.f183 fr04smallo
noncomputable def cr04small (k : Nat) : (Int) → Option (Bool) := fnOf (fr04small k).C k Tryz.f183 fr04smalli fr04smallo
noncomputable def sgr04small (k : Nat) : Sig := ⟨fr04smalli, fr04smallo, mkFun fr04smalli.tys fr04smallo.tys (cr04small k)⟩
noncomputable def fr04small_t (k : Nat) (J : JF (Bool)) (L : LF (Bool)) : Int → Option (Bool)
  | a0 => bif (decide (a0 ≥ (97 : Int))) then (some (decide (a0 ≤ (122 : Int)))) else (some false)
theorem fr04small_e (k : Nat) (x : Int) : cr04small k x = fr04small_t k (fr04small k).J (fr04small k).L x := by
  apply cutX (fr04small k) [] [] (st0 (fr04small k).C Tryz.f183 fr04smalli x) [] [] (fr04small_t k · · x) <;> intros <;> kernel_rfl
theorem cr04small_ok (k : Nat) : SigOK Tryz.prog 183 (sgr04small k) :=
  fn_ok (C := (fr04small k).C) (l := fr04smallE k) rfl trivial (by kernel_rfl) k (fn := Tryz.f183) (by kernel_rfl) (by kernel_rfl) (by kernel_rfl) fr04smalli fr04smallo rfl rfl (show 0 ≤ 48 by decide) (show 0 ≤ 48 by decide)

/-! carrefour/carrefourref04.digit -/
def fr04digiti : Sk := ⟨[.lf (.pv (.int .u8))], [], []⟩
def fr04digito : Sk := ⟨[.lf (.pv .bool)], [], []⟩
abbrev fr04digitR := Bool
noncomputable def fr04digitE (k : Nat) : List (Nat × List Sig) := []
noncomputable def fr04digit (k : Nat) : FnX (Bool) := mkX { P := Tryz.prog, env := lookS (fr04digitE k), n := 57, npB := 0, npO := 0, hint := fun i => look none [] i, pops := [], bl := [54, 56] } k Tryz.f184 fr04digito
noncomputable def cr04digit (k : Nat) : (Int) → Option (Bool) := fnOf (fr04digit k).C k Tryz.f184 fr04digiti fr04digito
noncomputable def sgr04digit (k : Nat) : Sig := ⟨fr04digiti, fr04digito, mkFun fr04digiti.tys fr04digito.tys (cr04digit k)⟩
noncomputable def fr04digit_t (k : Nat) (J : JF (Bool)) (L : LF (Bool)) : Int → Option (Bool)
  | a0 => bif (decide (a0 ≥ (48 : Int))) then (some (decide (a0 ≤ (57 : Int)))) else (some false)
theorem fr04digit_e (k : Nat) (x : Int) : cr04digit k x = fr04digit_t k (fr04digit k).J (fr04digit k).L x := by
  apply cutX (fr04digit k) [] [] (st0 (fr04digit k).C Tryz.f184 fr04digiti x) [] [] (fr04digit_t k · · x) <;> intros <;> kernel_rfl
theorem cr04digit_ok (k : Nat) : SigOK Tryz.prog 184 (sgr04digit k) :=
  fn_ok (C := (fr04digit k).C) (l := fr04digitE k) rfl trivial (by kernel_rfl) k (fn := Tryz.f184) (by kernel_rfl) (by kernel_rfl) (by kernel_rfl) fr04digiti fr04digito rfl rfl (show 0 ≤ 48 by decide) (show 0 ≤ 48 by decide)

/-! carrefour/carrefourref04.sign -/
def fr04signi : Sk := ⟨[.lf (.pv (.int .u8))], [], []⟩
def fr04signo : Sk := ⟨[.lf (.pv .bool)], [], []⟩
abbrev fr04signR := Bool
noncomputable def fr04signE (k : Nat) : List (Nat × List Sig) := []
noncomputable def fr04sign (k : Nat) : FnX (Bool) := mkX { P := Tryz.prog, env := lookS (fr04signE k), n := 77, npB := 0, npO := 0, hint := fun i => look none [] i, pops := [], bl := [54, 56] } k Tryz.f185 fr04signo
noncomputable def cr04sign (k : Nat) : (Int) → Option (Bool) := fnOf (fr04sign k).C k Tryz.f185 fr04signi fr04signo
noncomputable def sgr04sign (k : Nat) : Sig := ⟨fr04signi, fr04signo, mkFun fr04signi.tys fr04signo.tys (cr04sign k)⟩
noncomputable def fr04sign_t (k : Nat) (J : JF (Bool)) (L : LF (Bool)) : Int → Option (Bool)
  | a0 => bif (a0 == (123 : Int)) then (some true) else (bif (a0 == (125 : Int)) then (some true) else (bif (a0 == (44 : Int)) then (some true) else (bif (a0 == (59 : Int)) then (some true) else (bif (a0 == (58 : Int)) then (some true) else (bif (a0 == (47 : Int)) then (some true) else (some (a0 == (45 : Int))))))))
theorem fr04sign_e (k : Nat) (x : Int) : cr04sign k x = fr04sign_t k (fr04sign k).J (fr04sign k).L x := by
  apply cutX (fr04sign k) [] [] (st0 (fr04sign k).C Tryz.f185 fr04signi x) [] [] (fr04sign_t k · · x) <;> intros <;> kernel_rfl
theorem cr04sign_ok (k : Nat) : SigOK Tryz.prog 185 (sgr04sign k) :=
  fn_ok (C := (fr04sign k).C) (l := fr04signE k) rfl trivial (by kernel_rfl) k (fn := Tryz.f185) (by kernel_rfl) (by kernel_rfl) (by kernel_rfl) fr04signi fr04signo rfl rfl (show 0 ≤ 48 by decide) (show 0 ≤ 48 by decide)
end Go.Proofs.YtipcabmhdokfjaaGreatDoorV
