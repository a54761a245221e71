import Derived.Test.YtcmmgllmncllfaaGreatDoorB6
import Derived.Test.YtcmmgllmncllfaaGreatDoorB3
/-! Joined, names shortened: G1, G2, G3, VM, LxS. -/
set_option linter.unusedVariables false
set_option linter.unusedSimpArgs false
set_option maxHeartbeats 4000000
set_option maxRecDepth 100000
namespace Go.Proofs.YtcmmgllmncllfaaGreatDoorV
open Go Go.RowKit
noncomputable section
abbrev H22 : Type := (List (YT3)) × (Int) × (Int)
def Ws : Sk := ⟨[.lf (.pv (.slice yt3)), .lf (.fn 25 [] [])], [], []⟩
def Wt : Sk := ⟨[.lf (.pv (.int .i64))], [], []⟩
def Ahj : Sk := ⟨sparse 19 [(0, .lf (.pv (.slice yt3))), (1, .lf (.fn 25 [] [])), (7, .lf (.pv (.int .i64))), (8, .lf (.pv (.int .i64)))], [], []⟩
abbrev Wq := H22
def Mz : Wq → St := stOf Ahj 67
def A09 (k : Nat) : EnvL := [(25, [At6 k])]
def Ex (k : Nat) : FnX Int := mkX ({ mkC (A09 k) 67 0 0 with hint := fun i => look none [(2, some Ahj)] i }) k Tryz.f76 Wt
def Vd (k : Nat) : (List (YT3)) → Option Int := hid (Ag (Ex k).C k Tryz.f76 Ws Wt)
def Atp (k : Nat) : Sig := Af Ws Wt (Vd k)
noncomputable def Wr (k : Nat) (J : JF Int) (L : LF Int) : (List (YT3)) → Option Int
 | a0 => L 2 [] k (Mz (a0, ((List.length a0 : Nat) : Int), (0 : Int)))
theorem A1a (k : Nat) (x : (List (YT3))) : Vd k x = Wr k (Ex k).J (Ex k).L x := by
 refine (Ae _ _).trans ?_; apply cutX (Ex k) [] [] (st0 (Ex k).C Tryz.f76 Ws x) [] [(2, [], k)] (Wr k · · x) <;> intros <;> kernel_rfl
noncomputable def Ahk (k j2 : Nat) (J : JF Int) (L : LF Int) : Wq → Option Int
 | (a0, a1, a2) => bif (decide (a2 < a1)) then (idx zt3 a0 a2 fun o1 => ((Mf k) (o1.1, o1.2.1, o1.2.2.1, o1.2.2.2.1.1, o1.2.2.2.1.2.1)).bind fun o2 => bif o2 then (some a2) else (L 2 [] j2 (Mz (a0, a1, (IntKind.wrap .i64 (a2 + (1 : Int))))))) else (some (-1 : Int))
theorem A1b (k j2 : Nat) (x : Wq) : (Ex k).L 2 [] (j2 + 1) (Mz x) = Ahk k j2 (Ex k).J (Ex k).L x := by
 apply cutX (Ex k) [.r, .l, .r, .b, .b] [j2] (Mz x) [] [(2, [], j2)] (Ahk k j2 · · x) <;> intros <;> kernel_rfl
theorem Axr (k : Nat) : Ac Tryz.prog 76 (Atp k) := Ah (Ex k).C k rfl ⟨⟨Ayf k, trivial⟩, trivial⟩ Ad Tryz.func76 (by kernel_rfl)
def Ag1 : Sk := ⟨[.lf (.pv (.slice yt3)), .lf (.fn 25 [] [])], [], []⟩
def Ag2 : Sk := ⟨[.lf (.pv .bool)], [], []⟩
def A0s (k : Nat) : EnvL := [(76, [Atp k])]
def Agz (k : Nat) : Cfg := mkC (A0s k) 57 0 0
def Ly (k : Nat) : (List (YT3)) → Option Bool := hid (Ag (Agz k) k Tryz.f46 Ag1 Ag2)
def Atj (k : Nat) : Sig := Af Ag1 Ag2 (Ly k)
noncomputable def Ag0 (k : Nat) : (List (YT3)) → Option Bool
 | a0 => ((Vd k) (a0)).bind fun o1 => some (decide (o1 ≥ (0 : Int)))
theorem A0t (k : Nat) (x : (List (YT3))) : Ly k x = Ag0 k x := (Ae _ _).trans (by kernel_rfl)
theorem Axj (k : Nat) : Ac Tryz.prog 46 (Atj k) := Ah (Agz k) k rfl ⟨⟨Axr k, trivial⟩, trivial⟩ Ad Tryz.func46 (by kernel_rfl)
def Akh : Sk := ⟨[.lf (.pv (.slice yt3)), .lf (.pv (.int .i64)), .lf (.pv (.int .i64)), .lf (.fn 25 [] [])], [], []⟩
def Aki : Sk := ⟨[.lf (.pv .bool)], [], []⟩
def A3f (k : Nat) : EnvL := [(46, [Atj k])]
def Akf (k : Nat) : Cfg := mkC (A3f k) 72 0 0
def Vp (k : Nat) : H22 → Option Bool := hid (Ag (Akf k) k Tryz.f24 Akh Aki)
def Aub (k : Nat) : Sig := Af Akh Aki (Vp k)
noncomputable def Akg (k : Nat) : H22 → Option Bool
 | (a0, a1, a2) => bif (decide (((List.length a0 : Nat) : Int) < a1)) then (some true) else (bif (decide (((List.length a0 : Nat) : Int) > a2)) then (some true) else (((Ly k) (a0)).bind fun o1 => some o1))
theorem A3g (k : Nat) (x : H22) : Vp k x = Akg k x := (Ae _ _).trans (by kernel_rfl)
theorem Ayk (k : Nat) : Ac Tryz.prog 24 (Aub k) := Ah (Akf k) k rfl ⟨⟨Axj k, trivial⟩, trivial⟩ Ad Tryz.func24 (by kernel_rfl)
def Ajh : Sk := ⟨[.agg [.pv (.int .i64), .pv (.slice yt3), .pv (.int .i64), .pv (.int .i64), .pv (.int .i64), .pv (.int .i64), .pv .bool, .pv (.int .i64)]], [], []⟩
def Aji : Sk := ⟨[.lf (.pv .bool)], [], []⟩
def A2x (k : Nat) : EnvL := [(23, [sgplannums k]), (24, [Aub k])]
def Ajf (k : Nat) : Cfg := { mkC (A2x k) 75 0 0 with bl := [58, 60] }
def Hm (k : Nat) : H5 → Option Bool := hid (Ag (Ajf k) k Tryz.f9 Ajh Aji)
def On (k : Nat) : Sig := Af Ajh Aji (Hm k)
noncomputable def Ajg (k : Nat) : H5 → Option Bool
 | (a0, a1, a2, a3, a4, a5, a6, a7) => ((cplannums k) (([a0, a2, a3, a4, a5, a7] : List (Int)))).bind fun o1 => bif o1 then (((Vp k) (a1, (0 : Int), (12 : Int))).bind fun o2 => some (!o2)) else (some false)
theorem A2y (k : Nat) (x : H5) : Hm k x = Ajg k x := (Ae _ _).trans (by kernel_rfl)
theorem Vl (k : Nat) : Ac Tryz.prog 9 (On k) := Ah (Ajf k) k rfl ⟨⟨P8 k, trivial⟩, ⟨Ayk k, trivial⟩, trivial⟩ Ad Tryz.func9 (by kernel_rfl)
def A7a : Sk := ⟨[.lf (.pv .str), .lf (.pv (.int .i64))], [], []⟩
def A7b : Sk := ⟨[.lf (.pv .str)], [], []⟩
def Q5 (k : Nat) : ((List Int) × (Int)) → Option (List Int) := repS
def Aef (k : Nat) : Sig := Af A7a A7b (Q5 k)
theorem Af5 (k : Nat) : Ac Tryz.prog 38 (Aef k) := repS_ok
def A68 : Sk := ⟨[.lf (.ptr 0 0)], [[.bld 0 60, .own 0, .pv (.int .i64)]], [some (5, (.int .u8))]⟩
def A69 : Sk := ⟨[], [[.bld 0 60, .own 0, .pv (.int .i64)]], [some (5, (.int .u8))]⟩
def Q4 (k : Nat) : ((Bool) × (Int) × (List (Int))) → Option ((Bool) × (Int) × (List (Int))) := copyC
def Uh (k : Nat) : Sig := Af A68 A69 (Q4 k)
theorem Vz (k : Nat) : Ac Tryz.prog 66 (Uh k) := Ax7
abbrev H23 : Type := (List Int) × (Bool) × (Int)
abbrev H24 : Type := (Int) × (Bool) × (Int) × (List (Int))
def Apq : Sk := ⟨[.lf (.ptr 0 0), .lf (.pv .str)], [[.bld 0 60, .nil .sl, .pv (.int .i64)]], []⟩
def Apr : Sk := ⟨[.lf (.pv (.int .i64)), .lf (.nil .ifc)], [[.bld 0 60, .own 0, .pv (.int .i64)]], [some (5, (.int .u8))]⟩
def A66 (k : Nat) : EnvL := [(66, [Uh k])]
def Apo (k : Nat) : Cfg := mkC (A66 k) 68 1 0
def Q3 (k : Nat) : H23 → Option H24 := hid (Ag (Apo k) k Tryz.f37 Apq Apr)
def Avp (k : Nat) : Sig := Af Apq Apr (Q3 k)
noncomputable def App (k : Nat) : H23 → Option H24
 | (a0, a1, a2) => ((Q4 k) (a1, a2, [])).bind fun o1 => app 1 o1.2.2 a0 fun o2 => some (((List.length a0 : Nat) : Int), o1.1, o1.2.1, o2)
theorem A67 (k : Nat) (x : H23) : Q3 k x = App k x := (Ae _ _).trans (by kernel_rfl)
theorem Az1 (k : Nat) : Ac Tryz.prog 37 (Avp k) := Ah (Apo k) k rfl ⟨⟨Vz k, trivial⟩, trivial⟩ Ad Tryz.func37 (by kernel_rfl)
abbrev H25 : Type := (Bool) × (Int) × (List (Int))
def Api : Sk := ⟨[.lf (.ptr 0 0), .lf (.pv (.int .u8))], [[.bld 0 60, .own 0, .pv (.int .i64)]], [some (5, (.int .u8))]⟩
def Apj : Sk := ⟨[.lf (.nil .ifc)], [[.bld 0 60, .own 1, .pv (.int .i64)]], [none, some (5, (.int .u8))]⟩
def A63 (k : Nat) : EnvL := [(66, [Uh k])]
def Apg (k : Nat) : Cfg := mkC (A63 k) 65 1 1
def Mp (k : Nat) : H24 → Option H25 := hid (Ag (Apg k) k Tryz.f39 Api Apj)
def Aed (k : Nat) : Sig := Af Api Apj (Mp k)
noncomputable def Aph (k : Nat) : H24 → Option H25
 | (a0, a1, a2, a3) => ((Q4 k) (a1, a2, a3)).bind fun o1 => app 1 o1.2.2 ([a0] : List (Int)) fun o2 => some (o1.1, o1.2.1, o2)
theorem A64 (k : Nat) (x : H24) : Mp k x = Aph k x := (Ae _ _).trans (by kernel_rfl)
theorem Af3 (k : Nat) : Ac Tryz.prog 39 (Aed k) := Ah (Apg k) k rfl ⟨⟨Vz k, trivial⟩, trivial⟩ Ad Tryz.func39 (by kernel_rfl)
abbrev H26 : Type := (List Int) × (Bool) × (Int) × (List (Int))
def Apm : Sk := ⟨[.lf (.ptr 0 0), .lf (.pv .str)], [[.bld 0 60, .own 0, .pv (.int .i64)]], [some (5, (.int .u8))]⟩
def Apn : Sk := ⟨[.lf (.pv (.int .i64)), .lf (.nil .ifc)], [[.bld 0 60, .own 1, .pv (.int .i64)]], [none, some (5, (.int .u8))]⟩
def A65 (k : Nat) : EnvL := [(66, [Uh k])]
def Apk (k : Nat) : Cfg := mkC (A65 k) 67 1 1
def Du (k : Nat) : H26 → Option H24 := hid (Ag (Apk k) k Tryz.f37 Apm Apn)
def Aee (k : Nat) : Sig := Af Apm Apn (Du k)
noncomputable def Acb (k : Nat) : H26 → Option H24
 | (a0, a1, a2, a3) => ((Q4 k) (a1, a2, a3)).bind fun o1 => app 1 o1.2.2 a0 fun o2 => some (((List.length a0 : Nat) : Int), o1.1, o1.2.1, o2)
theorem Apl (k : Nat) (x : H26) : Du k x = Acb k x := (Ae _ _).trans (by kernel_rfl)
theorem Af4 (k : Nat) : Ac Tryz.prog 37 (Aee k) := Ah (Apk k) k rfl ⟨⟨Vz k, trivial⟩, trivial⟩ Ad Tryz.func37 (by kernel_rfl)
def A6x : Sk := ⟨[.lf (.pv (.int .i64)), .lf (.pv (.int .i64))], [], []⟩
def A6y : Sk := ⟨[.lf (.pv .str)], [], []⟩
def Gk (k : Nat) : ((Int) × (Int)) → Option (List Int) := fmtI
def Aec (k : Nat) : Sig := Af A6x A6y (Gk k)
theorem Af2 (k : Nat) : Ac Tryz.prog 40 (Aec k) := fmtI_ok
abbrev H27 : Type := (List Int) × (List (AnyV)) × (Int) × (Int) × (Bool) × (Int) × (List (Int))
abbrev H28 : Type := (List Int) × (AnyV) × (List (AnyV)) × (Int) × (Int) × (Bool) × (Int) × (List (Int))
abbrev H29 : Type := (List Int) × (List (AnyV)) × (Bool) × (Int)
def Aaa : Sk := ⟨[.lf (.ptr 0 0), .lf (.pv .str), .lf (.pv (.slice .any))], [[.bld 0 60, .nil .sl, .pv (.int .i64)]], []⟩
def Aab : Sk := ⟨[], [[.bld 0 60, .own 0, .pv (.int .i64)]], [some (5, (.int .u8))]⟩
def Amn : Sk := ⟨sparse 73 [(0, .lf (.ptr 0 0)), (1, .lf (.pv .str)), (20, .lf (.pv (.slice .any))), (21, .lf (.pv (.int .i64))), (22, .lf (.pv (.int .i64)))], [[.bld 0 60, .own 0, .pv (.int .i64)]], [some (5, (.int .u8))]⟩
abbrev Z5 := H27
def E8 : Z5 → St := stOf Amn 194
def Amo : Sk := ⟨sparse 73 [(0, .lf (.ptr 0 0)), (1, .lf (.pv .str)), (7, .lf (.pv .any)), (20, .lf (.pv (.slice .any))), (21, .lf (.pv (.int .i64))), (22, .lf (.pv (.int .i64)))], [[.bld 0 60, .own 0, .pv (.int .i64)]], [some (5, (.int .u8))]⟩
abbrev Z6 := H28
def Nn : Z6 → St := stOf Amo 194
def A5l (k : Nat) : EnvL := [(38, [Aef k]), (37, [Avp k, Aee k]), (39, [Aed k]), (40, [Aec k])]
def B4 (k : Nat) : FnX H25 := mkX ({ mkC (A5l k) 194 1 0 with hint := fun i => look none [(2, some Amn), (6, some Amo)] i, bl := [58, 60], ef := [(19, (([0], []), ([], [67]))), (50, (([0], [0]), ([], [98]))), (65, (([0], [0]), ([], [113])))], ld := [(12, 9999), (13, 9999), (15, 9999), (16, 9999), (17, 0), (46, 9999), (47, 9999), (55, 9999), (56, 9999), (57, 9999), (58, 58), (61, 9999), (62, 58)] }) k Tryz.f16 Aab
def Mj (k : Nat) : H29 → Option H25 := hid (Ag (B4 k).C k Tryz.f16 Aaa Aab)
def Au1 (k : Nat) : Sig := Af Aaa Aab (Mj k)
noncomputable def Z8 (k : Nat) (J : JF H25) (L : LF H25) : H29 → Option H25
 | (a0, a1, a2, a3) => ((Q5 k) (([32, 32] : List Int), a3)).bind fun o1 => ((Q3 k) (o1, a2, a3)).bind fun o2 => L 2 [] k (E8 (a0, a1, ((List.length a1 : Nat) : Int), (0 : Int), o2.2.1, o2.2.2.1, o2.2.2.2))
theorem A5m (k : Nat) (x : H29) : Mj k x = Z8 k (B4 k).J (B4 k).L x := by
 refine (Ae _ _).trans ?_; apply cutX (B4 k) [] [] (st0 (B4 k).C Tryz.f16 Aaa x) [] [(2, [], k)] (Z8 k · · x) <;> intros <;> kernel_rfl
noncomputable def No (k j2 : Nat) (J : JF H25) (L : LF H25) : Z5 → Option H25
 | (a0, a1, a2, a3, a4, a5, a6) => bif (decide (a3 < a2)) then (idx AnyV.nil a1 a3 fun o1 => bif (decide (a3 > (0 : Int))) then (((Mp k) ((32 : Int), a4, a5, a6)).bind fun o2 => J 6 [j2] (Nn (a0, o1, a1, a2, a3, o2.1, o2.2.1, o2.2.2))) else (J 6 [j2] (Nn (a0, o1, a1, a2, a3, a4, a5, a6)))) else (cat a0 ([10] : List Int) fun o3 => ((Du k) (o3, a4, a5, a6)).bind fun o4 => some (o4.2.1, o4.2.2.1, o4.2.2.2))
theorem Z7 (k j2 : Nat) (x : Z5) : (B4 k).L 2 [] (j2 + 1) (E8 x) = No k j2 (B4 k).J (B4 k).L x := by
 apply cutX (B4 k) [.r, .l, .r, .b, .b] [j2] (E8 x) [(6, [j2])] [(2, [], j2)] (No k j2 · · x) <;> intros <;> kernel_rfl
noncomputable def Z9 (k j2 : Nat) (J : JF H25) (L : LF H25) : Z6 → Option H25
 | (a0, a1, a2, a3, a4, a5, a6, a7) => bif Bm 9 a1 then (bif Da false [.str] a1 then ((Du k) ((anyS 0 a1), a5, a6, a7)).bind fun o1 => L 2 [] j2 (E8 (a0, a2, a3, (IntKind.wrap .i64 (a4 + (1 : Int))), o1.2.1, o1.2.2.1, o1.2.2.2)) else none) else (bif Bm 2 a1 then (bif Da false [(.int .i64)] a1 then ((Gk k) ((anyI 0 a1), (10 : Int))).bind fun o2 => ((Du k) (o2, a5, a6, a7)).bind fun o3 => L 2 [] j2 (E8 (a0, a2, a3, (IntKind.wrap .i64 (a4 + (1 : Int))), o3.2.1, o3.2.2.1, o3.2.2.2)) else none) else (bif Bm 43 a1 then (bif Da true [(.int .i64), (.int .i64)] a1 then ((Gk k) ((anyI 0 a1), (10 : Int))).bind fun o4 => cat o4 ([47] : List Int) fun o5 => ((Gk k) ((anyI 1 a1), (10 : Int))).bind fun o6 => cat o5 o6 fun o7 => ((Du k) (o7, a5, a6, a7)).bind fun o8 => L 2 [] j2 (E8 (a0, a2, a3, (IntKind.wrap .i64 (a4 + (1 : Int))), o8.2.1, o8.2.2.1, o8.2.2.2)) else none) else (L 2 [] j2 (E8 (a0, a2, a3, (IntKind.wrap .i64 (a4 + (1 : Int))), a5, a6, a7)))))
theorem A5n (k j2 : Nat) (x : Z6) : (B4 k).J 6 [j2] (Nn x) = Z9 k j2 (B4 k).J (B4 k).L x := by
 apply cutX (B4 k) [.r, .l, .r, .b, .b, .r, .r, .l, .b, .r, .r] [j2] (Nn x) [(6, [j2])] [(2, [], j2)] (Z9 k j2 · · x) <;> intros <;> kernel_rfl
theorem Azd (k : Nat) : Ac Tryz.prog 16 (Au1 k) := Ah (B4 k).C k rfl ⟨⟨Af5 k, trivial⟩, ⟨Az1 k, Af4 k, trivial⟩, ⟨Af3 k, trivial⟩, ⟨Af2 k, trivial⟩, trivial⟩ Ad Tryz.func16 (by kernel_rfl)
abbrev H30 : Type := (List Int) × (List (AnyV)) × (Bool) × (Int) × (List (Int))
def Z3 : Sk := ⟨[.lf (.ptr 0 0), .lf (.pv .str), .lf (.pv (.slice .any))], [[.bld 0 60, .own 0, .pv (.int .i64)]], [some (5, (.int .u8))]⟩
def Z4 : Sk := ⟨[], [[.bld 0 60, .own 1, .pv (.int .i64)]], [none, some (5, (.int .u8))]⟩
def Aml : Sk := ⟨sparse 73 [(0, .lf (.ptr 0 0)), (1, .lf (.pv .str)), (20, .lf (.pv (.slice .any))), (21, .lf (.pv (.int .i64))), (22, .lf (.pv (.int .i64)))], [[.bld 0 60, .own 1, .pv (.int .i64)]], [none, some (5, (.int .u8))]⟩
abbrev Zy := H27
def E7 : Zy → St := stOf Aml 194
def Amm : Sk := ⟨sparse 73 [(0, .lf (.ptr 0 0)), (1, .lf (.pv .str)), (7, .lf (.pv .any)), (20, .lf (.pv (.slice .any))), (21, .lf (.pv (.int .i64))), (22, .lf (.pv (.int .i64)))], [[.bld 0 60, .own 1, .pv (.int .i64)]], [none, some (5, (.int .u8))]⟩
abbrev Zz := H28
def Nl : Zz → St := stOf Amm 194
def A5i (k : Nat) : EnvL := [(38, [Aef k]), (37, [Aee k]), (39, [Aed k]), (40, [Aec k])]
def B5 (k : Nat) : FnX H25 := mkX ({ mkC (A5i k) 194 1 1 with hint := fun i => look none [(2, some Aml), (6, some Amm)] i, bl := [58, 60], ef := [(19, (([0], [0]), ([], [67]))), (50, (([0], [1]), ([], [98]))), (65, (([0], [1]), ([], [113])))], ld := [(12, 9999), (13, 9999), (15, 9999), (16, 9999), (17, 0), (46, 9999), (47, 9999), (55, 9999), (56, 9999), (57, 9999), (58, 58), (61, 9999), (62, 58)] }) k Tryz.f16 Z4
def Cs (k : Nat) : H30 → Option H25 := hid (Ag (B5 k).C k Tryz.f16 Z3 Z4)
def K9 (k : Nat) : Sig := Af Z3 Z4 (Cs k)
noncomputable def Z1 (k : Nat) (J : JF H25) (L : LF H25) : H30 → Option H25
 | (a0, a1, a2, a3, a4) => ((Q5 k) (([32, 32] : List Int), a3)).bind fun o1 => ((Du k) (o1, a2, a3, a4)).bind fun o2 => L 2 [] k (E7 (a0, a1, ((List.length a1 : Nat) : Int), (0 : Int), o2.2.1, o2.2.2.1, o2.2.2.2))
theorem A5j (k : Nat) (x : H30) : Cs k x = Z1 k (B5 k).J (B5 k).L x := by
 refine (Ae _ _).trans ?_; apply cutX (B5 k) [] [] (st0 (B5 k).C Tryz.f16 Z3 x) [] [(2, [], k)] (Z1 k · · x) <;> intros <;> kernel_rfl
noncomputable def Nm (k j2 : Nat) (J : JF H25) (L : LF H25) : Zy → Option H25
 | (a0, a1, a2, a3, a4, a5, a6) => bif (decide (a3 < a2)) then (idx AnyV.nil a1 a3 fun o1 => bif (decide (a3 > (0 : Int))) then (((Mp k) ((32 : Int), a4, a5, a6)).bind fun o2 => J 6 [j2] (Nl (a0, o1, a1, a2, a3, o2.1, o2.2.1, o2.2.2))) else (J 6 [j2] (Nl (a0, o1, a1, a2, a3, a4, a5, a6)))) else (cat a0 ([10] : List Int) fun o3 => ((Du k) (o3, a4, a5, a6)).bind fun o4 => some (o4.2.1, o4.2.2.1, o4.2.2.2))
theorem Z0 (k j2 : Nat) (x : Zy) : (B5 k).L 2 [] (j2 + 1) (E7 x) = Nm k j2 (B5 k).J (B5 k).L x := by
 apply cutX (B5 k) [.r, .l, .r, .b, .b] [j2] (E7 x) [(6, [j2])] [(2, [], j2)] (Nm k j2 · · x) <;> intros <;> kernel_rfl
noncomputable def Z2 (k j2 : Nat) (J : JF H25) (L : LF H25) : Zz → Option H25
 | (a0, a1, a2, a3, a4, a5, a6, a7) => bif Bm 9 a1 then (bif Da false [.str] a1 then ((Du k) ((anyS 0 a1), a5, a6, a7)).bind fun o1 => L 2 [] j2 (E7 (a0, a2, a3, (IntKind.wrap .i64 (a4 + (1 : Int))), o1.2.1, o1.2.2.1, o1.2.2.2)) else none) else (bif Bm 2 a1 then (bif Da false [(.int .i64)] a1 then ((Gk k) ((anyI 0 a1), (10 : Int))).bind fun o2 => ((Du k) (o2, a5, a6, a7)).bind fun o3 => L 2 [] j2 (E7 (a0, a2, a3, (IntKind.wrap .i64 (a4 + (1 : Int))), o3.2.1, o3.2.2.1, o3.2.2.2)) else none) else (bif Bm 43 a1 then (bif Da true [(.int .i64), (.int .i64)] a1 then ((Gk k) ((anyI 0 a1), (10 : Int))).bind fun o4 => cat o4 ([47] : List Int) fun o5 => ((Gk k) ((anyI 1 a1), (10 : Int))).bind fun o6 => cat o5 o6 fun o7 => ((Du k) (o7, a5, a6, a7)).bind fun o8 => L 2 [] j2 (E7 (a0, a2, a3, (IntKind.wrap .i64 (a4 + (1 : Int))), o8.2.1, o8.2.2.1, o8.2.2.2)) else none) else (L 2 [] j2 (E7 (a0, a2, a3, (IntKind.wrap .i64 (a4 + (1 : Int))), a5, a6, a7)))))
theorem A5k (k j2 : Nat) (x : Zz) : (B5 k).J 6 [j2] (Nl x) = Z2 k j2 (B5 k).J (B5 k).L x := by
 apply cutX (B5 k) [.r, .l, .r, .b, .b, .r, .r, .l, .b, .r, .r] [j2] (Nl x) [(6, [j2])] [(2, [], j2)] (Z2 k j2 · · x) <;> intros <;> kernel_rfl
theorem Mk (k : Nat) : Ac Tryz.prog 16 (K9 k) := Ah (B5 k).C k rfl ⟨⟨Af5 k, trivial⟩, ⟨Af4 k, trivial⟩, ⟨Af3 k, trivial⟩, ⟨Af2 k, trivial⟩, trivial⟩ Ad Tryz.func16 (by kernel_rfl)
abbrev H31 : Type := (List (YT0)) × (Int) × (Int) × (Bool) × (Int) × (List (Int)) × (List (AnyV))
abbrev H32 : Type := (List Int) × (Int) × (Int) × (Int) × (List (YT0)) × (Bool) × (Int) × (List (Int))
def Aae : Sk := ⟨[.lf (.ptr 0 0), .agg [.pv .str, .pv (.int .i64), .pv (.int .i64), .pv (.int .i64), .pv (.slice yt0)]], [[.bld 0 60, .own 0, .pv (.int .i64)]], [some (5, (.int .u8))]⟩
def Aaf : Sk := ⟨[], [[.bld 0 60, .own 1, .pv (.int .i64)]], [none, some (5, (.int .u8))]⟩
def Amq : Sk := ⟨sparse 49 [(0, .lf (.ptr 0 0)), (4, .lf (.own 1)), (25, .lf (.pv (.slice yt0))), (26, .lf (.pv (.int .i64))), (27, .lf (.pv (.int .i64)))], [[.bld 0 60, .own 0, .pv (.int .i64)]], [some (5, (.int .u8)), some (20, .any)]⟩
abbrev Aac := H31
def Np : Aac → St := stOf Amq 98
def A5o (k : Nat) : EnvL := [(16, [K9 k])]
def E9 (k : Nat) : FnX H25 := mkX ({ mkC (A5o k) 98 1 1 with hint := fun i => look none [(3, some Amq)] i, bl := [58, 60] }) k Tryz.f73 Aaf
def Qp (k : Nat) : H32 → Option H25 := hid (Ag (E9 k).C k Tryz.f73 Aae Aaf)
def Au2 (k : Nat) : Sig := Af Aae Aaf (Qp k)
noncomputable def Aad (k : Nat) (J : JF H25) (L : LF H25) : H32 → Option H25
 | (a0, a1, a2, a3, a4, a5, a6, a7) => L 3 [] k (Np (a4, ((List.length a4 : Nat) : Int), (0 : Int), a5, a6, a7, ([(AnyV.mk 9 false [.str ([112, 104, 97, 115, 101] : List Int)]), (AnyV.mk 9 false [.str a0]), (AnyV.mk 9 false [.str ([115, 112, 108, 105, 116] : List Int)]), (AnyV.mk 2 false [.int .i64 a1]), (AnyV.mk 9 false [.str ([121, 101, 108, 108, 111, 119] : List Int)]), (AnyV.mk 2 false [.int .i64 a2]), (AnyV.mk 9 false [.str ([114, 101, 100] : List Int)]), (AnyV.mk 2 false [.int .i64 a3])] : List (AnyV))))
theorem A5p (k : Nat) (x : H32) : Qp k x = Aad k (E9 k).J (E9 k).L x := by
 refine (Ae _ _).trans ?_; apply cutX (E9 k) [] [] (st0 (E9 k).C Tryz.f73 Aae x) [] [(3, [], k)] (Aad k · · x) <;> intros <;> kernel_rfl
noncomputable def Sf (k j3 : Nat) (J : JF H25) (L : LF H25) : Aac → Option H25
 | (a0, a1, a2, a3, a4, a5, a6) => bif (decide (a2 < a1)) then (idx zt0 a0 a2 fun o1 => app 16 a6 ([(AnyV.mk 9 false [.str ([119, 97, 108, 107] : List Int)]), (AnyV.mk 9 false [.str o1.1]), (AnyV.mk 2 false [.int .i64 o1.2.1]), (AnyV.mk 9 false [.str ([102, 108, 97, 115, 104] : List Int)]), (AnyV.mk 2 false [.int .i64 o1.2.2.1])] : List (AnyV)) fun o2 => L 3 [] j3 (Np (a0, a1, (IntKind.wrap .i64 (a2 + (1 : Int))), a3, a4, a5, o2))) else (((Cs k) (([59] : List Int), a6, a3, a4, a5)).bind fun o3 => some (o3.1, o3.2.1, o3.2.2))
theorem Amp (k j3 : Nat) (x : Aac) : (E9 k).L 3 [] (j3 + 1) (Np x) = Sf k j3 (E9 k).J (E9 k).L x := by
 apply cutX (E9 k) [.r, .r, .l, .r, .b, .b] [j3] (Np x) [] [(3, [], j3)] (Sf k j3 · · x) <;> intros <;> kernel_rfl
theorem Aze (k : Nat) : Ac Tryz.prog 73 (Au2 k) := Ah (E9 k).C k rfl ⟨⟨Mk k, trivial⟩, trivial⟩ Ad Tryz.func73 (by kernel_rfl)
abbrev H33 : Type := (List (YT1)) × (Int) × (Int) × (List (YT1)) × (Bool) × (Int) × (List (Int))
abbrev H34 : Type := (List (YT1)) × (Bool) × (Int) × (List (Int))
def Aai : Sk := ⟨[.lf (.ptr 0 0), .lf (.ptr 1 0)], [[.pv (.slice yt1)], [.ptr 2 0], [.bld 2 60, .own 0, .pv (.int .i64)]], [some (5, (.int .u8))]⟩
def Aaj : Sk := ⟨[], [[.pv (.slice yt1)], [.ptr 2 0], [.bld 2 60, .own 1, .pv (.int .i64)]], [none, some (5, (.int .u8))]⟩
def Ams : Sk := ⟨sparse 14 [(0, .lf (.ptr 0 0)), (1, .lf (.ptr 1 0)), (4, .lf (.pv (.slice yt1))), (5, .lf (.pv (.int .i64))), (6, .lf (.pv (.int .i64)))], [[.pv (.slice yt1)], [.ptr 2 0], [.bld 2 60, .own 1, .pv (.int .i64)]], [none, some (5, (.int .u8))]⟩
abbrev Aag := H33
def Nq : Aag → St := stOf Ams 63
def A5r (k : Nat) : EnvL := [(73, [Au2 k])]
def Fb (k : Nat) : FnX H34 := mkX ({ mkC (A5r k) 63 3 1 with hint := fun i => look none [(1, some Ams)] i, bl := [58, 60] }) k Tryz.f72 Aaj
def Qr (k : Nat) : H34 → Option H34 := hid (Ag (Fb k).C k Tryz.f72 Aai Aaj)
def Au4 (k : Nat) : Sig := Af Aai Aaj (Qr k)
noncomputable def Aah (k : Nat) (J : JF H34) (L : LF H34) : H34 → Option H34
 | (a0, a1, a2, a3) => L 1 [] k (Nq (a0, ((List.length a0 : Nat) : Int), (0 : Int), a0, a1, a2, a3))
theorem A5s (k : Nat) (x : H34) : Qr k x = Aah k (Fb k).J (Fb k).L x := by
 refine (Ae _ _).trans ?_; apply cutX (Fb k) [] [] (st0 (Fb k).C Tryz.f72 Aai x) [] [(1, [], k)] (Aah k · · x) <;> intros <;> kernel_rfl
noncomputable def Sg (k j1 : Nat) (J : JF H34) (L : LF H34) : Aag → Option H34
 | (a0, a1, a2, a3, a4, a5, a6) => bif (decide (a2 < a1)) then (idx zt1 a0 a2 fun o1 => ((Qp k) (o1.1, o1.2.1, o1.2.2.1, o1.2.2.2.1, o1.2.2.2.2.1, a4, a5, a6)).bind fun o2 => L 1 [] j1 (Nq (a0, a1, (IntKind.wrap .i64 (a2 + (1 : Int))), a3, o2.1, o2.2.1, o2.2.2))) else (some (a3, a4, a5, a6))
theorem Amr (k j1 : Nat) (x : Aag) : (Fb k).L 1 [] (j1 + 1) (Nq x) = Sg k j1 (Fb k).J (Fb k).L x := by
 apply cutX (Fb k) [.r, .b, .b] [j1] (Nq x) [] [(1, [], j1)] (Sg k j1 · · x) <;> intros <;> kernel_rfl
theorem Azf (k : Nat) : Ac Tryz.prog 72 (Au4 k) := Ah (Fb k).C k rfl ⟨⟨Aze k, trivial⟩, trivial⟩ Ad Tryz.func72 (by kernel_rfl)
abbrev H35 : Type := (List (AnyV)) × (Bool) × (Int) × (List (YT1)) × (List (Int))
abbrev H36 : Type := (Bool) × (Int) × (List (YT1)) × (List (Int))
def Amf : Sk := ⟨[.lf (.ptr 0 0), .lf (.fn 72 [] [(1, 0), (2, 0)]), .lf (.pv (.slice .any))], [[.bld 0 60, .own 0, .pv (.int .i64)], [.pv (.slice yt1)], [.ptr 0 0]], [some (5, (.int .u8))]⟩
def Amg : Sk := ⟨[], [[.bld 0 60, .own 1, .pv (.int .i64)], [.pv (.slice yt1)], [.ptr 0 0]], [none, some (5, (.int .u8))]⟩
def A5e (k : Nat) : EnvL := [(16, [K9 k]), (72, [Au4 k])]
def Amd (k : Nat) : Cfg := mkC (A5e k) 77 3 1
def Qo (k : Nat) : H35 → Option H36 := hid (Ag (Amd k) k Tryz.f17 Amf Amg)
def Au0 (k : Nat) : Sig := Af Amf Amg (Qo k)
noncomputable def Ame (k : Nat) : H35 → Option H36
 | (a0, a1, a2, a3, a4) => ((Cs k) (([32, 123] : List Int), a0, a1, a2, a4)).bind fun o1 => ((Qr k) (a3, o1.1, (IntKind.wrap .i64 (o1.2.1 + (1 : Int))), o1.2.2)).bind fun o2 => ((Cs k) (([125] : List Int), [], o2.2.1, (IntKind.wrap .i64 (o2.2.2.1 - (1 : Int))), o2.2.2.2)).bind fun o3 => some (o3.1, o3.2.1, o2.1, o3.2.2)
theorem A5f (k : Nat) (x : H35) : Qo k x = Ame k x := (Ae _ _).trans (by kernel_rfl)
theorem Azb (k : Nat) : Ac Tryz.prog 17 (Au0 k) := Ah (Amd k) k rfl ⟨⟨Mk k, trivial⟩, ⟨Azf k, trivial⟩, trivial⟩ Ad Tryz.func17 (by kernel_rfl)
abbrev H37 : Type := (List (List (YT1))) × (Int) × (Int) × (Bool) × (Int) × (List (Int))
abbrev H38 : Type := (List (List (YT1))) × (Bool) × (Int) × (List (Int))
def Aam : Sk := ⟨[.lf (.ptr 0 0), .agg [.pv (.slice (.slice yt1))]], [[.bld 0 60, .own 0, .pv (.int .i64)]], [some (5, (.int .u8))]⟩
def Aan : Sk := ⟨[], [[.bld 0 60, .own 1, .pv (.int .i64)]], [none, some (5, (.int .u8))]⟩
def Amu : Sk := ⟨sparse 19 [(0, .lf (.ptr 0 0)), (2, .lf (.ptr 1 0)), (7, .lf (.pv (.slice (.slice yt1)))), (8, .lf (.pv (.int .i64))), (9, .lf (.pv (.int .i64)))], [[.bld 0 60, .own 1, .pv (.int .i64)], [.ptr 0 0]], [none, some (5, (.int .u8))]⟩
abbrev Aak := H37
def Nr : Aak → St := stOf Amu 68
def A5q (k : Nat) : EnvL := [(17, [Au0 k])]
def Fa (k : Nat) : FnX H25 := mkX ({ mkC (A5q k) 68 1 1 with hint := fun i => look none [(2, some Amu)] i, bl := [58, 60] }) k Tryz.f42 Aan
def Qq (k : Nat) : H38 → Option H25 := hid (Ag (Fa k).C k Tryz.f42 Aam Aan)
def Au3 (k : Nat) : Sig := Af Aam Aan (Qq k)
noncomputable def Aal (k : Nat) (J : JF H25) (L : LF H25) : H38 → Option H25
 | (a0, a1, a2, a3) => L 2 [] k (Nr (a0, ((List.length a0 : Nat) : Int), (0 : Int), a1, a2, a3))
theorem A5t (k : Nat) (x : H38) : Qq k x = Aal k (Fa k).J (Fa k).L x := by
 refine (Ae _ _).trans ?_; apply cutX (Fa k) [] [] (st0 (Fa k).C Tryz.f42 Aam x) [] [(2, [], k)] (Aal k · · x) <;> intros <;> kernel_rfl
noncomputable def Sh (k j2 : Nat) (J : JF H25) (L : LF H25) : Aak → Option H25
 | (a0, a1, a2, a3, a4, a5) => bif (decide (a2 < a1)) then (idx [] a0 a2 fun o1 => ((Qo k) (([(AnyV.mk 9 false [.str ([114, 105, 110, 103] : List Int)])] : List (AnyV)), a3, a4, o1, a5)).bind fun o2 => L 2 [] j2 (Nr (a0, a1, (IntKind.wrap .i64 (a2 + (1 : Int))), o2.1, o2.2.1, o2.2.2.2))) else (some (a3, a4, a5))
theorem Amt (k j2 : Nat) (x : Aak) : (Fa k).L 2 [] (j2 + 1) (Nr x) = Sh k j2 (Fa k).J (Fa k).L x := by
 apply cutX (Fa k) [.r, .r, .b, .b] [j2] (Nr x) [] [(2, [], j2)] (Sh k j2 · · x) <;> intros <;> kernel_rfl
theorem Azg (k : Nat) : Ac Tryz.prog 42 (Au3 k) := Ah (Fa k).C k rfl ⟨⟨Azb k, trivial⟩, trivial⟩ Ad Tryz.func42 (by kernel_rfl)
def Amx : Sk := ⟨[.lf (.ptr 0 0), .lf (.ptr 1 0)], [[.ptr 2 0], [.pv (.slice (.slice yt1))], [.bld 2 60, .own 0, .pv (.int .i64)]], [some (5, (.int .u8))]⟩
def Amy : Sk := ⟨[], [[.ptr 2 0], [.pv (.slice (.slice yt1))], [.bld 2 60, .own 1, .pv (.int .i64)]], [none, some (5, (.int .u8))]⟩
def A5v (k : Nat) : EnvL := [(42, [Au3 k])]
def Amv (k : Nat) : Cfg := mkC (A5v k) 54 3 1
def Vs (k : Nat) : H38 → Option H38 := hid (Ag (Amv k) k Tryz.f41 Amx Amy)
def Au6 (k : Nat) : Sig := Af Amx Amy (Vs k)
noncomputable def Amw (k : Nat) : H38 → Option H38
 | (a0, a1, a2, a3) => ((Qq k) (a0, a1, a2, a3)).bind fun o1 => some (a0, o1.1, o1.2.1, o1.2.2)
theorem A5w (k : Nat) (x : H38) : Vs k x = Amw k x := (Ae _ _).trans (by kernel_rfl)
theorem Azh (k : Nat) : Ac Tryz.prog 41 (Au6 k) := Ah (Amv k) k rfl ⟨⟨Azg k, trivial⟩, trivial⟩ Ad Tryz.func41 (by kernel_rfl)
abbrev H39 : Type := (List (AnyV)) × (Bool) × (Int) × (List (List (YT1))) × (List (Int))
abbrev H40 : Type := (Bool) × (Int) × (List (List (YT1))) × (List (Int))
def Amb : Sk := ⟨[.lf (.ptr 0 0), .lf (.fn 41 [] [(1, 0), (2, 0)]), .lf (.pv (.slice .any))], [[.bld 0 60, .own 0, .pv (.int .i64)], [.ptr 0 0], [.pv (.slice (.slice yt1))]], [some (5, (.int .u8))]⟩
def Amc : Sk := ⟨[], [[.bld 0 60, .own 1, .pv (.int .i64)], [.ptr 0 0], [.pv (.slice (.slice yt1))]], [none, some (5, (.int .u8))]⟩
def A5c (k : Nat) : EnvL := [(16, [K9 k]), (41, [Au6 k])]
def Al9 (k : Nat) : Cfg := mkC (A5c k) 77 3 1
def Qn (k : Nat) : H39 → Option H40 := hid (Ag (Al9 k) k Tryz.f17 Amb Amc)
def Auz (k : Nat) : Sig := Af Amb Amc (Qn k)
noncomputable def Ama (k : Nat) : H39 → Option H40
 | (a0, a1, a2, a3, a4) => ((Cs k) (([32, 123] : List Int), a0, a1, a2, a4)).bind fun o1 => ((Vs k) (a3, o1.1, (IntKind.wrap .i64 (o1.2.1 + (1 : Int))), o1.2.2)).bind fun o2 => ((Cs k) (([125] : List Int), [], o2.2.1, (IntKind.wrap .i64 (o2.2.2.1 - (1 : Int))), o2.2.2.2)).bind fun o3 => some (o3.1, o3.2.1, o2.1, o3.2.2)
theorem A5d (k : Nat) (x : H39) : Qn k x = Ama k x := (Ae _ _).trans (by kernel_rfl)
theorem Aza (k : Nat) : Ac Tryz.prog 17 (Auz k) := Ah (Al9 k) k rfl ⟨⟨Mk k, trivial⟩, ⟨Azh k, trivial⟩, trivial⟩ Ad Tryz.func17 (by kernel_rfl)
abbrev H41 : Type := (List ((List (List (YT1))) × (Unit))) × (Int) × (Int) × (Bool) × (Int) × (List (Int))
abbrev H42 : Type := (List Int) × (Int) × (List ((List (List (YT1))) × (Unit))) × (Int) × (Int) × (Bool) × (Int) × (List (Int))
def Aaq : Sk := ⟨[.lf (.ptr 0 0), .agg [.pv .str, .pv (.int .i64), .pv (.slice (.cons (.slice (.slice yt1)) .nil)), .pv (.int .i64), .pv (.int .i64)]], [[.bld 0 60, .own 0, .pv (.int .i64)]], [some (5, (.int .u8))]⟩
def Aar : Sk := ⟨[], [[.bld 0 60, .own 1, .pv (.int .i64)]], [none, some (5, (.int .u8))]⟩
def Am0 : Sk := ⟨sparse 19 [(0, .lf (.ptr 0 0)), (2, .lf (.ptr 1 0)), (7, .lf (.pv (.slice (.cons (.slice (.slice yt1)) .nil)))), (8, .lf (.pv (.int .i64))), (9, .lf (.pv (.int .i64)))], [[.bld 0 60, .own 1, .pv (.int .i64)], [.ptr 0 0]], [none, some (5, (.int .u8))]⟩
abbrev Aao := H41
def Ns : Aao → St := stOf Am0 68
def A5u (k : Nat) : EnvL := [(17, [Auz k])]
def Fc (k : Nat) : FnX H25 := mkX ({ mkC (A5u k) 68 1 1 with hint := fun i => look none [(2, some Am0)] i, bl := [58, 60] }) k Tryz.f19 Aar
def Qs (k : Nat) : H42 → Option H25 := hid (Ag (Fc k).C k Tryz.f19 Aaq Aar)
def Au5 (k : Nat) : Sig := Af Aaq Aar (Qs k)
noncomputable def Aap (k : Nat) (J : JF H25) (L : LF H25) : H42 → Option H25
 | (a0, a1, a2, a3, a4, a5, a6, a7) => L 2 [] k (Ns (a2, ((List.length a2 : Nat) : Int), (0 : Int), a5, a6, a7))
theorem A5x (k : Nat) (x : H42) : Qs k x = Aap k (Fc k).J (Fc k).L x := by
 refine (Ae _ _).trans ?_; apply cutX (Fc k) [] [] (st0 (Fc k).C Tryz.f19 Aaq x) [] [(2, [], k)] (Aap k · · x) <;> intros <;> kernel_rfl
noncomputable def Si (k j2 : Nat) (J : JF H25) (L : LF H25) : Aao → Option H25
 | (a0, a1, a2, a3, a4, a5) => bif (decide (a2 < a1)) then (idx ([], ()) a0 a2 fun o1 => ((Qn k) (([(AnyV.mk 9 false [.str ([103, 114, 111, 117, 112] : List Int)])] : List (AnyV)), a3, a4, o1.1, a5)).bind fun o2 => L 2 [] j2 (Ns (a0, a1, (IntKind.wrap .i64 (a2 + (1 : Int))), o2.1, o2.2.1, o2.2.2.2))) else (some (a3, a4, a5))
theorem Amz (k j2 : Nat) (x : Aao) : (Fc k).L 2 [] (j2 + 1) (Ns x) = Si k j2 (Fc k).J (Fc k).L x := by
 apply cutX (Fc k) [.r, .r, .b, .b] [j2] (Ns x) [] [(2, [], j2)] (Si k j2 · · x) <;> intros <;> kernel_rfl
theorem Azi (k : Nat) : Ac Tryz.prog 19 (Au5 k) := Ah (Fc k).C k rfl ⟨⟨Aza k, trivial⟩, trivial⟩ Ad Tryz.func19 (by kernel_rfl)
def Ai9 : Sk := ⟨[.lf (.ptr 0 0), .lf (.ptr 1 0)], [[.ptr 2 0], q0, [.bld 2 60, .own 0, .pv (.int .i64)]], [some (5, (.int .u8))]⟩
def Aja : Sk := ⟨[], [[.ptr 2 0], q0, [.bld 2 60, .own 1, .pv (.int .i64)]], [none, some (5, (.int .u8))]⟩
def A2u (k : Nat) : EnvL := [(19, [Au5 k])]
def Ai7 (k : Nat) : Cfg := mkC (A2u k) 54 3 1
def Vk (k : Nat) : H42 → Option H42 := hid (Ag (Ai7 k) k Tryz.f18 Ai9 Aja)
def At2 (k : Nat) : Sig := Af Ai9 Aja (Vk k)
noncomputable def Ai8 (k : Nat) : H42 → Option H42
 | (a0, a1, a2, a3, a4, a5, a6, a7) => ((Qs k) (a0, a1, a2, a3, a4, a5, a6, a7)).bind fun o1 => some (a0, a1, a2, a3, a4, o1.1, o1.2.1, o1.2.2)
theorem A2v (k : Nat) (x : H42) : Vk k x = Ai8 k x := (Ae _ _).trans (by kernel_rfl)
theorem Ayb (k : Nat) : Ac Tryz.prog 18 (At2 k) := Ah (Ai7 k) k rfl ⟨⟨Azi k, trivial⟩, trivial⟩ Ad Tryz.func18 (by kernel_rfl)
abbrev H43 : Type := (List (AnyV)) × (Bool) × (Int) × (List Int) × (Int) × (List ((List (List (YT1))) × (Unit))) × (Int) × (Int) × (List (Int))
abbrev H44 : Type := (Bool) × (Int) × (List Int) × (Int) × (List ((List (List (YT1))) × (Unit))) × (Int) × (Int) × (List (Int))
def Amj : Sk := ⟨[.lf (.ptr 0 0), .lf (.fn 18 [] [(1, 0), (2, 0)]), .lf (.pv (.slice .any))], [[.bld 0 60, .own 0, .pv (.int .i64)], [.ptr 0 0], q0], [some (5, (.int .u8))]⟩
def Amk : Sk := ⟨[], [[.bld 0 60, .own 1, .pv (.int .i64)], [.ptr 0 0], q0], [none, some (5, (.int .u8))]⟩
def A5g (k : Nat) : EnvL := [(16, [K9 k]), (18, [At2 k])]
def Amh (k : Nat) : Cfg := mkC (A5g k) 77 3 1
def Qm (k : Nat) : H43 → Option H44 := hid (Ag (Amh k) k Tryz.f17 Amj Amk)
def Auy (k : Nat) : Sig := Af Amj Amk (Qm k)
noncomputable def Ami (k : Nat) : H43 → Option H44
 | (a0, a1, a2, a3, a4, a5, a6, a7, a8) => ((Cs k) (([32, 123] : List Int), a0, a1, a2, a8)).bind fun o1 => ((Vk k) (a3, a4, a5, a6, a7, o1.1, (IntKind.wrap .i64 (o1.2.1 + (1 : Int))), o1.2.2)).bind fun o2 => ((Cs k) (([125] : List Int), [], o2.2.2.2.2.2.1, (IntKind.wrap .i64 (o2.2.2.2.2.2.2.1 - (1 : Int))), o2.2.2.2.2.2.2.2)).bind fun o3 => some (o3.1, o3.2.1, o2.1, o2.2.1, o2.2.2.1, o2.2.2.2.1, o2.2.2.2.2.1, o3.2.2)
theorem A5h (k : Nat) (x : H43) : Qm k x = Ami k x := (Ae _ _).trans (by kernel_rfl)
theorem Azc (k : Nat) : Ac Tryz.prog 17 (Auy k) := Ah (Amh k) k rfl ⟨⟨Mk k, trivial⟩, ⟨Ayb k, trivial⟩, trivial⟩ Ad Tryz.func17 (by kernel_rfl)
def A61 : Sk := ⟨[.lf (.ptr 0 0)], [[.bld 0 60, .own 0, .pv (.int .i64)]], [some (5, (.int .u8))]⟩
def A62 : Sk := ⟨[.lf (.pv .str)], [[.bld 0 60, .dead, .pv (.int .i64)]], [none]⟩
def Vy (k : Nat) : ((Bool) × (Int) × (List (Int))) → Option ((List Int) × (Bool) × (Int)) := strC
def Avo (k : Nat) : Sig := Af A61 A62 (Vy k)
theorem Az0 (k : Nat) : Ac Tryz.prog 20 (Avo k) := strC_ok
abbrev H45 : Type := (List (YT3)) × (Int) × (Int) × (Int) × (List (YT3)) × (Int) × (Int) × (Int) × (Int) × (Bool) × (Int) × (Bool) × (Int) × (List (Int))
abbrev H46 : Type := (List Int) × (Int) × (List (YT3)) × (Int) × (Int) × (Int) × (Int) × (Bool) × (Int) × (Bool) × (Int) × (List (Int))
def Yg : Sk := ⟨[.agg [.pv (.int .i64), .pv (.slice yt3), .pv (.int .i64), .pv (.int .i64), .pv (.int .i64), .pv (.int .i64), .pv .bool, .pv (.int .i64)]], [], []⟩
def Yh : Sk := ⟨[.lf (.pv (.slice (.int .u8))), .lf (.pv (.int .i64))], [], []⟩
def Aje : Sk := ⟨sparse 89 [(1, .lf (.ptr 0 0)), (4, .lf (.ptr 1 0)), (22, .lf (.pv (.slice yt3))), (23, .lf (.pv (.int .i64))), (24, .lf (.pv (.int .i64)))], [q1, [.ptr 2 0], [.bld 2 60, .own 0, .pv (.int .i64)]], [some (5, (.int .u8))]⟩
abbrev Ye := H45
def Na : Ye → St := stOf Aje 139
def Ajd : Sk := ⟨sparse 89 [(1, .lf (.ptr 0 0)), (4, .lf (.ptr 1 0)), (7, .lf (.pv .str))], [q1, [.ptr 2 0], [.bld 2 60, .own 0, .pv (.int .i64)]], [some (5, (.int .u8))]⟩
abbrev Yd := H46
def M9 : Yd → St := stOf Ajd 139
def A2t (k : Nat) : EnvL := [(9, [On k]), (16, [Au1 k, K9 k]), (17, [Auy k]), (20, [Avo k])]
def C6 (k : Nat) : FnX ((List (Int)) × (Int)) := mkX ({ mkC (A2t k) 139 0 0 with hint := fun i => look none [(6, some Aje), (15, some Ajd)] i, bl := [58, 60] }) k Tryz.f7 Yh
def Hl (k : Nat) : H5 → Option ((List (Int)) × (Int)) := hid (Ag (C6 k).C k Tryz.f7 Yg Yh)
def Ue (k : Nat) : Sig := Af Yg Yh (Hl k)
noncomputable def Rk (k : Nat) (J : JF ((List (Int)) × (Int))) (L : LF ((List (Int)) × (Int))) : H5 → Option ((List (Int)) × (Int))
 | (a0, a1, a2, a3, a4, a5, a6, a7) => ((Hm k) (a0, a1, a2, a3, a4, a5, a6, a7)).bind fun o1 => bif (!o1) then (some ([], (1 : Int))) else (((Mj k) (([59] : List Int), ([(AnyV.mk 9 false [.str ([112, 108, 97, 110] : List Int)]), (AnyV.mk 9 false [.str ([99, 121, 99, 108, 101] : List Int)]), (AnyV.mk 2 false [.int .i64 a0])] : List (AnyV)), true, (0 : Int))).bind fun o2 => L 6 [] k (Na (a1, ((List.length a1 : Nat) : Int), (0 : Int), a0, a1, a2, a3, a4, a5, a6, a7, o2.1, o2.2.1, o2.2.2)))
theorem Ajb (k : Nat) (x : H5) : Hl k x = Rk k (C6 k).J (C6 k).L x := by
 refine (Ae _ _).trans ?_; apply cutX (C6 k) [] [] (st0 (C6 k).C Tryz.f7 Yg x) [(15, [])] [(6, [], k)] (Rk k · · x) <;> intros <;> kernel_rfl
noncomputable def Rl (k j6 : Nat) (J : JF ((List (Int)) × (Int))) (L : LF ((List (Int)) × (Int))) : Ye → Option ((List (Int)) × (Int))
 | (a0, a1, a2, a3, a4, a5, a6, a7, a8, a9, a10, a11, a12, a13) => bif (decide (a2 < a1)) then (idx zt3 a0 a2 fun o1 => ((Qm k) (([(AnyV.mk 9 false [.str ([110, 111, 100, 101] : List Int)]), (AnyV.mk 9 false [.str o1.1]), (AnyV.mk 9 false [.str ([111, 102, 102, 115, 101, 116] : List Int)]), (AnyV.mk 2 false [.int .i64 o1.2.1]), (AnyV.mk 9 false [.str ([115, 117, 109] : List Int)]), (AnyV.mk 43 true [.int .i64 o1.2.2.2.1.1, .int .i64 o1.2.2.2.1.2.1])] : List (AnyV)), a11, a12, o1.1, o1.2.1, o1.2.2.1, o1.2.2.2.1.1, o1.2.2.2.1.2.1, a13)).bind fun o2 => L 6 [] j6 (Na (a0, a1, (IntKind.wrap .i64 (a2 + (1 : Int))), a3, a4, a5, a6, a7, a8, a9, a10, o2.1, o2.2.1, o2.2.2.2.2.2.2.2))) else (((Cs k) (([59] : List Int), ([(AnyV.mk 9 false [.str ([111, 117, 116] : List Int)]), (AnyV.mk 2 false [.int .i64 a5]), (AnyV.mk 2 false [.int .i64 a6])] : List (AnyV)), a11, a12, a13)).bind fun o3 => ((Cs k) (([59] : List Int), ([(AnyV.mk 9 false [.str ([105, 110] : List Int)]), (AnyV.mk 2 false [.int .i64 a7]), (AnyV.mk 2 false [.int .i64 a8])] : List (AnyV)), o3.1, o3.2.1, o3.2.2)).bind fun o4 => bif a9 then (J 15 [] (M9 (([121, 101, 115] : List Int), a3, a4, a5, a6, a7, a8, a9, a10, o4.1, o4.2.1, o4.2.2))) else (J 15 [] (M9 (([110, 111] : List Int), a3, a4, a5, a6, a7, a8, a9, a10, o4.1, o4.2.1, o4.2.2))))
theorem Ajc (k j6 : Nat) (x : Ye) : (C6 k).L 6 [] (j6 + 1) (Na x) = Rl k j6 (C6 k).J (C6 k).L x := by
 apply cutX (C6 k) [.r, .r, .r, .r, .l, .r, .b, .b] [j6] (Na x) [(15, [])] [(6, [], j6)] (Rl k j6 · · x) <;> intros <;> kernel_rfl
noncomputable def Yf (k : Nat) (J : JF ((List (Int)) × (Int))) (L : LF ((List (Int)) × (Int))) : Yd → Option ((List (Int)) × (Int))
 | (a0, a1, a2, a3, a4, a5, a6, a7, a8, a9, a10, a11) => ((Cs k) (([59] : List Int), ([(AnyV.mk 9 false [.str ([98, 101, 115, 116] : List Int)]), (AnyV.mk 9 false [.str a0])] : List (AnyV)), a9, a10, a11)).bind fun o1 => ((Cs k) (([59] : List Int), ([(AnyV.mk 9 false [.str ([115, 112, 101, 110, 116] : List Int)]), (AnyV.mk 2 false [.int .i64 a8])] : List (AnyV)), o1.1, o1.2.1, o1.2.2)).bind fun o2 => ((Vy k) (o2.1, o2.2.1, o2.2.2)).bind fun o3 => some (o3.1, (0 : Int))
theorem A2w (k : Nat) (x : Yd) : (C6 k).J 15 [] (M9 x) = Yf k (C6 k).J (C6 k).L x := by
 apply cutX (C6 k) [.r, .r, .r, .r, .r, .r, .r, .r, .r] [] (M9 x) [(15, [])] [(6, [], k)] (Yf k · · x) <;> intros <;> kernel_rfl
theorem Afy (k : Nat) : Ac Tryz.prog 7 (Ue k) := Ah (C6 k).C k rfl ⟨⟨Vl k, trivial⟩, ⟨Azd k, Mk k, trivial⟩, ⟨Azc k, trivial⟩, ⟨Az0 k, trivial⟩, trivial⟩ Ad Tryz.func7 (by kernel_rfl)
def Aof : Sk := ⟨[.lf (.pv (.int .i64))], [], []⟩
def Aog : Sk := ⟨[.lf (.pv .bool)], [], []⟩
def Aod (k : Nat) : Cfg := mkC [] 57 0 0
def Ct (k : Nat) : Int → Option Bool := hid (Ag (Aod k) k Tryz.f26 Aof Aog)
def Ug (k : Nat) : Sig := Af Aof Aog (Ct k)
noncomputable def Aoe (k : Nat) : Int → Option Bool
 | a0 => bif (decide (a0 ≥ (0 : Int))) then (some (decide (a0 ≤ (999999999999999999 : Int)))) else (some false)
theorem A6n (k : Nat) (x : Int) : Ct k x = Aoe k x := (Ae _ _).trans (by kernel_rfl)
theorem Vw (k : Nat) : Ac Tryz.prog 26 (Ug k) := Ah (Aod k) (l := []) k rfl trivial Ad Tryz.func26 (by kernel_rfl)
def Abg : Sk := ⟨[.lf (.pv (.slice (.int .u8))), .lf (.pv (.int .i64))], [], []⟩
def Abh : Sk := ⟨[.lf (.pv (.int .i64))], [], []⟩
def An3 : Sk := ⟨sparse 57 [(0, .lf (.pv (.slice (.int .u8)))), (1, .lf (.pv (.int .i64)))], [], []⟩
abbrev Abc := ((List (Int)) × (Int))
def Ff : Abc → St := stOf An3 105
def An4 : Sk := ⟨sparse 57 [(0, .lf (.pv (.slice (.int .u8)))), (1, .lf (.pv (.int .i64)))], [], []⟩
abbrev Abd := ((List (Int)) × (Int))
def Nv : Abd → St := stOf An4 105
def C0 (k : Nat) : FnX Int := mkX ({ mkC [] 105 0 0 with hint := fun i => look none [(1, some An3), (3, some An4)] i }) k Tryz.f35 Abh
def Ml (k : Nat) : ((List (Int)) × (Int)) → Option Int := hid (Ag (C0 k).C k Tryz.f35 Abg Abh)
def Avh (k : Nat) : Sig := Af Abg Abh (Ml k)
noncomputable def Abe (k : Nat) (J : JF Int) (L : LF Int) : ((List (Int)) × (Int)) → Option Int
 | (a0, a1) => L 1 [] k (Ff (a0, a1))
theorem A6i (k : Nat) (x : ((List (Int)) × (Int))) : Ml k x = Abe k (C0 k).J (C0 k).L x := by
 refine (Ae _ _).trans ?_; apply cutX (C0 k) [] [] (st0 (C0 k).C Tryz.f35 Abg x) [] [(1, [], k)] (Abe k · · x) <;> intros <;> kernel_rfl
noncomputable def Abf (k j1 : Nat) (J : JF Int) (L : LF Int) : Abc → Option Int
 | (a0, a1) => bif (decide (a1 < ((List.length a0 : Nat) : Int))) then (bif (inB a1 (List.length a0)) then bif ((rdI a0 (Int.toNat a1)) == (35 : Int)) then (L 3 [j1] k (Nv (a0, a1))) else (bif (inB a1 (List.length a0)) then bif ((rdI a0 (Int.toNat a1)) == (32 : Int)) then (L 1 [] j1 (Ff (a0, (IntKind.wrap .i64 (a1 + (1 : Int)))))) else (bif (inB a1 (List.length a0)) then bif ((rdI a0 (Int.toNat a1)) == (9 : Int)) then (L 1 [] j1 (Ff (a0, (IntKind.wrap .i64 (a1 + (1 : Int)))))) else (bif (inB a1 (List.length a0)) then bif ((rdI a0 (Int.toNat a1)) == (10 : Int)) then (L 1 [] j1 (Ff (a0, (IntKind.wrap .i64 (a1 + (1 : Int)))))) else (bif (inB a1 (List.length a0)) then bif ((rdI a0 (Int.toNat a1)) == (13 : Int)) then (L 1 [] j1 (Ff (a0, (IntKind.wrap .i64 (a1 + (1 : Int)))))) else (some a1) else none) else none) else none) else none) else none) else (some a1)
theorem A6j (k j1 : Nat) (x : Abc) : (C0 k).L 1 [] (j1 + 1) (Ff x) = Abf k j1 (C0 k).J (C0 k).L x := by
 apply cutX (C0 k) [.r, .l, .b, .b] [j1] (Ff x) [] [(1, [], j1), (3, [j1], k)] (Abf k j1 · · x) <;> intros <;> kernel_rfl
noncomputable def Sm (k j1 j3 : Nat) (J : JF Int) (L : LF Int) : Abd → Option Int
 | (a0, a1) => bif (decide (a1 < ((List.length a0 : Nat) : Int))) then (bif (inB a1 (List.length a0)) then bif ((rdI a0 (Int.toNat a1)) != (10 : Int)) then (L 3 [j1] j3 (Nv (a0, (IntKind.wrap .i64 (a1 + (1 : Int)))))) else (L 1 [] j1 (Ff (a0, a1))) else none) else (L 1 [] j1 (Ff (a0, a1)))
theorem An2 (k j1 j3 : Nat) (x : Abd) : (C0 k).L 3 [j1] (j3 + 1) (Nv x) = Sm k j1 j3 (C0 k).J (C0 k).L x := by
 apply cutX (C0 k) [.r, .l, .b, .b, .r, .b, .r, .t, .b, .b] [j1, j3] (Nv x) [] [(1, [], j1), (3, [j1], j3)] (Sm k j1 j3 · · x) <;> intros <;> kernel_rfl
theorem Azt (k : Nat) : Ac Tryz.prog 35 (Avh k) := Ah (C0 k).C (l := []) k rfl trivial Ad Tryz.func35 (by kernel_rfl)
def An7 : Sk := ⟨[.lf (.pv (.int .u8))], [], []⟩
def An8 : Sk := ⟨[.lf (.pv .bool)], [], []⟩
def An5 (k : Nat) : Cfg := mkC [] 57 0 0
def Mm (k : Nat) : Int → Option Bool := hid (Ag (An5 k) k Tryz.f63 An7 An8)
def Avi (k : Nat) : Sig := Af An7 An8 (Mm k)
noncomputable def An6 (k : Nat) : Int → Option Bool
 | a0 => bif (decide (a0 ≥ (97 : Int))) then (some (decide (a0 ≤ (122 : Int)))) else (some false)
theorem A6k (k : Nat) (x : Int) : Mm k x = An6 k x := (Ae _ _).trans (by kernel_rfl)
theorem Azu (k : Nat) : Ac Tryz.prog 63 (Avi k) := Ah (An5 k) (l := []) k rfl trivial Ad Tryz.func63 (by kernel_rfl)
def Ant : Sk := ⟨[.lf (.pv (.int .u8))], [], []⟩
def Anu : Sk := ⟨[.lf (.pv .bool)], [], []⟩
def Anr (k : Nat) : Cfg := mkC [] 57 0 0
def Jw (k : Nat) : Int → Option Bool := hid (Ag (Anr k) k Tryz.f64 Ant Anu)
def Ave (k : Nat) : Sig := Af Ant Anu (Jw k)
noncomputable def Ans (k : Nat) : Int → Option Bool
 | a0 => bif (decide (a0 ≥ (48 : Int))) then (some (decide (a0 ≤ (57 : Int)))) else (some false)
theorem A6c (k : Nat) (x : Int) : Jw k x = Ans k x := (Ae _ _).trans (by kernel_rfl)
theorem Azq (k : Nat) : Ac Tryz.prog 64 (Ave k) := Ah (Anr k) (l := []) k rfl trivial Ad Tryz.func64 (by kernel_rfl)
def An0 : Sk := ⟨[.lf (.pv (.int .u8))], [], []⟩
def An1 : Sk := ⟨[.lf (.pv .bool)], [], []⟩
def Anx (k : Nat) : Cfg := mkC [] 77 0 0
def Qz (k : Nat) : Int → Option Bool := hid (Ag (Anx k) k Tryz.f65 An0 An1)
def Avg (k : Nat) : Sig := Af An0 An1 (Qz k)
noncomputable def Anz (k : Nat) : Int → Option Bool
 | a0 => bif (a0 == (123 : Int)) then (some true) else (bif (a0 == (125 : Int)) then (some true) else (bif (a0 == (44 : Int)) then (some true) else (bif (a0 == (59 : Int)) then (some true) else (bif (a0 == (58 : Int)) then (some true) else (bif (a0 == (47 : Int)) then (some true) else (some (a0 == (45 : Int))))))))
theorem A6h (k : Nat) (x : Int) : Qz k x = Anz k x := (Ae _ _).trans (by kernel_rfl)
theorem Azs (k : Nat) : Ac Tryz.prog 65 (Avg k) := Ah (Anx k) (l := []) k rfl trivial Ad Tryz.func65 (by kernel_rfl)
def q2 : List SL := [.pv (.int .i64), .pv .str, .pv (.int .i64), .pv (.int .i64)]
abbrev H47 : Type := (List (Int)) × (Int) × (Int) × (Int) × (List Int) × (Int) × (Int)
abbrev H48 : Type := (List (Int)) × (Int) × (Int) × (Int) × (Int) × (List Int) × (Int) × (Int)
abbrev H49 : Type := (Int) × (List Int) × (Int) × (Int) × (Int)
def Aba : Sk := ⟨[.lf (.pv (.slice (.int .u8))), .lf (.pv (.int .i64))], [], []⟩
def Abb : Sk := ⟨[.agg [.pv (.int .i64), .pv .str, .pv (.int .i64), .pv (.int .i64)], .lf (.pv (.int .i64))], [], []⟩
def Anw : Sk := ⟨sparse 114 [(0, .lf (.pv (.slice (.int .u8)))), (1, .lf (.pv (.int .i64))), (4, .lf (.ptr 0 0)), (6, .lf (.pv (.int .i64)))], [q2], []⟩
abbrev Aa6 := H47
def I4 : Aa6 → St := stOf Anw 162
def Anv : Sk := ⟨sparse 114 [(0, .lf (.pv (.slice (.int .u8)))), (1, .lf (.pv (.int .i64))), (4, .lf (.ptr 0 0)), (6, .lf (.pv (.int .i64))), (7, .lf (.pv (.int .i64)))], [q2], []⟩
abbrev Aa5 := H48
def Kf : Aa5 → St := stOf Anv 162
def A6d (k : Nat) : EnvL := [(63, [Avi k]), (64, [Ave k]), (65, [Avg k])]
def C7 (k : Nat) : FnX H49 := mkX ({ mkC (A6d k) 162 0 0 with hint := fun i => look none [(3, some Anw), (10, some Anv)] i, bl := [58, 60] }) k Tryz.f36 Abb
def Qy (k : Nat) : ((List (Int)) × (Int)) → Option H49 := hid (Ag (C7 k).C k Tryz.f36 Aba Abb)
def Avf (k : Nat) : Sig := Af Aba Abb (Qy k)
noncomputable def Aa7 (k : Nat) (J : JF H49) (L : LF H49) : ((List (Int)) × (Int)) → Option H49
 | (a0, a1) => bif (inB a1 (List.length a0)) then ((Mm k) ((rdI a0 (Int.toNat a1)))).bind fun o1 => bif o1 then (L 3 [] k (I4 (a0, a1, a1, (0 : Int), ([] : List Int), (0 : Int), (0 : Int)))) else (bif (inB a1 (List.length a0)) then ((Jw k) ((rdI a0 (Int.toNat a1)))).bind fun o2 => bif o2 then (L 10 [] k (Kf (a0, a1, a1, (0 : Int), (0 : Int), ([] : List Int), (0 : Int), (0 : Int)))) else (bif (inB a1 (List.length a0)) then ((Qz k) ((rdI a0 (Int.toNat a1)))).bind fun o3 => bif o3 then (bif (cutB a1 (IntKind.wrap .i64 (a1 + (1 : Int))) (List.length a0)) then some ((3 : Int), (cutL a0 a1 (IntKind.wrap .i64 (a1 + (1 : Int)))), (0 : Int), a1, (0 : Int)) else none) else (some ((0 : Int), ([] : List Int), (0 : Int), (0 : Int), (40 : Int))) else none) else none) else none
theorem A6e (k : Nat) (x : ((List (Int)) × (Int))) : Qy k x = Aa7 k (C7 k).J (C7 k).L x := by
 refine (Ae _ _).trans ?_; apply cutX (C7 k) [] [] (st0 (C7 k).C Tryz.f36 Aba x) [] [(3, [], k), (10, [], k)] (Aa7 k · · x) <;> intros <;> kernel_rfl
noncomputable def Aa9 (k j3 : Nat) (J : JF H49) (L : LF H49) : Aa6 → Option H49
 | (a0, a1, a2, a3, a4, a5, a6) => bif (decide (a2 < ((List.length a0 : Nat) : Int))) then (bif (inB a2 (List.length a0)) then ((Mm k) ((rdI a0 (Int.toNat a2)))).bind fun o1 => bif o1 then (L 3 [] j3 (I4 (a0, a1, (IntKind.wrap .i64 (a2 + (1 : Int))), a3, a4, a5, a6))) else (bif (inB a2 (List.length a0)) then ((Jw k) ((rdI a0 (Int.toNat a2)))).bind fun o2 => bif o2 then (L 3 [] j3 (I4 (a0, a1, (IntKind.wrap .i64 (a2 + (1 : Int))), a3, a4, a5, a6))) else (bif (inB a2 (List.length a0)) then bif ((rdI a0 (Int.toNat a2)) == (95 : Int)) then (L 3 [] j3 (I4 (a0, a1, (IntKind.wrap .i64 (a2 + (1 : Int))), a3, a4, a5, a6))) else (bif (decide ((IntKind.wrap .i64 (a2 - a1)) > (24 : Int))) then (some ((0 : Int), ([] : List Int), (0 : Int), (0 : Int), (4 : Int))) else (bif (cutB a1 a2 (List.length a0)) then some ((1 : Int), (cutL a0 a1 a2), (0 : Int), a1, (0 : Int)) else none)) else none) else none) else none) else (bif (decide ((IntKind.wrap .i64 (a2 - a1)) > (24 : Int))) then (some ((0 : Int), ([] : List Int), (0 : Int), (0 : Int), (4 : Int))) else (bif (cutB a1 a2 (List.length a0)) then some ((1 : Int), (cutL a0 a1 a2), (0 : Int), a1, (0 : Int)) else none))
theorem A6g (k j3 : Nat) (x : Aa6) : (C7 k).L 3 [] (j3 + 1) (I4 x) = Aa9 k j3 (C7 k).J (C7 k).L x := by
 apply cutX (C7 k) [.r, .r, .l, .b, .r, .t, .l, .b, .b] [j3] (I4 x) [] [(3, [], j3), (10, [], k)] (Aa9 k j3 · · x) <;> intros <;> kernel_rfl
noncomputable def Aa8 (k j10 : Nat) (J : JF H49) (L : LF H49) : Aa5 → Option H49
 | (a0, a1, a2, a3, a4, a5, a6, a7) => bif (decide (a2 < ((List.length a0 : Nat) : Int))) then (bif (inB a2 (List.length a0)) then ((Jw k) ((rdI a0 (Int.toNat a2)))).bind fun o1 => bif o1 then (bif (decide ((IntKind.wrap .i64 (a2 - a1)) < (18 : Int))) then (bif (inB a2 (List.length a0)) then L 10 [] j10 (Kf (a0, a1, (IntKind.wrap .i64 (a2 + (1 : Int))), (IntKind.wrap .i64 ((IntKind.wrap .i64 ((10 : Int) * a3)) + (IntKind.wrap .i64 (IntKind.wrap .u8 ((rdI a0 (Int.toNat a2)) - (48 : Int)))))), a4, a5, a6, a7)) else none) else (L 10 [] j10 (Kf (a0, a1, (IntKind.wrap .i64 (a2 + (1 : Int))), a3, a4, a5, a6, a7)))) else (bif (decide ((IntKind.wrap .i64 (a2 - a1)) > (18 : Int))) then (some ((0 : Int), ([] : List Int), (0 : Int), (0 : Int), (4 : Int))) else (bif (cutB a1 a2 (List.length a0)) then some ((2 : Int), (cutL a0 a1 a2), a3, a1, (0 : Int)) else none)) else none) else (bif (decide ((IntKind.wrap .i64 (a2 - a1)) > (18 : Int))) then (some ((0 : Int), ([] : List Int), (0 : Int), (0 : Int), (4 : Int))) else (bif (cutB a1 a2 (List.length a0)) then some ((2 : Int), (cutL a0 a1 a2), a3, a1, (0 : Int)) else none))
theorem A6f (k j10 : Nat) (x : Aa5) : (C7 k).L 10 [] (j10 + 1) (Kf x) = Aa8 k j10 (C7 k).J (C7 k).L x := by
 apply cutX (C7 k) [.r, .r, .l, .b, .r, .e, .r, .t, .r, .l, .b, .b] [j10] (Kf x) [] [(3, [], k), (10, [], j10)] (Aa8 k j10 · · x) <;> intros <;> kernel_rfl
theorem Azr (k : Nat) : Ac Tryz.prog 36 (Avf k) := Ah (C7 k).C k rfl ⟨⟨Azu k, trivial⟩, ⟨Azq k, trivial⟩, ⟨Azs k, trivial⟩, trivial⟩ Ad Tryz.func36 (by kernel_rfl)
abbrev H50 : Type := (List (Int)) × (Int) × (List (YT4))
def Aa3 : Sk := ⟨[.lf (.pv (.slice (.int .u8)))], [], []⟩
def Aa4 : Sk := ⟨[.lf (.own 0), .lf (.pv (.int .i64)), .lf (.pv (.int .i64))], [], [some (83, yt4)]⟩
def Anm : Sk := ⟨sparse 44 [(0, .lf (.pv (.slice (.int .u8)))), (5, .lf (.own 0)), (6, .lf (.pv (.int .i64)))], [], [some (83, yt4)]⟩
abbrev Aa0 := H50
def Nu : Aa0 → St := stOf Anm 92
def A58 (k : Nat) : EnvL := [(35, [Avh k]), (36, [Avf k])]
def Fe (k : Nat) : FnX H12 := mkX ({ mkC (A58 k) 92 0 0 with hint := fun i => look none [(5, some Anm)] i, bl := [58, 60] }) k Tryz.f14 Aa4
def Qw (k : Nat) : (List (Int)) → Option H12 := hid (Ag (Fe k).C k Tryz.f14 Aa3 Aa4)
def Avc (k : Nat) : Sig := Af Aa3 Aa4 (Qw k)
noncomputable def Aa1 (k : Nat) (J : JF H12) (L : LF H12) : (List (Int)) → Option H12
 | a0 => bif (decide (((List.length a0 : Nat) : Int) > (65536 : Int))) then (some ((4 : Int), (65536 : Int), [])) else (((Ml k) (a0, (0 : Int))).bind fun o1 => L 5 [] k (Nu (a0, o1, [])))
theorem A59 (k : Nat) (x : (List (Int))) : Qw k x = Aa1 k (Fe k).J (Fe k).L x := by
 refine (Ae _ _).trans ?_; apply cutX (Fe k) [] [] (st0 (Fe k).C Tryz.f14 Aa3 x) [] [(5, [], k)] (Aa1 k · · x) <;> intros <;> kernel_rfl
noncomputable def Aa2 (k j5 : Nat) (J : JF H12) (L : LF H12) : Aa0 → Option H12
 | (a0, a1, a2) => bif (decide (a1 < ((List.length a0 : Nat) : Int))) then (((Qy k) (a0, a1)).bind fun o1 => bif (o1.2.2.2.2 != (0 : Int)) then (some (o1.2.2.2.2, a1, [])) else (bif (appB 40 (List.length a2) (List.length ([(o1.1, (o1.2.1, (o1.2.2.1, (o1.2.2.2.1, ()))))] : List (YT4)))) then ((Ml k) (a0, (IntKind.wrap .i64 (a1 + ((List.length o1.2.1 : Nat) : Int))))).bind fun o2 => L 5 [] j5 (Nu (a0, o2, (a2 ++ ([(o1.1, (o1.2.1, (o1.2.2.1, (o1.2.2.2.1, ()))))] : List (YT4))))) else none)) else (bif (appB 40 (List.length a2) (List.length ([((0 : Int), (([] : List Int), ((0 : Int), (a1, ()))))] : List (YT4)))) then some ((0 : Int), (0 : Int), (a2 ++ ([((0 : Int), (([] : List Int), ((0 : Int), (a1, ()))))] : List (YT4)))) else none)
theorem A6a (k j5 : Nat) (x : Aa0) : (Fe k).L 5 [] (j5 + 1) (Nu x) = Aa2 k j5 (Fe k).J (Fe k).L x := by
 apply cutX (Fe k) [.r, .r, .r, .r, .l, .b, .b] [j5] (Nu x) [] [(5, [], j5)] (Aa2 k j5 · · x) <;> intros <;> kernel_rfl
theorem Azo (k : Nat) : Ac Tryz.prog 14 (Avc k) := Ah (Fe k).C k rfl ⟨⟨Azt k, trivial⟩, ⟨Azr k, trivial⟩, trivial⟩ Ad Tryz.func14 (by kernel_rfl)
def Ank : Sk := ⟨[.agg [.pv (.int .i64), .pv .str, .pv (.int .i64), .pv (.int .i64)]], [], []⟩
def Anl : Sk := ⟨[.lf (.pv .bool)], [], []⟩
def A56 (k : Nat) : EnvL := [(14, [Avc k])]
def Ani (k : Nat) : Cfg := { mkC (A56 k) 97 0 0 with bl := [58, 60] }
def Qv (k : Nat) : H13 → Option Bool := hid (Ag (Ani k) k Tryz.f50 Ank Anl)
def Avb (k : Nat) : Sig := Af Ank Anl (Qv k)
noncomputable def Anj (k : Nat) : H13 → Option Bool
 | (a0, a1, a2, a3) => ((Qw k) (a1)).bind fun o1 => bif (o1.1 == (0 : Int)) then (bif (((List.length o1.2.2 : Nat) : Int) == (2 : Int)) then (bif (inB (0 : Int) (List.length o1.2.2)) then bif ((rdA zt4 o1.2.2 (Int.toNat (0 : Int))).1 == a0) then (bif (inB (0 : Int) (List.length o1.2.2)) then bif ((rdA zt4 o1.2.2 (Int.toNat (0 : Int))).2.2.1 == a2) then (bif (inB (0 : Int) (List.length o1.2.2)) then some ((rdA zt4 o1.2.2 (Int.toNat (0 : Int))).2.1 == a1) else none) else (some false) else none) else (some false) else none) else (some false)) else (some false)
theorem A57 (k : Nat) (x : H13) : Qv k x = Anj k x := (Ae _ _).trans (by kernel_rfl)
theorem Azn (k : Nat) : Ac Tryz.prog 50 (Avb k) := Ah (Ani k) k rfl ⟨⟨Azo k, trivial⟩, trivial⟩ Ad Tryz.func50 (by kernel_rfl)
def Anp : Sk := ⟨[], [], []⟩
def Anq : Sk := ⟨[.lf (.own 0)], [], [some (9, .str)]⟩
def Ann (k : Nat) : Cfg := mkC [] 50 0 0
def Qx (k : Nat) : Unit → Option (List (List Int)) := hid (Ag (Ann k) k Tryz.f83 Anp Anq)
def Avd (k : Nat) : Sig := Af Anp Anq (Qx k)
noncomputable def Ano (k : Nat) : Unit → Option (List (List Int))
 | _ => some ([([99, 121, 99, 108, 101] : List Int), ([116, 111] : List Int), ([98, 121] : List Int), ([112, 101, 97, 107] : List Int), ([110, 111, 100, 101] : List Int), ([104, 101, 97, 100] : List Int), ([118, 111, 108, 117, 109, 101] : List Int), ([102, 108, 111, 119] : List Int), ([117, 115, 101] : List Int), ([115, 112, 101, 101, 100] : List Int), ([103, 114, 97, 100, 101] : List Int), ([119, 105, 100, 116, 104] : List Int), ([108, 101, 110, 103, 116, 104] : List Int), ([103, 114, 101, 101, 110] : List Int), ([119, 97, 108, 107] : List Int), ([119, 105, 116, 104] : List Int), ([108, 111, 110, 103] : List Int), ([112, 97, 99, 101] : List Int), ([108, 101, 97, 115, 116] : List Int), ([112, 104, 97, 115, 101] : List Int), ([103, 114, 111, 117, 112] : List Int), ([114, 105, 110, 103] : List Int), ([102, 114, 101, 101] : List Int), ([102, 111, 101] : List Int), ([97, 114, 116, 101, 114, 121] : List Int), ([115, 116, 111, 112] : List Int), ([111, 117, 116] : List Int), ([105, 110] : List Int), ([97, 104, 101, 97, 100] : List Int), ([98, 97, 99, 107] : List Int), ([119, 101, 105, 103, 104, 116, 115] : List Int), ([112, 108, 97, 110] : List Int), ([111, 102, 102, 115, 101, 116] : List Int), ([115, 117, 109] : List Int), ([115, 112, 108, 105, 116] : List Int), ([121, 101, 108, 108, 111, 119] : List Int), ([114, 101, 100] : List Int), ([102, 108, 97, 115, 104] : List Int), ([98, 101, 115, 116] : List Int), ([121, 101, 115] : List Int), ([110, 111] : List Int), ([115, 112, 101, 110, 116] : List Int)] : List (List Int))
theorem A6b (k : Nat) (x : Unit) : Qx k x = Ano k x := (Ae _ _).trans (by kernel_rfl)
theorem Azp (k : Nat) : Ac Tryz.prog 83 (Avd k) := Ah (Ann k) (l := []) k rfl trivial Ad Tryz.func83 (by kernel_rfl)
abbrev H51 : Type := (List Int) × (List (List Int)) × (Int)
abbrev H52 : Type := (List Int) × (List (List Int))
def Aay : Sk := ⟨[.lf (.pv .str), .lf (.pv (.slice .str))], [], []⟩
def Aaz : Sk := ⟨[.lf (.pv .bool)], [], []⟩
def Am8 : Sk := ⟨sparse 18 [(0, .lf (.pv .str)), (1, .lf (.pv (.slice .str))), (5, .lf (.pv (.int .i64)))], [], []⟩
abbrev Aaw := H51
def Nt : Aaw → St := stOf Am8 66
def Fd (k : Nat) : FnX Bool := mkX ({ mkC [] 66 0 0 with hint := fun i => look none [(2, some Am8)] i }) k Tryz.f82 Aaz
def Vu (k : Nat) : H52 → Option Bool := hid (Ag (Fd k).C k Tryz.f82 Aay Aaz)
def Au9 (k : Nat) : Sig := Af Aay Aaz (Vu k)
noncomputable def Aax (k : Nat) (J : JF Bool) (L : LF Bool) : H52 → Option Bool
 | (a0, a1) => L 2 [] k (Nt (a0, a1, (0 : Int)))
theorem A51 (k : Nat) (x : H52) : Vu k x = Aax k (Fd k).J (Fd k).L x := by
 refine (Ae _ _).trans ?_; apply cutX (Fd k) [] [] (st0 (Fd k).C Tryz.f82 Aay x) [] [(2, [], k)] (Aax k · · x) <;> intros <;> kernel_rfl
noncomputable def Sl (k j2 : Nat) (J : JF Bool) (L : LF Bool) : Aaw → Option Bool
 | (a0, a1, a2) => bif (decide (a2 < ((List.length a1 : Nat) : Int))) then (bif (inB a2 (List.length a1)) then bif ((rdA [] a1 (Int.toNat a2)) == a0) then (some true) else (L 2 [] j2 (Nt (a0, a1, (IntKind.wrap .i64 (a2 + (1 : Int)))))) else none) else (some false)
theorem Am7 (k j2 : Nat) (x : Aaw) : (Fd k).L 2 [] (j2 + 1) (Nt x) = Sl k j2 (Fd k).J (Fd k).L x := by
 apply cutX (Fd k) [.r, .l, .r, .b, .b] [j2] (Nt x) [] [(2, [], j2)] (Sl k j2 · · x) <;> intros <;> kernel_rfl
theorem Azl (k : Nat) : Ac Tryz.prog 82 (Au9 k) := Ah (Fd k).C (l := []) k rfl trivial Ad Tryz.func82 (by kernel_rfl)
def Ang : Sk := ⟨[.lf (.pv .str)], [], []⟩
def Anh : Sk := ⟨[.lf (.pv .bool)], [], []⟩
def A54 (k : Nat) : EnvL := [(83, [Avd k]), (82, [Au9 k])]
def Ane (k : Nat) : Cfg := mkC (A54 k) 55 0 0
def Qu (k : Nat) : (List Int) → Option Bool := hid (Ag (Ane k) k Tryz.f51 Ang Anh)
def Ava (k : Nat) : Sig := Af Ang Anh (Qu k)
noncomputable def Anf (k : Nat) : (List Int) → Option Bool
 | a0 => ((Qx k) (())).bind fun o1 => ((Vu k) (a0, o1)).bind fun o2 => some o2
theorem A55 (k : Nat) (x : (List Int)) : Qu k x = Anf k x := (Ae _ _).trans (by kernel_rfl)
theorem Azm (k : Nat) : Ac Tryz.prog 51 (Ava k) := Ah (Ane k) k rfl ⟨⟨Azp k, trivial⟩, ⟨Azl k, trivial⟩, trivial⟩ Ad Tryz.func51 (by kernel_rfl)
def Anb : Sk := ⟨[.lf (.pv .str)], [], []⟩
def Anc : Sk := ⟨[.lf (.pv .bool)], [], []⟩
def A52 (k : Nat) : EnvL := [(50, [Avb k]), (51, [Ava k])]
def Am9 (k : Nat) : Cfg := mkC (A52 k) 59 0 0
def Jv (k : Nat) : (List Int) → Option Bool := hid (Ag (Am9 k) k Tryz.f27 Anb Anc)
def Ad9 (k : Nat) : Sig := Af Anb Anc (Jv k)
noncomputable def Ana (k : Nat) : (List Int) → Option Bool
 | a0 => ((Qv k) ((1 : Int), a0, (0 : Int), (0 : Int))).bind fun o1 => bif o1 then (((Qu k) (a0)).bind fun o2 => some (!o2)) else (some false)
theorem A53 (k : Nat) (x : (List Int)) : Jv k x = Ana k x := (Ae _ _).trans (by kernel_rfl)
theorem Afz (k : Nat) : Ac Tryz.prog 27 (Ad9 k) := Ah (Am9 k) k rfl ⟨⟨Azn k, trivial⟩, ⟨Azm k, trivial⟩, trivial⟩ Ad Tryz.func27 (by kernel_rfl)
def Aob : Sk := ⟨[.agg [.pv (.int .i64), .pv (.int .i64)]], [], []⟩
def Aoc : Sk := ⟨[.lf (.pv .bool)], [], []⟩
def A6l (k : Nat) : EnvL := [(26, [Ug k])]
def An9 (k : Nat) : Cfg := { mkC (A6l k) 59 0 0 with bl := [58, 60] }
def Q0 (k : Nat) : ((Int) × (Int)) → Option Bool := hid (Ag (An9 k) k Tryz.f28 Aob Aoc)
def Avj (k : Nat) : Sig := Af Aob Aoc (Q0 k)
noncomputable def Aoa (k : Nat) : ((Int) × (Int)) → Option Bool
 | (a0, a1) => ((Ct k) (a0)).bind fun o1 => bif o1 then (((Ct k) (a1)).bind fun o2 => some o2) else (some false)
theorem A6m (k : Nat) (x : ((Int) × (Int))) : Q0 k x = Aoa k x := (Ae _ _).trans (by kernel_rfl)
theorem Azv (k : Nat) : Ac Tryz.prog 28 (Avj k) := Ah (An9 k) k rfl ⟨⟨Vw k, trivial⟩, trivial⟩ Ad Tryz.func28 (by kernel_rfl)
end
noncomputable section
def q3 : List SL := [.pv .str, .pv (.int .i64), .pv (.int .i64), .pv (.int .i64), .pv (.slice yt0)]
abbrev H53 : Type := (List (YT1)) × (Int) × (Int) × (List Int) × (Int) × (Int) × (Int) × (List (YT0))
def Abz : Sk := ⟨[.lf (.pv (.slice yt1))], [], []⟩
def Ab0 : Sk := ⟨[.lf (.pv .bool)], [], []⟩
def Ao4 : Sk := ⟨sparse 81 [(0, .lf (.pv (.slice yt1))), (3, .lf (.pv (.int .i64)))], [], []⟩
abbrev Abx := ((List (YT1)) × (Int))
def Kl : Abx → St := stOf Ao4 129
def Ao3 : Sk := ⟨sparse 81 [(0, .lf (.pv (.slice yt1))), (3, .lf (.pv (.int .i64))), (4, .lf (.ptr 0 0)), (5, .lf (.pv (.int .i64)))], [q3], []⟩
abbrev Abw := H53
def Nz : Abw → St := stOf Ao3 129
def A6s (k : Nat) : EnvL := [(27, [Ad9 k]), (26, [Ug k])]
def C2 (k : Nat) : FnX Bool := mkX ({ mkC (A6s k) 129 0 0 with hint := fun i => look none [(4, some Ao4), (10, some Ao3)] i, bl := [58, 60] }) k Tryz.f29 Ab0
def Q1 (k : Nat) : (List (YT1)) → Option Bool := hid (Ag (C2 k).C k Tryz.f29 Abz Ab0)
def Avl (k : Nat) : Sig := Af Abz Ab0 (Q1 k)
noncomputable def Aby (k : Nat) (J : JF Bool) (L : LF Bool) : (List (YT1)) → Option Bool
 | a0 => bif (decide (((List.length a0 : Nat) : Int) < (1 : Int))) then (some false) else (bif (decide (((List.length a0 : Nat) : Int) > (4 : Int))) then (some false) else (L 4 [] k (Kl (a0, (0 : Int)))))
theorem A6t (k : Nat) (x : (List (YT1))) : Q1 k x = Aby k (C2 k).J (C2 k).L x := by
 refine (Ae _ _).trans ?_; apply cutX (C2 k) [] [] (st0 (C2 k).C Tryz.f29 Abz x) [] [(4, [], k)] (Aby k · · x) <;> intros <;> kernel_rfl
noncomputable def Sy (k j4 : Nat) (J : JF Bool) (L : LF Bool) : Abx → Option Bool
 | (a0, a1) => bif (decide (a1 < ((List.length a0 : Nat) : Int))) then (idx zt1 a0 a1 fun o1 => ((Jv k) (o1.1)).bind fun o2 => bif (!o2) then (some false) else (((Ct k) (o1.2.1)).bind fun o3 => bif (!o3) then (some false) else (((Ct k) (o1.2.2.1)).bind fun o4 => bif (!o4) then (some false) else (((Ct k) (o1.2.2.2.1)).bind fun o5 => bif (!o5) then (some false) else (bif (decide (((List.length o1.2.2.2.2.1 : Nat) : Int) > (8 : Int))) then (some false) else (L 10 [j4] k (Nz (a0, a1, (0 : Int), o1.1, o1.2.1, o1.2.2.1, o1.2.2.2.1, o1.2.2.2.2.1)))))))) else (some true)
theorem Ao2 (k j4 : Nat) (x : Abx) : (C2 k).L 4 [] (j4 + 1) (Kl x) = Sy k j4 (C2 k).J (C2 k).L x := by
 apply cutX (C2 k) [.r, .r, .l, .r, .b, .b] [j4] (Kl x) [] [(4, [], j4), (10, [j4], k)] (Sy k j4 · · x) <;> intros <;> kernel_rfl
noncomputable def Sx (k j4 j10 : Nat) (J : JF Bool) (L : LF Bool) : Abw → Option Bool
 | (a0, a1, a2, a3, a4, a5, a6, a7) => bif (decide (a2 < ((List.length a7 : Nat) : Int))) then (idx zt0 a7 a2 fun o1 => ((Jv k) (o1.1)).bind fun o2 => bif (!o2) then (some false) else (((Ct k) (o1.2.1)).bind fun o3 => bif (!o3) then (some false) else (((Ct k) (o1.2.2.1)).bind fun o4 => bif (!o4) then (some false) else (L 10 [j4] j10 (Nz (a0, a1, (IntKind.wrap .i64 (a2 + (1 : Int))), a3, a4, a5, a6, a7)))))) else (L 4 [] j4 (Kl (a0, (IntKind.wrap .i64 (a1 + (1 : Int))))))
theorem Ao1 (k j4 j10 : Nat) (x : Abw) : (C2 k).L 10 [j4] (j10 + 1) (Nz x) = Sx k j4 j10 (C2 k).J (C2 k).L x := by
 apply cutX (C2 k) [.r, .r, .l, .r, .b, .b, .r, .l, .b, .r, .r, .r, .b, .b] [j4, j10] (Nz x) [] [(4, [], j4), (10, [j4], j10)] (Sx k j4 j10 · · x) <;> intros <;> kernel_rfl
theorem Azx (k : Nat) : Ac Tryz.prog 29 (Avl k) := Ah (C2 k).C k rfl ⟨⟨Afz k, trivial⟩, ⟨Vw k, trivial⟩, trivial⟩ Ad Tryz.func29 (by kernel_rfl)
abbrev H54 : Type := (Int) × (Int) × (List (List (YT1))) × (Int) × (Int) × (List (YT3)) × (Int) × (Int) × (Int) × (Int) × (Bool) × (Int) × (List Int) × (Int) × (List ((List (List (YT1))) × (Unit))) × (Int) × (Int)
def Abu : Sk := ⟨[.agg [.pv (.int .i64), .pv (.slice yt3), .pv (.int .i64), .pv (.int .i64), .pv (.int .i64), .pv (.int .i64), .pv .bool, .pv (.int .i64)]], [], []⟩
def Abv : Sk := ⟨[.lf (.pv .bool)], [], []⟩
def Aow : Sk := ⟨sparse 119 [(1, .lf (.ptr 0 0)), (3, .lf (.pv (.int .i64)))], [q1], []⟩
abbrev Abs := H0
def Kk : Abs → St := stOf Aow 167
def Aou : Sk := ⟨sparse 119 [(1, .lf (.ptr 0 0)), (3, .lf (.pv (.int .i64))), (4, .lf (.ptr 1 0)), (5, .lf (.pv (.int .i64)))], [q1, q0], []⟩
abbrev Abq := H1
def Kj : Abq → St := stOf Aou 167
def Aov : Sk := ⟨sparse 119 [(1, .lf (.ptr 0 0)), (3, .lf (.pv (.int .i64))), (4, .lf (.ptr 1 0)), (5, .lf (.pv (.int .i64))), (6, .lf (.pv (.slice (.slice yt1)))), (7, .lf (.pv (.int .i64)))], [q1, q0], []⟩
abbrev Abr := H54
def Ny : Abr → St := stOf Aov 167
def A6q (k : Nat) : EnvL := [(26, [Ug k]), (27, [Ad9 k]), (28, [Avj k]), (29, [Avl k])]
def Bp (k : Nat) : FnX Bool := mkX ({ mkC (A6q k) 167 0 0 with hint := fun i => look none [(4, some Aow), (10, some Aou), (16, some Aov)] i, bl := [58, 60] }) k Tryz.f10 Abv
def Mo (k : Nat) : H5 → Option Bool := hid (Ag (Bp k).C k Tryz.f10 Abu Abv)
def Aea (k : Nat) : Sig := Af Abu Abv (Mo k)
noncomputable def Abt (k : Nat) (J : JF Bool) (L : LF Bool) : H5 → Option Bool
 | (a0, a1, a2, a3, a4, a5, a6, a7) => ((Ct k) (a0)).bind fun o1 => bif (!o1) then (some false) else (((Ct k) (a2)).bind fun o2 => bif (!o2) then (some false) else (((Ct k) (a3)).bind fun o3 => bif (!o3) then (some false) else (((Ct k) (a4)).bind fun o4 => bif (!o4) then (some false) else (((Ct k) (a5)).bind fun o5 => bif (!o5) then (some false) else (((Ct k) (a7)).bind fun o6 => bif (!o6) then (some false) else (bif (decide (((List.length a1 : Nat) : Int) > (12 : Int))) then (some false) else (L 4 [] k (Kk ((0 : Int), a0, a1, a2, a3, a4, a5, a6, a7)))))))))
theorem A6r (k : Nat) (x : H5) : Mo k x = Abt k (Bp k).J (Bp k).L x := by
 refine (Ae _ _).trans ?_; apply cutX (Bp k) [] [] (st0 (Bp k).C Tryz.f10 Abu x) [] [(4, [], k)] (Abt k · · x) <;> intros <;> kernel_rfl
noncomputable def Sv (k j4 : Nat) (J : JF Bool) (L : LF Bool) : Abs → Option Bool
 | (a0, a1, a2, a3, a4, a5, a6, a7, a8) => bif (decide (a0 < ((List.length a2 : Nat) : Int))) then (idx zt3 a2 a0 fun o1 => ((Jv k) (o1.1)).bind fun o2 => bif (!o2) then (some false) else (((Ct k) (o1.2.1)).bind fun o3 => bif (!o3) then (some false) else (((Q0 k) (o1.2.2.2.1.1, o1.2.2.2.1.2.1)).bind fun o4 => bif (!o4) then (some false) else (bif (decide (((List.length o1.2.2.1 : Nat) : Int) > (4 : Int))) then (some false) else (L 10 [j4] k (Kj (a0, (0 : Int), a1, a2, a3, a4, a5, a6, a7, a8, o1.1, o1.2.1, o1.2.2.1, o1.2.2.2.1.1, o1.2.2.2.1.2.1))))))) else (some true)
theorem Aot (k j4 : Nat) (x : Abs) : (Bp k).L 4 [] (j4 + 1) (Kk x) = Sv k j4 (Bp k).J (Bp k).L x := by
 apply cutX (Bp k) [.r, .r, .l, .r, .b, .b] [j4] (Kk x) [] [(4, [], j4), (10, [j4], k)] (Sv k j4 · · x) <;> intros <;> kernel_rfl
noncomputable def Ss (k j4 j10 : Nat) (J : JF Bool) (L : LF Bool) : Abq → Option Bool
 | (a0, a1, a2, a3, a4, a5, a6, a7, a8, a9, a10, a11, a12, a13, a14) => bif (decide (a1 < ((List.length a12 : Nat) : Int))) then (idx ([], ()) a12 a1 fun o1 => bif (decide (((List.length o1.1 : Nat) : Int) < (1 : Int))) then (some false) else (bif (decide (((List.length o1.1 : Nat) : Int) > (2 : Int))) then (some false) else (L 16 [j4, j10] k (Ny (a0, a1, o1.1, (0 : Int), a2, a3, a4, a5, a6, a7, a8, a9, a10, a11, a12, a13, a14))))) else (L 4 [] j4 (Kk ((IntKind.wrap .i64 (a0 + (1 : Int))), a2, a3, a4, a5, a6, a7, a8, a9)))
theorem Aor (k j4 j10 : Nat) (x : Abq) : (Bp k).L 10 [j4] (j10 + 1) (Kj x) = Ss k j4 j10 (Bp k).J (Bp k).L x := by
 apply cutX (Bp k) [.r, .r, .l, .r, .b, .b, .r, .l, .b, .r, .r, .r, .b, .b] [j4, j10] (Kj x) [] [(4, [], j4), (10, [j4], j10), (16, [j4, j10], k)] (Ss k j4 j10 · · x) <;> intros <;> kernel_rfl
noncomputable def Su (k j4 j10 j16 : Nat) (J : JF Bool) (L : LF Bool) : Abr → Option Bool
 | (a0, a1, a2, a3, a4, a5, a6, a7, a8, a9, a10, a11, a12, a13, a14, a15, a16) => bif (decide (a3 < ((List.length a2 : Nat) : Int))) then (idx [] a2 a3 fun o1 => ((Q1 k) (o1)).bind fun o2 => bif (!o2) then (some false) else (L 16 [j4, j10] j16 (Ny (a0, a1, a2, (IntKind.wrap .i64 (a3 + (1 : Int))), a4, a5, a6, a7, a8, a9, a10, a11, a12, a13, a14, a15, a16)))) else (L 10 [j4] j10 (Kj (a0, (IntKind.wrap .i64 (a1 + (1 : Int))), a4, a5, a6, a7, a8, a9, a10, a11, a12, a13, a14, a15, a16)))
theorem Aos (k j4 j10 j16 : Nat) (x : Abr) : (Bp k).L 16 [j4, j10] (j16 + 1) (Ny x) = Su k j4 j10 j16 (Bp k).J (Bp k).L x := by
 apply cutX (Bp k) [.r, .r, .l, .r, .b, .b, .r, .l, .b, .r, .r, .r, .b, .b, .r, .l, .b, .r, .r, .r, .b, .b] [j4, j10, j16] (Ny x) [] [(4, [], j4), (10, [j4], j10), (16, [j4, j10], j16)] (Su k j4 j10 j16 · · x) <;> intros <;> kernel_rfl
theorem Af0 (k : Nat) : Ac Tryz.prog 10 (Aea k) := Ah (Bp k).C k rfl ⟨⟨Vw k, trivial⟩, ⟨Afz k, trivial⟩, ⟨Azv k, trivial⟩, ⟨Azx k, trivial⟩, trivial⟩ Ad Tryz.func10 (by kernel_rfl)
def Am3 : Sk := ⟨[.lf (.pv (.int .i64))], [], []⟩
def Am4 : Sk := ⟨[.lf (.pv (.int .u64))], [], []⟩
def Am1 (k : Nat) : Cfg := mkC [] 58 0 0
def Qt (k : Nat) : Int → Option Int := hid (Ag (Am1 k) k Tryz.f74 Am3 Am4)
def Au7 (k : Nat) : Sig := Af Am3 Am4 (Qt k)
noncomputable def Am2 (k : Nat) : Int → Option Int
 | a0 => bif (decide (a0 < (0 : Int))) then (some (negI .u64 (IntKind.wrap .u64 a0))) else (some (IntKind.wrap .u64 a0))
theorem A5y (k : Nat) (x : Int) : Qt k x = Am2 k x := (Ae _ _).trans (by kernel_rfl)
theorem Azj (k : Nat) : Ac Tryz.prog 74 (Au7 k) := Ah (Am1 k) (l := []) k rfl trivial Ad Tryz.func74 (by kernel_rfl)
abbrev H55 : Type := (Int) × (Int) × (List Int)
def Aau : Sk := ⟨[.lf (.pv (.int .i64))], [], []⟩
def Aav : Sk := ⟨[.lf (.pv .str)], [], []⟩
def Am6 : Sk := ⟨sparse 28 [(0, .lf (.pv (.int .i64))), (3, .lf (.pv (.int .u64))), (4, .lf (.pv .str))], [], []⟩
abbrev Aas := H55
def I3 : Aas → St := stOf Am6 76
def A5z (k : Nat) : EnvL := [(74, [Au7 k])]
def Ea (k : Nat) : FnX (List Int) := mkX ({ mkC (A5z k) 76 0 0 with hint := fun i => look none [(3, some Am6)] i }) k Tryz.f43 Aav
def Vt (k : Nat) : Int → Option (List Int) := hid (Ag (Ea k).C k Tryz.f43 Aau Aav)
def Au8 (k : Nat) : Sig := Af Aau Aav (Vt k)
noncomputable def Aat (k : Nat) (J : JF (List Int)) (L : LF (List Int)) : Int → Option (List Int)
 | a0 => ((Qt k) (a0)).bind fun o1 => L 3 [] k (I3 (a0, o1, ([] : List Int)))
theorem A50 (k : Nat) (x : Int) : Vt k x = Aat k (Ea k).J (Ea k).L x := by
 refine (Ae _ _).trans ?_; apply cutX (Ea k) [] [] (st0 (Ea k).C Tryz.f43 Aau x) [] [(3, [], k)] (Aat k · · x) <;> intros <;> kernel_rfl
noncomputable def Sj (k j3 : Nat) (J : JF (List Int)) (L : LF (List Int)) : Aas → Option (List Int)
 | (a0, a1, a2) => bif (a2 == ([] : List Int)) then (cat ([(IntKind.wrap .u8 (IntKind.wrap .u64 ((48 : Int) + (Int.tmod a1 (10 : Int)))))] : List (Int)) a2 fun o1 => L 3 [] j3 (I3 (a0, (IntKind.wrap .u64 (Int.tdiv a1 (10 : Int))), o1))) else (bif (decide (a1 > (0 : Int))) then (cat ([(IntKind.wrap .u8 (IntKind.wrap .u64 ((48 : Int) + (Int.tmod a1 (10 : Int)))))] : List (Int)) a2 fun o2 => L 3 [] j3 (I3 (a0, (IntKind.wrap .u64 (Int.tdiv a1 (10 : Int))), o2))) else (bif (decide (a0 < (0 : Int))) then (cat ([45] : List Int) a2 fun o3 => some o3) else (some a2)))
theorem Am5 (k j3 : Nat) (x : Aas) : (Ea k).L 3 [] (j3 + 1) (I3 x) = Sj k j3 (Ea k).J (Ea k).L x := by
 apply cutX (Ea k) [.r, .r, .r, .l, .b, .b] [j3] (I3 x) [] [(3, [], j3)] (Sj k j3 · · x) <;> intros <;> kernel_rfl
theorem Azk (k : Nat) : Ac Tryz.prog 43 (Au8 k) := Ah (Ea k).C k rfl ⟨⟨Azj k, trivial⟩, trivial⟩ Ad Tryz.func43 (by kernel_rfl)
def Aoz : Sk := ⟨[.lf (.pv (.int .i64))], [], []⟩
def Ao0 : Sk := ⟨[.lf (.pv .str)], [], []⟩
def fr17dE (k : Nat) : EnvL := [(43, [Au8 k])]
def Aox (k : Nat) : Cfg := mkC (fr17dE k) 53 0 0
def Cu (k : Nat) : Int → Option (List Int) := hid (Ag (Aox k) k Tryz.f21 Aoz Ao0)
def Aeb (k : Nat) : Sig := Af Aoz Ao0 (Cu k)
noncomputable def Aoy (k : Nat) : Int → Option (List Int)
 | a0 => ((Vt k) (a0)).bind fun o1 => some o1
theorem fr17d_e (k : Nat) (x : Int) : Cu k x = Aoy k x := (Ae _ _).trans (by kernel_rfl)
theorem Af1 (k : Nat) : Ac Tryz.prog 21 (Aeb k) := Ah (Aox k) k rfl ⟨⟨Azk k, trivial⟩, trivial⟩ Ad Tryz.func21 (by kernel_rfl)
abbrev H56 : Type := (List Int) × (Int) × (List Int) × (Int) × (Int) × (Int) × (List (YT0))
def Ab3 : Sk := ⟨[.agg [.pv .str, .pv (.int .i64), .pv (.int .i64), .pv (.int .i64), .pv (.slice yt0)]], [], []⟩
def Ab4 : Sk := ⟨[.lf (.pv .str)], [], []⟩
def Ao6 : Sk := ⟨sparse 54 [(1, .lf (.ptr 0 0)), (3, .lf (.pv .str)), (4, .lf (.pv (.int .i64)))], [q3], []⟩
abbrev Ab1 := H56
def N1 : Ab1 → St := stOf Ao6 102
def A6u (k : Nat) : EnvL := [(21, [Aeb k])]
def Fg (k : Nat) : FnX (List Int) := mkX ({ mkC (A6u k) 102 0 0 with hint := fun i => look none [(3, some Ao6)] i, bl := [58, 60] }) k Tryz.f22 Ab4
def Q2 (k : Nat) : H16 → Option (List Int) := hid (Ag (Fg k).C k Tryz.f22 Ab3 Ab4)
def Avm (k : Nat) : Sig := Af Ab3 Ab4 (Q2 k)
noncomputable def Ab2 (k : Nat) (J : JF (List Int)) (L : LF (List Int)) : H16 → Option (List Int)
 | (a0, a1, a2, a3, a4) => cat ([112, 104, 97, 115, 101, 32] : List Int) a0 fun o1 => cat o1 ([32, 115, 112, 108, 105, 116, 32] : List Int) fun o2 => ((Cu k) (a1)).bind fun o3 => cat o2 o3 fun o4 => cat o4 ([32, 121, 101, 108, 108, 111, 119, 32] : List Int) fun o5 => ((Cu k) (a2)).bind fun o6 => cat o5 o6 fun o7 => cat o7 ([32, 114, 101, 100, 32] : List Int) fun o8 => ((Cu k) (a3)).bind fun o9 => cat o8 o9 fun o10 => L 3 [] k (N1 (o10, (0 : Int), a0, a1, a2, a3, a4))
theorem A6v (k : Nat) (x : H16) : Q2 k x = Ab2 k (Fg k).J (Fg k).L x := by
 refine (Ae _ _).trans ?_; apply cutX (Fg k) [] [] (st0 (Fg k).C Tryz.f22 Ab3 x) [] [(3, [], k)] (Ab2 k · · x) <;> intros <;> kernel_rfl
noncomputable def Sz (k j3 : Nat) (J : JF (List Int)) (L : LF (List Int)) : Ab1 → Option (List Int)
 | (a0, a1, a2, a3, a4, a5, a6) => bif (decide (a1 < ((List.length a6 : Nat) : Int))) then (idx zt0 a6 a1 fun o1 => cat a0 ([32, 119, 97, 108, 107, 32] : List Int) fun o2 => cat o2 o1.1 fun o3 => cat o3 ([32] : List Int) fun o4 => ((Cu k) (o1.2.1)).bind fun o5 => cat o4 o5 fun o6 => cat o6 ([32, 102, 108, 97, 115, 104, 32] : List Int) fun o7 => ((Cu k) (o1.2.2.1)).bind fun o8 => cat o7 o8 fun o9 => L 3 [] j3 (N1 (o9, (IntKind.wrap .i64 (a1 + (1 : Int))), a2, a3, a4, a5, a6))) else (cat ([32, 32, 32, 32, 32, 32] : List Int) a0 fun o10 => cat o10 ([59, 10] : List Int) fun o11 => some o11)
theorem Ao5 (k j3 : Nat) (x : Ab1) : (Fg k).L 3 [] (j3 + 1) (N1 x) = Sz k j3 (Fg k).J (Fg k).L x := by
 apply cutX (Fg k) [.r, .r, .l, .r, .b, .b] [j3] (N1 x) [] [(3, [], j3)] (Sz k j3 · · x) <;> intros <;> kernel_rfl
theorem Azy (k : Nat) : Ac Tryz.prog 22 (Avm k) := Ah (Fg k).C k rfl ⟨⟨Af1 k, trivial⟩, trivial⟩ Ad Tryz.func22 (by kernel_rfl)
abbrev H57 : Type := (List Int) × (Int) × (Int) × (List (YT3)) × (Int) × (Int) × (Int) × (Int) × (Bool) × (Int)
abbrev H58 : Type := (List Int) × (Int) × (Int) × (Int) × (List (YT3)) × (Int) × (Int) × (Int) × (Int) × (Bool) × (Int) × (List Int) × (Int) × (List ((List (List (YT1))) × (Unit))) × (Int) × (Int)
abbrev H59 : Type := (List Int) × (Int) × (Int) × (Int) × (Int) × (List (YT3)) × (Int) × (Int) × (Int) × (Int) × (Bool) × (Int) × (List Int) × (Int) × (List ((List (List (YT1))) × (Unit))) × (Int) × (Int)
abbrev H60 : Type := (List Int) × (Int) × (Int) × (Int) × (Int) × (Int) × (List (YT3)) × (Int) × (Int) × (Int) × (Int) × (Bool) × (Int) × (List Int) × (Int) × (List ((List (List (YT1))) × (Unit))) × (Int) × (Int)
abbrev H61 : Type := (List Int) × (List Int) × (Int) × (List (YT3)) × (Int) × (Int) × (Int) × (Int) × (Bool) × (Int)
def Abo : Sk := ⟨[.agg [.pv (.int .i64), .pv (.slice yt3), .pv (.int .i64), .pv (.int .i64), .pv (.int .i64), .pv (.int .i64), .pv .bool, .pv (.int .i64)]], [], []⟩
def Abp : Sk := ⟨[.lf (.pv (.slice (.int .u8))), .lf (.pv (.int .i64))], [], []⟩
def Aoq : Sk := ⟨sparse 149 [(1, .lf (.ptr 0 0)), (4, .lf (.pv .str)), (5, .lf (.pv (.int .i64)))], [q1], []⟩
abbrev Abm := H57
def Ki : Abm → St := stOf Aoq 197
def Aom : Sk := ⟨sparse 149 [(1, .lf (.ptr 0 0)), (4, .lf (.pv .str)), (5, .lf (.pv (.int .i64))), (6, .lf (.ptr 1 0)), (7, .lf (.pv (.int .i64)))], [q1, q0], []⟩
abbrev Abi := H58
def Kg : Abi → St := stOf Aom 197
def Aon : Sk := ⟨sparse 149 [(1, .lf (.ptr 0 0)), (4, .lf (.pv .str)), (5, .lf (.pv (.int .i64))), (6, .lf (.ptr 1 0)), (7, .lf (.pv (.int .i64))), (8, .lf (.pv (.int .i64)))], [q1, q0], []⟩
abbrev Abj := H59
def Kh : Abj → St := stOf Aon 197
def Aoo : Sk := ⟨sparse 149 [(1, .lf (.ptr 0 0)), (4, .lf (.pv .str)), (5, .lf (.pv (.int .i64))), (6, .lf (.ptr 1 0)), (7, .lf (.pv (.int .i64))), (8, .lf (.pv (.int .i64))), (9, .lf (.pv (.int .i64)))], [q1, q0], []⟩
abbrev Abk := H60
def Nw : Abk → St := stOf Aoo 197
def Aop : Sk := ⟨sparse 149 [(1, .lf (.ptr 0 0)), (4, .lf (.pv .str)), (10, .lf (.pv .str))], [q1], []⟩
abbrev Abl := H61
def Nx : Abl → St := stOf Aop 197
def A6o (k : Nat) : EnvL := [(10, [Aea k]), (21, [Aeb k]), (22, [Avm k])]
def Az (k : Nat) : FnX ((List (Int)) × (Int)) := mkX ({ mkC (A6o k) 197 0 0 with hint := fun i => look none [(5, some Aoq), (10, some Aom), (14, some Aon), (18, some Aoo), (27, some Aop)] i, bl := [58, 60] }) k Tryz.f8 Abp
def Mn (k : Nat) : H5 → Option ((List (Int)) × (Int)) := hid (Ag (Az k).C k Tryz.f8 Abo Abp)
def Avk (k : Nat) : Sig := Af Abo Abp (Mn k)
noncomputable def Sn (k : Nat) (J : JF ((List (Int)) × (Int))) (L : LF ((List (Int)) × (Int))) : H5 → Option ((List (Int)) × (Int))
 | (a0, a1, a2, a3, a4, a5, a6, a7) => ((Mo k) (a0, a1, a2, a3, a4, a5, a6, a7)).bind fun o1 => bif (!o1) then (some ([], (1 : Int))) else (((Cu k) (a0)).bind fun o2 => cat ([112, 108, 97, 110, 32, 99, 121, 99, 108, 101, 32] : List Int) o2 fun o3 => cat o3 ([59, 10] : List Int) fun o4 => L 5 [] k (Ki (o4, (0 : Int), a0, a1, a2, a3, a4, a5, a6, a7)))
theorem Aoh (k : Nat) (x : H5) : Mn k x = Sn k (Az k).J (Az k).L x := by
 refine (Ae _ _).trans ?_; apply cutX (Az k) [] [] (st0 (Az k).C Tryz.f8 Abo x) [(27, [])] [(5, [], k)] (Sn k · · x) <;> intros <;> kernel_rfl
noncomputable def Sr (k j5 : Nat) (J : JF ((List (Int)) × (Int))) (L : LF ((List (Int)) × (Int))) : Abm → Option ((List (Int)) × (Int))
 | (a0, a1, a2, a3, a4, a5, a6, a7, a8, a9) => bif (decide (a1 < ((List.length a3 : Nat) : Int))) then (idx zt3 a3 a1 fun o1 => cat a0 ([110, 111, 100, 101, 32] : List Int) fun o2 => cat o2 o1.1 fun o3 => cat o3 ([32, 111, 102, 102, 115, 101, 116, 32] : List Int) fun o4 => ((Cu k) (o1.2.1)).bind fun o5 => cat o4 o5 fun o6 => cat o6 ([32, 115, 117, 109, 32] : List Int) fun o7 => ((Cu k) (o1.2.2.2.1.1)).bind fun o8 => cat o7 o8 fun o9 => cat o9 ([47] : List Int) fun o10 => ((Cu k) (o1.2.2.2.1.2.1)).bind fun o11 => cat o10 o11 fun o12 => cat o12 ([32, 123, 10] : List Int) fun o13 => L 10 [j5] k (Kg (o13, a1, (0 : Int), a2, a3, a4, a5, a6, a7, a8, a9, o1.1, o1.2.1, o1.2.2.1, o1.2.2.2.1.1, o1.2.2.2.1.2.1))) else (bif a8 then (J 27 [] (Nx (a0, ([121, 101, 115] : List Int), a2, a3, a4, a5, a6, a7, a8, a9))) else (J 27 [] (Nx (a0, ([110, 111] : List Int), a2, a3, a4, a5, a6, a7, a8, a9))))
theorem Aol (k j5 : Nat) (x : Abm) : (Az k).L 5 [] (j5 + 1) (Ki x) = Sr k j5 (Az k).J (Az k).L x := by
 apply cutX (Az k) [.r, .r, .r, .l, .r, .b, .b] [j5] (Ki x) [(27, [])] [(5, [], j5), (10, [j5], k)] (Sr k j5 · · x) <;> intros <;> kernel_rfl
noncomputable def So (k j5 j10 : Nat) (J : JF ((List (Int)) × (Int))) (L : LF ((List (Int)) × (Int))) : Abi → Option ((List (Int)) × (Int))
 | (a0, a1, a2, a3, a4, a5, a6, a7, a8, a9, a10, a11, a12, a13, a14, a15) => bif (decide (a2 < ((List.length a13 : Nat) : Int))) then (cat a0 ([32, 32, 103, 114, 111, 117, 112, 32, 123, 10] : List Int) fun o1 => L 14 [j5, j10] k (Kh (o1, a1, a2, (0 : Int), a3, a4, a5, a6, a7, a8, a9, a10, a11, a12, a13, a14, a15))) else (cat a0 ([125, 10] : List Int) fun o2 => L 5 [] j5 (Ki (o2, (IntKind.wrap .i64 (a1 + (1 : Int))), a3, a4, a5, a6, a7, a8, a9, a10)))
theorem Aoi (k j5 j10 : Nat) (x : Abi) : (Az k).L 10 [j5] (j10 + 1) (Kg x) = So k j5 j10 (Az k).J (Az k).L x := by
 apply cutX (Az k) [.r, .r, .r, .l, .r, .b, .b, .r, .l, .b, .r, .r, .l, .r, .b, .b] [j5, j10] (Kg x) [(27, [])] [(5, [], j5), (10, [j5], j10), (14, [j5, j10], k)] (So k j5 j10 · · x) <;> intros <;> kernel_rfl
noncomputable def Sp (k j5 j10 j14 : Nat) (J : JF ((List (Int)) × (Int))) (L : LF ((List (Int)) × (Int))) : Abj → Option ((List (Int)) × (Int))
 | (a0, a1, a2, a3, a4, a5, a6, a7, a8, a9, a10, a11, a12, a13, a14, a15, a16) => idx ([], ()) a14 a2 fun o1 => bif (decide (a3 < ((List.length o1.1 : Nat) : Int))) then (cat a0 ([32, 32, 32, 32, 114, 105, 110, 103, 32, 123, 10] : List Int) fun o2 => L 18 [j5, j10, j14] k (Nw (o2, a1, a2, a3, (0 : Int), a4, a5, a6, a7, a8, a9, a10, a11, a12, a13, a14, a15, a16))) else (cat a0 ([32, 32, 125, 10] : List Int) fun o3 => L 10 [j5] j10 (Kg (o3, a1, (IntKind.wrap .i64 (a2 + (1 : Int))), a4, a5, a6, a7, a8, a9, a10, a11, a12, a13, a14, a15, a16)))
theorem Aoj (k j5 j10 j14 : Nat) (x : Abj) : (Az k).L 14 [j5, j10] (j14 + 1) (Kh x) = Sp k j5 j10 j14 (Az k).J (Az k).L x := by
 apply cutX (Az k) [.r, .r, .r, .l, .r, .b, .b, .r, .l, .b, .r, .r, .l, .r, .b, .b, .r, .l, .b, .r, .l, .r, .b, .b] [j5, j10, j14] (Kh x) [(27, [])] [(5, [], j5), (10, [j5], j10), (14, [j5, j10], j14), (18, [j5, j10, j14], k)] (Sp k j5 j10 j14 · · x) <;> intros <;> kernel_rfl
noncomputable def Sq (k j5 j10 j14 j18 : Nat) (J : JF ((List (Int)) × (Int))) (L : LF ((List (Int)) × (Int))) : Abk → Option ((List (Int)) × (Int))
 | (a0, a1, a2, a3, a4, a5, a6, a7, a8, a9, a10, a11, a12, a13, a14, a15, a16, a17) => idx ([], ()) a15 a2 fun o1 => idx [] o1.1 a3 fun o2 => bif (decide (a4 < ((List.length o2 : Nat) : Int))) then (idx ([], ()) a15 a2 fun o3 => idx [] o3.1 a3 fun o4 => idx zt1 o4 a4 fun o5 => ((Q2 k) (o5.1, o5.2.1, o5.2.2.1, o5.2.2.2.1, o5.2.2.2.2.1)).bind fun o6 => cat a0 o6 fun o7 => L 18 [j5, j10, j14] j18 (Nw (o7, a1, a2, a3, (IntKind.wrap .i64 (a4 + (1 : Int))), a5, a6, a7, a8, a9, a10, a11, a12, a13, a14, a15, a16, a17))) else (cat a0 ([32, 32, 32, 32, 125, 10] : List Int) fun o8 => L 14 [j5, j10] j14 (Kh (o8, a1, a2, (IntKind.wrap .i64 (a3 + (1 : Int))), a5, a6, a7, a8, a9, a10, a11, a12, a13, a14, a15, a16, a17)))
theorem Aok (k j5 j10 j14 j18 : Nat) (x : Abk) : (Az k).L 18 [j5, j10, j14] (j18 + 1) (Nw x) = Sq k j5 j10 j14 j18 (Az k).J (Az k).L x := by
 apply cutX (Az k) [.r, .r, .r, .l, .r, .b, .b, .r, .l, .b, .r, .r, .l, .r, .b, .b, .r, .l, .b, .r, .l, .r, .b, .b, .r, .l, .b, .r, .l, .r, .b, .b] [j5, j10, j14, j18] (Nw x) [(27, [])] [(5, [], j5), (10, [j5], j10), (14, [j5, j10], j14), (18, [j5, j10, j14], j18)] (Sq k j5 j10 j14 j18 · · x) <;> intros <;> kernel_rfl
noncomputable def Abn (k : Nat) (J : JF ((List (Int)) × (Int))) (L : LF ((List (Int)) × (Int))) : Abl → Option ((List (Int)) × (Int))
 | (a0, a1, a2, a3, a4, a5, a6, a7, a8, a9) => cat a0 ([111, 117, 116, 32] : List Int) fun o1 => ((Cu k) (a4)).bind fun o2 => cat o1 o2 fun o3 => cat o3 ([32] : List Int) fun o4 => ((Cu k) (a5)).bind fun o5 => cat o4 o5 fun o6 => cat o6 ([59, 10, 105, 110, 32] : List Int) fun o7 => ((Cu k) (a6)).bind fun o8 => cat o7 o8 fun o9 => cat o9 ([32] : List Int) fun o10 => ((Cu k) (a7)).bind fun o11 => cat o10 o11 fun o12 => cat o12 ([59, 10, 98, 101, 115, 116, 32] : List Int) fun o13 => cat o13 a1 fun o14 => cat o14 ([59, 10, 115, 112, 101, 110, 116, 32] : List Int) fun o15 => ((Cu k) (a9)).bind fun o16 => cat o15 o16 fun o17 => cat o17 ([59, 10] : List Int) fun o18 => some (o18, (0 : Int))
theorem A6p (k : Nat) (x : Abl) : (Az k).J 27 [] (Nx x) = Abn k (Az k).J (Az k).L x := by
 apply cutX (Az k) [.r, .r, .r, .r, .r, .r] [] (Nx x) [(27, [])] [(5, [], k)] (Abn k · · x) <;> intros <;> kernel_rfl
theorem Azw (k : Nat) : Ac Tryz.prog 8 (Avk k) := Ah (Az k).C k rfl ⟨⟨Af0 k, trivial⟩, ⟨Af1 k, trivial⟩, ⟨Azy k, trivial⟩, trivial⟩ Ad Tryz.func8 (by kernel_rfl)
def Aqc : Sk := ⟨[], [], []⟩
def Aqd : Sk := ⟨[.lf (.pv .str)], [], []⟩
def Aqa (k : Nat) : Cfg := mkC [] 49 0 0
def It (k : Nat) : Unit → Option (List Int) := hid (Ag (Aqa k) k Tryz.f30 Aqc Aqd)
def Aeg (k : Nat) : Sig := Af Aqc Aqd (It k)
noncomputable def Aqb (k : Nat) : Unit → Option (List Int)
 | _ => some ([112, 108, 97, 110, 32, 99, 121, 99, 108, 101, 32, 54, 48, 48, 59, 10, 110, 111, 100, 101, 32, 97, 32, 111, 102, 102, 115, 101, 116, 32, 48, 32, 115, 117, 109, 32, 49, 49, 47, 50, 48, 32, 123, 10, 32, 32, 103, 114, 111, 117, 112, 32, 123, 10, 32, 32, 32, 32, 114, 105, 110, 103, 32, 123, 10, 32, 32, 32, 32, 32, 32, 112, 104, 97, 115, 101, 32, 112, 32, 115, 112, 108, 105, 116, 32, 51, 48, 48, 32, 121, 101, 108, 108, 111, 119, 32, 51, 53, 32, 114, 101, 100, 32, 49, 54, 32, 119, 97, 108, 107, 32, 119, 32, 55, 48, 32, 102, 108, 97, 115, 104, 32, 49, 50, 53, 59, 10, 32, 32, 32, 32, 32, 32, 112, 104, 97, 115, 101, 32, 113, 32, 115, 112, 108, 105, 116, 32, 51, 48, 48, 32, 121, 101, 108, 108, 111, 119, 32, 51, 48, 32, 114, 101, 100, 32, 50, 48, 59, 10, 32, 32, 32, 32, 125, 10, 32, 32, 125, 10, 125, 10, 111, 117, 116, 32, 48, 32, 50, 52, 57, 59, 10, 105, 110, 32, 49, 48, 32, 50, 48, 48, 59, 10, 98, 101, 115, 116, 32, 121, 101, 115, 59, 10, 115, 112, 101, 110, 116, 32, 49, 55, 59, 10] : List Int)
theorem A7m (k : Nat) (x : Unit) : It k x = Aqb k x := (Ae _ _).trans (by kernel_rfl)
theorem A0a (k : Nat) : Ac Tryz.prog 30 (Aeg k) := Ah (Aqa k) (l := []) k rfl trivial Ad Tryz.func30 (by kernel_rfl)
abbrev H62 : Type := (List Int) × (List (YT4))
def Yo : Sk := ⟨[.lf (.ptr 0 0), .lf (.pv .str)], [[.own 0]], [some (83, yt4)]⟩
def Ak8 : Sk := ⟨[.lf (.pv .bool)], Yo.boxes, [some (83, yt4)]⟩
def Ak7 (k : Nat) : Cfg := mkC [] 62 1 1
def Ays (k : Nat) : H62 → Option ((Bool) × (List (YT4))) := hid (Ag (Ak7 k) k Tryz.f59 Yo Ak8)
def Aui (k : Nat) : Sig := Af Yo Ak8 (Ays k)
theorem Ayt (k : Nat) : Ac Tryz.prog 59 (Aui k) := Ah (Ak7 k) (l := []) k rfl trivial Ad Tryz.func59 (by kernel_rfl)
abbrev H63 : Type := (List (YT4)) ⊕ ((Int) × (Int))
def Rq : Sk := ⟨[.lf (.ptr 0 0), .lf (.pv (.int .i64))], [[.own 0]], [some (83, yt4)]⟩
def Ym : Sk := ⟨[], Rq.boxes, [some (83, yt4)]⟩
def Ak3 (k : Nat) : Cfg := mkC [] 62 1 1
def Ayq (k : Nat) : ((Int) × (List (YT4))) → Option H63 := hid (Ba (Ak3 k) k Tryz.f61 Rq Ym 75 [(.int .i64), (.int .i64)] true)
def Auh (k : Nat) : Sig := ⟨Rq, Ym, Bd Rq.tys Ym.tys 75 [(.int .i64), (.int .i64)] true (Ayq k)⟩
theorem Ayr (k : Nat) : Ac Tryz.prog 61 (Auh k) := Bv (Ak3 k) (l := []) k 75 [(.int .i64), (.int .i64)] true rfl trivial Ad Tryz.func61 (by kernel_rfl)
abbrev H64 : Type := (Int) × (List Int) × (Int) × (Int) × (List (YT4))
def Aln : Sk := ⟨[.lf (.ptr 0 0)], [[.own 0]], [some (83, yt4)]⟩
def Alo : Sk := ⟨[.agg [.pv (.int .i64), .pv .str, .pv (.int .i64), .pv (.int .i64)]], [[.pv (.slice yt4)]], [none]⟩
def Alm (k : Nat) : Cfg := { mkC [] 70 1 1 with bl := [58, 60] }
def Ayz (k : Nat) : (List (YT4)) → Option H64 := hid (Ag (Alm k) k Tryz.f60 Aln Alo)
def Auo (k : Nat) : Sig := Af Aln Alo (Ayz k)
theorem Ay0 (k : Nat) : Ac Tryz.prog 60 (Auo k) := Ah (Alm k) (l := []) k rfl trivial Ad Tryz.func60 (by kernel_rfl)
def Yn : Sk := ⟨[.lf (.ptr 0 0), .lf (.pv .str)], [[.pv (.slice yt4)]], []⟩
def Ak6 : Sk := ⟨[.lf (.pv .bool)], Yn.boxes, []⟩
def Ak4 (k : Nat) : Cfg := mkC [] 62 1 0
def D5 (k : Nat) : H62 → Option ((Bool) × (List (YT4))) := hid (Ag (Ak4 k) k Tryz.f59 Yn Ak6)
def G7 (k : Nat) : Sig := Af Yn Ak6 (D5 k)
noncomputable def Ak5 (k : Nat) : H62 → Option ((Bool) × (List (YT4)))
 | (a0, a1) => idx zt4 a1 (0 : Int) fun o1 => some ((o1.2.1 == a0), a1)
theorem A3v (k : Nat) (x : H62) : D5 k x = Ak5 k x := (Ae _ _).trans (by kernel_rfl)
theorem Hn (k : Nat) : Ac Tryz.prog 59 (G7 k) := Ah (Ak4 k) (l := []) k rfl trivial Ad Tryz.func59 (by kernel_rfl)
def Rp : Sk := ⟨[.lf (.ptr 0 0), .lf (.pv (.int .i64))], [[.pv (.slice yt4)]], []⟩
def Yl : Sk := ⟨[], Rp.boxes, []⟩
def Ak1 (k : Nat) : Cfg := mkC [] 62 1 0
def B0 (k : Nat) : ((Int) × (List (YT4))) → Option H63 := hid (Ba (Ak1 k) k Tryz.f61 Rp Yl 75 [(.int .i64), (.int .i64)] true)
def Eh (k : Nat) : Sig := ⟨Rp, Yl, Bd Rp.tys Yl.tys 75 [(.int .i64), (.int .i64)] true (B0 k)⟩
noncomputable def Ak2 (k : Nat) : ((Int) × (List (YT4))) → Option H63
 | (a0, a1) => idx zt4 a1 (0 : Int) fun o1 => some (.inr (a0, o1.2.2.2.1))
theorem A3u (k : Nat) (x : ((Int) × (List (YT4)))) : B0 k x = Ak2 k x := (Ae _ _).trans (by kernel_rfl)
theorem Ep (k : Nat) : Ac Tryz.prog 61 (Eh k) := Bv (Ak1 k) (l := []) k 75 [(.int .i64), (.int .i64)] true rfl trivial Ad Tryz.func61 (by kernel_rfl)
def Y1 : Sk := ⟨[.lf (.ptr 0 0)], [[.pv (.slice yt4)]], []⟩
def All : Sk := ⟨[.agg [.pv (.int .i64), .pv .str, .pv (.int .i64), .pv (.int .i64)]], Y1.boxes, []⟩
def Alj (k : Nat) : Cfg := { mkC [] 70 1 0 with bl := [58, 60] }
def D6 (k : Nat) : (List (YT4)) → Option H64 := hid (Ag (Alj k) k Tryz.f60 Y1 All)
def Jf (k : Nat) : Sig := Af Y1 All (D6 k)
noncomputable def Alk (k : Nat) : (List (YT4)) → Option H64
 | a0 => idx zt4 a0 (0 : Int) fun o1 => bif (o1.1 != (0 : Int)) then (cut a0 (1 : Int) (((List.length a0) : Nat) : Int) fun o2 => some (o1.1, o1.2.1, o1.2.2.1, o1.2.2.2.1, o2)) else (some (o1.1, o1.2.1, o1.2.2.1, o1.2.2.2.1, a0))
theorem A4h (k : Nat) (x : (List (YT4))) : D6 k x = Alk k x := (Ae _ _).trans (by kernel_rfl)
theorem Ju (k : Nat) : Ac Tryz.prog 60 (Jf k) := Ah (Alj k) (l := []) k rfl trivial Ad Tryz.func60 (by kernel_rfl)
abbrev H65 : Type := (List (List Int)) × (Int) × (Int) × (List (YT4))
abbrev H66 : Type := (List (List Int)) × (List (YT4))
def R8 : Sk := ⟨[.lf (.ptr 0 0), .lf (.pv (.slice .str))], [[.own 0]], [some (83, yt4)]⟩
def R9 : Sk := ⟨[], [[.pv (.slice yt4)]], [none]⟩
def Aly : Sk := ⟨sparse 21 [(0, .lf (.ptr 0 0)), (6, .lf (.pv (.slice .str))), (7, .lf (.pv (.int .i64))), (8, .lf (.pv (.int .i64)))], [[.pv (.slice yt4)]], [none]⟩
abbrev Y7 := H65
def J9 : Y7 → St := stOf Aly 69
def A4q (k : Nat) : EnvL := [(59, [Aui k, G7 k]), (61, [Auh k, Eh k]), (60, [Auo k, Jf k])]
def E5 (k : Nat) : FnX H63 := mkXP ({ mkC (A4q k) 69 1 1 with hint := fun i => look none [(1, some Aly)] i }) k Tryz.f55 R9 75 [(.int .i64), (.int .i64)] true
def Qg (k : Nat) : H66 → Option H63 := hid (Ba (E5 k).C k Tryz.f55 R8 R9 75 [(.int .i64), (.int .i64)] true)
def Aus (k : Nat) : Sig := ⟨R8, R9, Bd R8.tys R9.tys 75 [(.int .i64), (.int .i64)] true (Qg k)⟩
noncomputable def Y8 (k : Nat) (J : JF H63) (L : LF H63) : H66 → Option H63
 | (a0, a1) => L 1 [] k (J9 (a0, ((List.length a0 : Nat) : Int), (0 : Int), a1))
theorem A4r (k : Nat) (x : H66) : Qg k x = Y8 k (E5 k).J (E5 k).L x := by
 refine (Ae _ _).trans ?_; apply cutX (E5 k) [] [] (st0 (E5 k).C Tryz.f55 R8 x) [] [(1, [], k)] (Y8 k · · x) <;> intros <;> kernel_rfl
noncomputable def R7 (k j1 : Nat) (J : JF H63) (L : LF H63) : Y7 → Option H63
 | (a0, a1, a2, a3) => bif (decide (a2 < a1)) then (idx [] a0 a2 fun o1 => ((D5 k) (o1, a3)).bind fun o2 => bif (!o2.1) then (((B0 k) ((50 : Int), o2.2)).bind (orP (fun o3 => ((D6 k) (o3)).bind fun o5 => L 1 [] j1 (J9 (a0, a1, (IntKind.wrap .i64 (a2 + (1 : Int))), o5.2.2.2.2))) (fun o4 => some (.inr (o4.1, o4.2))))) else (((D6 k) (o2.2)).bind fun o6 => L 1 [] j1 (J9 (a0, a1, (IntKind.wrap .i64 (a2 + (1 : Int))), o6.2.2.2.2)))) else (some (.inl a3))
theorem Alx (k j1 : Nat) (x : Y7) : (E5 k).L 1 [] (j1 + 1) (J9 x) = R7 k j1 (E5 k).J (E5 k).L x := by
 apply cutX (E5 k) [.r, .b, .b] [j1] (J9 x) [] [(1, [], j1)] (R7 k j1 · · x) <;> intros <;> kernel_rfl
theorem Ay4 (k : Nat) : Ac Tryz.prog 55 (Aus k) := Bv (E5 k).C k 75 [(.int .i64), (.int .i64)] true rfl ⟨⟨Ayt k, Hn k, trivial⟩, ⟨Ayr k, Ep k, trivial⟩, ⟨Ay0 k, Ju k, trivial⟩, trivial⟩ Ad Tryz.func55 (by kernel_rfl)
abbrev H67 : Type := ((Int) × (List (YT4))) ⊕ ((Int) × (Int))
def Rv : Sk := ⟨[.lf (.ptr 0 0), .lf (.pv (.slice .str))], [[.own 0]], [some (83, yt4)]⟩
def Rw : Sk := ⟨[.lf (.pv (.int .i64))], [[.pv (.slice yt4)]], [none]⟩
def Alb : Sk := ⟨sparse 21 [(0, .lf (.ptr 0 0))], [[.pv (.slice yt4)]], [none]⟩
abbrev A35 := (List (YT4))
def Ru : A35 → St := stOf Alb 69
def A34 (k : Nat) : EnvL := [(55, [Aus k]), (61, [Eh k]), (60, [Jf k])]
def Fy (k : Nat) : FnX H67 := mkXP ({ mkC (A34 k) 69 1 1 with hint := fun i => look none [(4, some Alb)] i }) k Tryz.f54 Rw 75 [(.int .i64), (.int .i64)] true
def P9 (k : Nat) : H66 → Option H67 := hid (Ba (Fy k).C k Tryz.f54 Rv Rw 75 [(.int .i64), (.int .i64)] true)
def Auj (k : Nat) : Sig := ⟨Rv, Rw, Bd Rv.tys Rw.tys 75 [(.int .i64), (.int .i64)] true (P9 k)⟩
noncomputable def Yt (k : Nat) (J : JF H67) (L : LF H67) : H66 → Option H67
 | (a0, a1) => ((Qg k) (a0, a1)).bind (orP (fun o1 => idx zt4 o1 (0 : Int) fun o3 => bif (o3.1 != (2 : Int)) then (((B0 k) ((50 : Int), o1)).bind (orP (fun o4 => J 4 [] (Ru (o4))) (fun o5 => some (.inr (o5.1, o5.2))))) else (J 4 [] (Ru (o1)))) (fun o2 => some (.inr (o2.1, o2.2))))
theorem A36 (k : Nat) (x : H66) : P9 k x = Yt k (Fy k).J (Fy k).L x := by
 refine (Ae _ _).trans ?_; apply cutX (Fy k) [] [] (st0 (Fy k).C Tryz.f54 Rv x) [(4, [])] [] (Yt k · · x) <;> intros <;> kernel_rfl
noncomputable def Yu (k : Nat) (J : JF H67) (L : LF H67) : (List (YT4)) → Option H67
 | a0 => ((D6 k) (a0)).bind fun o1 => some (.inl (o1.2.2.1, o1.2.2.2.2))
theorem A37 (k : Nat) (x : (List (YT4))) : (Fy k).J 4 [] (Ru x) = Yu k (Fy k).J (Fy k).L x := by
 apply cutX (Fy k) [.r, .r, .r] [] (Ru x) [(4, [])] [] (Yu k · · x) <;> intros <;> kernel_rfl
theorem Ayu (k : Nat) : Ac Tryz.prog 54 (Auj k) := Bv (Fy k).C k 75 [(.int .i64), (.int .i64)] true rfl ⟨⟨Ay4 k, trivial⟩, ⟨Ep k, trivial⟩, ⟨Ju k, trivial⟩, trivial⟩ Ad Tryz.func54 (by kernel_rfl)
def Nf : Sk := ⟨[.lf (.ptr 0 0), .lf (.pv (.slice .str))], [[.pv (.slice yt4)]], []⟩
def R6 : Sk := ⟨[], Nf.boxes, []⟩
def Alw : Sk := ⟨sparse 21 [(0, .lf (.ptr 0 0)), (6, .lf (.pv (.slice .str))), (7, .lf (.pv (.int .i64))), (8, .lf (.pv (.int .i64)))], [[.pv (.slice yt4)]], []⟩
abbrev Y5 := H65
def J8 : Y5 → St := stOf Alw 69
def A4o (k : Nat) : EnvL := [(59, [G7 k]), (61, [Eh k]), (60, [Jf k])]
def E6 (k : Nat) : FnX H63 := mkXP ({ mkC (A4o k) 69 1 0 with hint := fun i => look none [(1, some Alw)] i }) k Tryz.f55 R6 75 [(.int .i64), (.int .i64)] true
def Bu (k : Nat) : H66 → Option H63 := hid (Ba (E6 k).C k Tryz.f55 Nf R6 75 [(.int .i64), (.int .i64)] true)
def Dz (k : Nat) : Sig := ⟨Nf, R6, Bd Nf.tys R6.tys 75 [(.int .i64), (.int .i64)] true (Bu k)⟩
noncomputable def Y6 (k : Nat) (J : JF H63) (L : LF H63) : H66 → Option H63
 | (a0, a1) => L 1 [] k (J8 (a0, ((List.length a0 : Nat) : Int), (0 : Int), a1))
theorem A4p (k : Nat) (x : H66) : Bu k x = Y6 k (E6 k).J (E6 k).L x := by
 refine (Ae _ _).trans ?_; apply cutX (E6 k) [] [] (st0 (E6 k).C Tryz.f55 Nf x) [] [(1, [], k)] (Y6 k · · x) <;> intros <;> kernel_rfl
noncomputable def R5 (k j1 : Nat) (J : JF H63) (L : LF H63) : Y5 → Option H63
 | (a0, a1, a2, a3) => bif (decide (a2 < a1)) then (idx [] a0 a2 fun o1 => ((D5 k) (o1, a3)).bind fun o2 => bif (!o2.1) then (((B0 k) ((50 : Int), o2.2)).bind (orP (fun o3 => ((D6 k) (o3)).bind fun o5 => L 1 [] j1 (J8 (a0, a1, (IntKind.wrap .i64 (a2 + (1 : Int))), o5.2.2.2.2))) (fun o4 => some (.inr (o4.1, o4.2))))) else (((D6 k) (o2.2)).bind fun o6 => L 1 [] j1 (J8 (a0, a1, (IntKind.wrap .i64 (a2 + (1 : Int))), o6.2.2.2.2)))) else (some (.inl a3))
theorem Alv (k j1 : Nat) (x : Y5) : (E6 k).L 1 [] (j1 + 1) (J8 x) = R5 k j1 (E6 k).J (E6 k).L x := by
 apply cutX (E6 k) [.r, .b, .b] [j1] (J8 x) [] [(1, [], j1)] (R5 k j1 · · x) <;> intros <;> kernel_rfl
theorem D7 (k : Nat) : Ac Tryz.prog 55 (Dz k) := Bv (E6 k).C k 75 [(.int .i64), (.int .i64)] true rfl ⟨⟨Hn k, trivial⟩, ⟨Ep k, trivial⟩, ⟨Ju k, trivial⟩, trivial⟩ Ad Tryz.func55 (by kernel_rfl)
abbrev H68 : Type := ((List Int) × (List (YT4))) ⊕ ((Int) × (Int))
def Nc : Sk := ⟨[.lf (.ptr 0 0)], [[.pv (.slice yt4)]], []⟩
def Rr : Sk := ⟨[.lf (.pv .str)], Nc.boxes, []⟩
def Ak9 : Sk := ⟨sparse 23 [(0, .lf (.ptr 0 0))], [[.pv (.slice yt4)]], []⟩
abbrev A3x := (List (YT4))
def Nb : A3x → St := stOf Ak9 71
def A3w (k : Nat) : EnvL := [(61, [Eh k]), (78, [Ad4 k]), (60, [Jf k])]
def Fx (k : Nat) : FnX H68 := mkXP ({ mkC (A3w k) 71 1 0 with hint := fun i => look none [(4, some Ak9)] i, bl := [58, 60] }) k Tryz.f88 Rr 75 [(.int .i64), (.int .i64)] true
def Js (k : Nat) : (List (YT4)) → Option H68 := hid (Ba (Fx k).C k Tryz.f88 Nc Rr 75 [(.int .i64), (.int .i64)] true)
def Uf (k : Nat) : Sig := ⟨Nc, Rr, Bd Nc.tys Rr.tys 75 [(.int .i64), (.int .i64)] true (Js k)⟩
noncomputable def Yp (k : Nat) (J : JF H68) (L : LF H68) : (List (YT4)) → Option H68
 | a0 => idx zt4 a0 (0 : Int) fun o1 => bif (o1.1 != (1 : Int)) then (((B0 k) ((50 : Int), a0)).bind (orP (fun o2 => J 4 [] (Nb (o2))) (fun o3 => some (.inr (o3.1, o3.2))))) else (((L5 k) (o1.2.1)).bind fun o4 => bif o4 then (((B0 k) ((50 : Int), a0)).bind (orP (fun o5 => J 4 [] (Nb (o5))) (fun o6 => some (.inr (o6.1, o6.2))))) else (J 4 [] (Nb (a0))))
theorem A3y (k : Nat) (x : (List (YT4))) : Js k x = Yp k (Fx k).J (Fx k).L x := by
 refine (Ae _ _).trans ?_; apply cutX (Fx k) [] [] (st0 (Fx k).C Tryz.f88 Nc x) [(4, [])] [] (Yp k · · x) <;> intros <;> kernel_rfl
noncomputable def Yq (k : Nat) (J : JF H68) (L : LF H68) : (List (YT4)) → Option H68
 | a0 => ((D6 k) (a0)).bind fun o1 => some (.inl (o1.2.1, o1.2.2.2.2))
theorem A3z (k : Nat) (x : (List (YT4))) : (Fx k).J 4 [] (Nb x) = Yq k (Fx k).J (Fx k).L x := by
 apply cutX (Fx k) [.r, .r] [] (Nb x) [(4, [])] [] (Yq k · · x) <;> intros <;> kernel_rfl
theorem Vr (k : Nat) : Ac Tryz.prog 88 (Uf k) := Bv (Fx k).C k 75 [(.int .i64), (.int .i64)] true rfl ⟨⟨Ep k, trivial⟩, ⟨Afo k, trivial⟩, ⟨Ju k, trivial⟩, trivial⟩ Ad Tryz.func88 (by kernel_rfl)
def Nd : Sk := ⟨[.lf (.ptr 0 0), .lf (.pv (.slice .str))], [[.pv (.slice yt4)]], []⟩
def Rt : Sk := ⟨[.lf (.pv (.int .i64))], Nd.boxes, []⟩
def Ala : Sk := ⟨sparse 21 [(0, .lf (.ptr 0 0))], [[.pv (.slice yt4)]], []⟩
abbrev A31 := (List (YT4))
def Rs : A31 → St := stOf Ala 69
def A30 (k : Nat) : EnvL := [(55, [Dz k]), (61, [Eh k]), (60, [Jf k])]
def Fz (k : Nat) : FnX H67 := mkXP ({ mkC (A30 k) 69 1 0 with hint := fun i => look none [(4, some Ala)] i }) k Tryz.f54 Rt 75 [(.int .i64), (.int .i64)] true
def Dj (k : Nat) : H66 → Option H67 := hid (Ba (Fz k).C k Tryz.f54 Nd Rt 75 [(.int .i64), (.int .i64)] true)
def K8 (k : Nat) : Sig := ⟨Nd, Rt, Bd Nd.tys Rt.tys 75 [(.int .i64), (.int .i64)] true (Dj k)⟩
noncomputable def Yr (k : Nat) (J : JF H67) (L : LF H67) : H66 → Option H67
 | (a0, a1) => ((Bu k) (a0, a1)).bind (orP (fun o1 => idx zt4 o1 (0 : Int) fun o3 => bif (o3.1 != (2 : Int)) then (((B0 k) ((50 : Int), o1)).bind (orP (fun o4 => J 4 [] (Rs (o4))) (fun o5 => some (.inr (o5.1, o5.2))))) else (J 4 [] (Rs (o1)))) (fun o2 => some (.inr (o2.1, o2.2))))
theorem A32 (k : Nat) (x : H66) : Dj k x = Yr k (Fz k).J (Fz k).L x := by
 refine (Ae _ _).trans ?_; apply cutX (Fz k) [] [] (st0 (Fz k).C Tryz.f54 Nd x) [(4, [])] [] (Yr k · · x) <;> intros <;> kernel_rfl
noncomputable def Ys (k : Nat) (J : JF H67) (L : LF H67) : (List (YT4)) → Option H67
 | a0 => ((D6 k) (a0)).bind fun o1 => some (.inl (o1.2.2.1, o1.2.2.2.2))
theorem A33 (k : Nat) (x : (List (YT4))) : (Fz k).J 4 [] (Rs x) = Ys k (Fz k).J (Fz k).L x := by
 apply cutX (Fz k) [.r, .r, .r] [] (Rs x) [(4, [])] [] (Ys k · · x) <;> intros <;> kernel_rfl
theorem Mh (k : Nat) : Ac Tryz.prog 54 (K8 k) := Bv (Fz k).C k 75 [(.int .i64), (.int .i64)] true rfl ⟨⟨D7 k, trivial⟩, ⟨Ep k, trivial⟩, ⟨Ju k, trivial⟩, trivial⟩ Ad Tryz.func54 (by kernel_rfl)
abbrev H69 : Type := ((List Int) × (Int) × (Int) × (List (YT4))) ⊕ ((Int) × (Int))
def R3 : Sk := ⟨[.lf (.ptr 0 0)], [[.pv (.slice yt4)]], []⟩
def Y3 : Sk := ⟨[.agg [.pv .str, .pv (.int .i64), .pv (.int .i64)]], R3.boxes, []⟩
def A4k (k : Nat) : EnvL := [(88, [Uf k]), (54, [K8 k])]
def Alr (k : Nat) : Cfg := { mkC (A4k k) 59 1 0 with bl := [58, 60] }
def Qf (k : Nat) : (List (YT4)) → Option H69 := hid (Ba (Alr k) k Tryz.f138 R3 Y3 75 [(.int .i64), (.int .i64)] true)
def Auq (k : Nat) : Sig := ⟨R3, Y3, Bd R3.tys Y3.tys 75 [(.int .i64), (.int .i64)] true (Qf k)⟩
noncomputable def Als (k : Nat) : (List (YT4)) → Option H69
 | a0 => ((Js k) (a0)).bind (orP (fun o1 => ((Dj k) ([], o1.2)).bind (orP (fun o3 => ((Dj k) (([([102, 108, 97, 115, 104] : List Int)] : List (List Int)), o3.2)).bind (orP (fun o5 => some (.inl (o1.1, o3.1, o5.1, o5.2))) (fun o6 => some (.inr (o6.1, o6.2))))) (fun o4 => some (.inr (o4.1, o4.2))))) (fun o2 => some (.inr (o2.1, o2.2))))
theorem A4l (k : Nat) (x : (List (YT4))) : Qf k x = Als k x := (Ae _ _).trans (by kernel_rfl)
theorem Ay2 (k : Nat) : Ac Tryz.prog 138 (Auq k) := Bv (Alr k) k 75 [(.int .i64), (.int .i64)] true rfl ⟨⟨Vr k, trivial⟩, ⟨Mh k, trivial⟩, trivial⟩ Ad Tryz.func138 (by kernel_rfl)
abbrev H70 : Type := (List Int) × (Int) × (Int) × (List (YT4)) × (List (YT0))
abbrev H71 : Type := (List Int) × (Int) × (Int) × (List (YT4))
abbrev H72 : Type := ((List (YT4)) × (List (YT0))) ⊕ ((Int) × (Int))
def Nk : Sk := ⟨[.lf (.ptr 0 0), .lf (.pv .str), .lf (.pv (.int .i64)), .lf (.pv (.int .i64)), .lf (.fn 138 [(0, 0)] [])], [[.pv (.slice yt4)]], []⟩
def Se : Sk := ⟨[.lf (.own 0)], Nk.boxes, [some (54, yt0)]⟩
def Al7 : Sk := ⟨sparse 37 [(0, .lf (.ptr 0 0)), (1, .lf (.pv .str)), (2, .lf (.pv (.int .i64))), (3, .lf (.pv (.int .i64))), (4, .lf (.fn 138 [(0, 0)] [])), (11, .lf (.own 0))], [[.pv (.slice yt4)]], [some (54, yt0)]⟩
abbrev Zt := H70
def Ke : Zt → St := stOf Al7 85
def Al8 : Sk := ⟨sparse 37 [(0, .lf (.ptr 0 0)), (1, .lf (.pv .str)), (2, .lf (.pv (.int .i64))), (3, .lf (.pv (.int .i64))), (4, .lf (.fn 138 [(0, 0)] [])), (11, .lf (.own 0))], [[.pv (.slice yt4)]], [some (54, yt0)]⟩
abbrev Zu := H70
def I2 : Zu → St := stOf Al8 85
def A48 (k : Nat) : EnvL := [(59, [G7 k]), (61, [Eh k]), (55, [Dz k]), (138, [Auq k])]
def Cz (k : Nat) : FnX H72 := mkXP ({ mkC (A48 k) 85 1 0 with hint := fun i => look none [(2, some Al7), (5, some Al8)] i }) k Tryz.f137 Se 75 [(.int .i64), (.int .i64)] true
def Ql (k : Nat) : H71 → Option H72 := hid (Ba (Cz k).C k Tryz.f137 Nk Se 75 [(.int .i64), (.int .i64)] true)
def Aux (k : Nat) : Sig := ⟨Nk, Se, Bd Nk.tys Se.tys 75 [(.int .i64), (.int .i64)] true (Ql k)⟩
noncomputable def Zv (k : Nat) (J : JF H72) (L : LF H72) : H71 → Option H72
 | (a0, a1, a2, a3) => L 2 [] k (Ke (a0, a1, a2, a3, []))
theorem A49 (k : Nat) (x : H71) : Ql k x = Zv k (Cz k).J (Cz k).L x := by
 refine (Ae _ _).trans ?_; apply cutX (Cz k) [] [] (st0 (Cz k).C Tryz.f137 Nk x) [] [(2, [], k)] (Zv k · · x) <;> intros <;> kernel_rfl
noncomputable def Zx (k j2 : Nat) (J : JF H72) (L : LF H72) : Zt → Option H72
 | (a0, a1, a2, a3, a4) => ((D5 k) (a0, a3)).bind fun o1 => bif o1.1 then (bif (((List.length a4 : Nat) : Int) == a2) then (((B0 k) ((4 : Int), o1.2)).bind (orP (fun o2 => J 5 [j2] (I2 (a0, a1, a2, o2, a4))) (fun o3 => some (.inr (o3.1, o3.2))))) else (J 5 [j2] (I2 (a0, a1, a2, o1.2, a4)))) else (bif (decide (((List.length a4 : Nat) : Int) < a1)) then (bif (((List.length a4 : Nat) : Int) == a2) then (((B0 k) ((4 : Int), o1.2)).bind (orP (fun o4 => J 5 [j2] (I2 (a0, a1, a2, o4, a4))) (fun o5 => some (.inr (o5.1, o5.2))))) else (J 5 [j2] (I2 (a0, a1, a2, o1.2, a4)))) else (some (.inl (o1.2, a4))))
theorem A5b (k j2 : Nat) (x : Zt) : (Cz k).L 2 [] (j2 + 1) (Ke x) = Zx k j2 (Cz k).J (Cz k).L x := by
 apply cutX (Cz k) [.r, .r, .l, .b, .b] [j2] (Ke x) [(5, [j2])] [(2, [], j2)] (Zx k j2 · · x) <;> intros <;> kernel_rfl
noncomputable def Zw (k j2 : Nat) (J : JF H72) (L : LF H72) : Zu → Option H72
 | (a0, a1, a2, a3, a4) => ((Bu k) (([a0] : List (List Int)), a3)).bind (orP (fun o1 => ((Qf k) (o1)).bind (orP (fun o3 => app 32 a4 ([(o3.1, (o3.2.1, (o3.2.2.1, ())))] : List (YT0)) fun o5 => L 2 [] j2 (Ke (a0, a1, a2, o3.2.2.2, o5))) (fun o4 => some (.inr (o4.1, o4.2))))) (fun o2 => some (.inr (o2.1, o2.2))))
theorem A5a (k j2 : Nat) (x : Zu) : (Cz k).J 5 [j2] (I2 x) = Zw k j2 (Cz k).J (Cz k).L x := by
 apply cutX (Cz k) [.r, .r, .l, .b, .b, .r, .b, .r] [j2] (I2 x) [(5, [j2])] [(2, [], j2)] (Zw k j2 · · x) <;> intros <;> kernel_rfl
theorem Ay9 (k : Nat) : Ac Tryz.prog 137 (Aux k) := Bv (Cz k).C k 75 [(.int .i64), (.int .i64)] true rfl ⟨⟨Hn k, trivial⟩, ⟨Ep k, trivial⟩, ⟨D7 k, trivial⟩, ⟨Ay2 k, trivial⟩, trivial⟩ Ad Tryz.func137 (by kernel_rfl)
abbrev H73 : Type := ((List Int) × (Int) × (Int) × (Int) × (List (YT4)) × (List (YT0))) ⊕ ((Int) × (Int))
def R0 : Sk := ⟨[.lf (.ptr 0 0)], [[.pv (.slice yt4)]], []⟩
def Yz : Sk := ⟨[.agg [.pv .str, .pv (.int .i64), .pv (.int .i64), .pv (.int .i64), .own 0]], R0.boxes, [some (54, yt0)]⟩
def A4d (k : Nat) : EnvL := [(88, [Uf k]), (54, [K8 k]), (137, [Aux k]), (55, [Dz k])]
def Alf (k : Nat) : Cfg := { mkC (A4d k) 74 1 0 with bl := [58, 60] }
def Qc (k : Nat) : (List (YT4)) → Option H73 := hid (Ba (Alf k) k Tryz.f126 R0 Yz 75 [(.int .i64), (.int .i64)] true)
def Aum (k : Nat) : Sig := ⟨R0, Yz, Bd R0.tys Yz.tys 75 [(.int .i64), (.int .i64)] true (Qc k)⟩
noncomputable def Alg (k : Nat) : (List (YT4)) → Option H73
 | a0 => ((Js k) (a0)).bind (orP (fun o1 => ((Dj k) (([([115, 112, 108, 105, 116] : List Int)] : List (List Int)), o1.2)).bind (orP (fun o3 => ((Dj k) (([([121, 101, 108, 108, 111, 119] : List Int)] : List (List Int)), o3.2)).bind (orP (fun o5 => ((Dj k) (([([114, 101, 100] : List Int)] : List (List Int)), o5.2)).bind (orP (fun o7 => ((Ql k) (([119, 97, 108, 107] : List Int), (0 : Int), (8 : Int), o7.2)).bind (orP (fun o9 => ((Bu k) (([([59] : List Int)] : List (List Int)), o9.1)).bind (orP (fun o11 => some (.inl (o1.1, o3.1, o5.1, o7.1, o11, o9.2))) (fun o12 => some (.inr (o12.1, o12.2))))) (fun o10 => some (.inr (o10.1, o10.2))))) (fun o8 => some (.inr (o8.1, o8.2))))) (fun o6 => some (.inr (o6.1, o6.2))))) (fun o4 => some (.inr (o4.1, o4.2))))) (fun o2 => some (.inr (o2.1, o2.2))))
theorem A4e (k : Nat) (x : (List (YT4))) : Qc k x = Alg k x := (Ae _ _).trans (by kernel_rfl)
theorem Ayx (k : Nat) : Ac Tryz.prog 126 (Aum k) := Bv (Alf k) k 75 [(.int .i64), (.int .i64)] true rfl ⟨⟨Vr k, trivial⟩, ⟨Mh k, trivial⟩, ⟨Ay9 k, trivial⟩, ⟨D7 k, trivial⟩, trivial⟩ Ad Tryz.func126 (by kernel_rfl)
abbrev H74 : Type := (List Int) × (Int) × (Int) × (List (YT4)) × (List (YT1))
abbrev H75 : Type := ((List (YT4)) × (List (YT1))) ⊕ ((Int) × (Int))
def Nh : Sk := ⟨[.lf (.ptr 0 0), .lf (.pv .str), .lf (.pv (.int .i64)), .lf (.pv (.int .i64)), .lf (.fn 126 [(0, 0)] [])], [[.pv (.slice yt4)]], []⟩
def Sb : Sk := ⟨[.lf (.own 0)], Nh.boxes, [some (52, yt1)]⟩
def Al1 : Sk := ⟨sparse 37 [(0, .lf (.ptr 0 0)), (1, .lf (.pv .str)), (2, .lf (.pv (.int .i64))), (3, .lf (.pv (.int .i64))), (4, .lf (.fn 126 [(0, 0)] [])), (11, .lf (.own 0))], [[.pv (.slice yt4)]], [some (52, yt1)]⟩
abbrev Ze := H74
def Kb : Ze → St := stOf Al1 86
def Al2 : Sk := ⟨sparse 37 [(0, .lf (.ptr 0 0)), (1, .lf (.pv .str)), (2, .lf (.pv (.int .i64))), (3, .lf (.pv (.int .i64))), (4, .lf (.fn 126 [(0, 0)] [])), (11, .lf (.own 0))], [[.pv (.slice yt4)]], [some (52, yt1)]⟩
abbrev Zf := H74
def Iz : Zf → St := stOf Al2 86
def A4w (k : Nat) : EnvL := [(59, [G7 k]), (61, [Eh k]), (55, [Dz k]), (126, [Aum k])]
def Cw (k : Nat) : FnX H75 := mkXP ({ mkC (A4w k) 86 1 0 with hint := fun i => look none [(2, some Al1), (5, some Al2)] i }) k Tryz.f136 Sb 75 [(.int .i64), (.int .i64)] true
def Qi (k : Nat) : H71 → Option H75 := hid (Ba (Cw k).C k Tryz.f136 Nh Sb 75 [(.int .i64), (.int .i64)] true)
def Auu (k : Nat) : Sig := ⟨Nh, Sb, Bd Nh.tys Sb.tys 75 [(.int .i64), (.int .i64)] true (Qi k)⟩
noncomputable def Zg (k : Nat) (J : JF H75) (L : LF H75) : H71 → Option H75
 | (a0, a1, a2, a3) => L 2 [] k (Kb (a0, a1, a2, a3, []))
theorem A4x (k : Nat) (x : H71) : Qi k x = Zg k (Cw k).J (Cw k).L x := by
 refine (Ae _ _).trans ?_; apply cutX (Cw k) [] [] (st0 (Cw k).C Tryz.f136 Nh x) [] [(2, [], k)] (Zg k · · x) <;> intros <;> kernel_rfl
noncomputable def Zi (k j2 : Nat) (J : JF H75) (L : LF H75) : Ze → Option H75
 | (a0, a1, a2, a3, a4) => ((D5 k) (a0, a3)).bind fun o1 => bif o1.1 then (bif (((List.length a4 : Nat) : Int) == a2) then (((B0 k) ((4 : Int), o1.2)).bind (orP (fun o2 => J 5 [j2] (Iz (a0, a1, a2, o2, a4))) (fun o3 => some (.inr (o3.1, o3.2))))) else (J 5 [j2] (Iz (a0, a1, a2, o1.2, a4)))) else (bif (decide (((List.length a4 : Nat) : Int) < a1)) then (bif (((List.length a4 : Nat) : Int) == a2) then (((B0 k) ((4 : Int), o1.2)).bind (orP (fun o4 => J 5 [j2] (Iz (a0, a1, a2, o4, a4))) (fun o5 => some (.inr (o5.1, o5.2))))) else (J 5 [j2] (Iz (a0, a1, a2, o1.2, a4)))) else (some (.inl (o1.2, a4))))
theorem A4z (k j2 : Nat) (x : Ze) : (Cw k).L 2 [] (j2 + 1) (Kb x) = Zi k j2 (Cw k).J (Cw k).L x := by
 apply cutX (Cw k) [.r, .r, .l, .b, .b] [j2] (Kb x) [(5, [j2])] [(2, [], j2)] (Zi k j2 · · x) <;> intros <;> kernel_rfl
noncomputable def Zh (k j2 : Nat) (J : JF H75) (L : LF H75) : Zf → Option H75
 | (a0, a1, a2, a3, a4) => ((Bu k) (([a0] : List (List Int)), a3)).bind (orP (fun o1 => ((Qc k) (o1)).bind (orP (fun o3 => app 64 a4 ([(o3.1, (o3.2.1, (o3.2.2.1, (o3.2.2.2.1, (o3.2.2.2.2.2, ())))))] : List (YT1)) fun o5 => L 2 [] j2 (Kb (a0, a1, a2, o3.2.2.2.2.1, o5))) (fun o4 => some (.inr (o4.1, o4.2))))) (fun o2 => some (.inr (o2.1, o2.2))))
theorem A4y (k j2 : Nat) (x : Zf) : (Cw k).J 5 [j2] (Iz x) = Zh k j2 (Cw k).J (Cw k).L x := by
 apply cutX (Cw k) [.r, .r, .l, .b, .b, .r, .b, .r] [j2] (Iz x) [(5, [j2])] [(2, [], j2)] (Zh k j2 · · x) <;> intros <;> kernel_rfl
theorem Ay6 (k : Nat) : Ac Tryz.prog 136 (Auu k) := Bv (Cw k).C k 75 [(.int .i64), (.int .i64)] true rfl ⟨⟨Hn k, trivial⟩, ⟨Ep k, trivial⟩, ⟨D7 k, trivial⟩, ⟨Ayx k, trivial⟩, trivial⟩ Ad Tryz.func136 (by kernel_rfl)
def Rn : Sk := ⟨[.lf (.ptr 0 0), .lf (.pv .str), .lf (.pv (.int .i64)), .lf (.pv (.int .i64)), .lf (.fn 126 [(0, 0)] [])], [[.pv (.slice yt4)]], []⟩
def Yj : Sk := ⟨[.lf (.own 0)], Rn.boxes, [some (52, yt1)]⟩
def A3l (k : Nat) : EnvL := [(55, [Dz k]), (136, [Auu k])]
def Akp (k : Nat) : Cfg := mkC (A3l k) 74 1 0
def P5 (k : Nat) : H71 → Option H75 := hid (Ba (Akp k) k Tryz.f125 Rn Yj 75 [(.int .i64), (.int .i64)] true)
def Aue (k : Nat) : Sig := ⟨Rn, Yj, Bd Rn.tys Yj.tys 75 [(.int .i64), (.int .i64)] true (P5 k)⟩
noncomputable def Akq (k : Nat) : H71 → Option H75
 | (a0, a1, a2, a3) => ((Bu k) (([([123] : List Int)] : List (List Int)), a3)).bind (orP (fun o1 => ((Qi k) (a0, a1, a2, o1)).bind (orP (fun o3 => ((Bu k) (([([125] : List Int)] : List (List Int)), o3.1)).bind (orP (fun o5 => some (.inl (o5, o3.2))) (fun o6 => some (.inr (o6.1, o6.2))))) (fun o4 => some (.inr (o4.1, o4.2))))) (fun o2 => some (.inr (o2.1, o2.2))))
theorem A3m (k : Nat) (x : H71) : P5 k x = Akq k x := (Ae _ _).trans (by kernel_rfl)
theorem Ayn (k : Nat) : Ac Tryz.prog 125 (Aue k) := Bv (Akp k) k 75 [(.int .i64), (.int .i64)] true rfl ⟨⟨D7 k, trivial⟩, ⟨Ay6 k, trivial⟩, trivial⟩ Ad Tryz.func125 (by kernel_rfl)
def Rz : Sk := ⟨[.lf (.ptr 0 0)], [[.pv (.slice yt4)]], []⟩
def Yy : Sk := ⟨[.lf (.own 0)], Rz.boxes, [some (52, yt1)]⟩
def A4b (k : Nat) : EnvL := [(125, [Aue k])]
def Ald (k : Nat) : Cfg := mkC (A4b k) 56 1 0
def Qb (k : Nat) : (List (YT4)) → Option H75 := hid (Ba (Ald k) k Tryz.f111 Rz Yy 75 [(.int .i64), (.int .i64)] true)
def Aul (k : Nat) : Sig := ⟨Rz, Yy, Bd Rz.tys Yy.tys 75 [(.int .i64), (.int .i64)] true (Qb k)⟩
noncomputable def Ale (k : Nat) : (List (YT4)) → Option H75
 | a0 => ((P5 k) (([112, 104, 97, 115, 101] : List Int), (1 : Int), (4 : Int), a0)).bind (orP (fun o1 => some (.inl (o1.1, o1.2))) (fun o2 => some (.inr (o2.1, o2.2))))
theorem A4c (k : Nat) (x : (List (YT4))) : Qb k x = Ale k x := (Ae _ _).trans (by kernel_rfl)
theorem Ayw (k : Nat) : Ac Tryz.prog 111 (Aul k) := Bv (Ald k) k 75 [(.int .i64), (.int .i64)] true rfl ⟨⟨Ayn k, trivial⟩, trivial⟩ Ad Tryz.func111 (by kernel_rfl)
abbrev H76 : Type := (List Int) × (Int) × (Int) × (List (YT4)) × (List (List (YT1)))
abbrev H77 : Type := ((List (YT4)) × (List (List (YT1)))) ⊕ ((Int) × (Int))
def Ng : Sk := ⟨[.lf (.ptr 0 0), .lf (.pv .str), .lf (.pv (.int .i64)), .lf (.pv (.int .i64)), .lf (.fn 111 [(0, 0)] [])], [[.pv (.slice yt4)]], []⟩
def Sa : Sk := ⟨[.lf (.own 0)], Ng.boxes, [some (49, (.slice yt1))]⟩
def Alz : Sk := ⟨sparse 37 [(0, .lf (.ptr 0 0)), (1, .lf (.pv .str)), (2, .lf (.pv (.int .i64))), (3, .lf (.pv (.int .i64))), (4, .lf (.fn 111 [(0, 0)] [])), (11, .lf (.own 0))], [[.pv (.slice yt4)]], [some (49, (.slice yt1))]⟩
abbrev Y9 := H76
def Ka : Y9 → St := stOf Alz 86
def Al0 : Sk := ⟨sparse 37 [(0, .lf (.ptr 0 0)), (1, .lf (.pv .str)), (2, .lf (.pv (.int .i64))), (3, .lf (.pv (.int .i64))), (4, .lf (.fn 111 [(0, 0)] [])), (11, .lf (.own 0))], [[.pv (.slice yt4)]], [some (49, (.slice yt1))]⟩
abbrev Za := H76
def Iy : Za → St := stOf Al0 86
def A4s (k : Nat) : EnvL := [(59, [G7 k]), (61, [Eh k]), (55, [Dz k]), (111, [Aul k])]
def Cv (k : Nat) : FnX H77 := mkXP ({ mkC (A4s k) 86 1 0 with hint := fun i => look none [(2, some Alz), (5, some Al0)] i }) k Tryz.f124 Sa 75 [(.int .i64), (.int .i64)] true
def Qh (k : Nat) : H71 → Option H77 := hid (Ba (Cv k).C k Tryz.f124 Ng Sa 75 [(.int .i64), (.int .i64)] true)
def Aut (k : Nat) : Sig := ⟨Ng, Sa, Bd Ng.tys Sa.tys 75 [(.int .i64), (.int .i64)] true (Qh k)⟩
noncomputable def Zb (k : Nat) (J : JF H77) (L : LF H77) : H71 → Option H77
 | (a0, a1, a2, a3) => L 2 [] k (Ka (a0, a1, a2, a3, []))
theorem A4t (k : Nat) (x : H71) : Qh k x = Zb k (Cv k).J (Cv k).L x := by
 refine (Ae _ _).trans ?_; apply cutX (Cv k) [] [] (st0 (Cv k).C Tryz.f124 Ng x) [] [(2, [], k)] (Zb k · · x) <;> intros <;> kernel_rfl
noncomputable def Zd (k j2 : Nat) (J : JF H77) (L : LF H77) : Y9 → Option H77
 | (a0, a1, a2, a3, a4) => ((D5 k) (a0, a3)).bind fun o1 => bif o1.1 then (bif (((List.length a4 : Nat) : Int) == a2) then (((B0 k) ((4 : Int), o1.2)).bind (orP (fun o2 => J 5 [j2] (Iy (a0, a1, a2, o2, a4))) (fun o3 => some (.inr (o3.1, o3.2))))) else (J 5 [j2] (Iy (a0, a1, a2, o1.2, a4)))) else (bif (decide (((List.length a4 : Nat) : Int) < a1)) then (bif (((List.length a4 : Nat) : Int) == a2) then (((B0 k) ((4 : Int), o1.2)).bind (orP (fun o4 => J 5 [j2] (Iy (a0, a1, a2, o4, a4))) (fun o5 => some (.inr (o5.1, o5.2))))) else (J 5 [j2] (Iy (a0, a1, a2, o1.2, a4)))) else (some (.inl (o1.2, a4))))
theorem A4v (k j2 : Nat) (x : Y9) : (Cv k).L 2 [] (j2 + 1) (Ka x) = Zd k j2 (Cv k).J (Cv k).L x := by
 apply cutX (Cv k) [.r, .r, .l, .b, .b] [j2] (Ka x) [(5, [j2])] [(2, [], j2)] (Zd k j2 · · x) <;> intros <;> kernel_rfl
noncomputable def Zc (k j2 : Nat) (J : JF H77) (L : LF H77) : Za → Option H77
 | (a0, a1, a2, a3, a4) => ((Bu k) (([a0] : List (List Int)), a3)).bind (orP (fun o1 => ((Qb k) (o1)).bind (orP (fun o3 => app 24 a4 ([o3.2] : List (List (YT1))) fun o5 => L 2 [] j2 (Ka (a0, a1, a2, o3.1, o5))) (fun o4 => some (.inr (o4.1, o4.2))))) (fun o2 => some (.inr (o2.1, o2.2))))
theorem A4u (k j2 : Nat) (x : Za) : (Cv k).J 5 [j2] (Iy x) = Zc k j2 (Cv k).J (Cv k).L x := by
 apply cutX (Cv k) [.r, .r, .l, .b, .b, .r, .b, .r] [j2] (Iy x) [(5, [j2])] [(2, [], j2)] (Zc k j2 · · x) <;> intros <;> kernel_rfl
theorem Ay5 (k : Nat) : Ac Tryz.prog 124 (Aut k) := Bv (Cv k).C k 75 [(.int .i64), (.int .i64)] true rfl ⟨⟨Hn k, trivial⟩, ⟨Ep k, trivial⟩, ⟨D7 k, trivial⟩, ⟨Ayw k, trivial⟩, trivial⟩ Ad Tryz.func124 (by kernel_rfl)
def Rm : Sk := ⟨[.lf (.ptr 0 0), .lf (.pv .str), .lf (.pv (.int .i64)), .lf (.pv (.int .i64)), .lf (.fn 111 [(0, 0)] [])], [[.pv (.slice yt4)]], []⟩
def Yi : Sk := ⟨[.lf (.own 0)], Rm.boxes, [some (49, (.slice yt1))]⟩
def A3j (k : Nat) : EnvL := [(55, [Dz k]), (124, [Aut k])]
def Akn (k : Nat) : Cfg := mkC (A3j k) 74 1 0
def P4 (k : Nat) : H71 → Option H77 := hid (Ba (Akn k) k Tryz.f110 Rm Yi 75 [(.int .i64), (.int .i64)] true)
def Aud (k : Nat) : Sig := ⟨Rm, Yi, Bd Rm.tys Yi.tys 75 [(.int .i64), (.int .i64)] true (P4 k)⟩
noncomputable def Ako (k : Nat) : H71 → Option H77
 | (a0, a1, a2, a3) => ((Bu k) (([([123] : List Int)] : List (List Int)), a3)).bind (orP (fun o1 => ((Qh k) (a0, a1, a2, o1)).bind (orP (fun o3 => ((Bu k) (([([125] : List Int)] : List (List Int)), o3.1)).bind (orP (fun o5 => some (.inl (o5, o3.2))) (fun o6 => some (.inr (o6.1, o6.2))))) (fun o4 => some (.inr (o4.1, o4.2))))) (fun o2 => some (.inr (o2.1, o2.2))))
theorem A3k (k : Nat) (x : H71) : P4 k x = Ako k x := (Ae _ _).trans (by kernel_rfl)
theorem Aym (k : Nat) : Ac Tryz.prog 110 (Aud k) := Bv (Akn k) k 75 [(.int .i64), (.int .i64)] true rfl ⟨⟨D7 k, trivial⟩, ⟨Ay5 k, trivial⟩, trivial⟩ Ad Tryz.func110 (by kernel_rfl)
def R1 : Sk := ⟨[.lf (.ptr 0 0)], [[.pv (.slice yt4)]], []⟩
def Y0 : Sk := ⟨[.agg [.own 0]], R1.boxes, [some (49, (.slice yt1))]⟩
def A4f (k : Nat) : EnvL := [(110, [Aud k])]
def Alh (k : Nat) : Cfg := { mkC (A4f k) 57 1 0 with bl := [58, 60] }
def Qd (k : Nat) : (List (YT4)) → Option H77 := hid (Ba (Alh k) k Tryz.f90 R1 Y0 75 [(.int .i64), (.int .i64)] true)
def Aun (k : Nat) : Sig := ⟨R1, Y0, Bd R1.tys Y0.tys 75 [(.int .i64), (.int .i64)] true (Qd k)⟩
noncomputable def Ali (k : Nat) : (List (YT4)) → Option H77
 | a0 => ((P4 k) (([114, 105, 110, 103] : List Int), (1 : Int), (2 : Int), a0)).bind (orP (fun o1 => some (.inl (o1.1, o1.2))) (fun o2 => some (.inr (o2.1, o2.2))))
theorem A4g (k : Nat) (x : (List (YT4))) : Qd k x = Ali k x := (Ae _ _).trans (by kernel_rfl)
theorem Ayy (k : Nat) : Ac Tryz.prog 90 (Aun k) := Bv (Alh k) k 75 [(.int .i64), (.int .i64)] true rfl ⟨⟨Aym k, trivial⟩, trivial⟩ Ad Tryz.func90 (by kernel_rfl)
end
noncomputable section
abbrev H78 : Type := (List Int) × (Int) × (Int) × (List (YT4)) × (List ((List (List (YT1))) × (Unit)))
abbrev H79 : Type := ((List (YT4)) × (List ((List (List (YT1))) × (Unit)))) ⊕ ((Int) × (Int))
def Ni : Sk := ⟨[.lf (.ptr 0 0), .lf (.pv .str), .lf (.pv (.int .i64)), .lf (.pv (.int .i64)), .lf (.fn 90 [(0, 0)] [])], [[.pv (.slice yt4)]], []⟩
def Sc : Sk := ⟨[.lf (.own 0)], Ni.boxes, [some (48, (.cons (.slice (.slice yt1)) .nil))]⟩
def Al3 : Sk := ⟨sparse 37 [(0, .lf (.ptr 0 0)), (1, .lf (.pv .str)), (2, .lf (.pv (.int .i64))), (3, .lf (.pv (.int .i64))), (4, .lf (.fn 90 [(0, 0)] [])), (11, .lf (.own 0))], [[.pv (.slice yt4)]], [some (48, (.cons (.slice (.slice yt1)) .nil))]⟩
abbrev Zj := H78
def Kc : Zj → St := stOf Al3 86
def Al4 : Sk := ⟨sparse 37 [(0, .lf (.ptr 0 0)), (1, .lf (.pv .str)), (2, .lf (.pv (.int .i64))), (3, .lf (.pv (.int .i64))), (4, .lf (.fn 90 [(0, 0)] [])), (11, .lf (.own 0))], [[.pv (.slice yt4)]], [some (48, (.cons (.slice (.slice yt1)) .nil))]⟩
abbrev Zk := H78
def I0 : Zk → St := stOf Al4 86
def A40 (k : Nat) : EnvL := [(59, [G7 k]), (61, [Eh k]), (55, [Dz k]), (90, [Aun k])]
def Cx (k : Nat) : FnX H79 := mkXP ({ mkC (A40 k) 86 1 0 with hint := fun i => look none [(2, some Al3), (5, some Al4)] i }) k Tryz.f109 Sc 75 [(.int .i64), (.int .i64)] true
def Qj (k : Nat) : H71 → Option H79 := hid (Ba (Cx k).C k Tryz.f109 Ni Sc 75 [(.int .i64), (.int .i64)] true)
def Auv (k : Nat) : Sig := ⟨Ni, Sc, Bd Ni.tys Sc.tys 75 [(.int .i64), (.int .i64)] true (Qj k)⟩
noncomputable def Zl (k : Nat) (J : JF H79) (L : LF H79) : H71 → Option H79
 | (a0, a1, a2, a3) => L 2 [] k (Kc (a0, a1, a2, a3, []))
theorem A41 (k : Nat) (x : H71) : Qj k x = Zl k (Cx k).J (Cx k).L x := by
 refine (Ae _ _).trans ?_; apply cutX (Cx k) [] [] (st0 (Cx k).C Tryz.f109 Ni x) [] [(2, [], k)] (Zl k · · x) <;> intros <;> kernel_rfl
noncomputable def Zn (k j2 : Nat) (J : JF H79) (L : LF H79) : Zj → Option H79
 | (a0, a1, a2, a3, a4) => ((D5 k) (a0, a3)).bind fun o1 => bif o1.1 then (bif (((List.length a4 : Nat) : Int) == a2) then (((B0 k) ((4 : Int), o1.2)).bind (orP (fun o2 => J 5 [j2] (I0 (a0, a1, a2, o2, a4))) (fun o3 => some (.inr (o3.1, o3.2))))) else (J 5 [j2] (I0 (a0, a1, a2, o1.2, a4)))) else (bif (decide (((List.length a4 : Nat) : Int) < a1)) then (bif (((List.length a4 : Nat) : Int) == a2) then (((B0 k) ((4 : Int), o1.2)).bind (orP (fun o4 => J 5 [j2] (I0 (a0, a1, a2, o4, a4))) (fun o5 => some (.inr (o5.1, o5.2))))) else (J 5 [j2] (I0 (a0, a1, a2, o1.2, a4)))) else (some (.inl (o1.2, a4))))
theorem A43 (k j2 : Nat) (x : Zj) : (Cx k).L 2 [] (j2 + 1) (Kc x) = Zn k j2 (Cx k).J (Cx k).L x := by
 apply cutX (Cx k) [.r, .r, .l, .b, .b] [j2] (Kc x) [(5, [j2])] [(2, [], j2)] (Zn k j2 · · x) <;> intros <;> kernel_rfl
noncomputable def Zm (k j2 : Nat) (J : JF H79) (L : LF H79) : Zk → Option H79
 | (a0, a1, a2, a3, a4) => ((Bu k) (([a0] : List (List Int)), a3)).bind (orP (fun o1 => ((Qd k) (o1)).bind (orP (fun o3 => app 24 a4 ([(o3.2, ())] : List ((List (List (YT1))) × (Unit))) fun o5 => L 2 [] j2 (Kc (a0, a1, a2, o3.1, o5))) (fun o4 => some (.inr (o4.1, o4.2))))) (fun o2 => some (.inr (o2.1, o2.2))))
theorem A42 (k j2 : Nat) (x : Zk) : (Cx k).J 5 [j2] (I0 x) = Zm k j2 (Cx k).J (Cx k).L x := by
 apply cutX (Cx k) [.r, .r, .l, .b, .b, .r, .b, .r] [j2] (I0 x) [(5, [j2])] [(2, [], j2)] (Zm k j2 · · x) <;> intros <;> kernel_rfl
theorem Ay7 (k : Nat) : Ac Tryz.prog 109 (Auv k) := Bv (Cx k).C k 75 [(.int .i64), (.int .i64)] true rfl ⟨⟨Hn k, trivial⟩, ⟨Ep k, trivial⟩, ⟨D7 k, trivial⟩, ⟨Ayy k, trivial⟩, trivial⟩ Ad Tryz.func109 (by kernel_rfl)
def Ro : Sk := ⟨[.lf (.ptr 0 0), .lf (.pv .str), .lf (.pv (.int .i64)), .lf (.pv (.int .i64)), .lf (.fn 90 [(0, 0)] [])], [[.pv (.slice yt4)]], []⟩
def Yk : Sk := ⟨[.lf (.own 0)], Ro.boxes, [some (48, (.cons (.slice (.slice yt1)) .nil))]⟩
def A3n (k : Nat) : EnvL := [(55, [Dz k]), (109, [Auv k])]
def Akr (k : Nat) : Cfg := mkC (A3n k) 74 1 0
def P6 (k : Nat) : H71 → Option H79 := hid (Ba (Akr k) k Tryz.f89 Ro Yk 75 [(.int .i64), (.int .i64)] true)
def Auf (k : Nat) : Sig := ⟨Ro, Yk, Bd Ro.tys Yk.tys 75 [(.int .i64), (.int .i64)] true (P6 k)⟩
noncomputable def Aks (k : Nat) : H71 → Option H79
 | (a0, a1, a2, a3) => ((Bu k) (([([123] : List Int)] : List (List Int)), a3)).bind (orP (fun o1 => ((Qj k) (a0, a1, a2, o1)).bind (orP (fun o3 => ((Bu k) (([([125] : List Int)] : List (List Int)), o3.1)).bind (orP (fun o5 => some (.inl (o5, o3.2))) (fun o6 => some (.inr (o6.1, o6.2))))) (fun o4 => some (.inr (o4.1, o4.2))))) (fun o2 => some (.inr (o2.1, o2.2))))
theorem A3o (k : Nat) (x : H71) : P6 k x = Aks k x := (Ae _ _).trans (by kernel_rfl)
theorem Ayo (k : Nat) : Ac Tryz.prog 89 (Auf k) := Bv (Akr k) k 75 [(.int .i64), (.int .i64)] true rfl ⟨⟨D7 k, trivial⟩, ⟨Ay7 k, trivial⟩, trivial⟩ Ad Tryz.func89 (by kernel_rfl)
abbrev H80 : Type := ((List Int) × (Int) × (Int) × (Int) × (List (YT4)) × (List ((List (List (YT1))) × (Unit)))) ⊕ ((Int) × (Int))
def R2 : Sk := ⟨[.lf (.ptr 0 0)], [[.pv (.slice yt4)]], []⟩
def Y2 : Sk := ⟨[.agg [.pv .str, .pv (.int .i64), .own 0, .pv (.int .i64), .pv (.int .i64)]], R2.boxes, [some (48, (.cons (.slice (.slice yt1)) .nil))]⟩
def A4i (k : Nat) : EnvL := [(88, [Uf k]), (54, [K8 k]), (89, [Auf k])]
def Alp (k : Nat) : Cfg := { mkC (A4i k) 75 1 0 with bl := [58, 60] }
def Qe (k : Nat) : (List (YT4)) → Option H80 := hid (Ba (Alp k) k Tryz.f57 R2 Y2 75 [(.int .i64), (.int .i64)] true)
def Aup (k : Nat) : Sig := ⟨R2, Y2, Bd R2.tys Y2.tys 75 [(.int .i64), (.int .i64)] true (Qe k)⟩
noncomputable def Alq (k : Nat) : (List (YT4)) → Option H80
 | a0 => ((Js k) (a0)).bind (orP (fun o1 => ((Dj k) (([([111, 102, 102, 115, 101, 116] : List Int)] : List (List Int)), o1.2)).bind (orP (fun o3 => ((Dj k) (([([115, 117, 109] : List Int)] : List (List Int)), o3.2)).bind (orP (fun o5 => ((Dj k) (([([47] : List Int)] : List (List Int)), o5.2)).bind (orP (fun o7 => ((P6 k) (([103, 114, 111, 117, 112] : List Int), (0 : Int), (4 : Int), o7.2)).bind (orP (fun o9 => some (.inl (o1.1, o3.1, o5.1, o7.1, o9.1, o9.2))) (fun o10 => some (.inr (o10.1, o10.2))))) (fun o8 => some (.inr (o8.1, o8.2))))) (fun o6 => some (.inr (o6.1, o6.2))))) (fun o4 => some (.inr (o4.1, o4.2))))) (fun o2 => some (.inr (o2.1, o2.2))))
theorem A4j (k : Nat) (x : (List (YT4))) : Qe k x = Alq k x := (Ae _ _).trans (by kernel_rfl)
theorem Ay1 (k : Nat) : Ac Tryz.prog 57 (Aup k) := Bv (Alp k) k 75 [(.int .i64), (.int .i64)] true rfl ⟨⟨Vr k, trivial⟩, ⟨Mh k, trivial⟩, ⟨Ayo k, trivial⟩, trivial⟩ Ad Tryz.func57 (by kernel_rfl)
abbrev H81 : Type := (List Int) × (Int) × (Int) × (List (YT4)) × (List (YT3))
abbrev H82 : Type := ((List (YT4)) × (List (YT3))) ⊕ ((Int) × (Int))
def Nj : Sk := ⟨[.lf (.ptr 0 0), .lf (.pv .str), .lf (.pv (.int .i64)), .lf (.pv (.int .i64)), .lf (.fn 57 [(0, 0)] [])], [[.pv (.slice yt4)]], []⟩
def Sd : Sk := ⟨[.lf (.own 0)], Nj.boxes, [some (45, yt3)]⟩
def Al5 : Sk := ⟨sparse 37 [(0, .lf (.ptr 0 0)), (1, .lf (.pv .str)), (2, .lf (.pv (.int .i64))), (3, .lf (.pv (.int .i64))), (4, .lf (.fn 57 [(0, 0)] [])), (11, .lf (.own 0))], [[.pv (.slice yt4)]], [some (45, yt3)]⟩
abbrev Zo := H81
def Kd : Zo → St := stOf Al5 86
def Al6 : Sk := ⟨sparse 37 [(0, .lf (.ptr 0 0)), (1, .lf (.pv .str)), (2, .lf (.pv (.int .i64))), (3, .lf (.pv (.int .i64))), (4, .lf (.fn 57 [(0, 0)] [])), (11, .lf (.own 0))], [[.pv (.slice yt4)]], [some (45, yt3)]⟩
abbrev Zp := H81
def I1 : Zp → St := stOf Al6 86
def A44 (k : Nat) : EnvL := [(59, [G7 k]), (61, [Eh k]), (55, [Dz k]), (57, [Aup k])]
def Cy (k : Nat) : FnX H82 := mkXP ({ mkC (A44 k) 86 1 0 with hint := fun i => look none [(2, some Al5), (5, some Al6)] i }) k Tryz.f56 Sd 75 [(.int .i64), (.int .i64)] true
def Qk (k : Nat) : H71 → Option H82 := hid (Ba (Cy k).C k Tryz.f56 Nj Sd 75 [(.int .i64), (.int .i64)] true)
def Auw (k : Nat) : Sig := ⟨Nj, Sd, Bd Nj.tys Sd.tys 75 [(.int .i64), (.int .i64)] true (Qk k)⟩
noncomputable def Zq (k : Nat) (J : JF H82) (L : LF H82) : H71 → Option H82
 | (a0, a1, a2, a3) => L 2 [] k (Kd (a0, a1, a2, a3, []))
theorem A45 (k : Nat) (x : H71) : Qk k x = Zq k (Cy k).J (Cy k).L x := by
 refine (Ae _ _).trans ?_; apply cutX (Cy k) [] [] (st0 (Cy k).C Tryz.f56 Nj x) [] [(2, [], k)] (Zq k · · x) <;> intros <;> kernel_rfl
noncomputable def Zs (k j2 : Nat) (J : JF H82) (L : LF H82) : Zo → Option H82
 | (a0, a1, a2, a3, a4) => ((D5 k) (a0, a3)).bind fun o1 => bif o1.1 then (bif (((List.length a4 : Nat) : Int) == a2) then (((B0 k) ((4 : Int), o1.2)).bind (orP (fun o2 => J 5 [j2] (I1 (a0, a1, a2, o2, a4))) (fun o3 => some (.inr (o3.1, o3.2))))) else (J 5 [j2] (I1 (a0, a1, a2, o1.2, a4)))) else (bif (decide (((List.length a4 : Nat) : Int) < a1)) then (bif (((List.length a4 : Nat) : Int) == a2) then (((B0 k) ((4 : Int), o1.2)).bind (orP (fun o4 => J 5 [j2] (I1 (a0, a1, a2, o4, a4))) (fun o5 => some (.inr (o5.1, o5.2))))) else (J 5 [j2] (I1 (a0, a1, a2, o1.2, a4)))) else (some (.inl (o1.2, a4))))
theorem A47 (k j2 : Nat) (x : Zo) : (Cy k).L 2 [] (j2 + 1) (Kd x) = Zs k j2 (Cy k).J (Cy k).L x := by
 apply cutX (Cy k) [.r, .r, .l, .b, .b] [j2] (Kd x) [(5, [j2])] [(2, [], j2)] (Zs k j2 · · x) <;> intros <;> kernel_rfl
noncomputable def Zr (k j2 : Nat) (J : JF H82) (L : LF H82) : Zp → Option H82
 | (a0, a1, a2, a3, a4) => ((Bu k) (([a0] : List (List Int)), a3)).bind (orP (fun o1 => ((Qe k) (o1)).bind (orP (fun o3 => app 64 a4 ([(o3.1, (o3.2.1, (o3.2.2.2.2.2, ((o3.2.2.1, (o3.2.2.2.1, ())), ()))))] : List (YT3)) fun o5 => L 2 [] j2 (Kd (a0, a1, a2, o3.2.2.2.2.1, o5))) (fun o4 => some (.inr (o4.1, o4.2))))) (fun o2 => some (.inr (o2.1, o2.2))))
theorem A46 (k j2 : Nat) (x : Zp) : (Cy k).J 5 [j2] (I1 x) = Zr k j2 (Cy k).J (Cy k).L x := by
 apply cutX (Cy k) [.r, .r, .l, .b, .b, .r, .b, .r] [j2] (I1 x) [(5, [j2])] [(2, [], j2)] (Zr k j2 · · x) <;> intros <;> kernel_rfl
theorem Ay8 (k : Nat) : Ac Tryz.prog 56 (Auw k) := Bv (Cy k).C k 75 [(.int .i64), (.int .i64)] true rfl ⟨⟨Hn k, trivial⟩, ⟨Ep k, trivial⟩, ⟨D7 k, trivial⟩, ⟨Ay1 k, trivial⟩, trivial⟩ Ad Tryz.func56 (by kernel_rfl)
abbrev H83 : Type := ((Int) × (Int) × (List (YT4))) ⊕ ((Int) × (Int))
def R4 : Sk := ⟨[.lf (.ptr 0 0), .lf (.pv .str)], [[.pv (.slice yt4)]], []⟩
def Y4 : Sk := ⟨[.agg [.pv (.int .i64), .pv (.int .i64)]], R4.boxes, []⟩
def A4m (k : Nat) : EnvL := [(54, [K8 k]), (55, [Dz k])]
def Alt (k : Nat) : Cfg := { mkC (A4m k) 65 1 0 with bl := [58, 60] }
def Mi (k : Nat) : H62 → Option H83 := hid (Ba (Alt k) k Tryz.f58 R4 Y4 75 [(.int .i64), (.int .i64)] true)
def Aur (k : Nat) : Sig := ⟨R4, Y4, Bd R4.tys Y4.tys 75 [(.int .i64), (.int .i64)] true (Mi k)⟩
noncomputable def Alu (k : Nat) : H62 → Option H83
 | (a0, a1) => ((Dj k) (([a0] : List (List Int)), a1)).bind (orP (fun o1 => ((Dj k) ([], o1.2)).bind (orP (fun o3 => ((Bu k) (([([59] : List Int)] : List (List Int)), o3.2)).bind (orP (fun o5 => some (.inl (o1.1, o3.1, o5))) (fun o6 => some (.inr (o6.1, o6.2))))) (fun o4 => some (.inr (o4.1, o4.2))))) (fun o2 => some (.inr (o2.1, o2.2))))
theorem A4n (k : Nat) (x : H62) : Mi k x = Alu k x := (Ae _ _).trans (by kernel_rfl)
theorem Ay3 (k : Nat) : Ac Tryz.prog 58 (Aur k) := Bv (Alt k) k 75 [(.int .i64), (.int .i64)] true rfl ⟨⟨Mh k, trivial⟩, ⟨D7 k, trivial⟩, trivial⟩ Ad Tryz.func58 (by kernel_rfl)
def q4 : List SL := [.pv (.int .i64), .nil .sl, .pv (.int .i64), .pv (.int .i64), .pv (.int .i64), .pv (.int .i64), .pv .bool, .pv (.int .i64)]
def q5 : List SL := [.pv (.int .i64), .own 1, .pv (.int .i64), .pv (.int .i64), .pv (.int .i64), .pv (.int .i64), .pv .bool, .pv (.int .i64)]
abbrev H84 : Type := (List (YT4)) × (Int) × (Int) × (Int) × (Int) × (Int) × (Bool) × (Int) × (Int) × (Int) × (Int) × (Int) × (Int) × (Bool) × (Int) × (List (YT3))
abbrev H85 : Type := ((Int) × (Int) × (Int) × (Int) × (Int) × (Bool) × (Int) × (List (YT4)) × (List (YT3))) ⊕ ((Int) × (Int))
def Rx : Sk := ⟨[.lf (.ptr 0 0)], [[.own 0]], [some (83, yt4)]⟩
def Ry : Sk := ⟨[.agg [.pv (.int .i64), .own 1, .pv (.int .i64), .pv (.int .i64), .pv (.int .i64), .pv (.int .i64), .pv .bool, .pv (.int .i64)]], [[.pv (.slice yt4)]], [none, some (45, yt3)]⟩
def Alc : Sk := ⟨sparse 53 [(0, .lf (.ptr 0 0)), (2, .lf (.ptr 1 0)), (3, .lf (.ptr 2 0))], [[.pv (.slice yt4)], q4, q5], [none, some (45, yt3)]⟩
abbrev Yv := H84
def J7 : Yv → St := stOf Alc 102
def A38 (k : Nat) : EnvL := [(54, [Auj k, K8 k]), (55, [Dz k]), (56, [Auw k]), (58, [Aur k]), (59, [G7 k]), (60, [Jf k]), (61, [Eh k])]
def D9 (k : Nat) : FnX H85 := mkXP ({ mkC (A38 k) 102 1 1 with hint := fun i => look none [(11, some Alc)] i, bl := [58, 60] }) k Tryz.f33 Ry 75 [(.int .i64), (.int .i64)] true
def Qa (k : Nat) : (List (YT4)) → Option H85 := hid (Ba (D9 k).C k Tryz.f33 Rx Ry 75 [(.int .i64), (.int .i64)] true)
def Auk (k : Nat) : Sig := ⟨Rx, Ry, Bd Rx.tys Ry.tys 75 [(.int .i64), (.int .i64)] true (Qa k)⟩
noncomputable def Yw (k : Nat) (J : JF H85) (L : LF H85) : (List (YT4)) → Option H85
 | a0 => ((P9 k) (([([112, 108, 97, 110] : List Int), ([99, 121, 99, 108, 101] : List Int)] : List (List Int)), a0)).bind (orP (fun o1 => ((Bu k) (([([59] : List Int)] : List (List Int)), o1.2)).bind (orP (fun o3 => ((Qk k) (([110, 111, 100, 101] : List Int), (0 : Int), (12 : Int), o3)).bind (orP (fun o5 => ((Mi k) (([111, 117, 116] : List Int), o5.1)).bind (orP (fun o7 => ((Mi k) (([105, 110] : List Int), o7.2.2)).bind (orP (fun o9 => ((Bu k) (([([98, 101, 115, 116] : List Int)] : List (List Int)), o9.2.2)).bind (orP (fun o11 => ((D5 k) (([121, 101, 115] : List Int), o11)).bind fun o13 => bif o13.1 then (((D6 k) (o13.2)).bind fun o14 => J 11 [] (J7 (o14.2.2.2.2, (0 : Int), (0 : Int), (0 : Int), (0 : Int), (0 : Int), false, (0 : Int), o1.1, o7.1, o7.2.1, o9.1, o9.2.1, o13.1, (0 : Int), o5.2))) else (((Bu k) (([([110, 111] : List Int)] : List (List Int)), o13.2)).bind (orP (fun o15 => J 11 [] (J7 (o15, (0 : Int), (0 : Int), (0 : Int), (0 : Int), (0 : Int), false, (0 : Int), o1.1, o7.1, o7.2.1, o9.1, o9.2.1, o13.1, (0 : Int), o5.2))) (fun o16 => some (.inr (o16.1, o16.2)))))) (fun o12 => some (.inr (o12.1, o12.2))))) (fun o10 => some (.inr (o10.1, o10.2))))) (fun o8 => some (.inr (o8.1, o8.2))))) (fun o6 => some (.inr (o6.1, o6.2))))) (fun o4 => some (.inr (o4.1, o4.2))))) (fun o2 => some (.inr (o2.1, o2.2))))
theorem A39 (k : Nat) (x : (List (YT4))) : Qa k x = Yw k (D9 k).J (D9 k).L x := by
 refine (Ae _ _).trans ?_; apply cutX (D9 k) [] [] (st0 (D9 k).C Tryz.f33 Rx x) [(11, [])] [] (Yw k · · x) <;> intros <;> kernel_rfl
noncomputable def Yx (k : Nat) (J : JF H85) (L : LF H85) : Yv → Option H85
 | (a0, a1, a2, a3, a4, a5, a6, a7, a8, a9, a10, a11, a12, a13, a14, a15) => ((Dj k) (([([59] : List Int), ([115, 112, 101, 110, 116] : List Int)] : List (List Int)), a0)).bind (orP (fun o1 => ((Bu k) (([([59] : List Int)] : List (List Int)), o1.2)).bind (orP (fun o3 => idx zt4 o3 (0 : Int) fun o5 => bif (o5.1 != (0 : Int)) then (((B0 k) ((50 : Int), o3)).bind (orP (fun o6 => some (.inl (a8, a9, a10, a11, a12, a13, o1.1, o6, a15))) (fun o7 => some (.inr (o7.1, o7.2))))) else (some (.inl (a8, a9, a10, a11, a12, a13, o1.1, o3, a15)))) (fun o4 => some (.inr (o4.1, o4.2))))) (fun o2 => some (.inr (o2.1, o2.2))))
theorem A4a (k : Nat) (x : Yv) : (D9 k).J 11 [] (J7 x) = Yx k (D9 k).J (D9 k).L x := by
 apply cutX (D9 k) [.r, .r, .r, .r, .r, .r, .r, .r] [] (J7 x) [(11, [])] [] (Yx k · · x) <;> intros <;> kernel_rfl
theorem Ayv (k : Nat) : Ac Tryz.prog 33 (Auk k) := Bv (D9 k).C k 75 [(.int .i64), (.int .i64)] true rfl ⟨⟨Ayu k, Mh k, trivial⟩, ⟨D7 k, trivial⟩, ⟨Ay8 k, trivial⟩, ⟨Ay3 k, trivial⟩, ⟨Hn k, trivial⟩, ⟨Ju k, trivial⟩, ⟨Ep k, trivial⟩, trivial⟩ Ad Tryz.func33 (by kernel_rfl)
abbrev H86 : Type := (Int) × (Int) × (Int) × (Int) × (Int) × (Bool) × (Int) × (Int) × (Int) × (List (YT3))
def Ai5 : Sk := ⟨[.lf (.pv (.slice (.int .u8)))], [], []⟩
def Ai6 : Sk := ⟨[.agg [.pv (.int .i64), .own 0, .pv (.int .i64), .pv (.int .i64), .pv (.int .i64), .pv (.int .i64), .pv .bool, .pv (.int .i64)], .lf (.pv (.int .i64)), .lf (.pv (.int .i64))], [], [some (45, yt3)]⟩
def A2s : Sk := ⟨sparse 22 [(0, .lf (.pv (.slice (.int .u8)))), (2, .lf (.ptr 0 0)), (3, .lf (.ptr 1 0)), (4, .lf (.ptr 2 0)), (5, .lf (.own 0)), (7, .lf (.pv (.slice (.int .u8)))), (9, .lf (.own 0)), (10, .lf (.pv (.int .i64))), (11, .lf (.pv (.int .i64))), (12, .lf (.pv (.int .i64))), (13, .lf (.pv .bool)), (17, .lf (.fn 32 [] [(0, 0), (1, 0), (2, 0)]))], [q4, [.pv (.int .i64)], [.pv (.int .i64)]], [some (83, yt4)]⟩
def Ai3 (k : Nat) : EnvL := [(31, [Ad5 k]), (33, [Auk k])]
def Ai0 (k : Nat) : Cfg := { mkC (Ai3 k) 71 0 0 with bl := [58, 60], ld := [(15, 51), (16, 52)], sr := [(2, 50), (3, 51), (4, 52)] }
def Ai1 (k : Nat) : Cfg := { mkC (Ai3 k) 71 3 0 with bl := [58, 60], ld := [(15, 51), (16, 52)], sr := [(2, 50), (3, 51), (4, 52)] }
def Ai2 : DefC := { g := 32, kd := A2s, caps := [0, 1, 2], pt := 75, tp := [(.int .i64), (.int .i64)], pg := true, new := Dw }
def Hk (k : Nat) : (List (Int)) → Option H86 := hid (M7 (Ai0 k) (Ai1 k) Ai2 k Tryz.f12 3 Ai5 Ai6)
def Ad8 (k : Nat) : Sig := Af Ai5 Ai6 (Hk k)
noncomputable def Ai4 (k : Nat) : (List (Int)) → Option H86
 | a0 => ((L6 k) (a0)).bind fun o1 => bif (o1.1 != (0 : Int)) then (some ((0 : Int), (0 : Int), (0 : Int), (0 : Int), (0 : Int), false, (0 : Int), o1.1, o1.2.1, [])) else (((Qa k) (o1.2.2)).bind (orP (fun o2 => some (o2.1, o2.2.1, o2.2.2.1, o2.2.2.2.1, o2.2.2.2.2.1, o2.2.2.2.2.2.1, o2.2.2.2.2.2.2.1, (0 : Int), (0 : Int), o2.2.2.2.2.2.2.2.2)) (fun o3 => some ((0 : Int), (0 : Int), (0 : Int), (0 : Int), (0 : Int), false, (0 : Int), o3.1, o3.2, []))))
theorem A2r (k : Nat) (x : (List (Int))) : Hk k x = Ai4 k x := (Ae _ _).trans (by kernel_rfl)
theorem Aya (k : Nat) : Ac Tryz.prog 12 (Ad8 k) := sgOKD (Ai0 k) (Ai1 k) Ai2 k 3 rfl rfl ⟨⟨Afp k, trivial⟩, ⟨Ayv k, trivial⟩, trivial⟩ Ad rfl (clo32_R _ _ rfl) (clo32_P _ _ rfl) Tryz.func12 (by kernel_rfl)
def Ap8 : Sk := ⟨[], [], []⟩
def Ap9 : Sk := ⟨[.lf (.pv .bool)], [], []⟩
def A7k (k : Nat) : EnvL := [(30, [Aeg k]), (12, [Ad8 k]), (7, [Ue k]), (9, [On k])]
def Ap6 (k : Nat) : Cfg := { mkC (A7k k) 124 0 0 with bl := [58, 60] }
def Q8 (k : Nat) : Unit → Option Bool := hid (Ag (Ap6 k) k Tryz.f11 Ap8 Ap9)
def Avr (k : Nat) : Sig := Af Ap8 Ap9 (Q8 k)
noncomputable def Ap7 (k : Nat) : Unit → Option Bool
 | _ => ((It k) (())).bind fun o1 => ((Hk k) (o1)).bind fun o2 => bif (o2.2.2.2.2.2.2.2.1 != (0 : Int)) then (some false) else (bif (((List.length o2.2.2.2.2.2.2.2.2.2 : Nat) : Int) != (1 : Int)) then (some false) else (bif (inB (0 : Int) (List.length o2.2.2.2.2.2.2.2.2.2)) then bif (((List.length (rdA zt3 o2.2.2.2.2.2.2.2.2.2 (Int.toNat (0 : Int))).2.2.1 : Nat) : Int) != (1 : Int)) then (some false) else (((Hl k) (o2.1, o2.2.2.2.2.2.2.2.2.2, o2.2.1, o2.2.2.1, o2.2.2.2.1, o2.2.2.2.2.1, o2.2.2.2.2.2.1, o2.2.2.2.2.2.2.1)).bind fun o3 => bif (decide (0 < List.length ([(112 : Int), (108 : Int), (97 : Int), (110 : Int), (32 : Int), (99 : Int), (121 : Int), (99 : Int), (108 : Int), (101 : Int), (32 : Int), (53 : Int), (59 : Int), (32 : Int), (110 : Int), (111 : Int), (100 : Int), (101 : Int)] : List (Int)))) then ((Hk k) (([(112 : Int), (108 : Int), (97 : Int), (110 : Int), (32 : Int), (99 : Int), (121 : Int), (99 : Int), (108 : Int), (101 : Int), (32 : Int), (53 : Int), (59 : Int), (32 : Int), (110 : Int), (111 : Int), (100 : Int), (101 : Int)] : List (Int)))).bind fun o4 => bif (o3.2 == (0 : Int)) then (((It k) (())).bind fun o5 => bif (o3.1 == o5) then (((Hm k) (o2.1, o2.2.2.2.2.2.2.2.2.2, o2.2.1, o2.2.2.1, o2.2.2.2.1, o2.2.2.2.2.1, o2.2.2.2.2.2.1, o2.2.2.2.2.2.2.1)).bind fun o6 => bif o6 then (bif o2.2.2.2.2.2.1 then (bif (o2.2.2.2.2.1 == (200 : Int)) then (bif (o4.2.2.2.2.2.2.2.1 == (50 : Int)) then (some (o4.2.2.2.2.2.2.2.2.1 == (18 : Int))) else (some false)) else (some false)) else (some false)) else (some false)) else (some false)) else (some false) else none) else none))
theorem A7l (k : Nat) (x : Unit) : Q8 k x = Ap7 k x := (Ae _ _).trans (by kernel_rfl)
theorem Az9 (k : Nat) : Ac Tryz.prog 11 (Avr k) := Ah (Ap6 k) k rfl ⟨⟨A0a k, trivial⟩, ⟨Aya k, trivial⟩, ⟨Afy k, trivial⟩, ⟨Vl k, trivial⟩, trivial⟩ Ad Tryz.func11 (by kernel_rfl)
def Ap3 : Sk := ⟨[.agg [.pv (.int .i64), .pv (.slice yt3), .pv (.int .i64), .pv (.int .i64), .pv (.int .i64), .pv (.int .i64), .pv .bool, .pv (.int .i64)]], [], []⟩
def Ap4 : Sk := ⟨[.lf (.pv .bool)], [], []⟩
abbrev A7e := H5
def A7d (k : Nat) : EnvL := [(6, [Avq k]), (7, [Ue k]), (8, [Avk k]), (9, [On k]), (10, [Aea k]), (11, [Avr k])]
def Ap2 (k : Nat) : Cfg := { mkC (A7d k) 88 0 0 with bl := [58, 60] }
def V0 (k : Nat) : H5 → Option Bool := hid (Ag (Ap2 k) k Tryz.f3 Ap3 Ap4)
def Bae (k : Nat) : Sig := Af Ap3 Ap4 (V0 k)
noncomputable def S9 (k : Nat) : H5 → Option Bool
 | (a0, a1, a2, a3, a4, a5, a6, a7) => ((Q7 k) (a0, a1, a2, a3, a4, a5, a6, a7)).bind fun o1 => bif (!o1) then (some true) else (((Hl k) (a0, a1, a2, a3, a4, a5, a6, a7)).bind fun o2 => ((Mn k) (a0, a1, a2, a3, a4, a5, a6, a7)).bind fun o3 => bif (o2.1 == o3.1) then (bif (o2.2 == o3.2) then (((Hm k) (a0, a1, a2, a3, a4, a5, a6, a7)).bind fun o4 => ((Mo k) (a0, a1, a2, a3, a4, a5, a6, a7)).bind fun o5 => bif (o4 == o5) then (((Q8 k) (())).bind fun o6 => some o6) else (some false)) else (some false)) else (some false))
theorem Ack (k : Nat) (x : H5) : V0 k x = S9 k x := (Ae _ _).trans (by kernel_rfl)
theorem Az8 (k : Nat) : Ac Tryz.prog 3 (Bae k) := Ah (Ap2 k) k rfl ⟨⟨Az7 k, trivial⟩, ⟨Afy k, trivial⟩, ⟨Azw k, trivial⟩, ⟨Vl k, trivial⟩, ⟨Af0 k, trivial⟩, ⟨Az9 k, trivial⟩, trivial⟩ Ad Tryz.func3 (by kernel_rfl)
def A7i : Sk := ⟨[], [], []⟩
def A7j : Sk := ⟨[.lf (.pv .bool)], [], []⟩
def A7g (k : Nat) : EnvL := [(30, [Aeg k]), (12, [Ad8 k]), (7, [Ue k]), (9, [On k])]
def A7f (k : Nat) : Cfg := { mkC (A7g k) 124 0 0 with bl := [58, 60] }
def Af8 (k : Nat) : Unit → Option Bool := hid (Ag (A7f k) k Tryz.f11 A7i A7j)
noncomputable def Ap5 (k : Nat) : Unit → Option Bool
 | _ => ((It k) (())).bind fun o1 => ((Hk k) (o1)).bind fun o2 => bif (o2.2.2.2.2.2.2.2.1 != (0 : Int)) then (some false) else (bif (((List.length o2.2.2.2.2.2.2.2.2.2 : Nat) : Int) != (1 : Int)) then (some false) else (bif (inB (0 : Int) (List.length o2.2.2.2.2.2.2.2.2.2)) then bif (((List.length (rdA zt3 o2.2.2.2.2.2.2.2.2.2 (Int.toNat (0 : Int))).2.2.1 : Nat) : Int) != (1 : Int)) then (some false) else (((Hl k) (o2.1, o2.2.2.2.2.2.2.2.2.2, o2.2.1, o2.2.2.1, o2.2.2.2.1, o2.2.2.2.2.1, o2.2.2.2.2.2.1, o2.2.2.2.2.2.2.1)).bind fun o3 => bif (decide (0 < List.length ([(112 : Int), (108 : Int), (97 : Int), (110 : Int), (32 : Int), (99 : Int), (121 : Int), (99 : Int), (108 : Int), (101 : Int), (32 : Int), (53 : Int), (59 : Int), (32 : Int), (110 : Int), (111 : Int), (100 : Int), (101 : Int)] : List (Int)))) then ((Hk k) (([(112 : Int), (108 : Int), (97 : Int), (110 : Int), (32 : Int), (99 : Int), (121 : Int), (99 : Int), (108 : Int), (101 : Int), (32 : Int), (53 : Int), (59 : Int), (32 : Int), (110 : Int), (111 : Int), (100 : Int), (101 : Int)] : List (Int)))).bind fun o4 => bif (o3.2 == (0 : Int)) then (((It k) (())).bind fun o5 => bif (o3.1 == o5) then (((Hm k) (o2.1, o2.2.2.2.2.2.2.2.2.2, o2.2.1, o2.2.2.1, o2.2.2.2.1, o2.2.2.2.2.1, o2.2.2.2.2.2.1, o2.2.2.2.2.2.2.1)).bind fun o6 => bif o6 then (bif o2.2.2.2.2.2.1 then (bif (o2.2.2.2.2.1 == (200 : Int)) then (bif (o4.2.2.2.2.2.2.2.1 == (50 : Int)) then (some (o4.2.2.2.2.2.2.2.2.1 == (18 : Int))) else (some false)) else (some false)) else (some false)) else (some false)) else (some false)) else (some false) else none) else none))
theorem A7h (k : Nat) (x : Unit) : Af8 k x = Ap5 k x := (Ae _ _).trans (by kernel_rfl)
def q6 : List SL := [.pv (.int .i64), .own 0, .pv (.int .i64), .pv (.int .i64), .pv (.int .i64), .pv (.int .i64), .pv .bool, .pv (.int .i64)]
end
section
variable {α β R : Type} {d : α} {l : List α} {i : Nat} {x : α}
theorem Jp (h : l[i]? = some x) : i < l.length := (List.getElem?_eq_some_iff.1 h).1
theorem B3 (h : l[i]? = some x) : x ∈ l := List.mem_of_getElem? h
theorem Pf (h : l[i]? = some x) : l.drop i = x :: l.drop (i + 1) := by
 obtain ⟨h1, h2⟩ := List.getElem?_eq_some_iff.1 h
 rw [List.drop_eq_getElem_cons h1, h2]
theorem At {K : α → Option R} (h : l[i]? = some x) : idx d l (i : Int) K = K x := by
 have := Jp h
 unfold idx
 rw [cinB, if_pos (by omega), Asi, List.getD_eq_getElem?_getD, h]
 rfl
theorem A9 {a b : β} (h : l[i]? = some x) : (bif decide ((i : Int) < ((l.length : Nat) : Int)) then a else b) = a := by
 have := Jp h
 rw [cd, if_pos (by omega)]
theorem Be {a b : β} : (bif decide (((l.length : Nat) : Int) < ((l.length : Nat) : Int)) then a else b) = b := by
 rw [cd, if_neg (by omega)]
theorem Bi (h : l[i]? = some x) (hl : l.length < 1000000) : IntKind.wrap .i64 ((i : Int) + 1) = ((i + 1 : Nat) : Int) := by
 have := Jp h
 rw [w64 (by omega)]
 rfl
theorem As {a b : List Int} {K : List Int → Option R} (h : a.length + b.length ≤ 9223372036854775807) : cat a b K = K (a ++ b) := by
 unfold cat
 rw [cd]
 exact if_pos h
theorem Hf {n : Nat} {a b : List α} {K : List α → Option R} (h : (a.length + b.length) * n ≤ 140737488355328) (h2 : a.length + b.length ≤ 9223372036854775807) : app n a b K = K (a ++ b) := by
 unfold app
 rw [Lt, if_pos ⟨h, h2⟩]
theorem Acq (hz : i ≤ l.length) : i = l.length ∨ ∃ x, l[i]? = some x := by
 by_cases h : i < l.length
 ·exact .inr ⟨l[i], List.getElem?_eq_getElem h⟩
 ·exact .inl (by omega)
theorem Ae9 (l : List α) (p : α → Bool) (g : α → Option Bool) (F : Nat → Int → Option Int) (hl : l.length < 1000000)
  (hF : ∀ j i, F (j + 1) i = bif decide (i < ((l.length : Nat) : Int)) then (idx d l i fun o => (g o).bind fun o2 => bif o2 then some i else F j (IntKind.wrap .i64 (i + 1))) else some (-1))
  (hg : ∀ x ∈ l, g x = some (p x)) : ∀ (j i : Nat), l.length < i + j → i ≤ l.length → ∃ r, F j (i : Int) = some r ∧ decide (r ≥ 0) = (l.drop i).any p
 | 0, i, h, hi => by omega
 | j + 1, i, h, hi => by
  rw [hF]
  rcases Acq hi with rfl | ⟨x, hx⟩
  ·rw [Be, List.drop_length]
   exact ⟨_, rfl, rfl⟩
  ·rw [A9 hx, At hx, hg x (B3 hx), Option.bind_some, Bi hx hl, Pf hx, List.any_cons]
   cases p x with
   | true => exact ⟨_, rfl, by simp⟩
   | false => exact Ae9 l p g F hl hF hg j (i + 1) (by omega) (by have := Jp hx; omega)
theorem any_all (l : List α) (p : α → Bool) : l.any (fun x => !p x) = !(l.all p) := by
 induction l with
 | nil => rfl
 | cons x r ih => rw [List.any_cons, List.all_cons, ih, Bool.not_and]
theorem Aey (l : List α) (p : α → Bool) (F : Nat → Int → Option R) (e r : Option R)
  (h1 : ∀ j i x, l[i]? = some x → F (j + 1) ((i : Nat) : Int) = if p x then F j ((i + 1 : Nat) : Int) else e) (h0 : ∀ j, F (j + 1) ((l.length : Nat) : Int) = r) :
  ∀ (j i : Nat), l.length < i + j → i ≤ l.length → F j (i : Int) = if (l.drop i).all p then r else e
 | 0, i, h, hi => by omega
 | j + 1, i, h, hi => by
  rcases Acq hi with rfl | ⟨x, hx⟩
  ·rw [h0, List.drop_length]
   rfl
  ·rw [h1 j i x hx, Pf hx, List.all_cons]
   cases p x with
   | true => exact Aey l p F e r h1 h0 j (i + 1) (by omega) (by have := Jp hx; omega)
   | false => rfl
theorem Ft (l : List α) (p : α → Bool) (F : Nat → Int → Option R) (e r : Option R)
  (h1 : ∀ j i x, l[i]? = some x → F (j + 1) ((i : Nat) : Int) = if p x then F j ((i + 1 : Nat) : Int) else e) (h0 : ∀ j, F (j + 1) ((l.length : Nat) : Int) = r) (j : Nat) (h : l.length < j) :
  F j 0 = if l.all p then r else e := Aey l p F e r h1 h0 j 0 (by omega) (by omega)
theorem Afa (M : Nat) (l : List α) (f : α → List β) (F : Nat → Int → List β → Option R) (r : List β → Option R)
  (h1 : ∀ j i x b, l[i]? = some x → b.length + (f x).length ≤ M → F (j + 1) ((i : Nat) : Int) b = F j ((i + 1 : Nat) : Int) (b ++ f x)) (h0 : ∀ j b, b.length ≤ M → F (j + 1) ((l.length : Nat) : Int) b = r b) :
  ∀ (j i : Nat) (b : List β), l.length < i + j → i ≤ l.length → b.length + ((l.drop i).flatMap f).length ≤ M → F j (i : Int) b = r (b ++ (l.drop i).flatMap f)
 | 0, i, b, h, hi, hb => by omega
 | j + 1, i, b, h, hi, hb => by
  rcases Acq hi with rfl | ⟨x, hx⟩
  ·rw [h0 _ _ (by omega), List.drop_length]
   simp
  ·rw [Pf hx, List.flatMap_cons, List.length_append] at hb
   rw [h1 j i x b hx (by omega), Afa M l f F r h1 h0 j (i + 1) (b ++ f x) (by omega) (by have := Jp hx; omega) (by rw [List.length_append]; omega), Pf hx, List.flatMap_cons, List.append_assoc]
theorem D0 (M : Nat) (l : List α) (f : α → List β) (F : Nat → Int → List β → Option R) (r : List β → Option R)
  (h1 : ∀ j i x b, l[i]? = some x → b.length + (f x).length ≤ M → F (j + 1) ((i : Nat) : Int) b = F j ((i + 1 : Nat) : Int) (b ++ f x)) (h0 : ∀ j b, b.length ≤ M → F (j + 1) ((l.length : Nat) : Int) b = r b)
  (j : Nat) (b : List β) (h : l.length < j) (hb : b.length + (l.flatMap f).length ≤ M) : F j 0 b = r (b ++ l.flatMap f) :=
 Afa M l f F r h1 h0 j 0 b (by omega) (by omega) hb
theorem Gn (f : α → List β) (m : Nat) : ∀ (l : List α), (∀ x ∈ l, (f x).length ≤ m) → (l.flatMap f).length ≤ l.length * m
 | [], _ => by simp
 | x :: r, h => by
  have := h x (by simp)
  have IH := Gn f m r fun y hy => h y (by simp [hy])
  rw [List.flatMap_cons, List.length_append, List.length_cons, Nat.add_mul]
  omega
end
abbrev Tk := (Int) × ((List Int) × ((Int) × ((Int) × (Unit))))
def A5 (x : Int) : Bool := decide (97 ≤ x) && decide (x ≤ 122)
def Ak (x : Int) : Bool := decide (48 ≤ x) && decide (x ≤ 57)
def Bc (x : Int) : Bool := decide (x = 32 ∨ x = 9 ∨ x = 10 ∨ x = 13)
def C3 (x : Int) : Bool := decide (x = 123 ∨ x = 125 ∨ x = 44 ∨ x = 59 ∨ x = 58 ∨ x = 47 ∨ x = 45)
def Am (x : Int) : Bool := A5 x || (Ak x || decide (x = 95))
def drp : Bool → List Int → List Int
 | _, [] => []
 | true, x :: r => if x = 10 then drp false r else drp true r
 | false, x :: r => if x = 35 then drp true r else if Bc x then drp false r else x :: r
def valD (l : List Int) : Int := l.foldl (fun v c => 10 * v + (c - 48)) 0
def tok1 : List Int → Int × Int × List Int × Int × List Int
 | [] => (40, 0, [], 0, [])
 | x :: r =>
  if A5 x then (if 24 < ((x :: r).takeWhile Am).length then (4, 0, [], 0, []) else (0, 1, (x :: r).takeWhile Am, 0, (x :: r).dropWhile Am))
  else if Ak x then (if 18 < ((x :: r).takeWhile Ak).length then (4, 0, [], 0, []) else (0, 2, (x :: r).takeWhile Ak, valD ((x :: r).takeWhile Ak), (x :: r).dropWhile Ak))
  else if C3 x then (0, 3, [x], 0, r)
  else (40, 0, [], 0, [])
def lx (n : Nat) : Nat → List Int → Int × Int × List Tk
 | 0, _ => (0, 0, [])
 | f + 1, s => match drp false s with
  | [] => (0, 0, [(0, [], 0, (n : Int), ())])
  | x :: r => if (tok1 (x :: r)).1 = 0 then
    (if (lx n f (tok1 (x :: r)).2.2.2.2).1 = 0 then
     (0, 0, ((tok1 (x :: r)).2.1, (tok1 (x :: r)).2.2.1, (tok1 (x :: r)).2.2.2.1, ((n - (x :: r).length : Nat) : Int), ()) :: (lx n f (tok1 (x :: r)).2.2.2.2).2.2)
    else ((lx n f (tok1 (x :: r)).2.2.2.2).1, (lx n f (tok1 (x :: r)).2.2.2.2).2.1, []))
   else ((tok1 (x :: r)).1, ((n - (x :: r).length : Nat) : Int), [])
def toks (b : List Int) : Int × Int × List Tk := if 65536 < b.length then (4, 65536, []) else lx b.length (b.length + 1) b
theorem Ho : ∀ (m : Bool) (s : List Int), drp m s <:+ s
 | _, [] => by cases ‹Bool› <;> simp [drp]
 | true, x :: r => by
  rw [drp]; split
  ·exact (Ho false r).trans (List.suffix_cons x r)
  ·exact (Ho true r).trans (List.suffix_cons x r)
 | false, x :: r => by
  rw [drp]; split
  ·exact (Ho true r).trans (List.suffix_cons x r)
  ·split
   ·exact (Ho false r).trans (List.suffix_cons x r)
   ·exact List.suffix_refl _
theorem Jz (m : Bool) (s : List Int) : (drp m s).length ≤ s.length := (Ho m s).length_le
theorem Jy : ∀ (m : Bool) (s : List Int) {x : Int} {r : List Int}, drp m s = x :: r → x ≠ 35 ∧ Bc x = false
 | _, [], x, r, h => by cases ‹Bool› <;> simp [drp] at h
 | true, y :: q, x, r, h => by
  rw [drp] at h; split at h
  ·exact Jy false q h
  ·exact Jy true q h
 | false, y :: q, x, r, h => by
  rw [drp] at h; split at h
  ·exact Jy true q h
  ·split at h
   ·exact Jy false q h
   ·rename_i h1 h2
    cases h
    exact ⟨h1, by simpa using h2⟩
theorem Agf (s : List Int) (m : Bool) : drp false (drp m s) = drp m s := by
 cases h : drp m s with
 | nil => rfl
 | cons x r =>
  obtain ⟨h1, h2⟩ := Jy m s h
  rw [drp, if_neg h1, h2]
  rfl
theorem Bba {c : Int} (h : Am c = false) : Ak c = false := by
 unfold Am at h
 simp only [Bool.or_eq_false_iff] at h
 exact h.2.1
theorem Jk {x : Int} {r : List Int} (h : (tok1 (x :: r)).1 = 0) :
  (tok1 (x :: r)).2.2.1 ++ (tok1 (x :: r)).2.2.2.2 = x :: r ∧ (tok1 (x :: r)).2.2.1 ≠ [] ∧ (tok1 (x :: r)).2.1 ≠ 0 ∧ (tok1 (x :: r)).2.2.1.length ≤ 24 := by
 simp only [tok1] at h ⊢
 split at h
 ·rename_i h1
  simp only [h1, if_true]
  split at h
  ·simp at h
  ·rename_i h2
   rw [if_neg h2]
   refine ⟨List.takeWhile_append_dropWhile, ?_, by simp, by simp only []; omega⟩
   have : Am x = true := by simp [Am, h1]
   simp [List.takeWhile_cons, this]
 ·rename_i h1
  simp only [h1, Bool.false_eq_true, if_false]
  split at h
  ·rename_i h2
   simp only [h2, if_true]
   split at h
   ·simp at h
   ·rename_i h3
    rw [if_neg h3]
    refine ⟨List.takeWhile_append_dropWhile, ?_, by simp, by simp only []; omega⟩
    simp [List.takeWhile_cons, h2]
  ·rename_i h2
   simp only [h2, Bool.false_eq_true, if_false]
   split at h
   ·rename_i h3; simp [h3]
   ·simp at h
theorem Ld {x : Int} {r : List Int} (h : (tok1 (x :: r)).1 = 0) : (tok1 (x :: r)).2.2.2.2.length ≤ r.length := by
 obtain ⟨h1, h2, _⟩ := Jk h
 have e := congrArg List.length h1
 rw [List.length_append, List.length_cons] at e
 have : (tok1 (x :: r)).2.2.1.length ≠ 0 := fun h => h2 (List.length_eq_zero_iff.1 h)
 omega
theorem Ac0 (n : Nat) : ∀ (f f' : Nat) (s : List Int), s.length < f → s.length < f' → lx n f s = lx n f' s
 | 0, _, _, h, _ => by omega
 | _ + 1, 0, _, _, h => by omega
 | f + 1, f' + 1, s, h, h' => by
  have hl := Jz false s
  rw [lx, lx]
  cases hd : drp false s with
  | nil => rfl
  | cons x r =>
   rw [hd, List.length_cons] at hl
   simp only []
   by_cases h0 : (tok1 (x :: r)).1 = 0
   ·have := Ld h0
    rw [if_pos h0, if_pos h0, Ac0 n f f' _ (by omega) (by omega)]
   ·rw [if_neg h0, if_neg h0]
theorem Aq9 (n : Nat) : ∀ (f : Nat) (s : List Int), (lx n f s).1 = 0 → (lx n f s).2.1 = 0
 | 0, s, _ => rfl
 | f + 1, s, h => by
  rw [lx] at h ⊢
  cases hd : drp false s with
  | nil => rfl
  | cons x r =>
   rw [hd] at h
   simp only [] at h ⊢
   split at h
   ·rename_i h0
    rw [if_pos h0]
    split at h
    ·rename_i h1; rw [if_pos h1]
    ·rename_i h1; exact absurd h h1
   ·rename_i h0; exact absurd h h0
end Go.Proofs.YtcmmgllmncllfaaGreatDoorV
