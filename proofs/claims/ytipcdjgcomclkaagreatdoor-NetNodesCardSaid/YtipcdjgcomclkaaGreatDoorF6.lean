import Derived.Test.YtipcdjgcomclkaaGreatDoorF5
/-! Joined, names shortened: G2, G3. -/
set_option linter.unusedVariables false
set_option linter.unusedSimpArgs false
set_option maxHeartbeats 4000000
set_option maxRecDepth 100000
namespace Go.Proofs.YtipcdjgcomclkaaGreatDoorV
open Go Go.RowKit
noncomputable section
def Akj : Sk := ⟨[.lf (.ptr 0 0), .lf (.ptr 1 0)], [[.pv (.slice yt8)], q11], []⟩
def Akk : Sk := ⟨[.lf (.fn 83 [] [(2, 0), (3, 0)])], [[.pv (.slice yt8)], q11, [.ptr 0 0], [.ptr 1 0]], []⟩
def Akh (k : Nat) : Cfg := mkC [] 54 2 0
def T1 (k : Nat) : H39 → Option H39 := hid (Ab (Akh k) k Tryz.f60 Akj Akk)
def Ayp (k : Nat) : Sig := Ac Akj Akk (T1 k)
noncomputable def Aki (k : Nat) : H39 → Option H39
 | (a0, a1, a2, a3, a4, a5, a6) => some (a0, a1, a2, a3, a4, a5, a6)
theorem Bax (k : Nat) (x : H39) : T1 k x = Aki k x := (Ad _ _).trans (by kernel_rfl)
theorem A3v (k : Nat) : Aa Tryz.prog 60 (Ayp k) := Af (Akh k) (l := []) k rfl trivial Ae Tryz.func60 (by kernel_rfl)
def Akn : Sk := ⟨[.lf (.ptr 0 0), .lf (.ptr 1 1)], [[.pv (.slice yt8)], q11], []⟩
def Ako : Sk := ⟨[.lf (.fn 83 [] [(2, 0), (3, 0)])], [[.pv (.slice yt8)], q11, [.ptr 0 0], [.ptr 1 1]], []⟩
def Akl (k : Nat) : Cfg := mkC [] 54 2 0
def T2 (k : Nat) : H39 → Option H39 := hid (Ab (Akl k) k Tryz.f60 Akn Ako)
def Ayq (k : Nat) : Sig := Ac Akn Ako (T2 k)
noncomputable def Akm (k : Nat) : H39 → Option H39
 | (a0, a1, a2, a3, a4, a5, a6) => some (a0, a1, a2, a3, a4, a5, a6)
theorem Bay (k : Nat) (x : H39) : T2 k x = Akm k x := (Ad _ _).trans (by kernel_rfl)
theorem A3w (k : Nat) : Aa Tryz.prog 60 (Ayq k) := Af (Akl k) (l := []) k rfl trivial Ae Tryz.func60 (by kernel_rfl)
def Ana : Sk := ⟨[.lf (.ptr 0 0), .lf (.ptr 1 2)], [[.pv (.slice yt8)], q11], []⟩
def Anb : Sk := ⟨[.lf (.fn 56 [] [(2, 0), (3, 0)])], [[.pv (.slice yt8)], q11, [.ptr 0 0], [.ptr 1 2]], []⟩
def Am8 (k : Nat) : Cfg := mkC [] 54 2 0
def Uf (k : Nat) : H39 → Option H39 := hid (Ab (Am8 k) k Tryz.f34 Ana Anb)
def Azf (k : Nat) : Sig := Ac Ana Anb (Uf k)
noncomputable def Am9 (k : Nat) : H39 → Option H39
 | (a0, a1, a2, a3, a4, a5, a6) => some (a0, a1, a2, a3, a4, a5, a6)
theorem Bb6 (k : Nat) (x : H39) : Uf k x = Am9 k x := (Ad _ _).trans (by kernel_rfl)
theorem A4o (k : Nat) : Aa Tryz.prog 34 (Azf k) := Af (Am8 k) (l := []) k rfl trivial Ae Tryz.func34 (by kernel_rfl)
def Anf : Sk := ⟨[.lf (.ptr 0 0), .lf (.ptr 1 3)], [[.pv (.slice yt8)], q11], []⟩
def Ang : Sk := ⟨[.lf (.fn 56 [] [(2, 0), (3, 0)])], [[.pv (.slice yt8)], q11, [.ptr 0 0], [.ptr 1 3]], []⟩
def Anc (k : Nat) : Cfg := mkC [] 54 2 0
def Ug (k : Nat) : H39 → Option H39 := hid (Ab (Anc k) k Tryz.f34 Anf Ang)
def Azg (k : Nat) : Sig := Ac Anf Ang (Ug k)
noncomputable def Ane (k : Nat) : H39 → Option H39
 | (a0, a1, a2, a3, a4, a5, a6) => some (a0, a1, a2, a3, a4, a5, a6)
theorem Bb7 (k : Nat) (x : H39) : Ug k x = Ane k x := (Ad _ _).trans (by kernel_rfl)
theorem A4p (k : Nat) : Aa Tryz.prog 34 (Azg k) := Af (Anc k) (l := []) k rfl trivial Ae Tryz.func34 (by kernel_rfl)
def Anj : Sk := ⟨[.lf (.ptr 0 0), .lf (.ptr 1 4)], [[.pv (.slice yt8)], q11], []⟩
def Ank : Sk := ⟨[.lf (.fn 56 [] [(2, 0), (3, 0)])], [[.pv (.slice yt8)], q11, [.ptr 0 0], [.ptr 1 4]], []⟩
def Anh (k : Nat) : Cfg := mkC [] 54 2 0
def Uh (k : Nat) : H39 → Option H39 := hid (Ab (Anh k) k Tryz.f34 Anj Ank)
def Azh (k : Nat) : Sig := Ac Anj Ank (Uh k)
noncomputable def Ani (k : Nat) : H39 → Option H39
 | (a0, a1, a2, a3, a4, a5, a6) => some (a0, a1, a2, a3, a4, a5, a6)
theorem Bb8 (k : Nat) (x : H39) : Uh k x = Ani k x := (Ad _ _).trans (by kernel_rfl)
theorem A4q (k : Nat) : Aa Tryz.prog 34 (Azh k) := Af (Anh k) (l := []) k rfl trivial Ae Tryz.func34 (by kernel_rfl)
def Zg : Sk := ⟨[.lf (.ptr 0 0), .lf (.ptr 1 0)], [[.ptr 2 0], [.ptr 3 5], [.pv (.slice yt8)], q11], []⟩
def Arm : Sk := ⟨[.lf (.nil .ifc)], Zg.boxes, []⟩
def Ark (k : Nat) : Cfg := { mkC [] 60 4 0 with ld := [(3, 1), (4, 0), (5, 9999), (6, 9999), (7, 2), (9, 9999), (10, 9999), (11, 9999)], sr := [(11, 3)] }
def Px (k : Nat) : H39 → Option H39 := hid (Ab (Ark k) k Tryz.f82 Zg Arm)
def A0m (k : Nat) : Sig := Ac Zg Arm (Px k)
noncomputable def Arl (k : Nat) : H39 → Option H39
 | (a0, a1, a2, a3, a4, a5, a6) => idx zt8 a0 (0 : Int) fun o1 => some (a0, a1, a2, a3, a4, a5, o1.2.2.2.1)
theorem Bdz (k : Nat) (x : H39) : Px k x = Arl k x := (Ad _ _).trans (by kernel_rfl)
theorem A5x (k : Nat) : Aa Tryz.prog 82 (A0m k) := Af (Ark k) (l := []) k rfl trivial Ae Tryz.func82 (by kernel_rfl)
abbrev H40 : Type := (Bool) × (Int) × (Int) × (List (YT8)) × (List Int) × (List Int) × (Int) × (Int) × (Int) × (Int)
def Yb : Sk := ⟨[.lf (.ptr 0 0), .lf (.ptr 1 0)], [[.ptr 2 0], [.ptr 3 0], [.pv (.slice yt8)], q11], []⟩
def Alk : Sk := ⟨[.lf (.erp 68 [(.int .i64), (.int .i64)])], Yb.boxes, []⟩
def Ba8 (k : Nat) : EnvL := [(84, [sgpnamed k]), (54, [A7 k]), (55, [A8 k])]
def Ali (k : Nat) : Cfg := { mkC (Ba8 k) 61 4 0 with ef := [(10, (([2], []), ([], [])))], ld := [(8, 1), (9, 0), (12, 9999)], sr := [(12, 3)] }
def Oz (k : Nat) : H39 → Option H40 := hid (Ab (Ali k) k Tryz.f83 Yb Alk)
def Ayz (k : Nat) : Sig := Ac Yb Alk (Oz k)
noncomputable def Alj (k : Nat) : H39 → Option H40
 | (a0, a1, a2, a3, a4, a5, a6) => ((cpnamed k) (a0)).bind fun o1 => bif (!o1.1) then (((A4 k) ((50 : Int), o1.2)).bind fun o2 => some (o2.1, o2.2.1, o2.2.2.1, o2.2.2.2, a1, a2, a3, a4, a5, a6)) else (((A2 k) (o1.2)).bind fun o3 => some (true, (0 : Int), (0 : Int), o3.2.2.2.2, o3.2.1, a2, a3, a4, a5, a6))
theorem Ba9 (k : Nat) (x : H39) : Oz k x = Alj k x := (Ad _ _).trans (by kernel_rfl)
theorem A34 (k : Nat) : Aa Tryz.prog 83 (Ayz k) := Af (Ali k) k rfl ⟨⟨E4 k, trivial⟩, ⟨A9 k, trivial⟩, ⟨Ba k, trivial⟩, trivial⟩ Ae Tryz.func83 (by kernel_rfl)
def Yc : Sk := ⟨[.lf (.ptr 0 0), .lf (.ptr 1 0)], [[.ptr 2 0], [.ptr 3 1], [.pv (.slice yt8)], q11], []⟩
def Aln : Sk := ⟨[.lf (.erp 68 [(.int .i64), (.int .i64)])], Yc.boxes, []⟩
def Bba (k : Nat) : EnvL := [(84, [sgpnamed k]), (54, [A7 k]), (55, [A8 k])]
def All (k : Nat) : Cfg := { mkC (Bba k) 61 4 0 with ef := [(10, (([2], []), ([], [])))], ld := [(8, 1), (9, 0), (12, 9999)], sr := [(12, 3)] }
def O0 (k : Nat) : H39 → Option H40 := hid (Ab (All k) k Tryz.f83 Yc Aln)
def Ay0 (k : Nat) : Sig := Ac Yc Aln (O0 k)
noncomputable def Alm (k : Nat) : H39 → Option H40
 | (a0, a1, a2, a3, a4, a5, a6) => ((cpnamed k) (a0)).bind fun o1 => bif (!o1.1) then (((A4 k) ((50 : Int), o1.2)).bind fun o2 => some (o2.1, o2.2.1, o2.2.2.1, o2.2.2.2, a1, a2, a3, a4, a5, a6)) else (((A2 k) (o1.2)).bind fun o3 => some (true, (0 : Int), (0 : Int), o3.2.2.2.2, a1, o3.2.1, a3, a4, a5, a6))
theorem Bbb (k : Nat) (x : H39) : O0 k x = Alm k x := (Ad _ _).trans (by kernel_rfl)
theorem A35 (k : Nat) : Aa Tryz.prog 83 (Ay0 k) := Af (All k) k rfl ⟨⟨E4 k, trivial⟩, ⟨A9 k, trivial⟩, ⟨Ba k, trivial⟩, trivial⟩ Ae Tryz.func83 (by kernel_rfl)
def Yy : Sk := ⟨[.lf (.ptr 0 0), .lf (.ptr 1 0)], [[.ptr 2 0], [.ptr 3 2], [.pv (.slice yt8)], q11], []⟩
def Apg : Sk := ⟨[.lf (.erp 68 [(.int .i64), (.int .i64)])], Yy.boxes, []⟩
def Bcu (k : Nat) : EnvL := [(54, [A7 k]), (55, [A8 k])]
def Ape (k : Nat) : Cfg := { mkC (Bcu k) 66 4 0 with ef := [(15, (([2], []), ([], [])))], ld := [(13, 1), (14, 0), (17, 9999)], sr := [(17, 3)] }
def Pf (k : Nat) : H39 → Option H40 := hid (Ab (Ape k) k Tryz.f56 Yy Apg)
def Az0 (k : Nat) : Sig := Ac Yy Apg (Pf k)
noncomputable def Apf (k : Nat) : H39 → Option H40
 | (a0, a1, a2, a3, a4, a5, a6) => idx zt8 a0 (0 : Int) fun o1 => bif (o1.1 != (2 : Int)) then (((A4 k) ((50 : Int), a0)).bind fun o2 => some (o2.1, o2.2.1, o2.2.2.1, o2.2.2.2, a1, a2, a3, a4, a5, a6)) else (((A2 k) (a0)).bind fun o3 => some (true, (0 : Int), (0 : Int), o3.2.2.2.2, a1, a2, o3.2.2.1, a4, a5, a6))
theorem Bcv (k : Nat) (x : H39) : Pf k x = Apf k x := (Ad _ _).trans (by kernel_rfl)
theorem A48 (k : Nat) : Aa Tryz.prog 56 (Az0 k) := Af (Ape k) k rfl ⟨⟨A9 k, trivial⟩, ⟨Ba k, trivial⟩, trivial⟩ Ae Tryz.func56 (by kernel_rfl)
def Yz : Sk := ⟨[.lf (.ptr 0 0), .lf (.ptr 1 0)], [[.ptr 2 0], [.ptr 3 3], [.pv (.slice yt8)], q11], []⟩
def Apj : Sk := ⟨[.lf (.erp 68 [(.int .i64), (.int .i64)])], Yz.boxes, []⟩
def Bcw (k : Nat) : EnvL := [(54, [A7 k]), (55, [A8 k])]
def Aph (k : Nat) : Cfg := { mkC (Bcw k) 66 4 0 with ef := [(15, (([2], []), ([], [])))], ld := [(13, 1), (14, 0), (17, 9999)], sr := [(17, 3)] }
def Pg (k : Nat) : H39 → Option H40 := hid (Ab (Aph k) k Tryz.f56 Yz Apj)
def Az1 (k : Nat) : Sig := Ac Yz Apj (Pg k)
noncomputable def Api (k : Nat) : H39 → Option H40
 | (a0, a1, a2, a3, a4, a5, a6) => idx zt8 a0 (0 : Int) fun o1 => bif (o1.1 != (2 : Int)) then (((A4 k) ((50 : Int), a0)).bind fun o2 => some (o2.1, o2.2.1, o2.2.2.1, o2.2.2.2, a1, a2, a3, a4, a5, a6)) else (((A2 k) (a0)).bind fun o3 => some (true, (0 : Int), (0 : Int), o3.2.2.2.2, a1, a2, a3, o3.2.2.1, a5, a6))
theorem Bcx (k : Nat) (x : H39) : Pg k x = Api k x := (Ad _ _).trans (by kernel_rfl)
theorem A49 (k : Nat) : Aa Tryz.prog 56 (Az1 k) := Af (Aph k) k rfl ⟨⟨A9 k, trivial⟩, ⟨Ba k, trivial⟩, trivial⟩ Ae Tryz.func56 (by kernel_rfl)
def Y0 : Sk := ⟨[.lf (.ptr 0 0), .lf (.ptr 1 0)], [[.ptr 2 0], [.ptr 3 4], [.pv (.slice yt8)], q11], []⟩
def Apm : Sk := ⟨[.lf (.erp 68 [(.int .i64), (.int .i64)])], Y0.boxes, []⟩
def Bcy (k : Nat) : EnvL := [(54, [A7 k]), (55, [A8 k])]
def Apk (k : Nat) : Cfg := { mkC (Bcy k) 66 4 0 with ef := [(15, (([2], []), ([], [])))], ld := [(13, 1), (14, 0), (17, 9999)], sr := [(17, 3)] }
def Ph (k : Nat) : H39 → Option H40 := hid (Ab (Apk k) k Tryz.f56 Y0 Apm)
def Az2 (k : Nat) : Sig := Ac Y0 Apm (Ph k)
noncomputable def Apl (k : Nat) : H39 → Option H40
 | (a0, a1, a2, a3, a4, a5, a6) => idx zt8 a0 (0 : Int) fun o1 => bif (o1.1 != (2 : Int)) then (((A4 k) ((50 : Int), a0)).bind fun o2 => some (o2.1, o2.2.1, o2.2.2.1, o2.2.2.2, a1, a2, a3, a4, a5, a6)) else (((A2 k) (a0)).bind fun o3 => some (true, (0 : Int), (0 : Int), o3.2.2.2.2, a1, a2, a3, a4, o3.2.2.1, a6))
theorem Bcz (k : Nat) (x : H39) : Ph k x = Apl k x := (Ad _ _).trans (by kernel_rfl)
theorem A5a (k : Nat) : Aa Tryz.prog 56 (Az2 k) := Af (Apk k) k rfl ⟨⟨A9 k, trivial⟩, ⟨Ba k, trivial⟩, trivial⟩ Ae Tryz.func56 (by kernel_rfl)
abbrev H41 : Type := (List (YT8)) × (List Int) × (List Int) × (List Int) × (List Int) × (List Int) × (List Int) × (List Int) × (Int) × (Int) × (Int) × (Int)
abbrev H42 : Type := (Bool) × (Int) × (Int) × (List (YT8)) × (List Int) × (List Int) × (List Int) × (List Int) × (List Int) × (List Int) × (List Int) × (Int) × (Int) × (Int) × (Int)
def Xz : Sk := ⟨[.lf (.ptr 0 0), .lf (.sb 1 11)], [[.pv (.slice yt8)], q12, [.ptr 0 0], [.ptr 24 5], [.ptr 0 0], [.ptr 24 0], [.ptr 0 0], [.pv .str], [.ptr 0 0], [.ptr 24 1], [.ptr 0 0], [.pv .str], [.ptr 0 0], [.ptr 24 2], [.ptr 0 0], [.pv .str], [.ptr 0 0], [.ptr 24 3], [.ptr 0 0], [.pv .str], [.ptr 0 0], [.ptr 24 4], [.ptr 0 0], [.pv .str], q11], []⟩
def Aij : Sk := ⟨[.lf (.erp 68 [(.int .i64), (.int .i64)])], Xz.boxes, []⟩
def A94 (k : Nat) : EnvL := [(82, [A0m k]), (83, [Ayz k, Ay0 k]), (52, [D6 k]), (56, [Az0 k, Az1 k, Az2 k])]
def Aih (k : Nat) : Cfg := mkC (A94 k) 68 25 0
def Ts (k : Nat) : H41 → Option H42 := hid (Ab (Aih k) (k + 32) Tryz.f32 Xz Aij)
def Aye (k : Nat) : Sig := Ac Xz Aij (Ts k)
noncomputable def Aii (k : Nat) : H41 → Option H42
 | (a0, a1, a2, a3, a4, a5, a6, a7, a8, a9, a10, a11) => ((Px k) (a0, a6, a7, a8, a9, a10, a11)).bind fun o1 => ((Oz k) (o1.1, o1.2.1, o1.2.2.1, o1.2.2.2.1, o1.2.2.2.2.1, o1.2.2.2.2.2.1, o1.2.2.2.2.2.2)).bind fun o2 => bif (!o2.1) then (some (o2.1, o2.2.1, o2.2.2.1, o2.2.2.2.1, a1, a2, a3, a4, a5, o2.2.2.2.2.1, o2.2.2.2.2.2.1, o2.2.2.2.2.2.2.1, o2.2.2.2.2.2.2.2.1, o2.2.2.2.2.2.2.2.2.1, o2.2.2.2.2.2.2.2.2.2)) else (((Bg k) (a1, o2.2.2.2.1)).bind fun o3 => bif (!o3.1) then (some (o3.1, o3.2.1, o3.2.2.1, o3.2.2.2.2, o3.2.2.2.1, a2, a3, a4, a5, o2.2.2.2.2.1, o2.2.2.2.2.2.1, o2.2.2.2.2.2.2.1, o2.2.2.2.2.2.2.2.1, o2.2.2.2.2.2.2.2.2.1, o2.2.2.2.2.2.2.2.2.2)) else (((O0 k) (o3.2.2.2.2, o2.2.2.2.2.1, o2.2.2.2.2.2.1, o2.2.2.2.2.2.2.1, o2.2.2.2.2.2.2.2.1, o2.2.2.2.2.2.2.2.2.1, o2.2.2.2.2.2.2.2.2.2)).bind fun o4 => bif (!o4.1) then (some (o4.1, o4.2.1, o4.2.2.1, o4.2.2.2.1, o3.2.2.2.1, a2, a3, a4, a5, o4.2.2.2.2.1, o4.2.2.2.2.2.1, o4.2.2.2.2.2.2.1, o4.2.2.2.2.2.2.2.1, o4.2.2.2.2.2.2.2.2.1, o4.2.2.2.2.2.2.2.2.2)) else (((Bg k) (a2, o4.2.2.2.1)).bind fun o5 => bif (!o5.1) then (some (o5.1, o5.2.1, o5.2.2.1, o5.2.2.2.2, o3.2.2.2.1, o5.2.2.2.1, a3, a4, a5, o4.2.2.2.2.1, o4.2.2.2.2.2.1, o4.2.2.2.2.2.2.1, o4.2.2.2.2.2.2.2.1, o4.2.2.2.2.2.2.2.2.1, o4.2.2.2.2.2.2.2.2.2)) else (((Pf k) (o5.2.2.2.2, o4.2.2.2.2.1, o4.2.2.2.2.2.1, o4.2.2.2.2.2.2.1, o4.2.2.2.2.2.2.2.1, o4.2.2.2.2.2.2.2.2.1, o4.2.2.2.2.2.2.2.2.2)).bind fun o6 => bif (!o6.1) then (some (o6.1, o6.2.1, o6.2.2.1, o6.2.2.2.1, o3.2.2.2.1, o5.2.2.2.1, a3, a4, a5, o6.2.2.2.2.1, o6.2.2.2.2.2.1, o6.2.2.2.2.2.2.1, o6.2.2.2.2.2.2.2.1, o6.2.2.2.2.2.2.2.2.1, o6.2.2.2.2.2.2.2.2.2)) else (((Bg k) (a3, o6.2.2.2.1)).bind fun o7 => bif (!o7.1) then (some (o7.1, o7.2.1, o7.2.2.1, o7.2.2.2.2, o3.2.2.2.1, o5.2.2.2.1, o7.2.2.2.1, a4, a5, o6.2.2.2.2.1, o6.2.2.2.2.2.1, o6.2.2.2.2.2.2.1, o6.2.2.2.2.2.2.2.1, o6.2.2.2.2.2.2.2.2.1, o6.2.2.2.2.2.2.2.2.2)) else (((Pg k) (o7.2.2.2.2, o6.2.2.2.2.1, o6.2.2.2.2.2.1, o6.2.2.2.2.2.2.1, o6.2.2.2.2.2.2.2.1, o6.2.2.2.2.2.2.2.2.1, o6.2.2.2.2.2.2.2.2.2)).bind fun o8 => bif (!o8.1) then (some (o8.1, o8.2.1, o8.2.2.1, o8.2.2.2.1, o3.2.2.2.1, o5.2.2.2.1, o7.2.2.2.1, a4, a5, o8.2.2.2.2.1, o8.2.2.2.2.2.1, o8.2.2.2.2.2.2.1, o8.2.2.2.2.2.2.2.1, o8.2.2.2.2.2.2.2.2.1, o8.2.2.2.2.2.2.2.2.2)) else (((Bg k) (a4, o8.2.2.2.1)).bind fun o9 => bif (!o9.1) then (some (o9.1, o9.2.1, o9.2.2.1, o9.2.2.2.2, o3.2.2.2.1, o5.2.2.2.1, o7.2.2.2.1, o9.2.2.2.1, a5, o8.2.2.2.2.1, o8.2.2.2.2.2.1, o8.2.2.2.2.2.2.1, o8.2.2.2.2.2.2.2.1, o8.2.2.2.2.2.2.2.2.1, o8.2.2.2.2.2.2.2.2.2)) else (((Ph k) (o9.2.2.2.2, o8.2.2.2.2.1, o8.2.2.2.2.2.1, o8.2.2.2.2.2.2.1, o8.2.2.2.2.2.2.2.1, o8.2.2.2.2.2.2.2.2.1, o8.2.2.2.2.2.2.2.2.2)).bind fun o10 => bif (!o10.1) then (some (o10.1, o10.2.1, o10.2.2.1, o10.2.2.2.1, o3.2.2.2.1, o5.2.2.2.1, o7.2.2.2.1, o9.2.2.2.1, a5, o10.2.2.2.2.1, o10.2.2.2.2.2.1, o10.2.2.2.2.2.2.1, o10.2.2.2.2.2.2.2.1, o10.2.2.2.2.2.2.2.2.1, o10.2.2.2.2.2.2.2.2.2)) else (((Bg k) (a5, o10.2.2.2.1)).bind fun o11 => bif (!o11.1) then (some (o11.1, o11.2.1, o11.2.2.1, o11.2.2.2.2, o3.2.2.2.1, o5.2.2.2.1, o7.2.2.2.1, o9.2.2.2.1, o11.2.2.2.1, o10.2.2.2.2.1, o10.2.2.2.2.2.1, o10.2.2.2.2.2.2.1, o10.2.2.2.2.2.2.2.1, o10.2.2.2.2.2.2.2.2.1, o10.2.2.2.2.2.2.2.2.2)) else (some (true, (0 : Int), (0 : Int), o11.2.2.2.2, o3.2.2.2.1, o5.2.2.2.1, o7.2.2.2.1, o9.2.2.2.1, o11.2.2.2.1, o10.2.2.2.2.1, o10.2.2.2.2.2.1, o10.2.2.2.2.2.2.1, o10.2.2.2.2.2.2.2.1, o10.2.2.2.2.2.2.2.2.1, o10.2.2.2.2.2.2.2.2.2)))))))))))
theorem A95 (k : Nat) (x : H41) : Ts k x = Aii k x := (Ad _ _).trans (by kernel_rfl)
theorem A3c (k : Nat) : Aa Tryz.prog 32 (Aye k) := Af (Aih k) (k + 32) rfl ⟨⟨A5x k, trivial⟩, ⟨A34 k, A35 k, trivial⟩, ⟨Ee k, trivial⟩, ⟨A48 k, A49 k, A5a k, trivial⟩, trivial⟩ Ae Tryz.func32 (by kernel_rfl)
abbrev H43 : Type := (List Int) × (List Int) × (Int) × (Int) × (Int) × (Int) × (Bool) × (Int) × (Int) × (List (YT8))
def fpwalki : Sk := ⟨[.lf (.ptr 0 0)], [[.pv (.slice yt8)]], []⟩
def fpwalko : Sk := ⟨[.agg [.pv .str, .pv .str, .pv (.int .i64), .pv (.int .i64), .pv (.int .i64), .pv (.int .i64)], .lf (.erp 68 [(.int .i64), (.int .i64)])], fpwalki.boxes, []⟩
def fpwalkE (k : Nat) : EnvL := [(59, [A0g k]), (60, [Ayp k, Ayq k]), (33, [D5 k]), (34, [Azf k, Azg k, Azh k]), (32, [Aye k])]
def Asf (k : Nat) : Cfg := mkC (fpwalkE k) 107 1 0
def cpwalk (k : Nat) : (List (YT8)) → Option H43 := hid (Ab (Asf k) k Tryz.f64 fpwalki fpwalko)
def sgpwalk (k : Nat) : Sig := Ac fpwalki fpwalko (cpwalk k)
noncomputable def Asg (k : Nat) : (List (YT8)) → Option H43
 | a0 => ((Uv k) (a0, ([] : List Int), ([] : List Int), (0 : Int), (0 : Int), (0 : Int), (0 : Int))).bind fun o1 => ((T1 k) (o1.1, o1.2.1, o1.2.2.1, o1.2.2.2.1, o1.2.2.2.2.1, o1.2.2.2.2.2.1, o1.2.2.2.2.2.2)).bind fun o2 => ((Bk k) (([119, 105, 116, 104] : List Int), o2.1)).bind fun o3 => ((T2 k) (o3.1, o2.2.1, o2.2.2.1, o2.2.2.2.1, o2.2.2.2.2.1, o2.2.2.2.2.2.1, o2.2.2.2.2.2.2)).bind fun o4 => ((Bk k) (([108, 111, 110, 103] : List Int), o4.1)).bind fun o5 => ((Uf k) (o5.1, o4.2.1, o4.2.2.1, o4.2.2.2.1, o4.2.2.2.2.1, o4.2.2.2.2.2.1, o4.2.2.2.2.2.2)).bind fun o6 => ((Bk k) (([112, 97, 99, 101] : List Int), o6.1)).bind fun o7 => ((Ug k) (o7.1, o6.2.1, o6.2.2.1, o6.2.2.2.1, o6.2.2.2.2.1, o6.2.2.2.2.2.1, o6.2.2.2.2.2.2)).bind fun o8 => ((Bk k) (([108, 101, 97, 115, 116] : List Int), o8.1)).bind fun o9 => ((Uh k) (o9.1, o8.2.1, o8.2.2.1, o8.2.2.2.1, o8.2.2.2.2.1, o8.2.2.2.2.2.1, o8.2.2.2.2.2.2)).bind fun o10 => ((Bk k) (([59] : List Int), o10.1)).bind fun o11 => ((Ts k) (o11.1, o3.2, o5.2, o7.2, o9.2, o11.2, o10.2.1, o10.2.2.1, o10.2.2.2.1, o10.2.2.2.2.1, o10.2.2.2.2.2.1, o10.2.2.2.2.2.2)).bind fun o12 => some (o12.2.2.2.2.2.2.2.2.2.1, o12.2.2.2.2.2.2.2.2.2.2.1, o12.2.2.2.2.2.2.2.2.2.2.2.1, o12.2.2.2.2.2.2.2.2.2.2.2.2.1, o12.2.2.2.2.2.2.2.2.2.2.2.2.2.1, o12.2.2.2.2.2.2.2.2.2.2.2.2.2.2, o12.1, o12.2.1, o12.2.2.1, o12.2.2.2.1)
theorem Bec (k : Nat) (x : (List (YT8))) : cpwalk k x = Asg k x := (Ad _ _).trans (by kernel_rfl)
theorem A58 (k : Nat) : Aa Tryz.prog 64 (sgpwalk k) := Af (Asf k) k rfl ⟨⟨A5s k, trivial⟩, ⟨A3v k, A3w k, trivial⟩, ⟨Ed k, trivial⟩, ⟨A4o k, A4p k, A4q k, trivial⟩, ⟨A3c k, trivial⟩, trivial⟩ Ae Tryz.func64 (by kernel_rfl)
abbrev H44 : Type := (List Int) × (Int) × (List (YT8)) × (List Int) × (Int) × (List (YT1)) × (List (YT2))
abbrev H45 : Type := (Bool) × (Int) × (Int) × (List Int) × (Int) × (List (YT8)) × (List Int) × (Int) × (List (YT1)) × (List (YT2))
def Xa : Sk := ⟨[.lf (.ptr 0 0), .lf (.ptr 1 0), .lf (.ptr 2 0), .lf (.ptr 3 0), .lf (.ptr 4 0)], [[.ptr 5 0], [.pv .str], [.ptr 6 2], [.pv (.int .i64)], [.fn 64 [(5, 0)] []], [.pv (.slice yt8)], q10], [some (60, yt1)]⟩
def Xb : Sk := ⟨[.lf (.erp 68 [(.int .i64), (.int .i64)])], [[.ptr 5 0], [.pv .str], [.ptr 6 2], [.pv (.int .i64)], [.fn 64 [(5, 0)] []], [.pv (.slice yt8)], q13], [some (60, yt1), some (120, yt2)]⟩
def Ag2 : Sk := ⟨sparse 37 [(0, .lf (.ptr 0 0)), (1, .lf (.ptr 1 0)), (2, .lf (.ptr 2 0)), (3, .lf (.ptr 3 0)), (4, .lf (.ptr 4 0))], [[.ptr 5 0], [.pv .str], [.ptr 6 2], [.pv (.int .i64)], [.fn 64 [(5, 0)] []], [.pv (.slice yt8)], q13], [some (60, yt1), some (120, yt2)]⟩
abbrev W7 := H44
def Mn : W7 → St := stOf Ag2 85
def A89 (k : Nat) : EnvL := [(53, [Dk k]), (54, [A7 k]), (55, [A8 k]), (64, [sgpwalk k])]
def Fg (k : Nat) : FnX H45 := mkX ({ mkC (A89 k) 85 7 1 with hint := fun i => look none [(1, some Ag2)] i, ld := [(29, 2), (30, 2), (31, 9999), (32, 6), (33, 54), (36, 9999)], sr := [(36, 6)] }) k Tryz.f86 Xb
def Ok (k : Nat) : H37 → Option H45 := hid (Ab (Fg k).C k Tryz.f86 Xa Xb)
def Axy (k : Nat) : Sig := Ac Xa Xb (Ok k)
noncomputable def W9 (k : Nat) (J : JF H45) (L : LF H45) : H37 → Option H45
 | (a0, a1, a2, a3, a4, a5) => L 1 [] k (Mn (a0, a1, a2, a3, a4, a5, []))
theorem A9a (k : Nat) (x : H37) : Ok k x = W9 k (Fg k).J (Fg k).L x := by
 refine (Ad _ _).trans ?_; apply cutX (Fg k) [] [] (st0 (Fg k).C Tryz.f86 Xa x) [] [(1, [], k)] (W9 k · · x) <;> intros <;> kernel_rfl
noncomputable def Mo (k j1 : Nat) (J : JF H45) (L : LF H45) : W7 → Option H45
 | (a0, a1, a2, a3, a4, a5, a6) => ((C0 k) (a0, a2)).bind fun o1 => bif o1.1 then (bif (((List.length a6 : Nat) : Int) == a1) then (((A4 k) ((4 : Int), o1.2)).bind fun o2 => some (o2.1, o2.2.1, o2.2.2.1, a0, a1, o2.2.2.2, a3, a4, a5, a6)) else (((A2 k) (o1.2)).bind fun o3 => ((cpwalk k) (o3.2.2.2.2)).bind fun o4 => bif (!o4.2.2.2.2.2.2.1) then (some (o4.2.2.2.2.2.2.1, o4.2.2.2.2.2.2.2.1, o4.2.2.2.2.2.2.2.2.1, a0, a1, o4.2.2.2.2.2.2.2.2.2, a3, a4, a5, a6)) else (app 64 a6 ([(o4.1, (o4.2.1, (o4.2.2.1, (o4.2.2.2.1, (o4.2.2.2.2.1, (o4.2.2.2.2.2.1, ()))))))] : List (YT2)) fun o5 => L 1 [] j1 (Mn (a0, a1, o4.2.2.2.2.2.2.2.2.2, a3, a4, a5, o5))))) else (some (true, (0 : Int), (0 : Int), a0, a1, o1.2, a3, a4, a5, a6))
theorem W8 (k j1 : Nat) (x : W7) : (Fg k).L 1 [] (j1 + 1) (Mn x) = Mo k j1 (Fg k).J (Fg k).L x := by
 apply cutX (Fg k) [.r, .l, .b, .b] [j1] (Mn x) [] [(1, [], j1)] (Mo k j1 · · x) <;> intros <;> kernel_rfl
theorem A2u (k : Nat) : Aa Tryz.prog 86 (Axy k) := Af (Fg k).C k rfl ⟨⟨Do k, trivial⟩, ⟨A9 k, trivial⟩, ⟨Ba k, trivial⟩, ⟨A58 k, trivial⟩, trivial⟩ Ae Tryz.func86 (by kernel_rfl)
def Aq7 : Sk := ⟨[.lf (.ptr 0 0), .lf (.ptr 1 2)], [[.pv (.slice yt8)], [.pv .str, .nil .sl, .pv (.int .i64)]], []⟩
def Aq8 : Sk := ⟨[.lf (.fn 82 [] [(2, 0), (3, 0)])], [[.pv (.slice yt8)], [.pv .str, .nil .sl, .pv (.int .i64)], [.ptr 0 0], [.ptr 1 2]], []⟩
def Aq5 (k : Nat) : Cfg := mkC [] 54 2 0
def Uw (k : Nat) : H24 → Option H24 := hid (Ab (Aq5 k) k Tryz.f59 Aq7 Aq8)
def A0h (k : Nat) : Sig := Ac Aq7 Aq8 (Uw k)
noncomputable def Aq6 (k : Nat) : H24 → Option H24
 | (a0, a1, a2) => some (a0, a1, a2)
theorem Bdv (k : Nat) (x : H24) : Uw k x = Aq6 k x := (Ad _ _).trans (by kernel_rfl)
theorem A5t (k : Nat) : Aa Tryz.prog 59 (A0h k) := Af (Aq5 k) (l := []) k rfl trivial Ae Tryz.func59 (by kernel_rfl)
def Akr : Sk := ⟨[.lf (.ptr 0 0), .lf (.ptr 1 0)], [[.pv (.slice yt8)], [.pv .str, .nil .sl, .pv (.int .i64)]], []⟩
def Aks : Sk := ⟨[.lf (.fn 83 [] [(2, 0), (3, 0)])], [[.pv (.slice yt8)], [.pv .str, .nil .sl, .pv (.int .i64)], [.ptr 0 0], [.ptr 1 0]], []⟩
def Akp (k : Nat) : Cfg := mkC [] 54 2 0
def T4 (k : Nat) : H24 → Option H24 := hid (Ab (Akp k) k Tryz.f60 Akr Aks)
def Ayr (k : Nat) : Sig := Ac Akr Aks (T4 k)
noncomputable def Akq (k : Nat) : H24 → Option H24
 | (a0, a1, a2) => some (a0, a1, a2)
theorem Baz (k : Nat) (x : H24) : T4 k x = Akq k x := (Ad _ _).trans (by kernel_rfl)
theorem A3x (k : Nat) : Aa Tryz.prog 60 (Ayr k) := Af (Akp k) (l := []) k rfl trivial Ae Tryz.func60 (by kernel_rfl)
abbrev H46 : Type := (Int) × (List (YT8)) × (List Int) × (Int)
abbrev H47 : Type := (List (YT8)) × (List Int) × (Int) × (Int)
def fpnamesi : Sk := ⟨[.lf (.ptr 0 0), .lf (.ptr 1 1), .lf (.pv (.int .i64))], [[.pv (.slice yt8)], [.pv .str, .nil .sl, .pv (.int .i64)]], []⟩
def fpnameso : Sk := ⟨[.lf (.fn 97 [] [(2, 0), (3, 0), (4, 0)])], [[.pv (.slice yt8)], [.pv .str, .nil .sl, .pv (.int .i64)], [.ptr 1 1], [.pv (.int .i64)], [.ptr 0 0]], []⟩
def Amn (k : Nat) : Cfg := mkC [] 56 2 0
def cpnames (k : Nat) : H46 → Option H47 := hid (Ab (Amn k) k Tryz.f88 fpnamesi fpnameso)
def sgpnames (k : Nat) : Sig := Ac fpnamesi fpnameso (cpnames k)
noncomputable def Amo (k : Nat) : H46 → Option H47
 | (a0, a1, a2, a3) => some (a1, a2, a3, a0)
theorem Bb0 (k : Nat) (x : H46) : cpnames k x = Amo k x := (Ad _ _).trans (by kernel_rfl)
theorem A4h (k : Nat) : Aa Tryz.prog 88 (sgpnames k) := Af (Amn k) (l := []) k rfl trivial Ae Tryz.func88 (by kernel_rfl)
def Zh : Sk := ⟨[.lf (.ptr 0 0), .lf (.ptr 1 0)], [[.ptr 2 0], [.ptr 3 2], [.pv (.slice yt8)], [.pv .str, .nil .sl, .pv (.int .i64)]], []⟩
def Arp : Sk := ⟨[.lf (.nil .ifc)], Zh.boxes, []⟩
def Arn (k : Nat) : Cfg := { mkC [] 60 4 0 with ld := [(3, 1), (4, 0), (5, 9999), (6, 9999), (7, 2), (9, 9999), (10, 9999), (11, 9999)], sr := [(11, 3)] }
def Py (k : Nat) : H24 → Option H24 := hid (Ab (Arn k) k Tryz.f82 Zh Arp)
def A0n (k : Nat) : Sig := Ac Zh Arp (Py k)
noncomputable def Aro (k : Nat) : H24 → Option H24
 | (a0, a1, a2) => idx zt8 a0 (0 : Int) fun o1 => some (a0, a1, o1.2.2.2.1)
theorem Bd0 (k : Nat) (x : H24) : Py k x = Aro k x := (Ad _ _).trans (by kernel_rfl)
theorem A5y (k : Nat) : Aa Tryz.prog 82 (A0n k) := Af (Arn k) (l := []) k rfl trivial Ae Tryz.func82 (by kernel_rfl)
def Yd : Sk := ⟨[.lf (.ptr 0 0), .lf (.ptr 1 0)], [[.ptr 2 0], [.ptr 3 0], [.pv (.slice yt8)], [.pv .str, .nil .sl, .pv (.int .i64)]], []⟩
def Alq : Sk := ⟨[.lf (.erp 68 [(.int .i64), (.int .i64)])], Yd.boxes, []⟩
def Bbc (k : Nat) : EnvL := [(84, [sgpnamed k]), (54, [A7 k]), (55, [A8 k])]
def Alo (k : Nat) : Cfg := { mkC (Bbc k) 61 4 0 with ef := [(10, (([2], []), ([], [])))], ld := [(8, 1), (9, 0), (12, 9999)], sr := [(12, 3)] }
def O1 (k : Nat) : H24 → Option H27 := hid (Ab (Alo k) k Tryz.f83 Yd Alq)
def Ay1 (k : Nat) : Sig := Ac Yd Alq (O1 k)
noncomputable def Alp (k : Nat) : H24 → Option H27
 | (a0, a1, a2) => ((cpnamed k) (a0)).bind fun o1 => bif (!o1.1) then (((A4 k) ((50 : Int), o1.2)).bind fun o2 => some (o2.1, o2.2.1, o2.2.2.1, o2.2.2.2, a1, a2)) else (((A2 k) (o1.2)).bind fun o3 => some (true, (0 : Int), (0 : Int), o3.2.2.2.2, o3.2.1, a2))
theorem Bbd (k : Nat) (x : H24) : O1 k x = Alp k x := (Ad _ _).trans (by kernel_rfl)
theorem A36 (k : Nat) : Aa Tryz.prog 83 (Ay1 k) := Af (Alo k) k rfl ⟨⟨E4 k, trivial⟩, ⟨A9 k, trivial⟩, ⟨Ba k, trivial⟩, trivial⟩ Ae Tryz.func83 (by kernel_rfl)
def Amd : Sk := ⟨[.lf (.rpt [(.slice yt8)])], [], []⟩
def Ame : Sk := ⟨[.lf (.pv .bool)], [], []⟩
def Bbr (k : Nat) : EnvL := [(96, [Ab6 k])]
def Amb (k : Nat) : Cfg := mkC (Bbr k) 70 0 0
def Lu (k : Nat) : (List (YT8)) → Option Bool := hid (Ab (Amb k) k Tryz.f84 Amd Ame)
def Ace (k : Nat) : Sig := Ac Amd Ame (Lu k)
noncomputable def Amc (k : Nat) : (List (YT8)) → Option Bool
 | a0 => idx zt8 a0 (0 : Int) fun o1 => bif (o1.1 == (1 : Int)) then (idx zt8 a0 (0 : Int) fun o2 => ((Ln k) (o2.2.1)).bind fun o3 => some (!o3)) else (some false)
theorem Bbs (k : Nat) (x : (List (YT8))) : Lu k x = Amc k x := (Ad _ _).trans (by kernel_rfl)
theorem Aef (k : Nat) : Aa Tryz.prog 84 (Ace k) := Af (Amb k) k rfl ⟨⟨Ad1 k, trivial⟩, trivial⟩ Ae Tryz.func84 (by kernel_rfl)
def Aku : Sk := ⟨[.lf (.ptr 0 0), .lf (.ptr 1 0)], [[.pv (.slice yt8)], [.pv .str]], []⟩
def Akv : Sk := ⟨[.lf (.fn 83 [] [(2, 0), (3, 0)])], [[.pv (.slice yt8)], [.pv .str], [.ptr 0 0], [.ptr 1 0]], []⟩
def Akt (k : Nat) : Cfg := mkC [] 54 2 0
def J0 (k : Nat) : H21 → Option H21 := hid (Ab (Akt k) k Tryz.f60 Aku Akv)
def Acd (k : Nat) : Sig := Ac Aku Akv (J0 k)
noncomputable def I3 (k : Nat) : H21 → Option H21
 | (a0, a1) => some (a0, a1)
theorem Kb (k : Nat) (x : H21) : J0 k x = I3 k x := (Ad _ _).trans (by kernel_rfl)
theorem Aee (k : Nat) : Aa Tryz.prog 60 (Acd k) := Af (Akt k) (l := []) k rfl trivial Ae Tryz.func60 (by kernel_rfl)
abbrev H48 : Type := (Bool) × (Int) × (Int) × (List (YT8)) × (List Int)
def Ye : Sk := ⟨[.lf (.ptr 0 0), .lf (.ptr 1 0)], [[.ptr 2 0], [.ptr 3 0], [.pv (.slice yt8)], [.pv .str]], []⟩
def Alt : Sk := ⟨[.lf (.erp 68 [(.int .i64), (.int .i64)])], Ye.boxes, []⟩
def Bbe (k : Nat) : EnvL := [(84, [sgpnamed k]), (54, [A7 k]), (55, [A8 k])]
def Alr (k : Nat) : Cfg := { mkC (Bbe k) 61 4 0 with ef := [(10, (([2], []), ([], [])))], ld := [(8, 1), (9, 0), (12, 9999)], sr := [(12, 3)] }
def O2 (k : Nat) : H21 → Option H48 := hid (Ab (Alr k) k Tryz.f83 Ye Alt)
def Ay2 (k : Nat) : Sig := Ac Ye Alt (O2 k)
noncomputable def Als (k : Nat) : H21 → Option H48
 | (a0, a1) => ((cpnamed k) (a0)).bind fun o1 => bif (!o1.1) then (((A4 k) ((50 : Int), o1.2)).bind fun o2 => some (o2.1, o2.2.1, o2.2.2.1, o2.2.2.2, a1)) else (((A2 k) (o1.2)).bind fun o3 => some (true, (0 : Int), (0 : Int), o3.2.2.2.2, o3.2.1))
theorem Bbf (k : Nat) (x : H21) : O2 k x = Als k x := (Ad _ _).trans (by kernel_rfl)
theorem A37 (k : Nat) : Aa Tryz.prog 83 (Ay2 k) := Af (Alr k) k rfl ⟨⟨E4 k, trivial⟩, ⟨A9 k, trivial⟩, ⟨Ba k, trivial⟩, trivial⟩ Ae Tryz.func83 (by kernel_rfl)
def X0 : Sk := ⟨[.lf (.ptr 0 0), .lf (.sb 1 1)], [[.pv (.slice yt8)], [.fn 83 [] [(2, 0), (3, 0)]], [.ptr 0 0], [.ptr 4 0], [.pv .str]], []⟩
def Aip : Sk := ⟨[.lf (.erp 68 [(.int .i64), (.int .i64)])], X0.boxes, []⟩
def A98 (k : Nat) : EnvL := [(83, [Ay2 k])]
def Aio (k : Nat) : Cfg := mkC (A98 k) 68 5 0
def Jy (k : Nat) : H21 → Option H48 := hid (Ab (Aio k) (k + 32) Tryz.f32 X0 Aip)
def Aca (k : Nat) : Sig := Ac X0 Aip (Jy k)
noncomputable def I2 (k : Nat) : H21 → Option H48
 | (a0, a1) => ((O2 k) (a0, a1)).bind fun o1 => bif (!o1.1) then (some (o1.1, o1.2.1, o1.2.2.1, o1.2.2.2.1, o1.2.2.2.2)) else (some (true, (0 : Int), (0 : Int), o1.2.2.2.1, o1.2.2.2.2))
theorem Ka (k : Nat) (x : H21) : Jy k x = I2 k x := (Ad _ _).trans (by kernel_rfl)
theorem Aeb (k : Nat) : Aa Tryz.prog 32 (Aca k) := Af (Aio k) (k + 32) rfl ⟨⟨A37 k, trivial⟩, trivial⟩ Ae Tryz.func32 (by kernel_rfl)
def X2 : Sk := ⟨[.lf (.ptr 0 0), .lf (.sb 1 1)], [[.pv (.slice yt8)], [.fn 52 [] [(2, 0), (3, 0)]], [.ptr 0 0], [.pv .str]], []⟩
def Ais : Sk := ⟨[.lf (.erp 68 [(.int .i64), (.int .i64)])], X2.boxes, []⟩
def A99 (k : Nat) : EnvL := [(52, [D6 k])]
def Aiq (k : Nat) : Cfg := mkC (A99 k) 68 4 0
def Jz (k : Nat) : H21 → Option H48 := hid (Ab (Aiq k) (k + 32) Tryz.f32 X2 Ais)
def Acb (k : Nat) : Sig := Ac X2 Ais (Jz k)
noncomputable def X1 (k : Nat) : H21 → Option H48
 | (a0, a1) => ((Bg k) (a1, a0)).bind fun o1 => bif (!o1.1) then (some (o1.1, o1.2.1, o1.2.2.1, o1.2.2.2.2, o1.2.2.2.1)) else (some (true, (0 : Int), (0 : Int), o1.2.2.2.2, o1.2.2.2.1))
theorem Air (k : Nat) (x : H21) : Jz k x = X1 k x := (Ad _ _).trans (by kernel_rfl)
theorem Aec (k : Nat) : Aa Tryz.prog 32 (Acb k) := Af (Aiq k) (k + 32) rfl ⟨⟨Ee k, trivial⟩, trivial⟩ Ae Tryz.func32 (by kernel_rfl)
abbrev H49 : Type := (Int) × (List Int) × (Int) × (List (YT8)) × (List (List Int))
abbrev H50 : Type := (Int) × (List Int) × (Int) × (List (YT8))
abbrev H51 : Type := (Bool) × (Int) × (Int) × (Int) × (List Int) × (Int) × (List (YT8)) × (List (List Int))
def Yq : Sk := ⟨[.lf (.ptr 0 0), .lf (.ptr 1 0), .lf (.ptr 2 0)], [[.ptr 3 1], [.pv (.int .i64)], [.ptr 4 0], [.pv .str, .nil .sl, .pv (.int .i64)], [.pv (.slice yt8)]], []⟩
def Yr : Sk := ⟨[.lf (.erp 68 [(.int .i64), (.int .i64)])], [[.ptr 3 1], [.pv (.int .i64)], [.ptr 4 0], [.pv .str, .own 0, .pv (.int .i64)], [.pv (.slice yt8)]], [some (9, .str)]⟩
def Amm : Sk := ⟨sparse 44 [(0, .lf (.ptr 0 0)), (1, .lf (.ptr 1 0)), (2, .lf (.ptr 2 0))], [[.ptr 3 1], [.pv (.int .i64)], [.ptr 4 0], [.pv .str, .own 0, .pv (.int .i64)], [.pv (.slice yt8)]], [some (9, .str)]⟩
abbrev Yo := H49
def Ke : Yo → St := stOf Amm 136
def Bby (k : Nat) : EnvL := [(84, [Ace k]), (54, [A7 k]), (60, [Acd k]), (32, [Aca k, Acb k]), (53, [Dk k]), (33, [D5 k]), (55, [A8 k])]
def Fk (k : Nat) : FnX H51 := mkX ({ mkC (Bby k) 136 5 0 with hint := fun i => look none [(1, some Amm)] i, ef := [(20, (([4, 52], []), ([68, 112], []))), (22, (([4, 52, 68, 69, 112], []), ([], []))), (39, (([4], []), ([87, 131], []))), (41, (([4, 87, 88, 131], []), ([], [])))], ld := [(18, 2), (19, 2), (26, 0), (27, 0), (28, 9999), (29, 3), (30, 52), (33, 9999), (37, 2), (38, 2)], sr := [(33, 3)], rb := [21, 40] }) k Tryz.f97 Yr
def O7 (k : Nat) : H50 → Option H51 := hid (Ab (Fk k).C k Tryz.f97 Yq Yr)
def Ay8 (k : Nat) : Sig := Ac Yq Yr (O7 k)
noncomputable def Yp (k : Nat) (J : JF H51) (L : LF H51) : H50 → Option H51
 | (a0, a1, a2, a3) => L 1 [] k (Ke (a0, a1, a2, a3, []))
theorem Bbz (k : Nat) (x : H50) : O7 k x = Yp k (Fk k).J (Fk k).L x := by
 refine (Ad _ _).trans ?_; apply cutX (Fk k) [] [] (st0 (Fk k).C Tryz.f97 Yq x) [] [(1, [], k)] (Yp k · · x) <;> intros <;> kernel_rfl
noncomputable def Kf (k j1 : Nat) (J : JF H51) (L : LF H51) : Yo → Option H51
 | (a0, a1, a2, a3, a4) => bif (((List.length a4 : Nat) : Int) == a0) then (((Lu k) (a3)).bind fun o1 => bif o1 then (((A4 k) ((4 : Int), a3)).bind fun o2 => some (o2.1, o2.2.1, o2.2.2.1, a0, a1, a2, o2.2.2.2, a4)) else (((J0 k) (a3, ([] : List Int))).bind fun o3 => ((Jy k) (o3.1, o3.2)).bind fun o4 => bif (!o4.1) then (some (o4.1, o4.2.1, o4.2.2.1, a0, a1, a2, o4.2.2.2.1, a4)) else (app 16 a4 ([o4.2.2.2.2] : List (List Int)) fun o5 => ((C0 k) (([44] : List Int), o4.2.2.2.1)).bind fun o6 => bif (!o6.1) then (((Bk k) (([59] : List Int), o6.2)).bind fun o7 => ((Jz k) (o7.1, o7.2)).bind fun o8 => some (o8.1, o8.2.1, o8.2.2.1, a0, a1, a2, o8.2.2.2.1, o5)) else (((A2 k) (o6.2)).bind fun o9 => L 1 [] j1 (Ke (a0, a1, a2, o9.2.2.2.2, o5)))))) else (((J0 k) (a3, ([] : List Int))).bind fun o10 => ((Jy k) (o10.1, o10.2)).bind fun o11 => bif (!o11.1) then (some (o11.1, o11.2.1, o11.2.2.1, a0, a1, a2, o11.2.2.2.1, a4)) else (app 16 a4 ([o11.2.2.2.2] : List (List Int)) fun o12 => ((C0 k) (([44] : List Int), o11.2.2.2.1)).bind fun o13 => bif (!o13.1) then (((Bk k) (([59] : List Int), o13.2)).bind fun o14 => ((Jz k) (o14.1, o14.2)).bind fun o15 => some (o15.1, o15.2.1, o15.2.2.1, a0, a1, a2, o15.2.2.2.1, o12)) else (((A2 k) (o13.2)).bind fun o16 => L 1 [] j1 (Ke (a0, a1, a2, o16.2.2.2.2, o12)))))
theorem Ql (k j1 : Nat) (x : Yo) : (Fk k).L 1 [] (j1 + 1) (Ke x) = Kf k j1 (Fk k).J (Fk k).L x := by
 apply cutX (Fk k) [.r, .b, .b] [j1] (Ke x) [] [(1, [], j1)] (Kf k j1 · · x) <;> intros <;> kernel_rfl
theorem A4g (k : Nat) : Aa Tryz.prog 97 (Ay8 k) := Af (Fk k).C k rfl ⟨⟨Aef k, trivial⟩, ⟨A9 k, trivial⟩, ⟨Aee k, trivial⟩, ⟨Aeb k, Aec k, trivial⟩, ⟨Do k, trivial⟩, ⟨Ed k, trivial⟩, ⟨Ba k, trivial⟩, trivial⟩ Ae Tryz.func97 (by kernel_rfl)
abbrev H52 : Type := (Bool) × (Int) × (Int) × (List (YT8)) × (List Int) × (Int) × (List Int) × (Int) × (List (List Int))
def Aim : Sk := ⟨[.lf (.ptr 0 0), .lf (.sb 1 4)], [[.pv (.slice yt8)], q14, [.ptr 0 0], [.ptr 11 2], [.ptr 0 0], [.ptr 11 0], [.ptr 0 0], [.pv .str], [.ptr 11 1], [.pv (.int .i64)], [.ptr 0 0], [.pv .str, .nil .sl, .pv (.int .i64)]], []⟩
def Ain : Sk := ⟨[.lf (.erp 68 [(.int .i64), (.int .i64)])], [[.pv (.slice yt8)], q14, [.ptr 0 0], [.ptr 11 2], [.ptr 0 0], [.ptr 11 0], [.ptr 0 0], [.pv .str], [.ptr 11 1], [.pv (.int .i64)], [.ptr 0 0], [.pv .str, .own 0, .pv (.int .i64)]], [some (9, .str)]⟩
def A96 (k : Nat) : EnvL := [(82, [A0n k]), (83, [Ay1 k]), (52, [D6 k]), (97, [Ay8 k])]
def Aik (k : Nat) : Cfg := mkC (A96 k) 69 12 0
def Tt (k : Nat) : H26 → Option H52 := hid (Ab (Aik k) (k + 32) Tryz.f32 Aim Ain)
def Ayf (k : Nat) : Sig := Ac Aim Ain (Tt k)
noncomputable def Ail (k : Nat) : H26 → Option H52
 | (a0, a1, a2, a3, a4) => ((Py k) (a0, a3, a4)).bind fun o1 => ((O1 k) (o1.1, o1.2.1, o1.2.2)).bind fun o2 => bif (!o2.1) then (some (o2.1, o2.2.1, o2.2.2.1, o2.2.2.2.1, a1, a2, o2.2.2.2.2.1, o2.2.2.2.2.2, [])) else (((Bg k) (a1, o2.2.2.2.1)).bind fun o3 => bif (!o3.1) then (some (o3.1, o3.2.1, o3.2.2.1, o3.2.2.2.2, o3.2.2.2.1, a2, o2.2.2.2.2.1, o2.2.2.2.2.2, [])) else (((O7 k) (a2, o2.2.2.2.2.1, o2.2.2.2.2.2, o3.2.2.2.2)).bind fun o4 => bif (!o4.1) then (some (o4.1, o4.2.1, o4.2.2.1, o4.2.2.2.2.2.2.1, o3.2.2.2.1, o4.2.2.2.1, o4.2.2.2.2.1, o4.2.2.2.2.2.1, o4.2.2.2.2.2.2.2)) else (some (true, (0 : Int), (0 : Int), o4.2.2.2.2.2.2.1, o3.2.2.2.1, o4.2.2.2.1, o4.2.2.2.2.1, o4.2.2.2.2.2.1, o4.2.2.2.2.2.2.2))))
theorem A97 (k : Nat) (x : H26) : Tt k x = Ail k x := (Ad _ _).trans (by kernel_rfl)
theorem A3d (k : Nat) : Aa Tryz.prog 32 (Ayf k) := Af (Aik k) (k + 32) rfl ⟨⟨A5y k, trivial⟩, ⟨A36 k, trivial⟩, ⟨Ee k, trivial⟩, ⟨A4g k, trivial⟩, trivial⟩ Ae Tryz.func32 (by kernel_rfl)
abbrev H53 : Type := (List Int) × (Int) × (Bool) × (Int) × (Int) × (List (YT8)) × (List (List Int))
def fpphasei : Sk := ⟨[.lf (.ptr 0 0)], [[.pv (.slice yt8)]], []⟩
def fpphaseo : Sk := ⟨[.agg [.pv .str, .own 0, .pv (.int .i64)], .lf (.erp 68 [(.int .i64), (.int .i64)])], fpphasei.boxes, [some (9, .str)]⟩
def Bdr (k : Nat) : EnvL := [(59, [A0h k]), (60, [Ayr k]), (33, [D5 k]), (88, [sgpnames k]), (32, [Ayf k])]
def Aqv (k : Nat) : Cfg := mkC (Bdr k) 77 1 0
def cpphase (k : Nat) : (List (YT8)) → Option H53 := hid (Ab (Aqv k) k Tryz.f66 fpphasei fpphaseo)
def sgpphase (k : Nat) : Sig := Ac fpphasei fpphaseo (cpphase k)
noncomputable def Aqw (k : Nat) : (List (YT8)) → Option H53
 | a0 => ((Uw k) (a0, ([] : List Int), (0 : Int))).bind fun o1 => ((T4 k) (o1.1, o1.2.1, o1.2.2)).bind fun o2 => ((Bk k) (([58] : List Int), o2.1)).bind fun o3 => ((cpnames k) ((16 : Int), o3.1, o2.2.1, o2.2.2)).bind fun o4 => ((Tt k) (o4.1, o3.2, o4.2.2.2, o4.2.1, o4.2.2.1)).bind fun o5 => some (o5.2.2.2.2.2.2.1, o5.2.2.2.2.2.2.2.1, o5.1, o5.2.1, o5.2.2.1, o5.2.2.2.1, o5.2.2.2.2.2.2.2.2)
theorem Bds (k : Nat) (x : (List (YT8))) : cpphase k x = Aqw k x := (Ad _ _).trans (by kernel_rfl)
theorem A5q (k : Nat) : Aa Tryz.prog 66 (sgpphase k) := Af (Aqv k) k rfl ⟨⟨A5t k, trivial⟩, ⟨A3x k, trivial⟩, ⟨Ed k, trivial⟩, ⟨A4h k, trivial⟩, ⟨A3d k, trivial⟩, trivial⟩ Ae Tryz.func66 (by kernel_rfl)
abbrev H54 : Type := (List Int) × (Int) × (List (YT8)) × (List Int) × (Int) × (List (YT1)) × (List (YT2)) × (List (YT3))
abbrev H55 : Type := (Bool) × (Int) × (Int) × (List Int) × (Int) × (List (YT8)) × (List Int) × (Int) × (List (YT1)) × (List (YT2)) × (List (YT3))
def Xf : Sk := ⟨[.lf (.ptr 0 0), .lf (.ptr 1 0), .lf (.ptr 2 0), .lf (.ptr 3 0), .lf (.ptr 4 0)], [[.ptr 5 0], [.pv .str], [.ptr 6 3], [.pv (.int .i64)], [.fn 66 [(5, 0)] []], [.pv (.slice yt8)], q13], [some (60, yt1), some (120, yt2)]⟩
def Xg : Sk := ⟨[.lf (.erp 68 [(.int .i64), (.int .i64)])], [[.ptr 5 0], [.pv .str], [.ptr 6 3], [.pv (.int .i64)], [.fn 66 [(5, 0)] []], [.pv (.slice yt8)], q15], [some (60, yt1), some (120, yt2), some (122, yt3)]⟩
def Ag7 : Sk := ⟨sparse 37 [(0, .lf (.ptr 0 0)), (1, .lf (.ptr 1 0)), (2, .lf (.ptr 2 0)), (3, .lf (.ptr 3 0)), (4, .lf (.ptr 4 0))], [[.ptr 5 0], [.pv .str], [.ptr 6 3], [.pv (.int .i64)], [.fn 66 [(5, 0)] []], [.pv (.slice yt8)], q15], [some (60, yt1), some (120, yt2), some (122, yt3)]⟩
abbrev Xc := H54
def Mp : Xc → St := stOf Ag7 86
def A9c (k : Nat) : EnvL := [(53, [Dk k]), (54, [A7 k]), (55, [A8 k]), (66, [sgpphase k])]
def Fh (k : Nat) : FnX H55 := mkX ({ mkC (A9c k) 86 7 2 with hint := fun i => look none [(1, some Ag7)] i, ld := [(29, 2), (30, 2), (31, 9999), (32, 6), (33, 54), (36, 9999)], sr := [(36, 6)] }) k Tryz.f87 Xg
def Ol (k : Nat) : H44 → Option H55 := hid (Ab (Fh k).C k Tryz.f87 Xf Xg)
def Ax0 (k : Nat) : Sig := Ac Xf Xg (Ol k)
noncomputable def Xe (k : Nat) (J : JF H55) (L : LF H55) : H44 → Option H55
 | (a0, a1, a2, a3, a4, a5, a6) => L 1 [] k (Mp (a0, a1, a2, a3, a4, a5, a6, []))
theorem A9d (k : Nat) (x : H44) : Ol k x = Xe k (Fh k).J (Fh k).L x := by
 refine (Ad _ _).trans ?_; apply cutX (Fh k) [] [] (st0 (Fh k).C Tryz.f87 Xf x) [] [(1, [], k)] (Xe k · · x) <;> intros <;> kernel_rfl
noncomputable def Mq (k j1 : Nat) (J : JF H55) (L : LF H55) : Xc → Option H55
 | (a0, a1, a2, a3, a4, a5, a6, a7) => ((C0 k) (a0, a2)).bind fun o1 => bif o1.1 then (bif (((List.length a7 : Nat) : Int) == a1) then (((A4 k) ((4 : Int), o1.2)).bind fun o2 => some (o2.1, o2.2.1, o2.2.2.1, a0, a1, o2.2.2.2, a3, a4, a5, a6, a7)) else (((A2 k) (o1.2)).bind fun o3 => ((cpphase k) (o3.2.2.2.2)).bind fun o4 => bif (!o4.2.2.1) then (some (o4.2.2.1, o4.2.2.2.1, o4.2.2.2.2.1, a0, a1, o4.2.2.2.2.2.1, a3, a4, a5, a6, a7)) else (app 48 a7 ([(o4.1, (o4.2.2.2.2.2.2, (o4.2.1, ())))] : List (YT3)) fun o5 => L 1 [] j1 (Mp (a0, a1, o4.2.2.2.2.2.1, a3, a4, a5, a6, o5))))) else (some (true, (0 : Int), (0 : Int), a0, a1, o1.2, a3, a4, a5, a6, a7))
theorem Xd (k j1 : Nat) (x : Xc) : (Fh k).L 1 [] (j1 + 1) (Mp x) = Mq k j1 (Fh k).J (Fh k).L x := by
 apply cutX (Fh k) [.r, .l, .b, .b] [j1] (Mp x) [] [(1, [], j1)] (Mq k j1 · · x) <;> intros <;> kernel_rfl
theorem A2w (k : Nat) : Aa Tryz.prog 87 (Ax0 k) := Af (Fh k).C k rfl ⟨⟨Do k, trivial⟩, ⟨A9 k, trivial⟩, ⟨Ba k, trivial⟩, ⟨A5q k, trivial⟩, trivial⟩ Ae Tryz.func87 (by kernel_rfl)
def fpseesi : Sk := ⟨[.lf (.ptr 0 0), .lf (.pv .str)], [[.pv (.slice yt8)]], []⟩
def fpseeso : Sk := ⟨[.lf (.fn 98 [] [(1, 0), (2, 0)])], [[.pv (.slice yt8)], [.ptr 0 0], [.pv .str]], []⟩
def Ar5 (k : Nat) : Cfg := mkC [] 54 1 0
def cpsees (k : Nat) : H10 → Option H21 := hid (Ab (Ar5 k) k Tryz.f90 fpseesi fpseeso)
def sgpsees (k : Nat) : Sig := Ac fpseesi fpseeso (cpsees k)
noncomputable def Ar7 (k : Nat) : H10 → Option H21
 | (a0, a1) => some (a1, a0)
theorem Bd8 (k : Nat) (x : H10) : cpsees k x = Ar7 k x := (Ad _ _).trans (by kernel_rfl)
theorem A55 (k : Nat) : Aa Tryz.prog 90 (sgpsees k) := Af (Ar5 k) (l := []) k rfl trivial Ae Tryz.func90 (by kernel_rfl)
abbrev H56 : Type := (List Int) × (Int) × (List (YT8))
def Ahe : Sk := ⟨[.lf (.ptr 0 0), .lf (.pv .str), .lf (.pv (.int .i64)), .lf (.ptr 1 0), .lf (.fn 92 [(0, 0)] [])], [[.pv (.slice yt8)], [.nil .sl]], []⟩
def Ahf : Sk := ⟨[.lf (.fn 99 [] [(2, 0), (3, 0), (4, 0), (5, 0), (6, 0)])], [[.pv (.slice yt8)], [.nil .sl], [.ptr 0 0], [.pv .str], [.ptr 1 0], [.pv (.int .i64)], [.fn 92 [(0, 0)] []]], []⟩
def Ahb (k : Nat) : Cfg := mkC [] 60 2 0
def Th (k : Nat) : H56 → Option H24 := hid (Ab (Ahb k) k Tryz.f91 Ahe Ahf)
def Ax1 (k : Nat) : Sig := Ac Ahe Ahf (Th k)
noncomputable def Ahd (k : Nat) : H56 → Option H24
 | (a0, a1, a2) => some (a2, a0, a1)
theorem A9h (k : Nat) (x : H56) : Th k x = Ahd k x := (Ad _ _).trans (by kernel_rfl)
theorem A2z (k : Nat) : Aa Tryz.prog 91 (Ax1 k) := Af (Ahb k) (l := []) k rfl trivial Ae Tryz.func91 (by kernel_rfl)
def Zl : Sk := ⟨[.lf (.ptr 0 0), .lf (.ptr 1 0)], [[.ptr 2 0], [.pv .str], [.pv (.slice yt8)]], []⟩
def Ar6 : Sk := ⟨[.lf (.erp 68 [(.int .i64), (.int .i64)])], Zl.boxes, []⟩
def Bd6 (k : Nat) : EnvL := [(53, [Dk k]), (54, [A7 k])]
def Ar3 (k : Nat) : Cfg := mkC (Bd6 k) 57 3 0
def P1 (k : Nat) : H10 → Option H18 := hid (Ab (Ar3 k) k Tryz.f98 Zl Ar6)
def A0q (k : Nat) : Sig := Ac Zl Ar6 (P1 k)
noncomputable def Ar4 (k : Nat) : H10 → Option H18
 | (a0, a1) => ((C0 k) (a0, a1)).bind fun o1 => bif (!o1.1) then (((A4 k) ((50 : Int), o1.2)).bind fun o2 => some (o2.1, o2.2.1, o2.2.2.1, a0, o2.2.2.2)) else (some (true, (0 : Int), (0 : Int), a0, o1.2))
theorem Bd7 (k : Nat) (x : H10) : P1 k x = Ar4 k x := (Ad _ _).trans (by kernel_rfl)
theorem A54 (k : Nat) : Aa Tryz.prog 98 (A0q k) := Af (Ar3 k) k rfl ⟨⟨Do k, trivial⟩, ⟨A9 k, trivial⟩, trivial⟩ Ae Tryz.func98 (by kernel_rfl)
def Ajz : Sk := ⟨[.lf (.ptr 0 0), .lf (.pv .str), .lf (.ptr 1 0)], [[.pv (.slice yt8)], [.pv .bool, .nil .sl]], []⟩
def Aj0 : Sk := ⟨[.lf (.fn 71 [] [(2, 0), (3, 0), (4, 0)])], [[.pv (.slice yt8)], [.pv .bool, .nil .sl], [.ptr 0 0], [.pv .str], [.ptr 1 0]], []⟩
def Ajx (k : Nat) : Cfg := mkC [] 56 2 0
def Tx (k : Nat) : H29 → Option H30 := hid (Ab (Ajx k) k Tryz.f38 Ajz Aj0)
def Ayl (k : Nat) : Sig := Ac Ajz Aj0 (Tx k)
noncomputable def Ajy (k : Nat) : H29 → Option H30
 | (a0, a1, a2) => some (a1, a2, a0)
theorem Bap (k : Nat) (x : H29) : Tx k x = Ajy k x := (Ad _ _).trans (by kernel_rfl)
theorem A3q (k : Nat) : Aa Tryz.prog 38 (Ayl k) := Af (Ajx k) (l := []) k rfl trivial Ae Tryz.func38 (by kernel_rfl)
abbrev H57 : Type := (Int) × (List (YT8)) × (Bool)
abbrev H58 : Type := (List (YT8)) × (Bool) × (Int)
def Amj : Sk := ⟨[.lf (.ptr 0 0), .lf (.ptr 1 1), .lf (.pv (.int .i64))], [[.pv (.slice yt8)], [.pv .bool, .nil .sl]], []⟩
def Amk : Sk := ⟨[.lf (.fn 97 [] [(2, 0), (3, 0), (4, 0)])], [[.pv (.slice yt8)], [.pv .bool, .nil .sl], [.ptr 1 1], [.pv (.int .i64)], [.ptr 0 0]], []⟩
def Amh (k : Nat) : Cfg := mkC [] 56 2 0
def T9 (k : Nat) : H57 → Option H58 := hid (Ab (Amh k) k Tryz.f88 Amj Amk)
def Ay7 (k : Nat) : Sig := Ac Amj Amk (T9 k)
noncomputable def Ami (k : Nat) : H57 → Option H58
 | (a0, a1, a2) => some (a1, a2, a0)
theorem Bbv (k : Nat) (x : H57) : T9 k x = Ami k x := (Ad _ _).trans (by kernel_rfl)
theorem A4e (k : Nat) : Aa Tryz.prog 88 (Ay7 k) := Af (Amh k) (l := []) k rfl trivial Ae Tryz.func88 (by kernel_rfl)
def X7 : Sk := ⟨[.lf (.ptr 0 0), .lf (.ptr 1 0), .lf (.ptr 2 0)], [[.ptr 3 0], [.pv .str], [.ptr 4 0], [.pv (.slice yt8)], [.pv .bool, .nil .sl]], []⟩
def Aj3 : Sk := ⟨[.lf (.nil .ifc)], X7.boxes, []⟩
def Baq (k : Nat) : EnvL := [(53, [Dk k]), (55, [A8 k])]
def Aj1 (k : Nat) : Cfg := mkC (Baq k) 59 5 0
def Ov (k : Nat) : H29 → Option H29 := hid (Ab (Aj1 k) k Tryz.f71 X7 Aj3)
def Aym (k : Nat) : Sig := Ac X7 Aj3 (Ov k)
noncomputable def Aj2 (k : Nat) : H29 → Option H29
 | (a0, a1, a2) => ((C0 k) (a0, a1)).bind fun o1 => bif o1.1 then (((A2 k) (o1.2)).bind fun o2 => some (a0, o2.2.2.2.2, true)) else (some (a0, o1.2, a2))
theorem Bar (k : Nat) (x : H29) : Ov k x = Aj2 k x := (Ad _ _).trans (by kernel_rfl)
theorem A3r (k : Nat) : Aa Tryz.prog 71 (Aym k) := Af (Aj1 k) k rfl ⟨⟨Do k, trivial⟩, ⟨Ba k, trivial⟩, trivial⟩ Ae Tryz.func71 (by kernel_rfl)
abbrev H59 : Type := (Int) × (Bool) × (List (YT8)) × (List (List Int))
abbrev H60 : Type := (Int) × (Bool) × (List (YT8))
abbrev H61 : Type := (Bool) × (Int) × (Int) × (Int) × (Bool) × (List (YT8)) × (List (List Int))
def Ym : Sk := ⟨[.lf (.ptr 0 0), .lf (.ptr 1 0), .lf (.ptr 2 0)], [[.ptr 3 1], [.pv (.int .i64)], [.ptr 4 0], [.pv .bool, .nil .sl], [.pv (.slice yt8)]], []⟩
def Yn : Sk := ⟨[.lf (.erp 68 [(.int .i64), (.int .i64)])], [[.ptr 3 1], [.pv (.int .i64)], [.ptr 4 0], [.pv .bool, .own 0], [.pv (.slice yt8)]], [some (9, .str)]⟩
def Aml : Sk := ⟨sparse 44 [(0, .lf (.ptr 0 0)), (1, .lf (.ptr 1 0)), (2, .lf (.ptr 2 0))], [[.ptr 3 1], [.pv (.int .i64)], [.ptr 4 0], [.pv .bool, .own 0], [.pv (.slice yt8)]], [some (9, .str)]⟩
abbrev Yk := H59
def Kc : Yk → St := stOf Aml 136
def Bbw (k : Nat) : EnvL := [(84, [Ace k]), (54, [A7 k]), (60, [Acd k]), (32, [Aca k, Acb k]), (53, [Dk k]), (33, [D5 k]), (55, [A8 k])]
def Fl (k : Nat) : FnX H61 := mkX ({ mkC (Bbw k) 136 5 0 with hint := fun i => look none [(1, some Aml)] i, ef := [(20, (([4, 52], []), ([68, 112], []))), (22, (([4, 52, 68, 69, 112], []), ([], []))), (39, (([4], []), ([87, 131], []))), (41, (([4, 87, 88, 131], []), ([], [])))], ld := [(18, 2), (19, 2), (26, 0), (27, 0), (28, 9999), (29, 3), (30, 52), (33, 9999), (37, 2), (38, 2)], sr := [(33, 3)], rb := [21, 40] }) k Tryz.f97 Yn
def O8 (k : Nat) : H60 → Option H61 := hid (Ab (Fl k).C k Tryz.f97 Ym Yn)
def Ay9 (k : Nat) : Sig := Ac Ym Yn (O8 k)
noncomputable def Yl (k : Nat) (J : JF H61) (L : LF H61) : H60 → Option H61
 | (a0, a1, a2) => L 1 [] k (Kc (a0, a1, a2, []))
theorem Bbx (k : Nat) (x : H60) : O8 k x = Yl k (Fl k).J (Fl k).L x := by
 refine (Ad _ _).trans ?_; apply cutX (Fl k) [] [] (st0 (Fl k).C Tryz.f97 Ym x) [] [(1, [], k)] (Yl k · · x) <;> intros <;> kernel_rfl
noncomputable def Kd (k j1 : Nat) (J : JF H61) (L : LF H61) : Yk → Option H61
 | (a0, a1, a2, a3) => bif (((List.length a3 : Nat) : Int) == a0) then (((Lu k) (a2)).bind fun o1 => bif o1 then (((A4 k) ((4 : Int), a2)).bind fun o2 => some (o2.1, o2.2.1, o2.2.2.1, a0, a1, o2.2.2.2, a3)) else (((J0 k) (a2, ([] : List Int))).bind fun o3 => ((Jy k) (o3.1, o3.2)).bind fun o4 => bif (!o4.1) then (some (o4.1, o4.2.1, o4.2.2.1, a0, a1, o4.2.2.2.1, a3)) else (app 16 a3 ([o4.2.2.2.2] : List (List Int)) fun o5 => ((C0 k) (([44] : List Int), o4.2.2.2.1)).bind fun o6 => bif (!o6.1) then (((Bk k) (([59] : List Int), o6.2)).bind fun o7 => ((Jz k) (o7.1, o7.2)).bind fun o8 => some (o8.1, o8.2.1, o8.2.2.1, a0, a1, o8.2.2.2.1, o5)) else (((A2 k) (o6.2)).bind fun o9 => L 1 [] j1 (Kc (a0, a1, o9.2.2.2.2, o5)))))) else (((J0 k) (a2, ([] : List Int))).bind fun o10 => ((Jy k) (o10.1, o10.2)).bind fun o11 => bif (!o11.1) then (some (o11.1, o11.2.1, o11.2.2.1, a0, a1, o11.2.2.2.1, a3)) else (app 16 a3 ([o11.2.2.2.2] : List (List Int)) fun o12 => ((C0 k) (([44] : List Int), o11.2.2.2.1)).bind fun o13 => bif (!o13.1) then (((Bk k) (([59] : List Int), o13.2)).bind fun o14 => ((Jz k) (o14.1, o14.2)).bind fun o15 => some (o15.1, o15.2.1, o15.2.2.1, a0, a1, o15.2.2.2.1, o12)) else (((A2 k) (o13.2)).bind fun o16 => L 1 [] j1 (Kc (a0, a1, o16.2.2.2.2, o12)))))
theorem Qk (k j1 : Nat) (x : Yk) : (Fl k).L 1 [] (j1 + 1) (Kc x) = Kd k j1 (Fl k).J (Fl k).L x := by
 apply cutX (Fl k) [.r, .b, .b] [j1] (Kc x) [] [(1, [], j1)] (Kd k j1 · · x) <;> intros <;> kernel_rfl
theorem A4f (k : Nat) : Aa Tryz.prog 97 (Ay9 k) := Af (Fl k).C k rfl ⟨⟨Aef k, trivial⟩, ⟨A9 k, trivial⟩, ⟨Aee k, trivial⟩, ⟨Aeb k, Aec k, trivial⟩, ⟨Do k, trivial⟩, ⟨Ed k, trivial⟩, ⟨Ba k, trivial⟩, trivial⟩ Ae Tryz.func97 (by kernel_rfl)
abbrev H62 : Type := (List (YT8)) × (List Int) × (Int) × (Bool)
abbrev H63 : Type := (Bool) × (Int) × (Int) × (List (YT8)) × (List Int) × (Int) × (Bool) × (List (List Int))
def Ahp : Sk := ⟨[.lf (.ptr 0 0), .lf (.sb 1 2)], [[.pv (.slice yt8)], q17, [.ptr 0 0], [.pv .str], [.ptr 8 0], [.ptr 8 1], [.pv (.int .i64)], [.ptr 0 0], [.pv .bool, .nil .sl]], []⟩
def Ahq : Sk := ⟨[.lf (.erp 68 [(.int .i64), (.int .i64)])], [[.pv (.slice yt8)], q17, [.ptr 0 0], [.pv .str], [.ptr 8 0], [.ptr 8 1], [.pv (.int .i64)], [.ptr 0 0], [.pv .bool, .own 0]], [some (9, .str)]⟩
def A9m (k : Nat) : EnvL := [(71, [Aym k]), (97, [Ay9 k])]
def Ahn (k : Nat) : Cfg := mkC (A9m k) 69 9 0
def Tm (k : Nat) : H62 → Option H63 := hid (Ab (Ahn k) (k + 32) Tryz.f32 Ahp Ahq)
def Ax6 (k : Nat) : Sig := Ac Ahp Ahq (Tm k)
noncomputable def Aho (k : Nat) : H62 → Option H63
 | (a0, a1, a2, a3) => ((Ov k) (a1, a0, a3)).bind fun o1 => ((O8 k) (a2, o1.2.2, o1.2.1)).bind fun o2 => bif (!o2.1) then (some (o2.1, o2.2.1, o2.2.2.1, o2.2.2.2.2.2.1, o1.1, o2.2.2.2.1, o2.2.2.2.2.1, o2.2.2.2.2.2.2)) else (some (true, (0 : Int), (0 : Int), o2.2.2.2.2.2.1, o1.1, o2.2.2.2.1, o2.2.2.2.2.1, o2.2.2.2.2.2.2))
theorem A9n (k : Nat) (x : H62) : Tm k x = Aho k x := (Ad _ _).trans (by kernel_rfl)
theorem A23 (k : Nat) : Aa Tryz.prog 32 (Ax6 k) := Af (Ahn k) (k + 32) rfl ⟨⟨A3r k, trivial⟩, ⟨A4f k, trivial⟩, trivial⟩ Ae Tryz.func32 (by kernel_rfl)
abbrev H64 : Type := (Bool) × (Bool) × (Int) × (Int) × (List (YT8)) × (List (List Int))
def fpringi : Sk := ⟨[.lf (.ptr 0 0)], [[.pv (.slice yt8)]], []⟩
def fpringo : Sk := ⟨[.agg [.pv .bool, .own 0], .lf (.erp 68 [(.int .i64), (.int .i64)])], fpringi.boxes, [some (9, .str)]⟩
def fpringE (k : Nat) : EnvL := [(38, [Ayl k]), (88, [Ay7 k]), (32, [Ax6 k])]
def Ar1 (k : Nat) : Cfg := mkC (fpringE k) 69 1 0
def cpring (k : Nat) : (List (YT8)) → Option H64 := hid (Ab (Ar1 k) k Tryz.f92 fpringi fpringo)
def sgpring (k : Nat) : Sig := Ac fpringi fpringo (cpring k)
noncomputable def Ar2 (k : Nat) : (List (YT8)) → Option H64
 | a0 => ((Tx k) (([102, 114, 101, 101] : List Int), a0, false)).bind fun o1 => ((T9 k) ((4 : Int), o1.1, o1.2.1)).bind fun o2 => ((Tm k) (o2.1, o1.2.2, o2.2.2, o2.2.1)).bind fun o3 => some (o3.2.2.2.2.2.2.1, o3.1, o3.2.1, o3.2.2.1, o3.2.2.2.1, o3.2.2.2.2.2.2.2)
theorem Bd5 (k : Nat) (x : (List (YT8))) : cpring k x = Ar2 k x := (Ad _ _).trans (by kernel_rfl)
theorem A53 (k : Nat) : Aa Tryz.prog 92 (sgpring k) := Af (Ar1 k) k rfl ⟨⟨A3q k, trivial⟩, ⟨A4e k, trivial⟩, ⟨A23 k, trivial⟩, trivial⟩ Ae Tryz.func92 (by kernel_rfl)
abbrev H65 : Type := (List Int) × (Int) × (List (YT8)) × (List (YT4))
abbrev H66 : Type := (Bool) × (Int) × (Int) × (List Int) × (Int) × (List (YT8)) × (List (YT4))
def Xk : Sk := ⟨[.lf (.ptr 0 0), .lf (.ptr 1 0), .lf (.ptr 2 0), .lf (.ptr 3 0), .lf (.ptr 4 0)], [[.ptr 5 0], [.pv .str], [.ptr 6 0], [.pv (.int .i64)], [.fn 92 [(5, 0)] []], [.pv (.slice yt8)], [.nil .sl]], []⟩
def Xl : Sk := ⟨[.lf (.erp 68 [(.int .i64), (.int .i64)])], [[.ptr 5 0], [.pv .str], [.ptr 6 0], [.pv (.int .i64)], [.fn 92 [(5, 0)] []], [.pv (.slice yt8)], [.own 0]], [some (52, yt4)]⟩
def Ahc : Sk := ⟨sparse 37 [(0, .lf (.ptr 0 0)), (1, .lf (.ptr 1 0)), (2, .lf (.ptr 2 0)), (3, .lf (.ptr 3 0)), (4, .lf (.ptr 4 0))], [[.ptr 5 0], [.pv .str], [.ptr 6 0], [.pv (.int .i64)], [.fn 92 [(5, 0)] []], [.pv (.slice yt8)], [.own 0]], [some (52, yt4)]⟩
abbrev Xh := H65
def Mr : Xh → St := stOf Ahc 86
def A9f (k : Nat) : EnvL := [(53, [Dk k]), (54, [A7 k]), (55, [A8 k]), (92, [sgpring k])]
def Fi (k : Nat) : FnX H66 := mkX ({ mkC (A9f k) 86 7 0 with hint := fun i => look none [(1, some Ahc)] i, ld := [(29, 2), (30, 2), (31, 9999), (32, 6), (33, 54), (36, 9999)], sr := [(36, 6)] }) k Tryz.f99 Xl
def Om (k : Nat) : H56 → Option H66 := hid (Ab (Fi k).C k Tryz.f99 Xk Xl)
def Ax2 (k : Nat) : Sig := Ac Xk Xl (Om k)
noncomputable def Xj (k : Nat) (J : JF H66) (L : LF H66) : H56 → Option H66
 | (a0, a1, a2) => L 1 [] k (Mr (a0, a1, a2, []))
theorem A9g (k : Nat) (x : H56) : Om k x = Xj k (Fi k).J (Fi k).L x := by
 refine (Ad _ _).trans ?_; apply cutX (Fi k) [] [] (st0 (Fi k).C Tryz.f99 Xk x) [] [(1, [], k)] (Xj k · · x) <;> intros <;> kernel_rfl
noncomputable def Ms (k j1 : Nat) (J : JF H66) (L : LF H66) : Xh → Option H66
 | (a0, a1, a2, a3) => ((C0 k) (a0, a2)).bind fun o1 => bif o1.1 then (bif (((List.length a3 : Nat) : Int) == a1) then (((A4 k) ((4 : Int), o1.2)).bind fun o2 => some (o2.1, o2.2.1, o2.2.2.1, a0, a1, o2.2.2.2, a3)) else (((A2 k) (o1.2)).bind fun o3 => ((cpring k) (o3.2.2.2.2)).bind fun o4 => bif (!o4.2.1) then (some (o4.2.1, o4.2.2.1, o4.2.2.2.1, a0, a1, o4.2.2.2.2.1, a3)) else (app 32 a3 ([(o4.1, (o4.2.2.2.2.2, ()))] : List (YT4)) fun o5 => L 1 [] j1 (Mr (a0, a1, o4.2.2.2.2.1, o5))))) else (some (true, (0 : Int), (0 : Int), a0, a1, o1.2, a3))
theorem Xi (k j1 : Nat) (x : Xh) : (Fi k).L 1 [] (j1 + 1) (Mr x) = Ms k j1 (Fi k).J (Fi k).L x := by
 apply cutX (Fi k) [.r, .l, .b, .b] [j1] (Mr x) [] [(1, [], j1)] (Ms k j1 · · x) <;> intros <;> kernel_rfl
theorem A2y (k : Nat) : Aa Tryz.prog 99 (Ax2 k) := Af (Fi k).C k rfl ⟨⟨Do k, trivial⟩, ⟨A9 k, trivial⟩, ⟨Ba k, trivial⟩, ⟨A53 k, trivial⟩, trivial⟩ Ae Tryz.func99 (by kernel_rfl)
abbrev H67 : Type := (List (YT8)) × (List Int) × (List Int) × (List Int) × (Int) × (List Int)
abbrev H68 : Type := (Bool) × (Int) × (Int) × (List (YT8)) × (List Int) × (List Int) × (List Int) × (Int) × (List Int) × (List (YT4))
def Aiv : Sk := ⟨[.lf (.ptr 0 0), .lf (.sb 1 4)], [[.pv (.slice yt8)], q16, [.ptr 0 0], [.pv .str], [.ptr 0 0], [.pv .str], [.ptr 0 0], [.pv .str], [.ptr 13 0], [.pv (.int .i64)], [.fn 92 [(0, 0)] []], [.ptr 0 0], [.pv .str], [.nil .sl]], []⟩
def Aiw : Sk := ⟨[.lf (.erp 68 [(.int .i64), (.int .i64)])], [[.pv (.slice yt8)], q16, [.ptr 0 0], [.pv .str], [.ptr 0 0], [.pv .str], [.ptr 0 0], [.pv .str], [.ptr 13 0], [.pv (.int .i64)], [.fn 92 [(0, 0)] []], [.ptr 0 0], [.pv .str], [.own 0]], [some (52, yt4)]⟩
def Baa (k : Nat) : EnvL := [(52, [D6 k]), (98, [A0q k]), (99, [Ax2 k])]
def Ait (k : Nat) : Cfg := mkC (Baa k) 69 14 0
def Tu (k : Nat) : H67 → Option H68 := hid (Ab (Ait k) (k + 32) Tryz.f32 Aiv Aiw)
def Ayg (k : Nat) : Sig := Ac Aiv Aiw (Tu k)
noncomputable def Aiu (k : Nat) : H67 → Option H68
 | (a0, a1, a2, a3, a4, a5) => ((Bg k) (a1, a0)).bind fun o1 => bif (!o1.1) then (some (o1.1, o1.2.1, o1.2.2.1, o1.2.2.2.2, o1.2.2.2.1, a2, a3, a4, a5, [])) else (((P1 k) (a2, o1.2.2.2.2)).bind fun o2 => bif (!o2.1) then (some (o2.1, o2.2.1, o2.2.2.1, o2.2.2.2.2, o1.2.2.2.1, o2.2.2.2.1, a3, a4, a5, [])) else (((Om k) (a3, a4, o2.2.2.2.2)).bind fun o3 => bif (!o3.1) then (some (o3.1, o3.2.1, o3.2.2.1, o3.2.2.2.2.2.1, o1.2.2.2.1, o2.2.2.2.1, o3.2.2.2.1, o3.2.2.2.2.1, a5, o3.2.2.2.2.2.2)) else (((Bg k) (a5, o3.2.2.2.2.2.1)).bind fun o4 => bif (!o4.1) then (some (o4.1, o4.2.1, o4.2.2.1, o4.2.2.2.2, o1.2.2.2.1, o2.2.2.2.1, o3.2.2.2.1, o3.2.2.2.2.1, o4.2.2.2.1, o3.2.2.2.2.2.2)) else (some (true, (0 : Int), (0 : Int), o4.2.2.2.2, o1.2.2.2.1, o2.2.2.2.1, o3.2.2.2.1, o3.2.2.2.2.1, o4.2.2.2.1, o3.2.2.2.2.2.2)))))
theorem Bab (k : Nat) (x : H67) : Tu k x = Aiu k x := (Ad _ _).trans (by kernel_rfl)
theorem A3e (k : Nat) : Aa Tryz.prog 32 (Ayg k) := Af (Ait k) (k + 32) rfl ⟨⟨Ee k, trivial⟩, ⟨A54 k, trivial⟩, ⟨A2y k, trivial⟩, trivial⟩ Ae Tryz.func32 (by kernel_rfl)
abbrev H69 : Type := (Bool) × (Int) × (Int) × (List (YT8)) × (List (YT4))
def fpgroupi : Sk := ⟨[.lf (.ptr 0 0)], [[.pv (.slice yt8)]], []⟩
def fpgroupo : Sk := ⟨[.agg [.own 0], .lf (.erp 68 [(.int .i64), (.int .i64)])], fpgroupi.boxes, [some (52, yt4)]⟩
def Bak (k : Nat) : EnvL := [(33, [D5 k]), (90, [sgpsees k]), (91, [Ax1 k]), (32, [Ayg k])]
def Ajk (k : Nat) : Cfg := mkC (Bak k) 79 1 0
def cpgroup (k : Nat) : (List (YT8)) → Option H69 := hid (Ab (Ajk k) k Tryz.f68 fpgroupi fpgroupo)
def sgpgroup (k : Nat) : Sig := Ac fpgroupi fpgroupo (cpgroup k)
noncomputable def Ajl (k : Nat) : (List (YT8)) → Option H69
 | a0 => ((Bk k) (([123] : List Int), a0)).bind fun o1 => ((cpsees k) (([114, 105, 110, 103] : List Int), o1.1)).bind fun o2 => ((Th k) (([114, 105, 110, 103] : List Int), (2 : Int), o2.1)).bind fun o3 => ((Bk k) (([125] : List Int), o3.1)).bind fun o4 => ((Tu k) (o4.1, o1.2, o2.2, o3.2.1, o3.2.2, o4.2)).bind fun o5 => some (o5.1, o5.2.1, o5.2.2.1, o5.2.2.2.1, o5.2.2.2.2.2.2.2.2.2)
theorem Bal (k : Nat) (x : (List (YT8))) : cpgroup k x = Ajl k x := (Ad _ _).trans (by kernel_rfl)
theorem A3n (k : Nat) : Aa Tryz.prog 68 (sgpgroup k) := Af (Ajk k) k rfl ⟨⟨Ed k, trivial⟩, ⟨A55 k, trivial⟩, ⟨A2z k, trivial⟩, ⟨A3e k, trivial⟩, trivial⟩ Ae Tryz.func68 (by kernel_rfl)
abbrev H70 : Type := (List Int) × (Int) × (List (YT8)) × (List Int) × (Int) × (List (YT1)) × (List (YT2)) × (List (YT3)) × (List ((List (YT4)) × (Unit)))
abbrev H71 : Type := (Bool) × (Int) × (Int) × (List Int) × (Int) × (List (YT8)) × (List Int) × (Int) × (List (YT1)) × (List (YT2)) × (List (YT3)) × (List ((List (YT4)) × (Unit)))
def Wv : Sk := ⟨[.lf (.ptr 0 0), .lf (.ptr 1 0), .lf (.ptr 2 0), .lf (.ptr 3 0), .lf (.ptr 4 0)], [[.ptr 5 0], [.pv .str], [.ptr 6 4], [.pv (.int .i64)], [.fn 68 [(5, 0)] []], [.pv (.slice yt8)], q15], [some (60, yt1), some (120, yt2), some (122, yt3)]⟩
def Ww : Sk := ⟨[.lf (.erp 68 [(.int .i64), (.int .i64)])], [[.ptr 5 0], [.pv .str], [.ptr 6 4], [.pv (.int .i64)], [.fn 68 [(5, 0)] []], [.pv (.slice yt8)], q18], [some (60, yt1), some (120, yt2), some (122, yt3), some (49, (.cons (.slice yt4) .nil))]⟩
def Agn : Sk := ⟨sparse 37 [(0, .lf (.ptr 0 0)), (1, .lf (.ptr 1 0)), (2, .lf (.ptr 2 0)), (3, .lf (.ptr 3 0)), (4, .lf (.ptr 4 0))], [[.ptr 5 0], [.pv .str], [.ptr 6 4], [.pv (.int .i64)], [.fn 68 [(5, 0)] []], [.pv (.slice yt8)], q18], [some (60, yt1), some (120, yt2), some (122, yt3), some (49, (.cons (.slice yt4) .nil))]⟩
abbrev Ws := H70
def Mh : Ws → St := stOf Agn 86
def A80 (k : Nat) : EnvL := [(53, [Dk k]), (54, [A7 k]), (55, [A8 k]), (68, [sgpgroup k])]
def Fd (k : Nat) : FnX H71 := mkX ({ mkC (A80 k) 86 7 3 with hint := fun i => look none [(1, some Agn)] i, ld := [(29, 2), (30, 2), (31, 9999), (32, 6), (33, 54), (36, 9999)], sr := [(36, 6)] }) k Tryz.f89 Ww
def Oh (k : Nat) : H54 → Option H71 := hid (Ab (Fd k).C k Tryz.f89 Wv Ww)
def Axs (k : Nat) : Sig := Ac Wv Ww (Oh k)
noncomputable def Wu (k : Nat) (J : JF H71) (L : LF H71) : H54 → Option H71
 | (a0, a1, a2, a3, a4, a5, a6, a7) => L 1 [] k (Mh (a0, a1, a2, a3, a4, a5, a6, a7, []))
theorem A81 (k : Nat) (x : H54) : Oh k x = Wu k (Fd k).J (Fd k).L x := by
 refine (Ad _ _).trans ?_; apply cutX (Fd k) [] [] (st0 (Fd k).C Tryz.f89 Wv x) [] [(1, [], k)] (Wu k · · x) <;> intros <;> kernel_rfl
noncomputable def Mi (k j1 : Nat) (J : JF H71) (L : LF H71) : Ws → Option H71
 | (a0, a1, a2, a3, a4, a5, a6, a7, a8) => ((C0 k) (a0, a2)).bind fun o1 => bif o1.1 then (bif (((List.length a8 : Nat) : Int) == a1) then (((A4 k) ((4 : Int), o1.2)).bind fun o2 => some (o2.1, o2.2.1, o2.2.2.1, a0, a1, o2.2.2.2, a3, a4, a5, a6, a7, a8)) else (((A2 k) (o1.2)).bind fun o3 => ((cpgroup k) (o3.2.2.2.2)).bind fun o4 => bif (!o4.1) then (some (o4.1, o4.2.1, o4.2.2.1, a0, a1, o4.2.2.2.1, a3, a4, a5, a6, a7, a8)) else (app 24 a8 ([(o4.2.2.2.2, ())] : List ((List (YT4)) × (Unit))) fun o5 => L 1 [] j1 (Mh (a0, a1, o4.2.2.2.1, a3, a4, a5, a6, a7, o5))))) else (some (true, (0 : Int), (0 : Int), a0, a1, o1.2, a3, a4, a5, a6, a7, a8))
theorem Wt (k j1 : Nat) (x : Ws) : (Fd k).L 1 [] (j1 + 1) (Mh x) = Mi k j1 (Fd k).J (Fd k).L x := by
 apply cutX (Fd k) [.r, .l, .b, .b] [j1] (Mh x) [] [(1, [], j1)] (Mi k j1 · · x) <;> intros <;> kernel_rfl
theorem A2o (k : Nat) : Aa Tryz.prog 89 (Axs k) := Af (Fd k).C k rfl ⟨⟨Do k, trivial⟩, ⟨A9 k, trivial⟩, ⟨Ba k, trivial⟩, ⟨A3n k, trivial⟩, trivial⟩ Ae Tryz.func89 (by kernel_rfl)
abbrev H72 : Type := (List (YT8)) × (List Int) × (List Int) × (Int)
def Arb : Sk := ⟨[.lf (.ptr 0 0), .lf (.ptr 1 2)], [[.pv (.slice yt8)], [.pv .str, .pv .str, .pv (.int .i64)]], []⟩
def Arc : Sk := ⟨[.lf (.fn 82 [] [(2, 0), (3, 0)])], [[.pv (.slice yt8)], [.pv .str, .pv .str, .pv (.int .i64)], [.ptr 0 0], [.ptr 1 2]], []⟩
def Aq9 (k : Nat) : Cfg := mkC [] 54 2 0
def Ux (k : Nat) : H72 → Option H72 := hid (Ab (Aq9 k) k Tryz.f59 Arb Arc)
def A0i (k : Nat) : Sig := Ac Arb Arc (Ux k)
noncomputable def Ara (k : Nat) : H72 → Option H72
 | (a0, a1, a2, a3) => some (a0, a1, a2, a3)
theorem Bdw (k : Nat) (x : H72) : Ux k x = Ara k x := (Ad _ _).trans (by kernel_rfl)
theorem A5u (k : Nat) : Aa Tryz.prog 59 (A0i k) := Af (Aq9 k) (l := []) k rfl trivial Ae Tryz.func59 (by kernel_rfl)
def Aky : Sk := ⟨[.lf (.ptr 0 0), .lf (.ptr 1 0)], [[.pv (.slice yt8)], [.pv .str, .pv .str, .pv (.int .i64)]], []⟩
def Akz : Sk := ⟨[.lf (.fn 83 [] [(2, 0), (3, 0)])], [[.pv (.slice yt8)], [.pv .str, .pv .str, .pv (.int .i64)], [.ptr 0 0], [.ptr 1 0]], []⟩
def Akw (k : Nat) : Cfg := mkC [] 54 2 0
def T5 (k : Nat) : H72 → Option H72 := hid (Ab (Akw k) k Tryz.f60 Aky Akz)
def Ays (k : Nat) : Sig := Ac Aky Akz (T5 k)
noncomputable def Akx (k : Nat) : H72 → Option H72
 | (a0, a1, a2, a3) => some (a0, a1, a2, a3)
theorem Ba0 (k : Nat) (x : H72) : T5 k x = Akx k x := (Ad _ _).trans (by kernel_rfl)
theorem A3y (k : Nat) : Aa Tryz.prog 60 (Ays k) := Af (Akw k) (l := []) k rfl trivial Ae Tryz.func60 (by kernel_rfl)
def Ak2 : Sk := ⟨[.lf (.ptr 0 0), .lf (.ptr 1 1)], [[.pv (.slice yt8)], [.pv .str, .pv .str, .pv (.int .i64)]], []⟩
def Ak3 : Sk := ⟨[.lf (.fn 83 [] [(2, 0), (3, 0)])], [[.pv (.slice yt8)], [.pv .str, .pv .str, .pv (.int .i64)], [.ptr 0 0], [.ptr 1 1]], []⟩
def Ak0 (k : Nat) : Cfg := mkC [] 54 2 0
def T6 (k : Nat) : H72 → Option H72 := hid (Ab (Ak0 k) k Tryz.f60 Ak2 Ak3)
def Ayt (k : Nat) : Sig := Ac Ak2 Ak3 (T6 k)
noncomputable def Ak1 (k : Nat) : H72 → Option H72
 | (a0, a1, a2, a3) => some (a0, a1, a2, a3)
theorem Ba1 (k : Nat) (x : H72) : T6 k x = Ak1 k x := (Ad _ _).trans (by kernel_rfl)
theorem A3z (k : Nat) : Aa Tryz.prog 60 (Ayt k) := Af (Ak0 k) (l := []) k rfl trivial Ae Tryz.func60 (by kernel_rfl)
def Zi : Sk := ⟨[.lf (.ptr 0 0), .lf (.ptr 1 0)], [[.ptr 2 0], [.ptr 3 2], [.pv (.slice yt8)], [.pv .str, .pv .str, .pv (.int .i64)]], []⟩
def Ars : Sk := ⟨[.lf (.nil .ifc)], Zi.boxes, []⟩
def Arq (k : Nat) : Cfg := { mkC [] 60 4 0 with ld := [(3, 1), (4, 0), (5, 9999), (6, 9999), (7, 2), (9, 9999), (10, 9999), (11, 9999)], sr := [(11, 3)] }
def Pz (k : Nat) : H72 → Option H72 := hid (Ab (Arq k) k Tryz.f82 Zi Ars)
def A0o (k : Nat) : Sig := Ac Zi Ars (Pz k)
noncomputable def Arr (k : Nat) : H72 → Option H72
 | (a0, a1, a2, a3) => idx zt8 a0 (0 : Int) fun o1 => some (a0, a1, a2, o1.2.2.2.1)
theorem Bd1 (k : Nat) (x : H72) : Pz k x = Arr k x := (Ad _ _).trans (by kernel_rfl)
theorem A5z (k : Nat) : Aa Tryz.prog 82 (A0o k) := Af (Arq k) (l := []) k rfl trivial Ae Tryz.func82 (by kernel_rfl)
end
noncomputable section
abbrev H73 : Type := (Bool) × (Int) × (Int) × (List (YT8)) × (List Int) × (List Int) × (Int)
def Yf : Sk := ⟨[.lf (.ptr 0 0), .lf (.ptr 1 0)], [[.ptr 2 0], [.ptr 3 0], [.pv (.slice yt8)], [.pv .str, .pv .str, .pv (.int .i64)]], []⟩
def Alw : Sk := ⟨[.lf (.erp 68 [(.int .i64), (.int .i64)])], Yf.boxes, []⟩
def Bbg (k : Nat) : EnvL := [(84, [sgpnamed k]), (54, [A7 k]), (55, [A8 k])]
def Alu (k : Nat) : Cfg := { mkC (Bbg k) 61 4 0 with ef := [(10, (([2], []), ([], [])))], ld := [(8, 1), (9, 0), (12, 9999)], sr := [(12, 3)] }
def O3 (k : Nat) : H72 → Option H73 := hid (Ab (Alu k) k Tryz.f83 Yf Alw)
def Ay3 (k : Nat) : Sig := Ac Yf Alw (O3 k)
noncomputable def Alv (k : Nat) : H72 → Option H73
 | (a0, a1, a2, a3) => ((cpnamed k) (a0)).bind fun o1 => bif (!o1.1) then (((A4 k) ((50 : Int), o1.2)).bind fun o2 => some (o2.1, o2.2.1, o2.2.2.1, o2.2.2.2, a1, a2, a3)) else (((A2 k) (o1.2)).bind fun o3 => some (true, (0 : Int), (0 : Int), o3.2.2.2.2, o3.2.1, a2, a3))
theorem Bbh (k : Nat) (x : H72) : O3 k x = Alv k x := (Ad _ _).trans (by kernel_rfl)
theorem A38 (k : Nat) : Aa Tryz.prog 83 (Ay3 k) := Af (Alu k) k rfl ⟨⟨E4 k, trivial⟩, ⟨A9 k, trivial⟩, ⟨Ba k, trivial⟩, trivial⟩ Ae Tryz.func83 (by kernel_rfl)
def Yg : Sk := ⟨[.lf (.ptr 0 0), .lf (.ptr 1 0)], [[.ptr 2 0], [.ptr 3 1], [.pv (.slice yt8)], [.pv .str, .pv .str, .pv (.int .i64)]], []⟩
def Alz : Sk := ⟨[.lf (.erp 68 [(.int .i64), (.int .i64)])], Yg.boxes, []⟩
def Bbi (k : Nat) : EnvL := [(84, [sgpnamed k]), (54, [A7 k]), (55, [A8 k])]
def Alx (k : Nat) : Cfg := { mkC (Bbi k) 61 4 0 with ef := [(10, (([2], []), ([], [])))], ld := [(8, 1), (9, 0), (12, 9999)], sr := [(12, 3)] }
def O4 (k : Nat) : H72 → Option H73 := hid (Ab (Alx k) k Tryz.f83 Yg Alz)
def Ay4 (k : Nat) : Sig := Ac Yg Alz (O4 k)
noncomputable def Aly (k : Nat) : H72 → Option H73
 | (a0, a1, a2, a3) => ((cpnamed k) (a0)).bind fun o1 => bif (!o1.1) then (((A4 k) ((50 : Int), o1.2)).bind fun o2 => some (o2.1, o2.2.1, o2.2.2.1, o2.2.2.2, a1, a2, a3)) else (((A2 k) (o1.2)).bind fun o3 => some (true, (0 : Int), (0 : Int), o3.2.2.2.2, a1, o3.2.1, a3))
theorem Bbj (k : Nat) (x : H72) : O4 k x = Aly k x := (Ad _ _).trans (by kernel_rfl)
theorem A39 (k : Nat) : Aa Tryz.prog 83 (Ay4 k) := Af (Alx k) k rfl ⟨⟨E4 k, trivial⟩, ⟨A9 k, trivial⟩, ⟨Ba k, trivial⟩, trivial⟩ Ae Tryz.func83 (by kernel_rfl)
abbrev H74 : Type := (List (YT8)) × (List Int) × (List Int) × (List Int) × (Int)
abbrev H75 : Type := (Bool) × (Int) × (Int) × (List (YT8)) × (List Int) × (List Int) × (List Int) × (Int)
def Xt : Sk := ⟨[.lf (.ptr 0 0), .lf (.sb 1 4)], [[.pv (.slice yt8)], q19, [.ptr 0 0], [.ptr 10 2], [.ptr 0 0], [.ptr 10 0], [.ptr 0 0], [.ptr 10 1], [.ptr 0 0], [.pv .str], [.pv .str, .pv .str, .pv (.int .i64)]], []⟩
def Aht : Sk := ⟨[.lf (.erp 68 [(.int .i64), (.int .i64)])], Xt.boxes, []⟩
def A9o (k : Nat) : EnvL := [(82, [A0o k]), (83, [Ay3 k, Ay4 k]), (52, [D6 k])]
def Ahr (k : Nat) : Cfg := mkC (A9o k) 68 11 0
def Tn (k : Nat) : H74 → Option H75 := hid (Ab (Ahr k) (k + 32) Tryz.f32 Xt Aht)
def Ax7 (k : Nat) : Sig := Ac Xt Aht (Tn k)
noncomputable def Ahs (k : Nat) : H74 → Option H75
 | (a0, a1, a2, a3, a4) => ((Pz k) (a0, a2, a3, a4)).bind fun o1 => ((O3 k) (o1.1, o1.2.1, o1.2.2.1, o1.2.2.2)).bind fun o2 => bif (!o2.1) then (some (o2.1, o2.2.1, o2.2.2.1, o2.2.2.2.1, a1, o2.2.2.2.2.1, o2.2.2.2.2.2.1, o2.2.2.2.2.2.2)) else (((O4 k) (o2.2.2.2.1, o2.2.2.2.2.1, o2.2.2.2.2.2.1, o2.2.2.2.2.2.2)).bind fun o3 => bif (!o3.1) then (some (o3.1, o3.2.1, o3.2.2.1, o3.2.2.2.1, a1, o3.2.2.2.2.1, o3.2.2.2.2.2.1, o3.2.2.2.2.2.2)) else (((Bg k) (a1, o3.2.2.2.1)).bind fun o4 => bif (!o4.1) then (some (o4.1, o4.2.1, o4.2.2.1, o4.2.2.2.2, o4.2.2.2.1, o3.2.2.2.2.1, o3.2.2.2.2.2.1, o3.2.2.2.2.2.2)) else (some (true, (0 : Int), (0 : Int), o4.2.2.2.2, o4.2.2.2.1, o3.2.2.2.2.1, o3.2.2.2.2.2.1, o3.2.2.2.2.2.2))))
theorem A9p (k : Nat) (x : H74) : Tn k x = Ahs k x := (Ad _ _).trans (by kernel_rfl)
theorem A24 (k : Nat) : Aa Tryz.prog 32 (Ax7 k) := Af (Ahr k) (k + 32) rfl ⟨⟨A5z k, trivial⟩, ⟨A38 k, A39 k, trivial⟩, ⟨Ee k, trivial⟩, trivial⟩ Ae Tryz.func32 (by kernel_rfl)
abbrev H76 : Type := (List Int) × (List Int) × (Int) × (Bool) × (Int) × (Int) × (List (YT8))
def fpfoei : Sk := ⟨[.lf (.ptr 0 0)], [[.pv (.slice yt8)]], []⟩
def fpfoeo : Sk := ⟨[.agg [.pv .str, .pv .str, .pv (.int .i64)], .lf (.erp 68 [(.int .i64), (.int .i64)])], fpfoei.boxes, []⟩
def fpfoeE (k : Nat) : EnvL := [(59, [A0i k]), (60, [Ays k, Ayt k]), (33, [D5 k]), (32, [Ax7 k])]
def Ai6 (k : Nat) : Cfg := mkC (fpfoeE k) 76 1 0
def cpfoe (k : Nat) : (List (YT8)) → Option H76 := hid (Ab (Ai6 k) k Tryz.f70 fpfoei fpfoeo)
def sgpfoe (k : Nat) : Sig := Ac fpfoei fpfoeo (cpfoe k)
noncomputable def Ai7 (k : Nat) : (List (YT8)) → Option H76
 | a0 => ((Ux k) (a0, ([] : List Int), ([] : List Int), (0 : Int))).bind fun o1 => ((T5 k) (o1.1, o1.2.1, o1.2.2.1, o1.2.2.2)).bind fun o2 => ((T6 k) (o2.1, o2.2.1, o2.2.2.1, o2.2.2.2)).bind fun o3 => ((Bk k) (([59] : List Int), o3.1)).bind fun o4 => ((Tn k) (o4.1, o4.2, o3.2.1, o3.2.2.1, o3.2.2.2)).bind fun o5 => some (o5.2.2.2.2.2.1, o5.2.2.2.2.2.2.1, o5.2.2.2.2.2.2.2, o5.1, o5.2.1, o5.2.2.1, o5.2.2.2.1)
theorem fpfoe_e (k : Nat) (x : (List (YT8))) : cpfoe k x = Ai7 k x := (Ad _ _).trans (by kernel_rfl)
theorem A3i (k : Nat) : Aa Tryz.prog 70 (sgpfoe k) := Af (Ai6 k) k rfl ⟨⟨A5u k, trivial⟩, ⟨A3y k, A3z k, trivial⟩, ⟨Ed k, trivial⟩, ⟨A24 k, trivial⟩, trivial⟩ Ae Tryz.func70 (by kernel_rfl)
abbrev H77 : Type := (List Int) × (Int) × (List (YT8)) × (List Int) × (Int) × (List (YT1)) × (List (YT2)) × (List (YT3)) × (List ((List (YT4)) × (Unit))) × (List (YT5))
abbrev H78 : Type := (Bool) × (Int) × (Int) × (List Int) × (Int) × (List (YT8)) × (List Int) × (Int) × (List (YT1)) × (List (YT2)) × (List (YT3)) × (List ((List (YT4)) × (Unit))) × (List (YT5))
def Wq : Sk := ⟨[.lf (.ptr 0 0), .lf (.ptr 1 0), .lf (.ptr 2 0), .lf (.ptr 3 0), .lf (.ptr 4 0)], [[.ptr 5 0], [.pv .str], [.ptr 6 5], [.pv (.int .i64)], [.fn 70 [(5, 0)] []], [.pv (.slice yt8)], q18], [some (60, yt1), some (120, yt2), some (122, yt3), some (49, (.cons (.slice yt4) .nil))]⟩
def Wr : Sk := ⟨[.lf (.erp 68 [(.int .i64), (.int .i64)])], [[.ptr 5 0], [.pv .str], [.ptr 6 5], [.pv (.int .i64)], [.fn 70 [(5, 0)] []], [.pv (.slice yt8)], q20], [some (60, yt1), some (120, yt2), some (122, yt3), some (49, (.cons (.slice yt4) .nil)), some (125, yt5)]⟩
def Agi : Sk := ⟨sparse 37 [(0, .lf (.ptr 0 0)), (1, .lf (.ptr 1 0)), (2, .lf (.ptr 2 0)), (3, .lf (.ptr 3 0)), (4, .lf (.ptr 4 0))], [[.ptr 5 0], [.pv .str], [.ptr 6 5], [.pv (.int .i64)], [.fn 70 [(5, 0)] []], [.pv (.slice yt8)], q20], [some (60, yt1), some (120, yt2), some (122, yt3), some (49, (.cons (.slice yt4) .nil)), some (125, yt5)]⟩
abbrev Wn := H77
def Mf : Wn → St := stOf Agi 85
def A8x (k : Nat) : EnvL := [(53, [Dk k]), (54, [A7 k]), (55, [A8 k]), (70, [sgpfoe k])]
def Fc (k : Nat) : FnX H78 := mkX ({ mkC (A8x k) 85 7 4 with hint := fun i => look none [(1, some Agi)] i, ld := [(29, 2), (30, 2), (31, 9999), (32, 6), (33, 54), (36, 9999)], sr := [(36, 6)] }) k Tryz.f93 Wr
def Og (k : Nat) : H70 → Option H78 := hid (Ab (Fc k).C k Tryz.f93 Wq Wr)
def Axq (k : Nat) : Sig := Ac Wq Wr (Og k)
noncomputable def Wp (k : Nat) (J : JF H78) (L : LF H78) : H70 → Option H78
 | (a0, a1, a2, a3, a4, a5, a6, a7, a8) => L 1 [] k (Mf (a0, a1, a2, a3, a4, a5, a6, a7, a8, []))
theorem A8y (k : Nat) (x : H70) : Og k x = Wp k (Fc k).J (Fc k).L x := by
 refine (Ad _ _).trans ?_; apply cutX (Fc k) [] [] (st0 (Fc k).C Tryz.f93 Wq x) [] [(1, [], k)] (Wp k · · x) <;> intros <;> kernel_rfl
noncomputable def Mg (k j1 : Nat) (J : JF H78) (L : LF H78) : Wn → Option H78
 | (a0, a1, a2, a3, a4, a5, a6, a7, a8, a9) => ((C0 k) (a0, a2)).bind fun o1 => bif o1.1 then (bif (((List.length a9 : Nat) : Int) == a1) then (((A4 k) ((4 : Int), o1.2)).bind fun o2 => some (o2.1, o2.2.1, o2.2.2.1, a0, a1, o2.2.2.2, a3, a4, a5, a6, a7, a8, a9)) else (((A2 k) (o1.2)).bind fun o3 => ((cpfoe k) (o3.2.2.2.2)).bind fun o4 => bif (!o4.2.2.2.1) then (some (o4.2.2.2.1, o4.2.2.2.2.1, o4.2.2.2.2.2.1, a0, a1, o4.2.2.2.2.2.2, a3, a4, a5, a6, a7, a8, a9)) else (app 40 a9 ([(o4.1, (o4.2.1, (o4.2.2.1, ())))] : List (YT5)) fun o5 => L 1 [] j1 (Mf (a0, a1, o4.2.2.2.2.2.2, a3, a4, a5, a6, a7, a8, o5))))) else (some (true, (0 : Int), (0 : Int), a0, a1, o1.2, a3, a4, a5, a6, a7, a8, a9))
theorem Wo (k j1 : Nat) (x : Wn) : (Fc k).L 1 [] (j1 + 1) (Mf x) = Mg k j1 (Fc k).J (Fc k).L x := by
 apply cutX (Fc k) [.r, .l, .b, .b] [j1] (Mf x) [] [(1, [], j1)] (Mg k j1 · · x) <;> intros <;> kernel_rfl
theorem A2m (k : Nat) : Aa Tryz.prog 93 (Axq k) := Af (Fc k).C k rfl ⟨⟨Do k, trivial⟩, ⟨A9 k, trivial⟩, ⟨Ba k, trivial⟩, ⟨A3i k, trivial⟩, trivial⟩ Ae Tryz.func93 (by kernel_rfl)
abbrev H79 : Type := (List (YT8)) × (List Int) × (List Int) × (Int) × (List Int) × (Int) × (List Int) × (Int) × (List Int) × (Int) × (List Int) × (Int) × (List Int) × (List Int) × (Int)
abbrev H80 : Type := (Bool) × (Int) × (Int) × (List (YT8)) × (List Int) × (List Int) × (Int) × (List Int) × (Int) × (List Int) × (Int) × (List Int) × (Int) × (List Int) × (Int) × (List Int) × (List Int) × (Int) × (List (YT1)) × (List (YT2)) × (List (YT3)) × (List ((List (YT4)) × (Unit))) × (List (YT5))
def Ah9 : Sk := ⟨[.lf (.ptr 0 0), .lf (.sb 1 9)], [[.pv (.slice yt8)], q5, [.ptr 0 0], [.ptr 35 6], [.ptr 0 0], [.ptr 35 0], [.ptr 0 0], [.pv .str], [.ptr 0 0], [.pv .str], [.ptr 35 1], [.pv (.int .i64)], [.fn 62 [(0, 0)] []], [.ptr 0 0], [.pv .str], [.ptr 35 2], [.pv (.int .i64)], [.fn 64 [(0, 0)] []], [.ptr 0 0], [.pv .str], [.ptr 35 3], [.pv (.int .i64)], [.fn 66 [(0, 0)] []], [.ptr 0 0], [.pv .str], [.ptr 35 4], [.pv (.int .i64)], [.fn 68 [(0, 0)] []], [.ptr 0 0], [.pv .str], [.ptr 35 5], [.pv (.int .i64)], [.fn 70 [(0, 0)] []], [.ptr 0 0], [.pv .str], q4], []⟩
def Aia : Sk := ⟨[.lf (.erp 68 [(.int .i64), (.int .i64)])], [[.pv (.slice yt8)], q5, [.ptr 0 0], [.ptr 35 6], [.ptr 0 0], [.ptr 35 0], [.ptr 0 0], [.pv .str], [.ptr 0 0], [.pv .str], [.ptr 35 1], [.pv (.int .i64)], [.fn 62 [(0, 0)] []], [.ptr 0 0], [.pv .str], [.ptr 35 2], [.pv (.int .i64)], [.fn 64 [(0, 0)] []], [.ptr 0 0], [.pv .str], [.ptr 35 3], [.pv (.int .i64)], [.fn 66 [(0, 0)] []], [.ptr 0 0], [.pv .str], [.ptr 35 4], [.pv (.int .i64)], [.fn 68 [(0, 0)] []], [.ptr 0 0], [.pv .str], [.ptr 35 5], [.pv (.int .i64)], [.fn 70 [(0, 0)] []], [.ptr 0 0], [.pv .str], q20], [some (60, yt1), some (120, yt2), some (122, yt3), some (49, (.cons (.slice yt4) .nil)), some (125, yt5)]⟩
def A9y (k : Nat) : EnvL := [(82, [A0k k]), (83, [Ayw k]), (52, [D6 k]), (85, [Axu k]), (86, [Axy k]), (87, [Ax0 k]), (89, [Axs k]), (93, [Axq k])]
def Ah7 (k : Nat) : Cfg := mkC (A9y k) 73 36 0
def Tp (k : Nat) : H79 → Option H80 := hid (Ab (Ah7 k) (k + 32) Tryz.f32 Ah9 Aia)
def Ayb (k : Nat) : Sig := Ac Ah9 Aia (Tp k)
noncomputable def Ah8 (k : Nat) : H79 → Option H80
 | (a0, a1, a2, a3, a4, a5, a6, a7, a8, a9, a10, a11, a12, a13, a14) => ((Pv k) (a0, a13, a14)).bind fun o1 => ((Ow k) (o1.1, o1.2.1, o1.2.2)).bind fun o2 => bif (!o2.1) then (some (o2.1, o2.2.1, o2.2.2.1, o2.2.2.2.1, a1, a2, a3, a4, a5, a6, a7, a8, a9, a10, a11, a12, o2.2.2.2.2.1, o2.2.2.2.2.2, [], [], [], [], [])) else (((Bg k) (a1, o2.2.2.2.1)).bind fun o3 => bif (!o3.1) then (some (o3.1, o3.2.1, o3.2.2.1, o3.2.2.2.2, o3.2.2.2.1, a2, a3, a4, a5, a6, a7, a8, a9, a10, a11, a12, o2.2.2.2.2.1, o2.2.2.2.2.2, [], [], [], [], [])) else (((Oi k) (a2, a3, o3.2.2.2.2, o2.2.2.2.2.1, o2.2.2.2.2.2)).bind fun o4 => bif (!o4.1) then (some (o4.1, o4.2.1, o4.2.2.1, o4.2.2.2.2.2.1, o3.2.2.2.1, o4.2.2.2.1, o4.2.2.2.2.1, a4, a5, a6, a7, a8, a9, a10, a11, a12, o4.2.2.2.2.2.2.1, o4.2.2.2.2.2.2.2.1, o4.2.2.2.2.2.2.2.2, [], [], [], [])) else (((Ok k) (a4, a5, o4.2.2.2.2.2.1, o4.2.2.2.2.2.2.1, o4.2.2.2.2.2.2.2.1, o4.2.2.2.2.2.2.2.2)).bind fun o5 => bif (!o5.1) then (some (o5.1, o5.2.1, o5.2.2.1, o5.2.2.2.2.2.1, o3.2.2.2.1, o4.2.2.2.1, o4.2.2.2.2.1, o5.2.2.2.1, o5.2.2.2.2.1, a6, a7, a8, a9, a10, a11, a12, o5.2.2.2.2.2.2.1, o5.2.2.2.2.2.2.2.1, o5.2.2.2.2.2.2.2.2.1, o5.2.2.2.2.2.2.2.2.2, [], [], [])) else (((Ol k) (a6, a7, o5.2.2.2.2.2.1, o5.2.2.2.2.2.2.1, o5.2.2.2.2.2.2.2.1, o5.2.2.2.2.2.2.2.2.1, o5.2.2.2.2.2.2.2.2.2)).bind fun o6 => bif (!o6.1) then (some (o6.1, o6.2.1, o6.2.2.1, o6.2.2.2.2.2.1, o3.2.2.2.1, o4.2.2.2.1, o4.2.2.2.2.1, o5.2.2.2.1, o5.2.2.2.2.1, o6.2.2.2.1, o6.2.2.2.2.1, a8, a9, a10, a11, a12, o6.2.2.2.2.2.2.1, o6.2.2.2.2.2.2.2.1, o6.2.2.2.2.2.2.2.2.1, o6.2.2.2.2.2.2.2.2.2.1, o6.2.2.2.2.2.2.2.2.2.2, [], [])) else (((Oh k) (a8, a9, o6.2.2.2.2.2.1, o6.2.2.2.2.2.2.1, o6.2.2.2.2.2.2.2.1, o6.2.2.2.2.2.2.2.2.1, o6.2.2.2.2.2.2.2.2.2.1, o6.2.2.2.2.2.2.2.2.2.2)).bind fun o7 => bif (!o7.1) then (some (o7.1, o7.2.1, o7.2.2.1, o7.2.2.2.2.2.1, o3.2.2.2.1, o4.2.2.2.1, o4.2.2.2.2.1, o5.2.2.2.1, o5.2.2.2.2.1, o6.2.2.2.1, o6.2.2.2.2.1, o7.2.2.2.1, o7.2.2.2.2.1, a10, a11, a12, o7.2.2.2.2.2.2.1, o7.2.2.2.2.2.2.2.1, o7.2.2.2.2.2.2.2.2.1, o7.2.2.2.2.2.2.2.2.2.1, o7.2.2.2.2.2.2.2.2.2.2.1, o7.2.2.2.2.2.2.2.2.2.2.2, [])) else (((Og k) (a10, a11, o7.2.2.2.2.2.1, o7.2.2.2.2.2.2.1, o7.2.2.2.2.2.2.2.1, o7.2.2.2.2.2.2.2.2.1, o7.2.2.2.2.2.2.2.2.2.1, o7.2.2.2.2.2.2.2.2.2.2.1, o7.2.2.2.2.2.2.2.2.2.2.2)).bind fun o8 => bif (!o8.1) then (some (o8.1, o8.2.1, o8.2.2.1, o8.2.2.2.2.2.1, o3.2.2.2.1, o4.2.2.2.1, o4.2.2.2.2.1, o5.2.2.2.1, o5.2.2.2.2.1, o6.2.2.2.1, o6.2.2.2.2.1, o7.2.2.2.1, o7.2.2.2.2.1, o8.2.2.2.1, o8.2.2.2.2.1, a12, o8.2.2.2.2.2.2.1, o8.2.2.2.2.2.2.2.1, o8.2.2.2.2.2.2.2.2.1, o8.2.2.2.2.2.2.2.2.2.1, o8.2.2.2.2.2.2.2.2.2.2.1, o8.2.2.2.2.2.2.2.2.2.2.2.1, o8.2.2.2.2.2.2.2.2.2.2.2.2)) else (((Bg k) (a12, o8.2.2.2.2.2.1)).bind fun o9 => bif (!o9.1) then (some (o9.1, o9.2.1, o9.2.2.1, o9.2.2.2.2, o3.2.2.2.1, o4.2.2.2.1, o4.2.2.2.2.1, o5.2.2.2.1, o5.2.2.2.2.1, o6.2.2.2.1, o6.2.2.2.2.1, o7.2.2.2.1, o7.2.2.2.2.1, o8.2.2.2.1, o8.2.2.2.2.1, o9.2.2.2.1, o8.2.2.2.2.2.2.1, o8.2.2.2.2.2.2.2.1, o8.2.2.2.2.2.2.2.2.1, o8.2.2.2.2.2.2.2.2.2.1, o8.2.2.2.2.2.2.2.2.2.2.1, o8.2.2.2.2.2.2.2.2.2.2.2.1, o8.2.2.2.2.2.2.2.2.2.2.2.2)) else (some (true, (0 : Int), (0 : Int), o9.2.2.2.2, o3.2.2.2.1, o4.2.2.2.1, o4.2.2.2.2.1, o5.2.2.2.1, o5.2.2.2.2.1, o6.2.2.2.1, o6.2.2.2.2.1, o7.2.2.2.1, o7.2.2.2.2.1, o8.2.2.2.1, o8.2.2.2.2.1, o9.2.2.2.1, o8.2.2.2.2.2.2.1, o8.2.2.2.2.2.2.2.1, o8.2.2.2.2.2.2.2.2.1, o8.2.2.2.2.2.2.2.2.2.1, o8.2.2.2.2.2.2.2.2.2.2.1, o8.2.2.2.2.2.2.2.2.2.2.2.1, o8.2.2.2.2.2.2.2.2.2.2.2.2)))))))))
theorem A9z (k : Nat) (x : H79) : Tp k x = Ah8 k x := (Ad _ _).trans (by kernel_rfl)
theorem A29 (k : Nat) : Aa Tryz.prog 32 (Ayb k) := Af (Ah7 k) (k + 32) rfl ⟨⟨A51 k, trivial⟩, ⟨A4c k, trivial⟩, ⟨Ee k, trivial⟩, ⟨A2q k, trivial⟩, ⟨A2u k, trivial⟩, ⟨A2w k, trivial⟩, ⟨A2o k, trivial⟩, ⟨A2m k, trivial⟩, trivial⟩ Ae Tryz.func32 (by kernel_rfl)
abbrev H81 : Type := (List Int) × (Int) × (Bool) × (Int) × (Int) × (List (YT8)) × (List (YT1)) × (List (YT2)) × (List (YT3)) × (List ((List (YT4)) × (Unit))) × (List (YT5))
def fpnodei : Sk := ⟨[.lf (.ptr 0 0)], [[.pv (.slice yt8)]], []⟩
def fpnodeo : Sk := ⟨[.agg [.pv .str, .own 0, .own 1, .own 2, .own 3, .own 4, .pv (.int .i64)], .lf (.erp 68 [(.int .i64), (.int .i64)])], fpnodei.boxes, [some (60, yt1), some (120, yt2), some (122, yt3), some (49, (.cons (.slice yt4) .nil)), some (125, yt5)]⟩
def fpnodeE (k : Nat) : EnvL := [(59, [sgpplace k]), (60, [sgpname k]), (33, [D5 k]), (61, [Axt k]), (63, [Axx k]), (65, [Axz k]), (67, [Axr k]), (69, [Axp k]), (32, [Ayb k])]
def Amq (k : Nat) : Cfg := mkC (fpnodeE k) 125 1 0
def cpnode (k : Nat) : (List (YT8)) → Option H81 := hid (Ab (Amq k) k Tryz.f37 fpnodei fpnodeo)
def sgpnode (k : Nat) : Sig := Ac fpnodei fpnodeo (cpnode k)
noncomputable def Amr (k : Nat) : (List (YT8)) → Option H81
 | a0 => ((cpplace k) (a0, ([] : List Int), (0 : Int))).bind fun o1 => ((cpname k) (o1.1, o1.2.1, o1.2.2)).bind fun o2 => ((Bk k) (([123] : List Int), o2.1)).bind fun o3 => ((Td k) (([104, 101, 97, 100] : List Int), (16 : Int), o3.1, o2.2.1, o2.2.2)).bind fun o4 => ((Tf k) (([119, 97, 108, 107] : List Int), (8 : Int), o4.1, o4.2.1, o4.2.2.1)).bind fun o5 => ((Tg k) (([112, 104, 97, 115, 101] : List Int), (16 : Int), o5.1, o5.2.1, o5.2.2.1)).bind fun o6 => ((Tc k) (([103, 114, 111, 117, 112] : List Int), (4 : Int), o6.1, o6.2.1, o6.2.2.1)).bind fun o7 => ((Tb k) (([102, 111, 101] : List Int), (64 : Int), o7.1, o7.2.1, o7.2.2.1)).bind fun o8 => ((Bk k) (([125] : List Int), o8.1)).bind fun o9 => ((Tp k) (o9.1, o3.2, o4.2.2.2.1, o4.2.2.2.2, o5.2.2.2.1, o5.2.2.2.2, o6.2.2.2.1, o6.2.2.2.2, o7.2.2.2.1, o7.2.2.2.2, o8.2.2.2.1, o8.2.2.2.2, o9.2, o8.2.1, o8.2.2.1)).bind fun o10 => some (o10.2.2.2.2.2.2.2.2.2.2.2.2.2.2.2.2.1, o10.2.2.2.2.2.2.2.2.2.2.2.2.2.2.2.2.2.1, o10.1, o10.2.1, o10.2.2.1, o10.2.2.2.1, o10.2.2.2.2.2.2.2.2.2.2.2.2.2.2.2.2.2.2.1, o10.2.2.2.2.2.2.2.2.2.2.2.2.2.2.2.2.2.2.2.1, o10.2.2.2.2.2.2.2.2.2.2.2.2.2.2.2.2.2.2.2.2.1, o10.2.2.2.2.2.2.2.2.2.2.2.2.2.2.2.2.2.2.2.2.2.1, o10.2.2.2.2.2.2.2.2.2.2.2.2.2.2.2.2.2.2.2.2.2.2)
theorem Bb1 (k : Nat) (x : (List (YT8))) : cpnode k x = Amr k x := (Ad _ _).trans (by kernel_rfl)
theorem A4j (k : Nat) : Aa Tryz.prog 37 (sgpnode k) := Af (Amq k) k rfl ⟨⟨A52 k, trivial⟩, ⟨A4d k, trivial⟩, ⟨Ed k, trivial⟩, ⟨A2r k, trivial⟩, ⟨A2v k, trivial⟩, ⟨A2x k, trivial⟩, ⟨A2p k, trivial⟩, ⟨A2n k, trivial⟩, ⟨A29 k, trivial⟩, trivial⟩ Ae Tryz.func37 (by kernel_rfl)
abbrev H82 : Type := (List Int) × (Int) × (List (YT8)) × (Int) × (Int) × (Int) × (Int) × (Int) × (Int) × (Int) × (List (YT6))
abbrev H83 : Type := (List Int) × (Int) × (List (YT8)) × (Int) × (Int) × (Int) × (Int) × (Int) × (Int) × (Int)
abbrev H84 : Type := (Bool) × (Int) × (Int) × (List Int) × (Int) × (List (YT8)) × (Int) × (Int) × (Int) × (Int) × (Int) × (Int) × (Int) × (List (YT6))
def W5 : Sk := ⟨[.lf (.ptr 0 0), .lf (.ptr 1 0), .lf (.ptr 2 0), .lf (.ptr 3 0), .lf (.ptr 4 0)], [[.ptr 5 0], [.pv .str], [.ptr 6 5], [.pv (.int .i64)], [.fn 37 [(5, 0)] []], [.pv (.slice yt8)], q0], []⟩
def W6 : Sk := ⟨[.lf (.erp 68 [(.int .i64), (.int .i64)])], [[.ptr 5 0], [.pv .str], [.ptr 6 5], [.pv (.int .i64)], [.fn 37 [(5, 0)] []], [.pv (.slice yt8)], q21], [some (45, yt6)]⟩
def Agx : Sk := ⟨sparse 37 [(0, .lf (.ptr 0 0)), (1, .lf (.ptr 1 0)), (2, .lf (.ptr 2 0)), (3, .lf (.ptr 3 0)), (4, .lf (.ptr 4 0))], [[.ptr 5 0], [.pv .str], [.ptr 6 5], [.pv (.int .i64)], [.fn 37 [(5, 0)] []], [.pv (.slice yt8)], q21], [some (45, yt6)]⟩
abbrev W2 := H82
def Ml : W2 → St := stOf Agx 90
def A86 (k : Nat) : EnvL := [(53, [Dk k]), (54, [A7 k]), (55, [A8 k]), (37, [sgpnode k])]
def Ff (k : Nat) : FnX H84 := mkX ({ mkC (A86 k) 90 7 0 with hint := fun i => look none [(1, some Agx)] i, ld := [(29, 2), (30, 2), (31, 9999), (32, 6), (33, 54), (36, 9999)], sr := [(36, 6)] }) k Tryz.f58 W6
def Oj (k : Nat) : H83 → Option H84 := hid (Ab (Ff k).C k Tryz.f58 W5 W6)
def Axw (k : Nat) : Sig := Ac W5 W6 (Oj k)
noncomputable def W4 (k : Nat) (J : JF H84) (L : LF H84) : H83 → Option H84
 | (a0, a1, a2, a3, a4, a5, a6, a7, a8, a9) => L 1 [] k (Ml (a0, a1, a2, a3, a4, a5, a6, a7, a8, a9, []))
theorem A87 (k : Nat) (x : H83) : Oj k x = W4 k (Ff k).J (Ff k).L x := by
 refine (Ad _ _).trans ?_; apply cutX (Ff k) [] [] (st0 (Ff k).C Tryz.f58 W5 x) [] [(1, [], k)] (W4 k · · x) <;> intros <;> kernel_rfl
noncomputable def Mm (k j1 : Nat) (J : JF H84) (L : LF H84) : W2 → Option H84
 | (a0, a1, a2, a3, a4, a5, a6, a7, a8, a9, a10) => ((C0 k) (a0, a2)).bind fun o1 => bif o1.1 then (bif (((List.length a10 : Nat) : Int) == a1) then (((A4 k) ((4 : Int), o1.2)).bind fun o2 => some (o2.1, o2.2.1, o2.2.2.1, a0, a1, o2.2.2.2, a3, a4, a5, a6, a7, a8, a9, a10)) else (((A2 k) (o1.2)).bind fun o3 => ((cpnode k) (o3.2.2.2.2)).bind fun o4 => bif (!o4.2.2.1) then (some (o4.2.2.1, o4.2.2.2.1, o4.2.2.2.2.1, a0, a1, o4.2.2.2.2.2.1, a3, a4, a5, a6, a7, a8, a9, a10)) else (app 144 a10 ([(o4.1, (o4.2.2.2.2.2.2.1, (o4.2.2.2.2.2.2.2.1, (o4.2.2.2.2.2.2.2.2.1, (o4.2.2.2.2.2.2.2.2.2.1, (o4.2.2.2.2.2.2.2.2.2.2, (o4.2.1, ())))))))] : List (YT6)) fun o5 => L 1 [] j1 (Ml (a0, a1, o4.2.2.2.2.2.1, a3, a4, a5, a6, a7, a8, a9, o5))))) else (some (true, (0 : Int), (0 : Int), a0, a1, o1.2, a3, a4, a5, a6, a7, a8, a9, a10))
theorem W3 (k j1 : Nat) (x : W2) : (Ff k).L 1 [] (j1 + 1) (Ml x) = Mm k j1 (Ff k).J (Ff k).L x := by
 apply cutX (Ff k) [.r, .l, .b, .b] [j1] (Ml x) [] [(1, [], j1)] (Mm k j1 · · x) <;> intros <;> kernel_rfl
theorem A2s (k : Nat) : Aa Tryz.prog 58 (Axw k) := Af (Ff k).C k rfl ⟨⟨Do k, trivial⟩, ⟨A9 k, trivial⟩, ⟨Ba k, trivial⟩, ⟨A4j k, trivial⟩, trivial⟩ Ae Tryz.func58 (by kernel_rfl)
abbrev H85 : Type := (List Int) × (List Int) × (List Int) × (List Int) × (List Int) × (List Int) × (List Int) × (Int) × (List Int) × (Int) × (Int) × (Int) × (Int) × (Int) × (Int) × (Int) × (Bool) × (List (YT8))
abbrev H86 : Type := (Bool) × (Int) × (Int) × (List (YT8)) × (List Int) × (List Int) × (List Int) × (List Int) × (List Int) × (List Int) × (List Int) × (Int) × (List Int) × (Int) × (Int) × (Int) × (Int) × (Int) × (Int) × (Int) × (Bool) × (List (YT6))
def fpalli : Sk := ⟨[.lf (.ptr 0 0), .lf (.sb 1 12)], [[.own 0], q1, [.ptr 0 0], [.pv .str], [.ptr 0 0], [.ptr 30 0], [.ptr 0 0], [.pv .str], [.ptr 0 0], [.ptr 30 1], [.ptr 0 0], [.pv .str], [.ptr 0 0], [.ptr 30 2], [.ptr 0 0], [.pv .str], [.ptr 0 0], [.pv .str], [.ptr 0 0], [.ptr 30 3], [.ptr 0 0], [.pv .str], [.ptr 0 0], [.pv .str], [.ptr 30 5], [.pv (.int .i64)], [.fn 37 [(0, 0)] []], [.ptr 0 0], [.pv .str], [.ptr 31 0], q0, [.pv .bool]], [some (56, yt8)]⟩
def fpallo : Sk := ⟨[.lf (.erp 68 [(.int .i64), (.int .i64)])], [[.pv (.slice yt8)], q1, [.ptr 0 0], [.pv .str], [.ptr 0 0], [.ptr 30 0], [.ptr 0 0], [.pv .str], [.ptr 0 0], [.ptr 30 1], [.ptr 0 0], [.pv .str], [.ptr 0 0], [.ptr 30 2], [.ptr 0 0], [.pv .str], [.ptr 0 0], [.pv .str], [.ptr 0 0], [.ptr 30 3], [.ptr 0 0], [.pv .str], [.ptr 0 0], [.pv .str], [.ptr 30 5], [.pv (.int .i64)], [.fn 37 [(0, 0)] []], [.ptr 0 0], [.pv .str], [.ptr 31 0], q22, [.pv .bool]], [none, some (45, yt6)]⟩
def fpallE (k : Nat) : EnvL := [(52, [A0r k, D6 k]), (56, [Azu k, Azv k, Az6 k]), (57, [Ayi k]), (58, [Axw k]), (71, [Acc k])]
def Aix (k : Nat) : Cfg := mkC (fpallE k) 69 32 1
def cpall (k : Nat) : H85 → Option H86 := hid (Ab (Aix k) (k + 32) Tryz.f32 fpalli fpallo)
def sgpall (k : Nat) : Sig := Ac fpalli fpallo (cpall k)
noncomputable def Aiy (k : Nat) : H85 → Option H86
 | (a0, a1, a2, a3, a4, a5, a6, a7, a8, a9, a10, a11, a12, a13, a14, a15, a16, a17) => ((P2 k) (a0, a17)).bind fun o1 => bif (!o1.1) then (some (o1.1, o1.2.1, o1.2.2.1, o1.2.2.2.2, o1.2.2.2.1, a1, a2, a3, a4, a5, a6, a7, a8, a9, a10, a11, a12, a13, a14, a15, a16, [])) else (((O9 k) (o1.2.2.2.2, a9, a10, a11, a12, a13, a14, a15)).bind fun o2 => bif (!o2.1) then (some (o2.1, o2.2.1, o2.2.2.1, o2.2.2.2.1, o1.2.2.2.1, a1, a2, a3, a4, a5, a6, a7, a8, o2.2.2.2.2.1, o2.2.2.2.2.2.1, o2.2.2.2.2.2.2.1, o2.2.2.2.2.2.2.2.1, o2.2.2.2.2.2.2.2.2.1, o2.2.2.2.2.2.2.2.2.2.1, o2.2.2.2.2.2.2.2.2.2.2, a16, [])) else (((Bg k) (a1, o2.2.2.2.1)).bind fun o3 => bif (!o3.1) then (some (o3.1, o3.2.1, o3.2.2.1, o3.2.2.2.2, o1.2.2.2.1, o3.2.2.2.1, a2, a3, a4, a5, a6, a7, a8, o2.2.2.2.2.1, o2.2.2.2.2.2.1, o2.2.2.2.2.2.2.1, o2.2.2.2.2.2.2.2.1, o2.2.2.2.2.2.2.2.2.1, o2.2.2.2.2.2.2.2.2.2.1, o2.2.2.2.2.2.2.2.2.2.2, a16, [])) else (((Pa k) (o3.2.2.2.2, o2.2.2.2.2.1, o2.2.2.2.2.2.1, o2.2.2.2.2.2.2.1, o2.2.2.2.2.2.2.2.1, o2.2.2.2.2.2.2.2.2.1, o2.2.2.2.2.2.2.2.2.2.1, o2.2.2.2.2.2.2.2.2.2.2)).bind fun o4 => bif (!o4.1) then (some (o4.1, o4.2.1, o4.2.2.1, o4.2.2.2.1, o1.2.2.2.1, o3.2.2.2.1, a2, a3, a4, a5, a6, a7, a8, o4.2.2.2.2.1, o4.2.2.2.2.2.1, o4.2.2.2.2.2.2.1, o4.2.2.2.2.2.2.2.1, o4.2.2.2.2.2.2.2.2.1, o4.2.2.2.2.2.2.2.2.2.1, o4.2.2.2.2.2.2.2.2.2.2, a16, [])) else (((Bg k) (a2, o4.2.2.2.1)).bind fun o5 => bif (!o5.1) then (some (o5.1, o5.2.1, o5.2.2.1, o5.2.2.2.2, o1.2.2.2.1, o3.2.2.2.1, o5.2.2.2.1, a3, a4, a5, a6, a7, a8, o4.2.2.2.2.1, o4.2.2.2.2.2.1, o4.2.2.2.2.2.2.1, o4.2.2.2.2.2.2.2.1, o4.2.2.2.2.2.2.2.2.1, o4.2.2.2.2.2.2.2.2.2.1, o4.2.2.2.2.2.2.2.2.2.2, a16, [])) else (((Pm k) (o5.2.2.2.2, o4.2.2.2.2.1, o4.2.2.2.2.2.1, o4.2.2.2.2.2.2.1, o4.2.2.2.2.2.2.2.1, o4.2.2.2.2.2.2.2.2.1, o4.2.2.2.2.2.2.2.2.2.1, o4.2.2.2.2.2.2.2.2.2.2)).bind fun o6 => bif (!o6.1) then (some (o6.1, o6.2.1, o6.2.2.1, o6.2.2.2.1, o1.2.2.2.1, o3.2.2.2.1, o5.2.2.2.1, a3, a4, a5, a6, a7, a8, o6.2.2.2.2.1, o6.2.2.2.2.2.1, o6.2.2.2.2.2.2.1, o6.2.2.2.2.2.2.2.1, o6.2.2.2.2.2.2.2.2.1, o6.2.2.2.2.2.2.2.2.2.1, o6.2.2.2.2.2.2.2.2.2.2, a16, [])) else (((Bg k) (a3, o6.2.2.2.1)).bind fun o7 => bif (!o7.1) then (some (o7.1, o7.2.1, o7.2.2.1, o7.2.2.2.2, o1.2.2.2.1, o3.2.2.2.1, o5.2.2.2.1, o7.2.2.2.1, a4, a5, a6, a7, a8, o6.2.2.2.2.1, o6.2.2.2.2.2.1, o6.2.2.2.2.2.2.1, o6.2.2.2.2.2.2.2.1, o6.2.2.2.2.2.2.2.2.1, o6.2.2.2.2.2.2.2.2.2.1, o6.2.2.2.2.2.2.2.2.2.2, a16, [])) else (((Bg k) (a4, o7.2.2.2.2)).bind fun o8 => bif (!o8.1) then (some (o8.1, o8.2.1, o8.2.2.1, o8.2.2.2.2, o1.2.2.2.1, o3.2.2.2.1, o5.2.2.2.1, o7.2.2.2.1, o8.2.2.2.1, a5, a6, a7, a8, o6.2.2.2.2.1, o6.2.2.2.2.2.1, o6.2.2.2.2.2.2.1, o6.2.2.2.2.2.2.2.1, o6.2.2.2.2.2.2.2.2.1, o6.2.2.2.2.2.2.2.2.2.1, o6.2.2.2.2.2.2.2.2.2.2, a16, [])) else (((Ot k) (o8.2.2.2.2, o6.2.2.2.2.1, o6.2.2.2.2.2.1, o6.2.2.2.2.2.2.1, o6.2.2.2.2.2.2.2.1, o6.2.2.2.2.2.2.2.2.1, o6.2.2.2.2.2.2.2.2.2.1, o6.2.2.2.2.2.2.2.2.2.2)).bind fun o9 => bif (!o9.1) then (some (o9.1, o9.2.1, o9.2.2.1, o9.2.2.2.1, o1.2.2.2.1, o3.2.2.2.1, o5.2.2.2.1, o7.2.2.2.1, o8.2.2.2.1, a5, a6, a7, a8, o9.2.2.2.2.1, o9.2.2.2.2.2.1, o9.2.2.2.2.2.2.1, o9.2.2.2.2.2.2.2.1, o9.2.2.2.2.2.2.2.2.1, o9.2.2.2.2.2.2.2.2.2.1, o9.2.2.2.2.2.2.2.2.2.2, a16, [])) else (((Bg k) (a5, o9.2.2.2.1)).bind fun o10 => bif (!o10.1) then (some (o10.1, o10.2.1, o10.2.2.1, o10.2.2.2.2, o1.2.2.2.1, o3.2.2.2.1, o5.2.2.2.1, o7.2.2.2.1, o8.2.2.2.1, o10.2.2.2.1, a6, a7, a8, o9.2.2.2.2.1, o9.2.2.2.2.2.1, o9.2.2.2.2.2.2.1, o9.2.2.2.2.2.2.2.1, o9.2.2.2.2.2.2.2.2.1, o9.2.2.2.2.2.2.2.2.2.1, o9.2.2.2.2.2.2.2.2.2.2, a16, [])) else (((Oj k) (a6, a7, o10.2.2.2.2, o9.2.2.2.2.1, o9.2.2.2.2.2.1, o9.2.2.2.2.2.2.1, o9.2.2.2.2.2.2.2.1, o9.2.2.2.2.2.2.2.2.1, o9.2.2.2.2.2.2.2.2.2.1, o9.2.2.2.2.2.2.2.2.2.2)).bind fun o11 => bif (!o11.1) then (some (o11.1, o11.2.1, o11.2.2.1, o11.2.2.2.2.2.1, o1.2.2.2.1, o3.2.2.2.1, o5.2.2.2.1, o7.2.2.2.1, o8.2.2.2.1, o10.2.2.2.1, o11.2.2.2.1, o11.2.2.2.2.1, a8, o11.2.2.2.2.2.2.1, o11.2.2.2.2.2.2.2.1, o11.2.2.2.2.2.2.2.2.1, o11.2.2.2.2.2.2.2.2.2.1, o11.2.2.2.2.2.2.2.2.2.2.1, o11.2.2.2.2.2.2.2.2.2.2.2.1, o11.2.2.2.2.2.2.2.2.2.2.2.2.1, a16, o11.2.2.2.2.2.2.2.2.2.2.2.2.2)) else (((Lt k) (a8, o11.2.2.2.2.2.1, a16)).bind fun o12 => some (true, (0 : Int), (0 : Int), o12.2.1, o1.2.2.2.1, o3.2.2.2.1, o5.2.2.2.1, o7.2.2.2.1, o8.2.2.2.1, o10.2.2.2.1, o11.2.2.2.1, o11.2.2.2.2.1, o12.1, o11.2.2.2.2.2.2.1, o11.2.2.2.2.2.2.2.1, o11.2.2.2.2.2.2.2.2.1, o11.2.2.2.2.2.2.2.2.2.1, o11.2.2.2.2.2.2.2.2.2.2.1, o11.2.2.2.2.2.2.2.2.2.2.2.1, o11.2.2.2.2.2.2.2.2.2.2.2.2.1, o12.2.2, o11.2.2.2.2.2.2.2.2.2.2.2.2.2))))))))))))
theorem fpall_e (k : Nat) (x : H85) : cpall k x = Aiy k x := (Ad _ _).trans (by kernel_rfl)
theorem A3f (k : Nat) : Aa Tryz.prog 32 (sgpall k) := Af (Aix k) (k + 32) rfl ⟨⟨A59 k, Ee k, trivial⟩, ⟨A5o k, A5e k, A5g k, trivial⟩, ⟨A3l k, trivial⟩, ⟨A2s k, trivial⟩, ⟨Aed k, trivial⟩, trivial⟩ Ae Tryz.func32 (by kernel_rfl)
abbrev H87 : Type := (List (YT8)) × (Int) × (Int) × (Int) × (Int) × (Int) × (Int) × (Int) × (List Int) × (Int) × (List (YT6))
def Ahj : Sk := ⟨[.lf (.ptr 0 0), .lf (.pv .str), .lf (.pv (.int .i64)), .lf (.ptr 1 6), .lf (.fn 40 [(0, 0)] [])], [[.pv (.slice yt8)], q21], [some (45, yt6)]⟩
def Ahk : Sk := ⟨[.lf (.fn 72 [] [(2, 0), (3, 0), (4, 0), (5, 0), (6, 0)])], [[.pv (.slice yt8)], q21, [.ptr 0 0], [.pv .str], [.ptr 1 6], [.pv (.int .i64)], [.fn 40 [(0, 0)] []]], [some (45, yt6)]⟩
def Ahg (k : Nat) : Cfg := mkC [] 60 2 1
def Ti (k : Nat) : H82 → Option H87 := hid (Ab (Ahg k) k Tryz.f39 Ahj Ahk)
def Ax3 (k : Nat) : Sig := Ac Ahj Ahk (Ti k)
noncomputable def Ahi (k : Nat) : H82 → Option H87
 | (a0, a1, a2, a3, a4, a5, a6, a7, a8, a9, a10) => some (a2, a3, a4, a5, a6, a7, a8, a9, a0, a1, a10)
theorem A9k (k : Nat) (x : H82) : Ti k x = Ahi k x := (Ad _ _).trans (by kernel_rfl)
theorem A21 (k : Nat) : Aa Tryz.prog 39 (Ax3 k) := Af (Ahg k) (l := []) k rfl trivial Ae Tryz.func39 (by kernel_rfl)
abbrev H88 : Type := (List (YT8)) × (Int) × (Int) × (Int) × (Int) × (Int) × (Int) × (Int) × (List (YT6))
def Ann : Sk := ⟨[.lf (.ptr 0 0), .lf (.ptr 1 7)], [[.pv (.slice yt8)], q21], [some (45, yt6)]⟩
def Ano : Sk := ⟨[.lf (.fn 56 [] [(2, 0), (3, 0)])], [[.pv (.slice yt8)], q21, [.ptr 0 0], [.ptr 1 7]], [some (45, yt6)]⟩
def Anl (k : Nat) : Cfg := mkC [] 54 2 1
def Ui (k : Nat) : H88 → Option H88 := hid (Ab (Anl k) k Tryz.f34 Ann Ano)
def Azi (k : Nat) : Sig := Ac Ann Ano (Ui k)
noncomputable def Anm (k : Nat) : H88 → Option H88
 | (a0, a1, a2, a3, a4, a5, a6, a7, a8) => some (a0, a1, a2, a3, a4, a5, a6, a7, a8)
theorem Bb9 (k : Nat) (x : H88) : Ui k x = Anm k x := (Ad _ _).trans (by kernel_rfl)
theorem A4r (k : Nat) : Aa Tryz.prog 34 (Azi k) := Af (Anl k) (l := []) k rfl trivial Ae Tryz.func34 (by kernel_rfl)
def Anr : Sk := ⟨[.lf (.ptr 0 0), .lf (.ptr 1 8)], [[.pv (.slice yt8)], q21], [some (45, yt6)]⟩
def Ans : Sk := ⟨[.lf (.fn 56 [] [(2, 0), (3, 0)])], [[.pv (.slice yt8)], q21, [.ptr 0 0], [.ptr 1 8]], [some (45, yt6)]⟩
def Anp (k : Nat) : Cfg := mkC [] 54 2 1
def Uj (k : Nat) : H88 → Option H88 := hid (Ab (Anp k) k Tryz.f34 Anr Ans)
def Azj (k : Nat) : Sig := Ac Anr Ans (Uj k)
noncomputable def Anq (k : Nat) : H88 → Option H88
 | (a0, a1, a2, a3, a4, a5, a6, a7, a8) => some (a0, a1, a2, a3, a4, a5, a6, a7, a8)
theorem Bca (k : Nat) (x : H88) : Uj k x = Anq k x := (Ad _ _).trans (by kernel_rfl)
theorem A4s (k : Nat) : Aa Tryz.prog 34 (Azj k) := Af (Anp k) (l := []) k rfl trivial Ae Tryz.func34 (by kernel_rfl)
abbrev H89 : Type := (List (YT8)) × (List Int) × (List Int) × (List Int) × (Int) × (Int) × (Int)
def Arf : Sk := ⟨[.lf (.ptr 0 0), .lf (.ptr 1 5)], [[.pv (.slice yt8)], q24], []⟩
def Arg : Sk := ⟨[.lf (.fn 82 [] [(2, 0), (3, 0)])], [[.pv (.slice yt8)], q24, [.ptr 0 0], [.ptr 1 5]], []⟩
def Ard (k : Nat) : Cfg := mkC [] 54 2 0
def Uy (k : Nat) : H89 → Option H89 := hid (Ab (Ard k) k Tryz.f59 Arf Arg)
def A0j (k : Nat) : Sig := Ac Arf Arg (Uy k)
noncomputable def Are (k : Nat) : H89 → Option H89
 | (a0, a1, a2, a3, a4, a5, a6) => some (a0, a1, a2, a3, a4, a5, a6)
theorem Bdx (k : Nat) (x : H89) : Uy k x = Are k x := (Ad _ _).trans (by kernel_rfl)
theorem A5v (k : Nat) : Aa Tryz.prog 59 (A0j k) := Af (Ard k) (l := []) k rfl trivial Ae Tryz.func59 (by kernel_rfl)
def Ak6 : Sk := ⟨[.lf (.ptr 0 0), .lf (.ptr 1 0)], [[.pv (.slice yt8)], q24], []⟩
def Ak7 : Sk := ⟨[.lf (.fn 83 [] [(2, 0), (3, 0)])], [[.pv (.slice yt8)], q24, [.ptr 0 0], [.ptr 1 0]], []⟩
def Ak4 (k : Nat) : Cfg := mkC [] 54 2 0
def T7 (k : Nat) : H89 → Option H89 := hid (Ab (Ak4 k) k Tryz.f60 Ak6 Ak7)
def Ayu (k : Nat) : Sig := Ac Ak6 Ak7 (T7 k)
noncomputable def Ak5 (k : Nat) : H89 → Option H89
 | (a0, a1, a2, a3, a4, a5, a6) => some (a0, a1, a2, a3, a4, a5, a6)
theorem Ba2 (k : Nat) (x : H89) : T7 k x = Ak5 k x := (Ad _ _).trans (by kernel_rfl)
theorem A30 (k : Nat) : Aa Tryz.prog 60 (Ayu k) := Af (Ak4 k) (l := []) k rfl trivial Ae Tryz.func60 (by kernel_rfl)
def Ala : Sk := ⟨[.lf (.ptr 0 0), .lf (.ptr 1 1)], [[.pv (.slice yt8)], q24], []⟩
def Alb : Sk := ⟨[.lf (.fn 83 [] [(2, 0), (3, 0)])], [[.pv (.slice yt8)], q24, [.ptr 0 0], [.ptr 1 1]], []⟩
def Ak8 (k : Nat) : Cfg := mkC [] 54 2 0
def T8 (k : Nat) : H89 → Option H89 := hid (Ab (Ak8 k) k Tryz.f60 Ala Alb)
def Ayv (k : Nat) : Sig := Ac Ala Alb (T8 k)
noncomputable def Ak9 (k : Nat) : H89 → Option H89
 | (a0, a1, a2, a3, a4, a5, a6) => some (a0, a1, a2, a3, a4, a5, a6)
theorem Ba3 (k : Nat) (x : H89) : T8 k x = Ak9 k x := (Ad _ _).trans (by kernel_rfl)
theorem A31 (k : Nat) : Aa Tryz.prog 60 (Ayv k) := Af (Ak8 k) (l := []) k rfl trivial Ae Tryz.func60 (by kernel_rfl)
def Akb : Sk := ⟨[.lf (.ptr 0 0), .lf (.ptr 1 2)], [[.pv (.slice yt8)], q24], []⟩
def Akc : Sk := ⟨[.lf (.fn 83 [] [(2, 0), (3, 0)])], [[.pv (.slice yt8)], q24, [.ptr 0 0], [.ptr 1 2]], []⟩
def Aj9 (k : Nat) : Cfg := mkC [] 54 2 0
def T0 (k : Nat) : H89 → Option H89 := hid (Ab (Aj9 k) k Tryz.f60 Akb Akc)
def Ayo (k : Nat) : Sig := Ac Akb Akc (T0 k)
noncomputable def Aka (k : Nat) : H89 → Option H89
 | (a0, a1, a2, a3, a4, a5, a6) => some (a0, a1, a2, a3, a4, a5, a6)
theorem Bav (k : Nat) (x : H89) : T0 k x = Aka k x := (Ad _ _).trans (by kernel_rfl)
theorem A3t (k : Nat) : Aa Tryz.prog 60 (Ayo k) := Af (Aj9 k) (l := []) k rfl trivial Ae Tryz.func60 (by kernel_rfl)
def Anv : Sk := ⟨[.lf (.ptr 0 0), .lf (.ptr 1 3)], [[.pv (.slice yt8)], q24], []⟩
def Anw : Sk := ⟨[.lf (.fn 56 [] [(2, 0), (3, 0)])], [[.pv (.slice yt8)], q24, [.ptr 0 0], [.ptr 1 3]], []⟩
def Ant (k : Nat) : Cfg := mkC [] 54 2 0
def Uk (k : Nat) : H89 → Option H89 := hid (Ab (Ant k) k Tryz.f34 Anv Anw)
def Azk (k : Nat) : Sig := Ac Anv Anw (Uk k)
noncomputable def Anu (k : Nat) : H89 → Option H89
 | (a0, a1, a2, a3, a4, a5, a6) => some (a0, a1, a2, a3, a4, a5, a6)
theorem Bcb (k : Nat) (x : H89) : Uk k x = Anu k x := (Ad _ _).trans (by kernel_rfl)
theorem A4t (k : Nat) : Aa Tryz.prog 34 (Azk k) := Af (Ant k) (l := []) k rfl trivial Ae Tryz.func34 (by kernel_rfl)
def An4 : Sk := ⟨[.lf (.ptr 0 0), .lf (.ptr 1 4)], [[.pv (.slice yt8)], q24], []⟩
def An5 : Sk := ⟨[.lf (.fn 56 [] [(2, 0), (3, 0)])], [[.pv (.slice yt8)], q24, [.ptr 0 0], [.ptr 1 4]], []⟩
def An2 (k : Nat) : Cfg := mkC [] 54 2 0
def Um (k : Nat) : H89 → Option H89 := hid (Ab (An2 k) k Tryz.f34 An4 An5)
def Azm (k : Nat) : Sig := Ac An4 An5 (Um k)
noncomputable def An3 (k : Nat) : H89 → Option H89
 | (a0, a1, a2, a3, a4, a5, a6) => some (a0, a1, a2, a3, a4, a5, a6)
theorem Bcd (k : Nat) (x : H89) : Um k x = An3 k x := (Ad _ _).trans (by kernel_rfl)
theorem A4v (k : Nat) : Aa Tryz.prog 34 (Azm k) := Af (An2 k) (l := []) k rfl trivial Ae Tryz.func34 (by kernel_rfl)
def Zj : Sk := ⟨[.lf (.ptr 0 0), .lf (.ptr 1 0)], [[.ptr 2 0], [.ptr 3 5], [.pv (.slice yt8)], q24], []⟩
def Arv : Sk := ⟨[.lf (.nil .ifc)], Zj.boxes, []⟩
def Art (k : Nat) : Cfg := { mkC [] 60 4 0 with ld := [(3, 1), (4, 0), (5, 9999), (6, 9999), (7, 2), (9, 9999), (10, 9999), (11, 9999)], sr := [(11, 3)] }
def P0 (k : Nat) : H89 → Option H89 := hid (Ab (Art k) k Tryz.f82 Zj Arv)
def A0p (k : Nat) : Sig := Ac Zj Arv (P0 k)
noncomputable def Aru (k : Nat) : H89 → Option H89
 | (a0, a1, a2, a3, a4, a5, a6) => idx zt8 a0 (0 : Int) fun o1 => some (a0, a1, a2, a3, a4, a5, o1.2.2.2.1)
theorem Bd2 (k : Nat) (x : H89) : P0 k x = Aru k x := (Ad _ _).trans (by kernel_rfl)
theorem A50 (k : Nat) : Aa Tryz.prog 82 (A0p k) := Af (Art k) (l := []) k rfl trivial Ae Tryz.func82 (by kernel_rfl)
abbrev H90 : Type := (Bool) × (Int) × (Int) × (List (YT8)) × (List Int) × (List Int) × (List Int) × (Int) × (Int) × (Int)
def Yh : Sk := ⟨[.lf (.ptr 0 0), .lf (.ptr 1 0)], [[.ptr 2 0], [.ptr 3 0], [.pv (.slice yt8)], q24], []⟩
def Al2 : Sk := ⟨[.lf (.erp 68 [(.int .i64), (.int .i64)])], Yh.boxes, []⟩
def Bbk (k : Nat) : EnvL := [(84, [sgpnamed k]), (54, [A7 k]), (55, [A8 k])]
def Al0 (k : Nat) : Cfg := { mkC (Bbk k) 61 4 0 with ef := [(10, (([2], []), ([], [])))], ld := [(8, 1), (9, 0), (12, 9999)], sr := [(12, 3)] }
def O5 (k : Nat) : H89 → Option H90 := hid (Ab (Al0 k) k Tryz.f83 Yh Al2)
def Ay5 (k : Nat) : Sig := Ac Yh Al2 (O5 k)
noncomputable def Al1 (k : Nat) : H89 → Option H90
 | (a0, a1, a2, a3, a4, a5, a6) => ((cpnamed k) (a0)).bind fun o1 => bif (!o1.1) then (((A4 k) ((50 : Int), o1.2)).bind fun o2 => some (o2.1, o2.2.1, o2.2.2.1, o2.2.2.2, a1, a2, a3, a4, a5, a6)) else (((A2 k) (o1.2)).bind fun o3 => some (true, (0 : Int), (0 : Int), o3.2.2.2.2, o3.2.1, a2, a3, a4, a5, a6))
theorem Bbl (k : Nat) (x : H89) : O5 k x = Al1 k x := (Ad _ _).trans (by kernel_rfl)
theorem A4a (k : Nat) : Aa Tryz.prog 83 (Ay5 k) := Af (Al0 k) k rfl ⟨⟨E4 k, trivial⟩, ⟨A9 k, trivial⟩, ⟨Ba k, trivial⟩, trivial⟩ Ae Tryz.func83 (by kernel_rfl)
def Yi : Sk := ⟨[.lf (.ptr 0 0), .lf (.ptr 1 0)], [[.ptr 2 0], [.ptr 3 1], [.pv (.slice yt8)], q24], []⟩
def Al5 : Sk := ⟨[.lf (.erp 68 [(.int .i64), (.int .i64)])], Yi.boxes, []⟩
def Bbm (k : Nat) : EnvL := [(84, [sgpnamed k]), (54, [A7 k]), (55, [A8 k])]
def Al3 (k : Nat) : Cfg := { mkC (Bbm k) 61 4 0 with ef := [(10, (([2], []), ([], [])))], ld := [(8, 1), (9, 0), (12, 9999)], sr := [(12, 3)] }
def O6 (k : Nat) : H89 → Option H90 := hid (Ab (Al3 k) k Tryz.f83 Yi Al5)
def Ay6 (k : Nat) : Sig := Ac Yi Al5 (O6 k)
noncomputable def Al4 (k : Nat) : H89 → Option H90
 | (a0, a1, a2, a3, a4, a5, a6) => ((cpnamed k) (a0)).bind fun o1 => bif (!o1.1) then (((A4 k) ((50 : Int), o1.2)).bind fun o2 => some (o2.1, o2.2.1, o2.2.2.1, o2.2.2.2, a1, a2, a3, a4, a5, a6)) else (((A2 k) (o1.2)).bind fun o3 => some (true, (0 : Int), (0 : Int), o3.2.2.2.2, a1, o3.2.1, a3, a4, a5, a6))
theorem Bbn (k : Nat) (x : H89) : O6 k x = Al4 k x := (Ad _ _).trans (by kernel_rfl)
theorem A4b (k : Nat) : Aa Tryz.prog 83 (Ay6 k) := Af (Al3 k) k rfl ⟨⟨E4 k, trivial⟩, ⟨A9 k, trivial⟩, ⟨Ba k, trivial⟩, trivial⟩ Ae Tryz.func83 (by kernel_rfl)
def X9 : Sk := ⟨[.lf (.ptr 0 0), .lf (.ptr 1 0)], [[.ptr 2 0], [.ptr 3 2], [.pv (.slice yt8)], q24], []⟩
def Ale : Sk := ⟨[.lf (.erp 68 [(.int .i64), (.int .i64)])], X9.boxes, []⟩
def Ba4 (k : Nat) : EnvL := [(84, [sgpnamed k]), (54, [A7 k]), (55, [A8 k])]
def Alc (k : Nat) : Cfg := { mkC (Ba4 k) 61 4 0 with ef := [(10, (([2], []), ([], [])))], ld := [(8, 1), (9, 0), (12, 9999)], sr := [(12, 3)] }
def Oy (k : Nat) : H89 → Option H90 := hid (Ab (Alc k) k Tryz.f83 X9 Ale)
def Ayy (k : Nat) : Sig := Ac X9 Ale (Oy k)
noncomputable def Ald (k : Nat) : H89 → Option H90
 | (a0, a1, a2, a3, a4, a5, a6) => ((cpnamed k) (a0)).bind fun o1 => bif (!o1.1) then (((A4 k) ((50 : Int), o1.2)).bind fun o2 => some (o2.1, o2.2.1, o2.2.2.1, o2.2.2.2, a1, a2, a3, a4, a5, a6)) else (((A2 k) (o1.2)).bind fun o3 => some (true, (0 : Int), (0 : Int), o3.2.2.2.2, a1, a2, o3.2.1, a4, a5, a6))
theorem Ba5 (k : Nat) (x : H89) : Oy k x = Ald k x := (Ad _ _).trans (by kernel_rfl)
theorem A32 (k : Nat) : Aa Tryz.prog 83 (Ayy k) := Af (Alc k) k rfl ⟨⟨E4 k, trivial⟩, ⟨A9 k, trivial⟩, ⟨Ba k, trivial⟩, trivial⟩ Ae Tryz.func83 (by kernel_rfl)
def Y1 : Sk := ⟨[.lf (.ptr 0 0), .lf (.ptr 1 0)], [[.ptr 2 0], [.ptr 3 3], [.pv (.slice yt8)], q24], []⟩
def App : Sk := ⟨[.lf (.erp 68 [(.int .i64), (.int .i64)])], Y1.boxes, []⟩
def Bc0 (k : Nat) : EnvL := [(54, [A7 k]), (55, [A8 k])]
def Apn (k : Nat) : Cfg := { mkC (Bc0 k) 66 4 0 with ef := [(15, (([2], []), ([], [])))], ld := [(13, 1), (14, 0), (17, 9999)], sr := [(17, 3)] }
def Pj (k : Nat) : H89 → Option H90 := hid (Ab (Apn k) k Tryz.f56 Y1 App)
def Az3 (k : Nat) : Sig := Ac Y1 App (Pj k)
noncomputable def Apo (k : Nat) : H89 → Option H90
 | (a0, a1, a2, a3, a4, a5, a6) => idx zt8 a0 (0 : Int) fun o1 => bif (o1.1 != (2 : Int)) then (((A4 k) ((50 : Int), a0)).bind fun o2 => some (o2.1, o2.2.1, o2.2.2.1, o2.2.2.2, a1, a2, a3, a4, a5, a6)) else (((A2 k) (a0)).bind fun o3 => some (true, (0 : Int), (0 : Int), o3.2.2.2.2, a1, a2, a3, o3.2.2.1, a5, a6))
theorem Bc1 (k : Nat) (x : H89) : Pj k x = Apo k x := (Ad _ _).trans (by kernel_rfl)
theorem A5b (k : Nat) : Aa Tryz.prog 56 (Az3 k) := Af (Apn k) k rfl ⟨⟨A9 k, trivial⟩, ⟨Ba k, trivial⟩, trivial⟩ Ae Tryz.func56 (by kernel_rfl)
def Y2 : Sk := ⟨[.lf (.ptr 0 0), .lf (.ptr 1 0)], [[.ptr 2 0], [.ptr 3 4], [.pv (.slice yt8)], q24], []⟩
def Aps : Sk := ⟨[.lf (.erp 68 [(.int .i64), (.int .i64)])], Y2.boxes, []⟩
def Bc2 (k : Nat) : EnvL := [(54, [A7 k]), (55, [A8 k])]
def Apq (k : Nat) : Cfg := { mkC (Bc2 k) 66 4 0 with ef := [(15, (([2], []), ([], [])))], ld := [(13, 1), (14, 0), (17, 9999)], sr := [(17, 3)] }
def Pk (k : Nat) : H89 → Option H90 := hid (Ab (Apq k) k Tryz.f56 Y2 Aps)
def Az4 (k : Nat) : Sig := Ac Y2 Aps (Pk k)
noncomputable def Apr (k : Nat) : H89 → Option H90
 | (a0, a1, a2, a3, a4, a5, a6) => idx zt8 a0 (0 : Int) fun o1 => bif (o1.1 != (2 : Int)) then (((A4 k) ((50 : Int), a0)).bind fun o2 => some (o2.1, o2.2.1, o2.2.2.1, o2.2.2.2, a1, a2, a3, a4, a5, a6)) else (((A2 k) (a0)).bind fun o3 => some (true, (0 : Int), (0 : Int), o3.2.2.2.2, a1, a2, a3, a4, o3.2.2.1, a6))
theorem Bc3 (k : Nat) (x : H89) : Pk k x = Apr k x := (Ad _ _).trans (by kernel_rfl)
theorem A5c (k : Nat) : Aa Tryz.prog 56 (Az4 k) := Af (Apq k) k rfl ⟨⟨A9 k, trivial⟩, ⟨Ba k, trivial⟩, trivial⟩ Ae Tryz.func56 (by kernel_rfl)
abbrev H91 : Type := (List (YT8)) × (List Int) × (List Int) × (List Int) × (List Int) × (List Int) × (List Int) × (List Int) × (List Int) × (Int) × (Int) × (Int)
abbrev H92 : Type := (Bool) × (Int) × (Int) × (List (YT8)) × (List Int) × (List Int) × (List Int) × (List Int) × (List Int) × (List Int) × (List Int) × (List Int) × (Int) × (Int) × (Int)
def Xu : Sk := ⟨[.lf (.ptr 0 0), .lf (.sb 1 11)], [[.pv (.slice yt8)], q25, [.ptr 0 0], [.ptr 24 5], [.ptr 0 0], [.ptr 24 0], [.ptr 0 0], [.pv .str], [.ptr 0 0], [.ptr 24 1], [.ptr 0 0], [.pv .str], [.ptr 0 0], [.ptr 24 2], [.ptr 0 0], [.pv .str], [.ptr 0 0], [.ptr 24 3], [.ptr 0 0], [.pv .str], [.ptr 0 0], [.ptr 24 4], [.ptr 0 0], [.pv .str], q24], []⟩
def Ah0 : Sk := ⟨[.lf (.erp 68 [(.int .i64), (.int .i64)])], Xu.boxes, []⟩
def A9s (k : Nat) : EnvL := [(82, [A0p k]), (83, [Ay5 k, Ay6 k, Ayy k]), (52, [D6 k]), (56, [Az3 k, Az4 k])]
def Ahy (k : Nat) : Cfg := mkC (A9s k) 68 25 0
def To (k : Nat) : H91 → Option H92 := hid (Ab (Ahy k) (k + 32) Tryz.f32 Xu Ah0)
def Ax9 (k : Nat) : Sig := Ac Xu Ah0 (To k)
noncomputable def Ahz (k : Nat) : H91 → Option H92
 | (a0, a1, a2, a3, a4, a5, a6, a7, a8, a9, a10, a11) => ((P0 k) (a0, a6, a7, a8, a9, a10, a11)).bind fun o1 => ((O5 k) (o1.1, o1.2.1, o1.2.2.1, o1.2.2.2.1, o1.2.2.2.2.1, o1.2.2.2.2.2.1, o1.2.2.2.2.2.2)).bind fun o2 => bif (!o2.1) then (some (o2.1, o2.2.1, o2.2.2.1, o2.2.2.2.1, a1, a2, a3, a4, a5, o2.2.2.2.2.1, o2.2.2.2.2.2.1, o2.2.2.2.2.2.2.1, o2.2.2.2.2.2.2.2.1, o2.2.2.2.2.2.2.2.2.1, o2.2.2.2.2.2.2.2.2.2)) else (((Bg k) (a1, o2.2.2.2.1)).bind fun o3 => bif (!o3.1) then (some (o3.1, o3.2.1, o3.2.2.1, o3.2.2.2.2, o3.2.2.2.1, a2, a3, a4, a5, o2.2.2.2.2.1, o2.2.2.2.2.2.1, o2.2.2.2.2.2.2.1, o2.2.2.2.2.2.2.2.1, o2.2.2.2.2.2.2.2.2.1, o2.2.2.2.2.2.2.2.2.2)) else (((O6 k) (o3.2.2.2.2, o2.2.2.2.2.1, o2.2.2.2.2.2.1, o2.2.2.2.2.2.2.1, o2.2.2.2.2.2.2.2.1, o2.2.2.2.2.2.2.2.2.1, o2.2.2.2.2.2.2.2.2.2)).bind fun o4 => bif (!o4.1) then (some (o4.1, o4.2.1, o4.2.2.1, o4.2.2.2.1, o3.2.2.2.1, a2, a3, a4, a5, o4.2.2.2.2.1, o4.2.2.2.2.2.1, o4.2.2.2.2.2.2.1, o4.2.2.2.2.2.2.2.1, o4.2.2.2.2.2.2.2.2.1, o4.2.2.2.2.2.2.2.2.2)) else (((Bg k) (a2, o4.2.2.2.1)).bind fun o5 => bif (!o5.1) then (some (o5.1, o5.2.1, o5.2.2.1, o5.2.2.2.2, o3.2.2.2.1, o5.2.2.2.1, a3, a4, a5, o4.2.2.2.2.1, o4.2.2.2.2.2.1, o4.2.2.2.2.2.2.1, o4.2.2.2.2.2.2.2.1, o4.2.2.2.2.2.2.2.2.1, o4.2.2.2.2.2.2.2.2.2)) else (((Oy k) (o5.2.2.2.2, o4.2.2.2.2.1, o4.2.2.2.2.2.1, o4.2.2.2.2.2.2.1, o4.2.2.2.2.2.2.2.1, o4.2.2.2.2.2.2.2.2.1, o4.2.2.2.2.2.2.2.2.2)).bind fun o6 => bif (!o6.1) then (some (o6.1, o6.2.1, o6.2.2.1, o6.2.2.2.1, o3.2.2.2.1, o5.2.2.2.1, a3, a4, a5, o6.2.2.2.2.1, o6.2.2.2.2.2.1, o6.2.2.2.2.2.2.1, o6.2.2.2.2.2.2.2.1, o6.2.2.2.2.2.2.2.2.1, o6.2.2.2.2.2.2.2.2.2)) else (((Bg k) (a3, o6.2.2.2.1)).bind fun o7 => bif (!o7.1) then (some (o7.1, o7.2.1, o7.2.2.1, o7.2.2.2.2, o3.2.2.2.1, o5.2.2.2.1, o7.2.2.2.1, a4, a5, o6.2.2.2.2.1, o6.2.2.2.2.2.1, o6.2.2.2.2.2.2.1, o6.2.2.2.2.2.2.2.1, o6.2.2.2.2.2.2.2.2.1, o6.2.2.2.2.2.2.2.2.2)) else (((Pj k) (o7.2.2.2.2, o6.2.2.2.2.1, o6.2.2.2.2.2.1, o6.2.2.2.2.2.2.1, o6.2.2.2.2.2.2.2.1, o6.2.2.2.2.2.2.2.2.1, o6.2.2.2.2.2.2.2.2.2)).bind fun o8 => bif (!o8.1) then (some (o8.1, o8.2.1, o8.2.2.1, o8.2.2.2.1, o3.2.2.2.1, o5.2.2.2.1, o7.2.2.2.1, a4, a5, o8.2.2.2.2.1, o8.2.2.2.2.2.1, o8.2.2.2.2.2.2.1, o8.2.2.2.2.2.2.2.1, o8.2.2.2.2.2.2.2.2.1, o8.2.2.2.2.2.2.2.2.2)) else (((Bg k) (a4, o8.2.2.2.1)).bind fun o9 => bif (!o9.1) then (some (o9.1, o9.2.1, o9.2.2.1, o9.2.2.2.2, o3.2.2.2.1, o5.2.2.2.1, o7.2.2.2.1, o9.2.2.2.1, a5, o8.2.2.2.2.1, o8.2.2.2.2.2.1, o8.2.2.2.2.2.2.1, o8.2.2.2.2.2.2.2.1, o8.2.2.2.2.2.2.2.2.1, o8.2.2.2.2.2.2.2.2.2)) else (((Pk k) (o9.2.2.2.2, o8.2.2.2.2.1, o8.2.2.2.2.2.1, o8.2.2.2.2.2.2.1, o8.2.2.2.2.2.2.2.1, o8.2.2.2.2.2.2.2.2.1, o8.2.2.2.2.2.2.2.2.2)).bind fun o10 => bif (!o10.1) then (some (o10.1, o10.2.1, o10.2.2.1, o10.2.2.2.1, o3.2.2.2.1, o5.2.2.2.1, o7.2.2.2.1, o9.2.2.2.1, a5, o10.2.2.2.2.1, o10.2.2.2.2.2.1, o10.2.2.2.2.2.2.1, o10.2.2.2.2.2.2.2.1, o10.2.2.2.2.2.2.2.2.1, o10.2.2.2.2.2.2.2.2.2)) else (((Bg k) (a5, o10.2.2.2.1)).bind fun o11 => bif (!o11.1) then (some (o11.1, o11.2.1, o11.2.2.1, o11.2.2.2.2, o3.2.2.2.1, o5.2.2.2.1, o7.2.2.2.1, o9.2.2.2.1, o11.2.2.2.1, o10.2.2.2.2.1, o10.2.2.2.2.2.1, o10.2.2.2.2.2.2.1, o10.2.2.2.2.2.2.2.1, o10.2.2.2.2.2.2.2.2.1, o10.2.2.2.2.2.2.2.2.2)) else (some (true, (0 : Int), (0 : Int), o11.2.2.2.2, o3.2.2.2.1, o5.2.2.2.1, o7.2.2.2.1, o9.2.2.2.1, o11.2.2.2.1, o10.2.2.2.2.1, o10.2.2.2.2.2.1, o10.2.2.2.2.2.2.1, o10.2.2.2.2.2.2.2.1, o10.2.2.2.2.2.2.2.2.1, o10.2.2.2.2.2.2.2.2.2)))))))))))
theorem A9t (k : Nat) (x : H91) : To k x = Ahz k x := (Ad _ _).trans (by kernel_rfl)
theorem A26 (k : Nat) : Aa Tryz.prog 32 (Ax9 k) := Af (Ahy k) (k + 32) rfl ⟨⟨A50 k, trivial⟩, ⟨A4a k, A4b k, A32 k, trivial⟩, ⟨Ee k, trivial⟩, ⟨A5b k, A5c k, trivial⟩, trivial⟩ Ae Tryz.func32 (by kernel_rfl)
abbrev H93 : Type := (List Int) × (List Int) × (List Int) × (Int) × (Int) × (Int) × (Bool) × (Int) × (Int) × (List (YT8))
def fpstopi : Sk := ⟨[.lf (.ptr 0 0)], [[.pv (.slice yt8)]], []⟩
def fpstopo : Sk := ⟨[.agg [.pv .str, .pv .str, .pv .str, .pv (.int .i64), .pv (.int .i64), .pv (.int .i64)], .lf (.erp 68 [(.int .i64), (.int .i64)])], fpstopi.boxes, []⟩
def fpstopE (k : Nat) : EnvL := [(59, [A0j k]), (60, [Ayu k, Ayv k, Ayo k]), (33, [D5 k]), (34, [Azk k, Azm k]), (32, [Ax9 k])]
def Ar8 (k : Nat) : Cfg := mkC (fpstopE k) 107 1 0
def cpstop (k : Nat) : (List (YT8)) → Option H93 := hid (Ab (Ar8 k) k Tryz.f40 fpstopi fpstopo)
def sgpstop (k : Nat) : Sig := Ac fpstopi fpstopo (cpstop k)
noncomputable def Ar9 (k : Nat) : (List (YT8)) → Option H93
 | a0 => ((Uy k) (a0, ([] : List Int), ([] : List Int), ([] : List Int), (0 : Int), (0 : Int), (0 : Int))).bind fun o1 => ((T7 k) (o1.1, o1.2.1, o1.2.2.1, o1.2.2.2.1, o1.2.2.2.2.1, o1.2.2.2.2.2.1, o1.2.2.2.2.2.2)).bind fun o2 => ((Bk k) (([111, 117, 116] : List Int), o2.1)).bind fun o3 => ((T8 k) (o3.1, o2.2.1, o2.2.2.1, o2.2.2.2.1, o2.2.2.2.2.1, o2.2.2.2.2.2.1, o2.2.2.2.2.2.2)).bind fun o4 => ((Bk k) (([105, 110] : List Int), o4.1)).bind fun o5 => ((T0 k) (o5.1, o4.2.1, o4.2.2.1, o4.2.2.2.1, o4.2.2.2.2.1, o4.2.2.2.2.2.1, o4.2.2.2.2.2.2)).bind fun o6 => ((Bk k) (([97, 104, 101, 97, 100] : List Int), o6.1)).bind fun o7 => ((Uk k) (o7.1, o6.2.1, o6.2.2.1, o6.2.2.2.1, o6.2.2.2.2.1, o6.2.2.2.2.2.1, o6.2.2.2.2.2.2)).bind fun o8 => ((Bk k) (([98, 97, 99, 107] : List Int), o8.1)).bind fun o9 => ((Um k) (o9.1, o8.2.1, o8.2.2.1, o8.2.2.2.1, o8.2.2.2.2.1, o8.2.2.2.2.2.1, o8.2.2.2.2.2.2)).bind fun o10 => ((Bk k) (([59] : List Int), o10.1)).bind fun o11 => ((To k) (o11.1, o3.2, o5.2, o7.2, o9.2, o11.2, o10.2.1, o10.2.2.1, o10.2.2.2.1, o10.2.2.2.2.1, o10.2.2.2.2.2.1, o10.2.2.2.2.2.2)).bind fun o12 => some (o12.2.2.2.2.2.2.2.2.2.1, o12.2.2.2.2.2.2.2.2.2.2.1, o12.2.2.2.2.2.2.2.2.2.2.2.1, o12.2.2.2.2.2.2.2.2.2.2.2.2.1, o12.2.2.2.2.2.2.2.2.2.2.2.2.2.1, o12.2.2.2.2.2.2.2.2.2.2.2.2.2.2, o12.1, o12.2.1, o12.2.2.1, o12.2.2.2.1)
theorem Bd9 (k : Nat) (x : (List (YT8))) : cpstop k x = Ar9 k x := (Ad _ _).trans (by kernel_rfl)
theorem A56 (k : Nat) : Aa Tryz.prog 40 (sgpstop k) := Af (Ar8 k) k rfl ⟨⟨A5v k, trivial⟩, ⟨A30 k, A31 k, A3t k, trivial⟩, ⟨Ed k, trivial⟩, ⟨A4t k, A4v k, trivial⟩, ⟨A26 k, trivial⟩, trivial⟩ Ae Tryz.func40 (by kernel_rfl)
abbrev H94 : Type := (List Int) × (Int) × (List (YT8)) × (Int) × (Int) × (Int) × (Int) × (Int) × (Int) × (Int) × (List (YT6)) × (List (YT7))
abbrev H95 : Type := (Bool) × (Int) × (Int) × (List Int) × (Int) × (List (YT8)) × (Int) × (Int) × (Int) × (Int) × (Int) × (Int) × (Int) × (List (YT6)) × (List (YT7))
def Xp : Sk := ⟨[.lf (.ptr 0 0), .lf (.ptr 1 0), .lf (.ptr 2 0), .lf (.ptr 3 0), .lf (.ptr 4 0)], [[.ptr 5 0], [.pv .str], [.ptr 6 6], [.pv (.int .i64)], [.fn 40 [(5, 0)] []], [.pv (.slice yt8)], q21], [some (45, yt6)]⟩
def Xq : Sk := ⟨[.lf (.erp 68 [(.int .i64), (.int .i64)])], [[.ptr 5 0], [.pv .str], [.ptr 6 6], [.pv (.int .i64)], [.fn 40 [(5, 0)] []], [.pv (.slice yt8)], q26], [some (45, yt6), some (102, yt7)]⟩
def Ahh : Sk := ⟨sparse 37 [(0, .lf (.ptr 0 0)), (1, .lf (.ptr 1 0)), (2, .lf (.ptr 2 0)), (3, .lf (.ptr 3 0)), (4, .lf (.ptr 4 0))], [[.ptr 5 0], [.pv .str], [.ptr 6 6], [.pv (.int .i64)], [.fn 40 [(5, 0)] []], [.pv (.slice yt8)], q26], [some (45, yt6), some (102, yt7)]⟩
abbrev Xm := H94
def Mt : Xm → St := stOf Ahh 85
def A9i (k : Nat) : EnvL := [(53, [Dk k]), (54, [A7 k]), (55, [A8 k]), (40, [sgpstop k])]
def Fj (k : Nat) : FnX H95 := mkX ({ mkC (A9i k) 85 7 1 with hint := fun i => look none [(1, some Ahh)] i, ld := [(29, 2), (30, 2), (31, 9999), (32, 6), (33, 54), (36, 9999)], sr := [(36, 6)] }) k Tryz.f72 Xq
def On (k : Nat) : H82 → Option H95 := hid (Ab (Fj k).C k Tryz.f72 Xp Xq)
def Ax4 (k : Nat) : Sig := Ac Xp Xq (On k)
noncomputable def Xo (k : Nat) (J : JF H95) (L : LF H95) : H82 → Option H95
 | (a0, a1, a2, a3, a4, a5, a6, a7, a8, a9, a10) => L 1 [] k (Mt (a0, a1, a2, a3, a4, a5, a6, a7, a8, a9, a10, []))
theorem A9j (k : Nat) (x : H82) : On k x = Xo k (Fj k).J (Fj k).L x := by
 refine (Ad _ _).trans ?_; apply cutX (Fj k) [] [] (st0 (Fj k).C Tryz.f72 Xp x) [] [(1, [], k)] (Xo k · · x) <;> intros <;> kernel_rfl
noncomputable def Mu (k j1 : Nat) (J : JF H95) (L : LF H95) : Xm → Option H95
 | (a0, a1, a2, a3, a4, a5, a6, a7, a8, a9, a10, a11) => ((C0 k) (a0, a2)).bind fun o1 => bif o1.1 then (bif (((List.length a11 : Nat) : Int) == a1) then (((A4 k) ((4 : Int), o1.2)).bind fun o2 => some (o2.1, o2.2.1, o2.2.2.1, a0, a1, o2.2.2.2, a3, a4, a5, a6, a7, a8, a9, a10, a11)) else (((A2 k) (o1.2)).bind fun o3 => ((cpstop k) (o3.2.2.2.2)).bind fun o4 => bif (!o4.2.2.2.2.2.2.1) then (some (o4.2.2.2.2.2.2.1, o4.2.2.2.2.2.2.2.1, o4.2.2.2.2.2.2.2.2.1, a0, a1, o4.2.2.2.2.2.2.2.2.2, a3, a4, a5, a6, a7, a8, a9, a10, a11)) else (app 72 a11 ([(o4.1, (o4.2.1, (o4.2.2.1, (o4.2.2.2.1, (o4.2.2.2.2.1, (o4.2.2.2.2.2.1, ()))))))] : List (YT7)) fun o5 => L 1 [] j1 (Mt (a0, a1, o4.2.2.2.2.2.2.2.2.2, a3, a4, a5, a6, a7, a8, a9, a10, o5))))) else (some (true, (0 : Int), (0 : Int), a0, a1, o1.2, a3, a4, a5, a6, a7, a8, a9, a10, a11))
theorem Xn (k j1 : Nat) (x : Xm) : (Fj k).L 1 [] (j1 + 1) (Mt x) = Mu k j1 (Fj k).J (Fj k).L x := by
 apply cutX (Fj k) [.r, .l, .b, .b] [j1] (Mt x) [] [(1, [], j1)] (Mu k j1 · · x) <;> intros <;> kernel_rfl
theorem A20 (k : Nat) : Aa Tryz.prog 72 (Ax4 k) := Af (Fj k).C k rfl ⟨⟨Do k, trivial⟩, ⟨A9 k, trivial⟩, ⟨Ba k, trivial⟩, ⟨A56 k, trivial⟩, trivial⟩ Ae Tryz.func72 (by kernel_rfl)
abbrev H96 : Type := (List (YT8)) × (Int) × (Int) × (Int) × (Int) × (Int) × (Int) × (Int) × (List (YT6)) × (List (YT7))
abbrev H97 : Type := (Bool) × (Int) × (Int) × (List (YT8)) × (Int) × (Int) × (Int) × (Int) × (Int) × (Int) × (Int) × (List (YT6)) × (List (YT7))
def Y3 : Sk := ⟨[.lf (.ptr 0 0), .lf (.ptr 1 0)], [[.ptr 2 0], [.ptr 3 7], [.pv (.slice yt8)], q26], [some (45, yt6), some (102, yt7)]⟩
def Apv : Sk := ⟨[.lf (.erp 68 [(.int .i64), (.int .i64)])], Y3.boxes, [some (45, yt6), some (102, yt7)]⟩
def Bc4 (k : Nat) : EnvL := [(54, [A7 k]), (55, [A8 k])]
def Apt (k : Nat) : Cfg := { mkC (Bc4 k) 66 4 2 with ef := [(15, (([2], []), ([], [])))], ld := [(13, 1), (14, 0), (17, 9999)], sr := [(17, 3)] }
def Pl (k : Nat) : H96 → Option H97 := hid (Ab (Apt k) k Tryz.f56 Y3 Apv)
def Az5 (k : Nat) : Sig := Ac Y3 Apv (Pl k)
noncomputable def Apu (k : Nat) : H96 → Option H97
 | (a0, a1, a2, a3, a4, a5, a6, a7, a8, a9) => idx zt8 a0 (0 : Int) fun o1 => bif (o1.1 != (2 : Int)) then (((A4 k) ((50 : Int), a0)).bind fun o2 => some (o2.1, o2.2.1, o2.2.2.1, o2.2.2.2, a1, a2, a3, a4, a5, a6, a7, a8, a9)) else (((A2 k) (a0)).bind fun o3 => some (true, (0 : Int), (0 : Int), o3.2.2.2.2, a1, a2, a3, a4, a5, o3.2.2.1, a7, a8, a9))
theorem Bc5 (k : Nat) (x : H96) : Pl k x = Apu k x := (Ad _ _).trans (by kernel_rfl)
theorem A5d (k : Nat) : Aa Tryz.prog 56 (Az5 k) := Af (Apt k) k rfl ⟨⟨A9 k, trivial⟩, ⟨Ba k, trivial⟩, trivial⟩ Ae Tryz.func56 (by kernel_rfl)
def Y5 : Sk := ⟨[.lf (.ptr 0 0), .lf (.ptr 1 0)], [[.ptr 2 0], [.ptr 3 8], [.pv (.slice yt8)], q26], [some (45, yt6), some (102, yt7)]⟩
def Ap1 : Sk := ⟨[.lf (.erp 68 [(.int .i64), (.int .i64)])], Y5.boxes, [some (45, yt6), some (102, yt7)]⟩
def Bc8 (k : Nat) : EnvL := [(54, [A7 k]), (55, [A8 k])]
def Apz (k : Nat) : Cfg := { mkC (Bc8 k) 66 4 2 with ef := [(15, (([2], []), ([], [])))], ld := [(13, 1), (14, 0), (17, 9999)], sr := [(17, 3)] }
def Pn (k : Nat) : H96 → Option H97 := hid (Ab (Apz k) k Tryz.f56 Y5 Ap1)
def Az7 (k : Nat) : Sig := Ac Y5 Ap1 (Pn k)
noncomputable def Ap0 (k : Nat) : H96 → Option H97
 | (a0, a1, a2, a3, a4, a5, a6, a7, a8, a9) => idx zt8 a0 (0 : Int) fun o1 => bif (o1.1 != (2 : Int)) then (((A4 k) ((50 : Int), a0)).bind fun o2 => some (o2.1, o2.2.1, o2.2.2.1, o2.2.2.2, a1, a2, a3, a4, a5, a6, a7, a8, a9)) else (((A2 k) (a0)).bind fun o3 => some (true, (0 : Int), (0 : Int), o3.2.2.2.2, a1, a2, a3, a4, a5, a6, o3.2.2.1, a8, a9))
theorem Bc9 (k : Nat) (x : H96) : Pn k x = Ap0 k x := (Ad _ _).trans (by kernel_rfl)
theorem A5f (k : Nat) : Aa Tryz.prog 56 (Az7 k) := Af (Apz k) k rfl ⟨⟨A9 k, trivial⟩, ⟨Ba k, trivial⟩, trivial⟩ Ae Tryz.func56 (by kernel_rfl)
abbrev H98 : Type := (List (YT8)) × (List Int) × (List Int) × (Int) × (List Int) × (List Int) × (List Int) × (Int) × (Int) × (Int) × (Int) × (Int) × (Int) × (Int) × (List (YT6))
abbrev H99 : Type := (Bool) × (Int) × (Int) × (List (YT8)) × (List Int) × (List Int) × (Int) × (List Int) × (List Int) × (List Int) × (Int) × (Int) × (Int) × (Int) × (Int) × (Int) × (Int) × (List (YT6)) × (List (YT7))
def Ahw : Sk := ⟨[.lf (.ptr 0 0), .lf (.sb 1 7)], [[.pv (.slice yt8)], q23, [.ptr 0 0], [.pv .str], [.ptr 0 0], [.pv .str], [.ptr 19 6], [.pv (.int .i64)], [.fn 40 [(0, 0)] []], [.ptr 0 0], [.pv .str], [.ptr 0 0], [.ptr 19 7], [.ptr 0 0], [.ptr 19 8], [.ptr 0 0], [.pv .str], [.ptr 0 0], [.pv .str], q21], [some (45, yt6)]⟩
def Ahx : Sk := ⟨[.lf (.erp 68 [(.int .i64), (.int .i64)])], [[.pv (.slice yt8)], q23, [.ptr 0 0], [.pv .str], [.ptr 0 0], [.pv .str], [.ptr 19 6], [.pv (.int .i64)], [.fn 40 [(0, 0)] []], [.ptr 0 0], [.pv .str], [.ptr 0 0], [.ptr 19 7], [.ptr 0 0], [.ptr 19 8], [.ptr 0 0], [.pv .str], [.ptr 0 0], [.pv .str], q26], [some (45, yt6), some (102, yt7)]⟩
def A9q (k : Nat) : EnvL := [(52, [D6 k]), (72, [Ax4 k]), (56, [Az5 k, Az7 k])]
def Ahu (k : Nat) : Cfg := mkC (A9q k) 69 20 1
def Oo (k : Nat) : H98 → Option H99 := hid (Ab (Ahu k) (k + 32) Tryz.f32 Ahw Ahx)
def Ax8 (k : Nat) : Sig := Ac Ahw Ahx (Oo k)
noncomputable def Ahv (k : Nat) : H98 → Option H99
 | (a0, a1, a2, a3, a4, a5, a6, a7, a8, a9, a10, a11, a12, a13, a14) => ((Bg k) (a1, a0)).bind fun o1 => bif (!o1.1) then (some (o1.1, o1.2.1, o1.2.2.1, o1.2.2.2.2, o1.2.2.2.1, a2, a3, a4, a5, a6, a7, a8, a9, a10, a11, a12, a13, a14, [])) else (((On k) (a2, a3, o1.2.2.2.2, a7, a8, a9, a10, a11, a12, a13, a14)).bind fun o2 => bif (!o2.1) then (some (o2.1, o2.2.1, o2.2.2.1, o2.2.2.2.2.2.1, o1.2.2.2.1, o2.2.2.2.1, o2.2.2.2.2.1, a4, a5, a6, o2.2.2.2.2.2.2.1, o2.2.2.2.2.2.2.2.1, o2.2.2.2.2.2.2.2.2.1, o2.2.2.2.2.2.2.2.2.2.1, o2.2.2.2.2.2.2.2.2.2.2.1, o2.2.2.2.2.2.2.2.2.2.2.2.1, o2.2.2.2.2.2.2.2.2.2.2.2.2.1, o2.2.2.2.2.2.2.2.2.2.2.2.2.2.1, o2.2.2.2.2.2.2.2.2.2.2.2.2.2.2)) else (((Bg k) (a4, o2.2.2.2.2.2.1)).bind fun o3 => bif (!o3.1) then (some (o3.1, o3.2.1, o3.2.2.1, o3.2.2.2.2, o1.2.2.2.1, o2.2.2.2.1, o2.2.2.2.2.1, o3.2.2.2.1, a5, a6, o2.2.2.2.2.2.2.1, o2.2.2.2.2.2.2.2.1, o2.2.2.2.2.2.2.2.2.1, o2.2.2.2.2.2.2.2.2.2.1, o2.2.2.2.2.2.2.2.2.2.2.1, o2.2.2.2.2.2.2.2.2.2.2.2.1, o2.2.2.2.2.2.2.2.2.2.2.2.2.1, o2.2.2.2.2.2.2.2.2.2.2.2.2.2.1, o2.2.2.2.2.2.2.2.2.2.2.2.2.2.2)) else (((Pl k) (o3.2.2.2.2, o2.2.2.2.2.2.2.1, o2.2.2.2.2.2.2.2.1, o2.2.2.2.2.2.2.2.2.1, o2.2.2.2.2.2.2.2.2.2.1, o2.2.2.2.2.2.2.2.2.2.2.1, o2.2.2.2.2.2.2.2.2.2.2.2.1, o2.2.2.2.2.2.2.2.2.2.2.2.2.1, o2.2.2.2.2.2.2.2.2.2.2.2.2.2.1, o2.2.2.2.2.2.2.2.2.2.2.2.2.2.2)).bind fun o4 => bif (!o4.1) then (some (o4.1, o4.2.1, o4.2.2.1, o4.2.2.2.1, o1.2.2.2.1, o2.2.2.2.1, o2.2.2.2.2.1, o3.2.2.2.1, a5, a6, o4.2.2.2.2.1, o4.2.2.2.2.2.1, o4.2.2.2.2.2.2.1, o4.2.2.2.2.2.2.2.1, o4.2.2.2.2.2.2.2.2.1, o4.2.2.2.2.2.2.2.2.2.1, o4.2.2.2.2.2.2.2.2.2.2.1, o4.2.2.2.2.2.2.2.2.2.2.2.1, o4.2.2.2.2.2.2.2.2.2.2.2.2)) else (((Pn k) (o4.2.2.2.1, o4.2.2.2.2.1, o4.2.2.2.2.2.1, o4.2.2.2.2.2.2.1, o4.2.2.2.2.2.2.2.1, o4.2.2.2.2.2.2.2.2.1, o4.2.2.2.2.2.2.2.2.2.1, o4.2.2.2.2.2.2.2.2.2.2.1, o4.2.2.2.2.2.2.2.2.2.2.2.1, o4.2.2.2.2.2.2.2.2.2.2.2.2)).bind fun o5 => bif (!o5.1) then (some (o5.1, o5.2.1, o5.2.2.1, o5.2.2.2.1, o1.2.2.2.1, o2.2.2.2.1, o2.2.2.2.2.1, o3.2.2.2.1, a5, a6, o5.2.2.2.2.1, o5.2.2.2.2.2.1, o5.2.2.2.2.2.2.1, o5.2.2.2.2.2.2.2.1, o5.2.2.2.2.2.2.2.2.1, o5.2.2.2.2.2.2.2.2.2.1, o5.2.2.2.2.2.2.2.2.2.2.1, o5.2.2.2.2.2.2.2.2.2.2.2.1, o5.2.2.2.2.2.2.2.2.2.2.2.2)) else (((Bg k) (a5, o5.2.2.2.1)).bind fun o6 => bif (!o6.1) then (some (o6.1, o6.2.1, o6.2.2.1, o6.2.2.2.2, o1.2.2.2.1, o2.2.2.2.1, o2.2.2.2.2.1, o3.2.2.2.1, o6.2.2.2.1, a6, o5.2.2.2.2.1, o5.2.2.2.2.2.1, o5.2.2.2.2.2.2.1, o5.2.2.2.2.2.2.2.1, o5.2.2.2.2.2.2.2.2.1, o5.2.2.2.2.2.2.2.2.2.1, o5.2.2.2.2.2.2.2.2.2.2.1, o5.2.2.2.2.2.2.2.2.2.2.2.1, o5.2.2.2.2.2.2.2.2.2.2.2.2)) else (((Bg k) (a6, o6.2.2.2.2)).bind fun o7 => bif (!o7.1) then (some (o7.1, o7.2.1, o7.2.2.1, o7.2.2.2.2, o1.2.2.2.1, o2.2.2.2.1, o2.2.2.2.2.1, o3.2.2.2.1, o6.2.2.2.1, o7.2.2.2.1, o5.2.2.2.2.1, o5.2.2.2.2.2.1, o5.2.2.2.2.2.2.1, o5.2.2.2.2.2.2.2.1, o5.2.2.2.2.2.2.2.2.1, o5.2.2.2.2.2.2.2.2.2.1, o5.2.2.2.2.2.2.2.2.2.2.1, o5.2.2.2.2.2.2.2.2.2.2.2.1, o5.2.2.2.2.2.2.2.2.2.2.2.2)) else (some (true, (0 : Int), (0 : Int), o7.2.2.2.2, o1.2.2.2.1, o2.2.2.2.1, o2.2.2.2.2.1, o3.2.2.2.1, o6.2.2.2.1, o7.2.2.2.1, o5.2.2.2.2.1, o5.2.2.2.2.2.1, o5.2.2.2.2.2.2.1, o5.2.2.2.2.2.2.2.1, o5.2.2.2.2.2.2.2.2.1, o5.2.2.2.2.2.2.2.2.2.1, o5.2.2.2.2.2.2.2.2.2.2.1, o5.2.2.2.2.2.2.2.2.2.2.2.1, o5.2.2.2.2.2.2.2.2.2.2.2.2))))))))
theorem A9r (k : Nat) (x : H98) : Oo k x = Ahv k x := (Ad _ _).trans (by kernel_rfl)
theorem A25 (k : Nat) : Aa Tryz.prog 32 (Ax8 k) := Af (Ahu k) (k + 32) rfl ⟨⟨Ee k, trivial⟩, ⟨A20 k, trivial⟩, ⟨A5d k, A5f k, trivial⟩, trivial⟩ Ae Tryz.func32 (by kernel_rfl)
def fpendi : Sk := ⟨[.lf (.ptr 0 0)], [[.pv (.slice yt8)]], []⟩
def fpendo : Sk := ⟨[.lf (.erp 68 [(.int .i64), (.int .i64)])], fpendi.boxes, []⟩
def fpendE (k : Nat) : EnvL := [(54, [A7 k])]
def Aiz (k : Nat) : Cfg := mkC (fpendE k) 61 1 0
def cpend (k : Nat) : (List (YT8)) → Option H16 := hid (Ab (Aiz k) k Tryz.f41 fpendi fpendo)
def sgpend (k : Nat) : Sig := Ac fpendi fpendo (cpend k)
noncomputable def Ai0 (k : Nat) : (List (YT8)) → Option H16
 | a0 => idx zt8 a0 (0 : Int) fun o1 => bif (o1.1 != (0 : Int)) then (((A4 k) ((50 : Int), a0)).bind fun o2 => some (o2.1, o2.2.1, o2.2.2.1, o2.2.2.2)) else (some (true, (0 : Int), (0 : Int), a0))
theorem fpend_e (k : Nat) (x : (List (YT8))) : cpend k x = Ai0 k x := (Ad _ _).trans (by kernel_rfl)
theorem A3g (k : Nat) : Aa Tryz.prog 41 (sgpend k) := Af (Aiz k) k rfl ⟨⟨A9 k, trivial⟩, trivial⟩ Ae Tryz.func41 (by kernel_rfl)
def Xv : Sk := ⟨[.lf (.ptr 0 0), .lf (.sb 1 1)], [[.pv (.slice yt8)], [.fn 41 [(0, 0)] []]], []⟩
def Ah3 : Sk := ⟨[.lf (.erp 68 [(.int .i64), (.int .i64)])], Xv.boxes, []⟩
def A9u (k : Nat) : EnvL := [(41, [sgpend k])]
def Ah1 (k : Nat) : Cfg := mkC (A9u k) 68 2 0
def Oq (k : Nat) : (List (YT8)) → Option H16 := hid (Ab (Ah1 k) (k + 32) Tryz.f32 Xv Ah3)
def Aya (k : Nat) : Sig := Ac Xv Ah3 (Oq k)
noncomputable def Ah2 (k : Nat) : (List (YT8)) → Option H16
 | a0 => ((cpend k) (a0)).bind fun o1 => bif (!o1.1) then (some (o1.1, o1.2.1, o1.2.2.1, o1.2.2.2)) else (some (true, (0 : Int), (0 : Int), o1.2.2.2))
theorem A9v (k : Nat) (x : (List (YT8))) : Oq k x = Ah2 k x := (Ad _ _).trans (by kernel_rfl)
theorem A27 (k : Nat) : Aa Tryz.prog 32 (Aya k) := Af (Ah1 k) (k + 32) rfl ⟨⟨A3g k, trivial⟩, trivial⟩ Ae Tryz.func32 (by kernel_rfl)
end
end Go.Proofs.YtipcdjgcomclkaaGreatDoorV
