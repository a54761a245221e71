import Derived.Test.YtipcabmhdokfjaaGreatDoorC6
/-! Joined, names shortened: G4, G5. -/
set_option linter.unusedVariables false
set_option linter.unusedSimpArgs false
set_option maxHeartbeats 4000000
set_option maxRecDepth 100000
namespace Go.Proofs.YtipcabmhdokfjaaGreatDoorV
open Go Go.RowKit
noncomputable section
abbrev H111 : Type := (Bool) × (Int) × (Int) × (List (YT8)) × (List Int) × (Int) × (Int) × (Int) × (Int) × (Int) × (Int) × (Int) × (Int) × (Int) × (Int)
def Agv : Sk := ⟨[.lf (.ptr 0 0), .lf (.ptr 1 0)], [[.ptr 2 0], [.ptr 3 0], [.pv (.slice yt8)], q9], []⟩
def Azo : Sk := ⟨[.lf (.erp 88 [(.int .i64), (.int .i64)])], Agv.boxes, []⟩
def B2p (k : Nat) : EnvL := [(193, [sgpnamed k]), (144, [A9 k]), (145, [Ba k])]
def Azm (k : Nat) : Cfg := { mkC (B2p k) 61 4 0 with ef := [(10, (([2], []), ([], [])))], ld := [(8, 1), (9, 0), (12, 9999)], sr := [(12, 3)] }
def Ug (k : Nat) : H108 → Option H111 := hid (Ac (Azm k) k Tryz.f192 Agv Azo)
def Bko (k : Nat) : Sig := Ab Agv Azo (Ug k)
noncomputable def Azn (k : Nat) : H108 → Option H111
 | (a0, a1, a2, a3, a4, a5, a6, a7, a8, a9, a10, a11) => ((cpnamed k) (a0)).bind fun o1 => bif (!o1.1) then (((A7 k) ((50 : Int), o1.2)).bind fun o2 => some (o2.1, o2.2.1, o2.2.2.1, o2.2.2.2, a1, a2, a3, a4, a5, a6, a7, a8, a9, a10, a11)) else (((A4 k) (o1.2)).bind fun o3 => some (true, (0 : Int), (0 : Int), o3.2.2.2.2, o3.2.1, a2, a3, a4, a5, a6, a7, a8, a9, a10, a11))
theorem B2q (k : Nat) (x : H108) : Ug k x = Azn k x := (Af _ _).trans (by kernel_rfl)
theorem Bse (k : Nat) : Aa Tryz.prog 192 (Bko k) := Ae (Azm k) k rfl ⟨⟨Gp k, trivial⟩, ⟨Bb k, trivial⟩, ⟨Bc k, trivial⟩, trivial⟩ Ad Tryz.func192 (by kernel_rfl)
def Ahu : Sk := ⟨[.lf (.ptr 0 0), .lf (.ptr 1 0)], [[.ptr 2 0], [.ptr 3 1], [.pv (.slice yt8)], q9], []⟩
def A4i : Sk := ⟨[.lf (.erp 88 [(.int .i64), (.int .i64)])], Ahu.boxes, []⟩
def B4z (k : Nat) : EnvL := [(144, [A9 k]), (145, [Ba k])]
def A4g (k : Nat) : Cfg := { mkC (B4z k) 66 4 0 with ef := [(15, (([2], []), ([], [])))], ld := [(13, 1), (14, 0), (17, 9999)], sr := [(17, 3)] }
def U8 (k : Nat) : H108 → Option H111 := hid (Ac (A4g k) k Tryz.f146 Ahu A4i)
def Bl1 (k : Nat) : Sig := Ab Ahu A4i (U8 k)
noncomputable def A4h (k : Nat) : H108 → Option H111
 | (a0, a1, a2, a3, a4, a5, a6, a7, a8, a9, a10, a11) => idx zt8 a0 (0 : Int) fun o1 => bif (o1.1 != (2 : Int)) then (((A7 k) ((50 : Int), a0)).bind fun o2 => some (o2.1, o2.2.1, o2.2.2.1, o2.2.2.2, a1, a2, a3, a4, a5, a6, a7, a8, a9, a10, a11)) else (((A4 k) (a0)).bind fun o3 => some (true, (0 : Int), (0 : Int), o3.2.2.2.2, a1, o3.2.2.1, a3, a4, a5, a6, a7, a8, a9, a10, a11))
theorem B40 (k : Nat) (x : H108) : U8 k x = A4h k x := (Af _ _).trans (by kernel_rfl)
theorem Btu (k : Nat) : Aa Tryz.prog 146 (Bl1 k) := Ae (A4g k) k rfl ⟨⟨Bb k, trivial⟩, ⟨Bc k, trivial⟩, trivial⟩ Ad Tryz.func146 (by kernel_rfl)
def Ahv : Sk := ⟨[.lf (.ptr 0 0), .lf (.ptr 1 0)], [[.ptr 2 0], [.ptr 3 2], [.pv (.slice yt8)], q9], []⟩
def A4l : Sk := ⟨[.lf (.erp 88 [(.int .i64), (.int .i64)])], Ahv.boxes, []⟩
def B41 (k : Nat) : EnvL := [(144, [A9 k]), (145, [Ba k])]
def A4j (k : Nat) : Cfg := { mkC (B41 k) 66 4 0 with ef := [(15, (([2], []), ([], [])))], ld := [(13, 1), (14, 0), (17, 9999)], sr := [(17, 3)] }
def U9 (k : Nat) : H108 → Option H111 := hid (Ac (A4j k) k Tryz.f146 Ahv A4l)
def Bl2 (k : Nat) : Sig := Ab Ahv A4l (U9 k)
noncomputable def A4k (k : Nat) : H108 → Option H111
 | (a0, a1, a2, a3, a4, a5, a6, a7, a8, a9, a10, a11) => idx zt8 a0 (0 : Int) fun o1 => bif (o1.1 != (2 : Int)) then (((A7 k) ((50 : Int), a0)).bind fun o2 => some (o2.1, o2.2.1, o2.2.2.1, o2.2.2.2, a1, a2, a3, a4, a5, a6, a7, a8, a9, a10, a11)) else (((A4 k) (a0)).bind fun o3 => some (true, (0 : Int), (0 : Int), o3.2.2.2.2, a1, a2, o3.2.2.1, a4, a5, a6, a7, a8, a9, a10, a11))
theorem B42 (k : Nat) (x : H108) : U9 k x = A4k k x := (Af _ _).trans (by kernel_rfl)
theorem Btv (k : Nat) : Aa Tryz.prog 146 (Bl2 k) := Ae (A4j k) k rfl ⟨⟨Bb k, trivial⟩, ⟨Bc k, trivial⟩, trivial⟩ Ad Tryz.func146 (by kernel_rfl)
def A09 : Sk := ⟨[.lf (.ptr 0 0), .lf (.ptr 1 3)], [[.pv (.slice yt8)], q9], []⟩
def A1a : Sk := ⟨[.lf (.fn 146 [] [(2, 0), (3, 0)])], [[.pv (.slice yt8)], q9, [.ptr 0 0], [.ptr 1 3]], []⟩
def A07 (k : Nat) : Cfg := { mkC [] 54 2 0 with bl := [54, 56] }
def Abj (k : Nat) : H108 → Option H108 := hid (Ac (A07 k) k Tryz.f94 A09 A1a)
def Bk4 (k : Nat) : Sig := Ab A09 A1a (Abj k)
noncomputable def A08 (k : Nat) : H108 → Option H108
 | (a0, a1, a2, a3, a4, a5, a6, a7, a8, a9, a10, a11) => some (a0, a1, a2, a3, a4, a5, a6, a7, a8, a9, a10, a11)
theorem B3n (k : Nat) (x : H108) : Abj k x = A08 k x := (Af _ _).trans (by kernel_rfl)
theorem Bsx (k : Nat) : Aa Tryz.prog 94 (Bk4 k) := Ae (A07 k) (l := []) k rfl trivial Ad Tryz.func94 (by kernel_rfl)
def A1d : Sk := ⟨[.lf (.ptr 0 0), .lf (.ptr 1 4)], [[.pv (.slice yt8)], q9], []⟩
def A1e : Sk := ⟨[.lf (.fn 146 [] [(2, 0), (3, 0)])], [[.pv (.slice yt8)], q9, [.ptr 0 0], [.ptr 1 4]], []⟩
def A1b (k : Nat) : Cfg := { mkC [] 54 2 0 with bl := [54, 56] }
def Abk (k : Nat) : H108 → Option H108 := hid (Ac (A1b k) k Tryz.f94 A1d A1e)
def Bk5 (k : Nat) : Sig := Ab A1d A1e (Abk k)
noncomputable def A1c (k : Nat) : H108 → Option H108
 | (a0, a1, a2, a3, a4, a5, a6, a7, a8, a9, a10, a11) => some (a0, a1, a2, a3, a4, a5, a6, a7, a8, a9, a10, a11)
theorem B3o (k : Nat) (x : H108) : Abk k x = A1c k x := (Af _ _).trans (by kernel_rfl)
theorem Bsy (k : Nat) : Aa Tryz.prog 94 (Bk5 k) := Ae (A1b k) (l := []) k rfl trivial Ad Tryz.func94 (by kernel_rfl)
def Ahw : Sk := ⟨[.lf (.ptr 0 0), .lf (.ptr 1 0)], [[.ptr 2 0], [.ptr 3 3], [.pv (.slice yt8)], q9], []⟩
def A4o : Sk := ⟨[.lf (.erp 88 [(.int .i64), (.int .i64)])], Ahw.boxes, []⟩
def B43 (k : Nat) : EnvL := [(144, [A9 k]), (145, [Ba k])]
def A4m (k : Nat) : Cfg := { mkC (B43 k) 66 4 0 with ef := [(15, (([2], []), ([], [])))], ld := [(13, 1), (14, 0), (17, 9999)], sr := [(17, 3)] }
def Va (k : Nat) : H108 → Option H111 := hid (Ac (A4m k) k Tryz.f146 Ahw A4o)
def Bl3 (k : Nat) : Sig := Ab Ahw A4o (Va k)
noncomputable def A4n (k : Nat) : H108 → Option H111
 | (a0, a1, a2, a3, a4, a5, a6, a7, a8, a9, a10, a11) => idx zt8 a0 (0 : Int) fun o1 => bif (o1.1 != (2 : Int)) then (((A7 k) ((50 : Int), a0)).bind fun o2 => some (o2.1, o2.2.1, o2.2.2.1, o2.2.2.2, a1, a2, a3, a4, a5, a6, a7, a8, a9, a10, a11)) else (((A4 k) (a0)).bind fun o3 => some (true, (0 : Int), (0 : Int), o3.2.2.2.2, a1, a2, a3, o3.2.2.1, a5, a6, a7, a8, a9, a10, a11))
theorem B44 (k : Nat) (x : H108) : Va k x = A4n k x := (Af _ _).trans (by kernel_rfl)
theorem Btw (k : Nat) : Aa Tryz.prog 146 (Bl3 k) := Ae (A4m k) k rfl ⟨⟨Bb k, trivial⟩, ⟨Bc k, trivial⟩, trivial⟩ Ad Tryz.func146 (by kernel_rfl)
def Ahx : Sk := ⟨[.lf (.ptr 0 0), .lf (.ptr 1 0)], [[.ptr 2 0], [.ptr 3 4], [.pv (.slice yt8)], q9], []⟩
def A4r : Sk := ⟨[.lf (.erp 88 [(.int .i64), (.int .i64)])], Ahx.boxes, []⟩
def B45 (k : Nat) : EnvL := [(144, [A9 k]), (145, [Ba k])]
def A4p (k : Nat) : Cfg := { mkC (B45 k) 66 4 0 with ef := [(15, (([2], []), ([], [])))], ld := [(13, 1), (14, 0), (17, 9999)], sr := [(17, 3)] }
def Vb (k : Nat) : H108 → Option H111 := hid (Ac (A4p k) k Tryz.f146 Ahx A4r)
def Bl4 (k : Nat) : Sig := Ab Ahx A4r (Vb k)
noncomputable def A4q (k : Nat) : H108 → Option H111
 | (a0, a1, a2, a3, a4, a5, a6, a7, a8, a9, a10, a11) => idx zt8 a0 (0 : Int) fun o1 => bif (o1.1 != (2 : Int)) then (((A7 k) ((50 : Int), a0)).bind fun o2 => some (o2.1, o2.2.1, o2.2.2.1, o2.2.2.2, a1, a2, a3, a4, a5, a6, a7, a8, a9, a10, a11)) else (((A4 k) (a0)).bind fun o3 => some (true, (0 : Int), (0 : Int), o3.2.2.2.2, a1, a2, a3, a4, o3.2.2.1, a6, a7, a8, a9, a10, a11))
theorem B46 (k : Nat) (x : H108) : Vb k x = A4q k x := (Af _ _).trans (by kernel_rfl)
theorem Btx (k : Nat) : Aa Tryz.prog 146 (Bl4 k) := Ae (A4p k) k rfl ⟨⟨Bb k, trivial⟩, ⟨Bc k, trivial⟩, trivial⟩ Ad Tryz.func146 (by kernel_rfl)
abbrev H112 : Type := (List (YT8)) × (List Int) × (List Int) × (Int) × (Int) × (Int) × (Int) × (Int) × (Int) × (Int) × (Int) × (Int) × (Int)
abbrev H113 : Type := (Bool) × (Int) × (Int) × (List (YT8)) × (List Int) × (List Int) × (Int) × (Int) × (Int) × (Int) × (Int) × (Int) × (Int) × (Int) × (Int) × (Int)
def Agj : Sk := ⟨[.lf (.ptr 0 0), .lf (.sb 1 3)], [[.pv (.slice yt8)], q6, [.ptr 0 0], [.ptr 8 3], [.ptr 0 0], [.pv .str], [.ptr 0 0], [.ptr 8 4], q9], []⟩
def Awn : Sk := ⟨[.lf (.erp 88 [(.int .i64), (.int .i64)])], Agj.boxes, []⟩
def B1l (k : Nat) : EnvL := [(146, [Bl3 k, Bl4 k]), (142, [Fm k])]
def Awl (k : Nat) : Cfg := mkC (B1l k) 68 9 0
def Aaz (k : Nat) : H112 → Option H113 := hid (Ac (Awl k) (k + 32) Tryz.f92 Agj Awn)
def Bj4 (k : Nat) : Sig := Ab Agj Awn (Aaz k)
noncomputable def Awm (k : Nat) : H112 → Option H113
 | (a0, a1, a2, a3, a4, a5, a6, a7, a8, a9, a10, a11, a12) => ((Va k) (a0, a2, a3, a4, a5, a6, a7, a8, a9, a10, a11, a12)).bind fun o1 => bif (!o1.1) then (some (o1.1, o1.2.1, o1.2.2.1, o1.2.2.2.1, a1, o1.2.2.2.2.1, o1.2.2.2.2.2.1, o1.2.2.2.2.2.2.1, o1.2.2.2.2.2.2.2.1, o1.2.2.2.2.2.2.2.2.1, o1.2.2.2.2.2.2.2.2.2.1, o1.2.2.2.2.2.2.2.2.2.2.1, o1.2.2.2.2.2.2.2.2.2.2.2.1, o1.2.2.2.2.2.2.2.2.2.2.2.2.1, o1.2.2.2.2.2.2.2.2.2.2.2.2.2.1, o1.2.2.2.2.2.2.2.2.2.2.2.2.2.2)) else (((Bj k) (a1, o1.2.2.2.1)).bind fun o2 => bif (!o2.1) then (some (o2.1, o2.2.1, o2.2.2.1, o2.2.2.2.2, o2.2.2.2.1, o1.2.2.2.2.1, o1.2.2.2.2.2.1, o1.2.2.2.2.2.2.1, o1.2.2.2.2.2.2.2.1, o1.2.2.2.2.2.2.2.2.1, o1.2.2.2.2.2.2.2.2.2.1, o1.2.2.2.2.2.2.2.2.2.2.1, o1.2.2.2.2.2.2.2.2.2.2.2.1, o1.2.2.2.2.2.2.2.2.2.2.2.2.1, o1.2.2.2.2.2.2.2.2.2.2.2.2.2.1, o1.2.2.2.2.2.2.2.2.2.2.2.2.2.2)) else (((Vb k) (o2.2.2.2.2, o1.2.2.2.2.1, o1.2.2.2.2.2.1, o1.2.2.2.2.2.2.1, o1.2.2.2.2.2.2.2.1, o1.2.2.2.2.2.2.2.2.1, o1.2.2.2.2.2.2.2.2.2.1, o1.2.2.2.2.2.2.2.2.2.2.1, o1.2.2.2.2.2.2.2.2.2.2.2.1, o1.2.2.2.2.2.2.2.2.2.2.2.2.1, o1.2.2.2.2.2.2.2.2.2.2.2.2.2.1, o1.2.2.2.2.2.2.2.2.2.2.2.2.2.2)).bind fun o3 => bif (!o3.1) then (some (o3.1, o3.2.1, o3.2.2.1, o3.2.2.2.1, o2.2.2.2.1, o3.2.2.2.2.1, o3.2.2.2.2.2.1, o3.2.2.2.2.2.2.1, o3.2.2.2.2.2.2.2.1, o3.2.2.2.2.2.2.2.2.1, o3.2.2.2.2.2.2.2.2.2.1, o3.2.2.2.2.2.2.2.2.2.2.1, o3.2.2.2.2.2.2.2.2.2.2.2.1, o3.2.2.2.2.2.2.2.2.2.2.2.2.1, o3.2.2.2.2.2.2.2.2.2.2.2.2.2.1, o3.2.2.2.2.2.2.2.2.2.2.2.2.2.2)) else (some (true, (0 : Int), (0 : Int), o3.2.2.2.1, o2.2.2.2.1, o3.2.2.2.2.1, o3.2.2.2.2.2.1, o3.2.2.2.2.2.2.1, o3.2.2.2.2.2.2.2.1, o3.2.2.2.2.2.2.2.2.1, o3.2.2.2.2.2.2.2.2.2.1, o3.2.2.2.2.2.2.2.2.2.2.1, o3.2.2.2.2.2.2.2.2.2.2.2.1, o3.2.2.2.2.2.2.2.2.2.2.2.2.1, o3.2.2.2.2.2.2.2.2.2.2.2.2.2.1, o3.2.2.2.2.2.2.2.2.2.2.2.2.2.2))))
theorem B1m (k : Nat) (x : H112) : Aaz k x = Awm k x := (Af _ _).trans (by kernel_rfl)
theorem Brm (k : Nat) : Aa Tryz.prog 92 (Bj4 k) := Ae (Awl k) (k + 32) rfl ⟨⟨Btw k, Btx k, trivial⟩, ⟨Fv k, trivial⟩, trivial⟩ Ad Tryz.func92 (by kernel_rfl)
def Agp : Sk := ⟨[.lf (.ptr 0 0), .lf (.ptr 1 0)], [[.ptr 2 0], [.ptr 3 3], [.pv (.slice yt8)], q9], []⟩
def Axl : Sk := ⟨[.lf (.erp 88 [(.int .i64), (.int .i64)])], Agp.boxes, []⟩
def B1y (k : Nat) : EnvL := [(94, [Bk4 k, Bk5 k]), (93, [Fl k]), (92, [Bj4 k])]
def Axj (k : Nat) : Cfg := { mkC (B1y k) 84 4 0 with ef := [(8, (([2, 3], []), ([56, 74], []))), (10, (([2], []), ([58, 76], []))), (15, (([2, 3], []), ([63, 81], []))), (17, (([2, 3, 56, 58, 63, 64, 74, 76, 81], []), ([], [])))], ld := [(3, 0), (4, 0), (5, 1), (6, 9999), (7, 9999), (9, 0), (11, 0), (12, 1), (13, 9999), (14, 9999)], rb := [16] }
def Ud (k : Nat) : H108 → Option H111 := hid (Ac (Axj k) k Tryz.f147 Agp Axl)
def Bka (k : Nat) : Sig := Ab Agp Axl (Ud k)
noncomputable def Axk (k : Nat) : H108 → Option H111
 | (a0, a1, a2, a3, a4, a5, a6, a7, a8, a9, a10, a11) => ((Abj k) (a0, a1, a2, a3, a4, a5, a6, a7, a8, a9, a10, a11)).bind fun o1 => ((Bp k) (([47] : List Int), o1.1)).bind fun o2 => ((Abk k) (o2.1, o1.2.1, o1.2.2.1, o1.2.2.2.1, o1.2.2.2.2.1, o1.2.2.2.2.2.1, o1.2.2.2.2.2.2.1, o1.2.2.2.2.2.2.2.1, o1.2.2.2.2.2.2.2.2.1, o1.2.2.2.2.2.2.2.2.2.1, o1.2.2.2.2.2.2.2.2.2.2.1, o1.2.2.2.2.2.2.2.2.2.2.2)).bind fun o3 => ((Aaz k) (o3.1, o2.2, o3.2.1, o3.2.2.1, o3.2.2.2.1, o3.2.2.2.2.1, o3.2.2.2.2.2.1, o3.2.2.2.2.2.2.1, o3.2.2.2.2.2.2.2.1, o3.2.2.2.2.2.2.2.2.1, o3.2.2.2.2.2.2.2.2.2.1, o3.2.2.2.2.2.2.2.2.2.2.1, o3.2.2.2.2.2.2.2.2.2.2.2)).bind fun o4 => some (o4.1, o4.2.1, o4.2.2.1, o4.2.2.2.1, o4.2.2.2.2.2.1, o4.2.2.2.2.2.2.1, o4.2.2.2.2.2.2.2.1, o4.2.2.2.2.2.2.2.2.1, o4.2.2.2.2.2.2.2.2.2.1, o4.2.2.2.2.2.2.2.2.2.2.1, o4.2.2.2.2.2.2.2.2.2.2.2.1, o4.2.2.2.2.2.2.2.2.2.2.2.2.1, o4.2.2.2.2.2.2.2.2.2.2.2.2.2.1, o4.2.2.2.2.2.2.2.2.2.2.2.2.2.2.1, o4.2.2.2.2.2.2.2.2.2.2.2.2.2.2.2)
theorem B1z (k : Nat) (x : H108) : Ud k x = Axk k x := (Af _ _).trans (by kernel_rfl)
theorem Brv (k : Nat) : Aa Tryz.prog 147 (Bka k) := Ae (Axj k) k rfl ⟨⟨Bsx k, Bsy k, trivial⟩, ⟨Fu k, trivial⟩, ⟨Brm k, trivial⟩, trivial⟩ Ad Tryz.func147 (by kernel_rfl)
def Ahy : Sk := ⟨[.lf (.ptr 0 0), .lf (.ptr 1 0)], [[.ptr 2 0], [.ptr 3 5], [.pv (.slice yt8)], q9], []⟩
def A4u : Sk := ⟨[.lf (.erp 88 [(.int .i64), (.int .i64)])], Ahy.boxes, []⟩
def B47 (k : Nat) : EnvL := [(144, [A9 k]), (145, [Ba k])]
def A4s (k : Nat) : Cfg := { mkC (B47 k) 66 4 0 with ef := [(15, (([2], []), ([], [])))], ld := [(13, 1), (14, 0), (17, 9999)], sr := [(17, 3)] }
def Vc (k : Nat) : H108 → Option H111 := hid (Ac (A4s k) k Tryz.f146 Ahy A4u)
def Bl5 (k : Nat) : Sig := Ab Ahy A4u (Vc k)
noncomputable def A4t (k : Nat) : H108 → Option H111
 | (a0, a1, a2, a3, a4, a5, a6, a7, a8, a9, a10, a11) => idx zt8 a0 (0 : Int) fun o1 => bif (o1.1 != (2 : Int)) then (((A7 k) ((50 : Int), a0)).bind fun o2 => some (o2.1, o2.2.1, o2.2.2.1, o2.2.2.2, a1, a2, a3, a4, a5, a6, a7, a8, a9, a10, a11)) else (((A4 k) (a0)).bind fun o3 => some (true, (0 : Int), (0 : Int), o3.2.2.2.2, a1, a2, a3, a4, a5, o3.2.2.1, a7, a8, a9, a10, a11))
theorem B48 (k : Nat) (x : H108) : Vc k x = A4t k x := (Af _ _).trans (by kernel_rfl)
theorem Bty (k : Nat) : Aa Tryz.prog 146 (Bl5 k) := Ae (A4s k) k rfl ⟨⟨Bb k, trivial⟩, ⟨Bc k, trivial⟩, trivial⟩ Ad Tryz.func146 (by kernel_rfl)
def Agt : Sk := ⟨[.lf (.ptr 0 0), .lf (.ptr 1 0), .lf (.ptr 2 0)], [[.ptr 3 0], [.pv .str], [.ptr 4 0], [.pv (.slice yt8)], [.pv .bool]], []⟩
def Aye : Sk := ⟨[.lf (.nil .ifc)], Agt.boxes, []⟩
def B2b (k : Nat) : EnvL := [(143, [Ep k]), (145, [Ba k])]
def Ayb (k : Nat) : Cfg := mkC (B2b k) 59 5 0
def Ps (k : Nat) : H109 → Option H109 := hid (Ac (Ayb k) k Tryz.f161 Agt Aye)
def Aob (k : Nat) : Sig := Ab Agt Aye (Ps k)
noncomputable def Ayc (k : Nat) : H109 → Option H109
 | (a0, a1, a2) => ((Dh k) (a0, a1)).bind fun o1 => bif o1.1 then (((A4 k) (o1.2)).bind fun o2 => some (a0, o2.2.2.2.2, true)) else (some (a0, o1.2, a2))
theorem B2c (k : Nat) (x : H109) : Ps k x = Ayc k x := (Af _ _).trans (by kernel_rfl)
theorem Aqk (k : Nat) : Aa Tryz.prog 161 (Aob k) := Ae (Ayb k) k rfl ⟨⟨Et k, trivial⟩, ⟨Bc k, trivial⟩, trivial⟩ Ad Tryz.func161 (by kernel_rfl)
def Ahf : Sk := ⟨[.lf (.ptr 0 0), .lf (.ptr 1 0)], [[.ptr 2 0], [.ptr 3 6], [.pv (.slice yt8)], q9], []⟩
def A29 : Sk := ⟨[.lf (.erp 88 [(.int .i64), (.int .i64)])], Ahf.boxes, []⟩
def B35 (k : Nat) : EnvL := [(144, [A9 k]), (145, [Ba k])]
def A27 (k : Nat) : Cfg := { mkC (B35 k) 66 4 0 with ef := [(15, (([2], []), ([], [])))], ld := [(13, 1), (14, 0), (17, 9999)], sr := [(17, 3)] }
def Uu (k : Nat) : H108 → Option H111 := hid (Ac (A27 k) k Tryz.f146 Ahf A29)
def Bln (k : Nat) : Sig := Ab Ahf A29 (Uu k)
noncomputable def A28 (k : Nat) : H108 → Option H111
 | (a0, a1, a2, a3, a4, a5, a6, a7, a8, a9, a10, a11) => idx zt8 a0 (0 : Int) fun o1 => bif (o1.1 != (2 : Int)) then (((A7 k) ((50 : Int), a0)).bind fun o2 => some (o2.1, o2.2.1, o2.2.2.1, o2.2.2.2, a1, a2, a3, a4, a5, a6, a7, a8, a9, a10, a11)) else (((A4 k) (a0)).bind fun o3 => some (true, (0 : Int), (0 : Int), o3.2.2.2.2, a1, a2, a3, a4, a5, a6, o3.2.2.1, a8, a9, a10, a11))
theorem B36 (k : Nat) (x : H108) : Uu k x = A28 k x := (Af _ _).trans (by kernel_rfl)
theorem Btf (k : Nat) : Aa Tryz.prog 146 (Bln k) := Ae (A27 k) k rfl ⟨⟨Bb k, trivial⟩, ⟨Bc k, trivial⟩, trivial⟩ Ad Tryz.func146 (by kernel_rfl)
def Ahg : Sk := ⟨[.lf (.ptr 0 0), .lf (.ptr 1 0)], [[.ptr 2 0], [.ptr 3 7], [.pv (.slice yt8)], q9], []⟩
def A3c : Sk := ⟨[.lf (.erp 88 [(.int .i64), (.int .i64)])], Ahg.boxes, []⟩
def B37 (k : Nat) : EnvL := [(144, [A9 k]), (145, [Ba k])]
def A3a (k : Nat) : Cfg := { mkC (B37 k) 66 4 0 with ef := [(15, (([2], []), ([], [])))], ld := [(13, 1), (14, 0), (17, 9999)], sr := [(17, 3)] }
def Uv (k : Nat) : H108 → Option H111 := hid (Ac (A3a k) k Tryz.f146 Ahg A3c)
def Blo (k : Nat) : Sig := Ab Ahg A3c (Uv k)
noncomputable def A3b (k : Nat) : H108 → Option H111
 | (a0, a1, a2, a3, a4, a5, a6, a7, a8, a9, a10, a11) => idx zt8 a0 (0 : Int) fun o1 => bif (o1.1 != (2 : Int)) then (((A7 k) ((50 : Int), a0)).bind fun o2 => some (o2.1, o2.2.1, o2.2.2.1, o2.2.2.2, a1, a2, a3, a4, a5, a6, a7, a8, a9, a10, a11)) else (((A4 k) (a0)).bind fun o3 => some (true, (0 : Int), (0 : Int), o3.2.2.2.2, a1, a2, a3, a4, a5, a6, a7, o3.2.2.1, a9, a10, a11))
theorem B38 (k : Nat) (x : H108) : Uv k x = A3b k x := (Af _ _).trans (by kernel_rfl)
theorem Btg (k : Nat) : Aa Tryz.prog 146 (Blo k) := Ae (A3a k) k rfl ⟨⟨Bb k, trivial⟩, ⟨Bc k, trivial⟩, trivial⟩ Ad Tryz.func146 (by kernel_rfl)
def Ahh : Sk := ⟨[.lf (.ptr 0 0), .lf (.ptr 1 0)], [[.ptr 2 0], [.ptr 3 8], [.pv (.slice yt8)], q9], []⟩
def A3f : Sk := ⟨[.lf (.erp 88 [(.int .i64), (.int .i64)])], Ahh.boxes, []⟩
def B39 (k : Nat) : EnvL := [(144, [A9 k]), (145, [Ba k])]
def A3d (k : Nat) : Cfg := { mkC (B39 k) 66 4 0 with ef := [(15, (([2], []), ([], [])))], ld := [(13, 1), (14, 0), (17, 9999)], sr := [(17, 3)] }
def Uw (k : Nat) : H108 → Option H111 := hid (Ac (A3d k) k Tryz.f146 Ahh A3f)
def Blp (k : Nat) : Sig := Ab Ahh A3f (Uw k)
noncomputable def A3e (k : Nat) : H108 → Option H111
 | (a0, a1, a2, a3, a4, a5, a6, a7, a8, a9, a10, a11) => idx zt8 a0 (0 : Int) fun o1 => bif (o1.1 != (2 : Int)) then (((A7 k) ((50 : Int), a0)).bind fun o2 => some (o2.1, o2.2.1, o2.2.2.1, o2.2.2.2, a1, a2, a3, a4, a5, a6, a7, a8, a9, a10, a11)) else (((A4 k) (a0)).bind fun o3 => some (true, (0 : Int), (0 : Int), o3.2.2.2.2, a1, a2, a3, a4, a5, a6, a7, a8, o3.2.2.1, a10, a11))
theorem B4a (k : Nat) (x : H108) : Uw k x = A3e k x := (Af _ _).trans (by kernel_rfl)
theorem Bth (k : Nat) : Aa Tryz.prog 146 (Blp k) := Ae (A3d k) k rfl ⟨⟨Bb k, trivial⟩, ⟨Bc k, trivial⟩, trivial⟩ Ad Tryz.func146 (by kernel_rfl)
def Ahi : Sk := ⟨[.lf (.ptr 0 0), .lf (.ptr 1 0)], [[.ptr 2 0], [.ptr 3 9], [.pv (.slice yt8)], q9], []⟩
def A3i : Sk := ⟨[.lf (.erp 88 [(.int .i64), (.int .i64)])], Ahi.boxes, []⟩
def B4b (k : Nat) : EnvL := [(144, [A9 k]), (145, [Ba k])]
def A3g (k : Nat) : Cfg := { mkC (B4b k) 66 4 0 with ef := [(15, (([2], []), ([], [])))], ld := [(13, 1), (14, 0), (17, 9999)], sr := [(17, 3)] }
def Ux (k : Nat) : H108 → Option H111 := hid (Ac (A3g k) k Tryz.f146 Ahi A3i)
def Blq (k : Nat) : Sig := Ab Ahi A3i (Ux k)
noncomputable def A3h (k : Nat) : H108 → Option H111
 | (a0, a1, a2, a3, a4, a5, a6, a7, a8, a9, a10, a11) => idx zt8 a0 (0 : Int) fun o1 => bif (o1.1 != (2 : Int)) then (((A7 k) ((50 : Int), a0)).bind fun o2 => some (o2.1, o2.2.1, o2.2.2.1, o2.2.2.2, a1, a2, a3, a4, a5, a6, a7, a8, a9, a10, a11)) else (((A4 k) (a0)).bind fun o3 => some (true, (0 : Int), (0 : Int), o3.2.2.2.2, a1, a2, a3, a4, a5, a6, a7, a8, a9, o3.2.2.1, a11))
theorem B4c (k : Nat) (x : H108) : Ux k x = A3h k x := (Af _ _).trans (by kernel_rfl)
theorem Bti (k : Nat) : Aa Tryz.prog 146 (Blq k) := Ae (A3g k) k rfl ⟨⟨Bb k, trivial⟩, ⟨Bc k, trivial⟩, trivial⟩ Ad Tryz.func146 (by kernel_rfl)
abbrev H114 : Type := (List (YT8)) × (List Int) × (List Int) × (List Int) × (List Int) × (List Int) × (List Int) × (List Int) × (List Int) × (List Int) × (List Int) × (List Int) × (Int) × (Int) × (Int) × (Int) × (Int) × (Int) × (Int) × (Int) × (Int) × (Int) × (Bool)
abbrev H115 : Type := (Bool) × (Int) × (Int) × (List (YT8)) × (List Int) × (List Int) × (List Int) × (List Int) × (List Int) × (List Int) × (List Int) × (List Int) × (List Int) × (List Int) × (List Int) × (Int) × (Int) × (Int) × (Int) × (Int) × (Int) × (Int) × (Int) × (Int) × (Int) × (Bool)
def Agi : Sk := ⟨[.lf (.ptr 0 0), .lf (.sb 1 20)], [[.pv (.slice yt8)], q10, [.ptr 0 0], [.ptr 43 10], [.ptr 0 0], [.ptr 43 0], [.ptr 0 0], [.pv .str], [.ptr 0 0], [.ptr 43 1], [.ptr 0 0], [.pv .str], [.ptr 0 0], [.ptr 43 2], [.ptr 0 0], [.pv .str], [.ptr 0 0], [.ptr 43 3], [.ptr 0 0], [.pv .str], [.ptr 0 0], [.ptr 43 5], [.ptr 0 0], [.pv .str], [.ptr 0 0], [.pv .str], [.ptr 44 0], [.ptr 0 0], [.ptr 43 6], [.ptr 0 0], [.pv .str], [.ptr 0 0], [.ptr 43 7], [.ptr 0 0], [.pv .str], [.ptr 0 0], [.ptr 43 8], [.ptr 0 0], [.pv .str], [.ptr 0 0], [.ptr 43 9], [.ptr 0 0], [.pv .str], q9, [.pv .bool]], []⟩
def Awk : Sk := ⟨[.lf (.erp 88 [(.int .i64), (.int .i64)])], Agi.boxes, []⟩
def B1j (k : Nat) : EnvL := [(191, [Bmc k]), (192, [Bko k]), (142, [Fm k]), (146, [Bl1 k, Bl2 k, Bl5 k, Bln k, Blo k, Blp k, Blq k]), (147, [Bka k]), (161, [Aob k])]
def Awi (k : Nat) : Cfg := mkC (B1j k) 68 45 0
def Aay (k : Nat) : H114 → Option H115 := hid (Ac (Awi k) (k + 32) Tryz.f92 Agi Awk)
def Bj3 (k : Nat) : Sig := Ab Agi Awk (Aay k)
noncomputable def Awj (k : Nat) : H114 → Option H115
 | (a0, a1, a2, a3, a4, a5, a6, a7, a8, a9, a10, a11, a12, a13, a14, a15, a16, a17, a18, a19, a20, a21, a22) => ((Ve k) (a0, a11, a12, a13, a14, a15, a16, a17, a18, a19, a20, a21)).bind fun o1 => ((Ug k) (o1.1, o1.2.1, o1.2.2.1, o1.2.2.2.1, o1.2.2.2.2.1, o1.2.2.2.2.2.1, o1.2.2.2.2.2.2.1, o1.2.2.2.2.2.2.2.1, o1.2.2.2.2.2.2.2.2.1, o1.2.2.2.2.2.2.2.2.2.1, o1.2.2.2.2.2.2.2.2.2.2.1, o1.2.2.2.2.2.2.2.2.2.2.2)).bind fun o2 => bif (!o2.1) then (some (o2.1, o2.2.1, o2.2.2.1, o2.2.2.2.1, a1, a2, a3, a4, a5, a6, a7, a8, a9, a10, o2.2.2.2.2.1, o2.2.2.2.2.2.1, o2.2.2.2.2.2.2.1, o2.2.2.2.2.2.2.2.1, o2.2.2.2.2.2.2.2.2.1, o2.2.2.2.2.2.2.2.2.2.1, o2.2.2.2.2.2.2.2.2.2.2.1, o2.2.2.2.2.2.2.2.2.2.2.2.1, o2.2.2.2.2.2.2.2.2.2.2.2.2.1, o2.2.2.2.2.2.2.2.2.2.2.2.2.2.1, o2.2.2.2.2.2.2.2.2.2.2.2.2.2.2, a22)) else (((Bj k) (a1, o2.2.2.2.1)).bind fun o3 => bif (!o3.1) then (some (o3.1, o3.2.1, o3.2.2.1, o3.2.2.2.2, o3.2.2.2.1, a2, a3, a4, a5, a6, a7, a8, a9, a10, o2.2.2.2.2.1, o2.2.2.2.2.2.1, o2.2.2.2.2.2.2.1, o2.2.2.2.2.2.2.2.1, o2.2.2.2.2.2.2.2.2.1, o2.2.2.2.2.2.2.2.2.2.1, o2.2.2.2.2.2.2.2.2.2.2.1, o2.2.2.2.2.2.2.2.2.2.2.2.1, o2.2.2.2.2.2.2.2.2.2.2.2.2.1, o2.2.2.2.2.2.2.2.2.2.2.2.2.2.1, o2.2.2.2.2.2.2.2.2.2.2.2.2.2.2, a22)) else (((U8 k) (o3.2.2.2.2, o2.2.2.2.2.1, o2.2.2.2.2.2.1, o2.2.2.2.2.2.2.1, o2.2.2.2.2.2.2.2.1, o2.2.2.2.2.2.2.2.2.1, o2.2.2.2.2.2.2.2.2.2.1, o2.2.2.2.2.2.2.2.2.2.2.1, o2.2.2.2.2.2.2.2.2.2.2.2.1, o2.2.2.2.2.2.2.2.2.2.2.2.2.1, o2.2.2.2.2.2.2.2.2.2.2.2.2.2.1, o2.2.2.2.2.2.2.2.2.2.2.2.2.2.2)).bind fun o4 => bif (!o4.1) then (some (o4.1, o4.2.1, o4.2.2.1, o4.2.2.2.1, o3.2.2.2.1, a2, a3, a4, a5, a6, a7, a8, a9, a10, o4.2.2.2.2.1, o4.2.2.2.2.2.1, o4.2.2.2.2.2.2.1, o4.2.2.2.2.2.2.2.1, o4.2.2.2.2.2.2.2.2.1, o4.2.2.2.2.2.2.2.2.2.1, o4.2.2.2.2.2.2.2.2.2.2.1, o4.2.2.2.2.2.2.2.2.2.2.2.1, o4.2.2.2.2.2.2.2.2.2.2.2.2.1, o4.2.2.2.2.2.2.2.2.2.2.2.2.2.1, o4.2.2.2.2.2.2.2.2.2.2.2.2.2.2, a22)) else (((Bj k) (a2, o4.2.2.2.1)).bind fun o5 => bif (!o5.1) then (some (o5.1, o5.2.1, o5.2.2.1, o5.2.2.2.2, o3.2.2.2.1, o5.2.2.2.1, a3, a4, a5, a6, a7, a8, a9, a10, o4.2.2.2.2.1, o4.2.2.2.2.2.1, o4.2.2.2.2.2.2.1, o4.2.2.2.2.2.2.2.1, o4.2.2.2.2.2.2.2.2.1, o4.2.2.2.2.2.2.2.2.2.1, o4.2.2.2.2.2.2.2.2.2.2.1, o4.2.2.2.2.2.2.2.2.2.2.2.1, o4.2.2.2.2.2.2.2.2.2.2.2.2.1, o4.2.2.2.2.2.2.2.2.2.2.2.2.2.1, o4.2.2.2.2.2.2.2.2.2.2.2.2.2.2, a22)) else (((U9 k) (o5.2.2.2.2, o4.2.2.2.2.1, o4.2.2.2.2.2.1, o4.2.2.2.2.2.2.1, o4.2.2.2.2.2.2.2.1, o4.2.2.2.2.2.2.2.2.1, o4.2.2.2.2.2.2.2.2.2.1, o4.2.2.2.2.2.2.2.2.2.2.1, o4.2.2.2.2.2.2.2.2.2.2.2.1, o4.2.2.2.2.2.2.2.2.2.2.2.2.1, o4.2.2.2.2.2.2.2.2.2.2.2.2.2.1, o4.2.2.2.2.2.2.2.2.2.2.2.2.2.2)).bind fun o6 => bif (!o6.1) then (some (o6.1, o6.2.1, o6.2.2.1, o6.2.2.2.1, o3.2.2.2.1, o5.2.2.2.1, a3, a4, a5, a6, a7, a8, a9, a10, o6.2.2.2.2.1, o6.2.2.2.2.2.1, o6.2.2.2.2.2.2.1, o6.2.2.2.2.2.2.2.1, o6.2.2.2.2.2.2.2.2.1, o6.2.2.2.2.2.2.2.2.2.1, o6.2.2.2.2.2.2.2.2.2.2.1, o6.2.2.2.2.2.2.2.2.2.2.2.1, o6.2.2.2.2.2.2.2.2.2.2.2.2.1, o6.2.2.2.2.2.2.2.2.2.2.2.2.2.1, o6.2.2.2.2.2.2.2.2.2.2.2.2.2.2, a22)) else (((Bj k) (a3, o6.2.2.2.1)).bind fun o7 => bif (!o7.1) then (some (o7.1, o7.2.1, o7.2.2.1, o7.2.2.2.2, o3.2.2.2.1, o5.2.2.2.1, o7.2.2.2.1, a4, a5, a6, a7, a8, a9, a10, o6.2.2.2.2.1, o6.2.2.2.2.2.1, o6.2.2.2.2.2.2.1, o6.2.2.2.2.2.2.2.1, o6.2.2.2.2.2.2.2.2.1, o6.2.2.2.2.2.2.2.2.2.1, o6.2.2.2.2.2.2.2.2.2.2.1, o6.2.2.2.2.2.2.2.2.2.2.2.1, o6.2.2.2.2.2.2.2.2.2.2.2.2.1, o6.2.2.2.2.2.2.2.2.2.2.2.2.2.1, o6.2.2.2.2.2.2.2.2.2.2.2.2.2.2, a22)) else (((Ud k) (o7.2.2.2.2, o6.2.2.2.2.1, o6.2.2.2.2.2.1, o6.2.2.2.2.2.2.1, o6.2.2.2.2.2.2.2.1, o6.2.2.2.2.2.2.2.2.1, o6.2.2.2.2.2.2.2.2.2.1, o6.2.2.2.2.2.2.2.2.2.2.1, o6.2.2.2.2.2.2.2.2.2.2.2.1, o6.2.2.2.2.2.2.2.2.2.2.2.2.1, o6.2.2.2.2.2.2.2.2.2.2.2.2.2.1, o6.2.2.2.2.2.2.2.2.2.2.2.2.2.2)).bind fun o8 => bif (!o8.1) then (some (o8.1, o8.2.1, o8.2.2.1, o8.2.2.2.1, o3.2.2.2.1, o5.2.2.2.1, o7.2.2.2.1, a4, a5, a6, a7, a8, a9, a10, o8.2.2.2.2.1, o8.2.2.2.2.2.1, o8.2.2.2.2.2.2.1, o8.2.2.2.2.2.2.2.1, o8.2.2.2.2.2.2.2.2.1, o8.2.2.2.2.2.2.2.2.2.1, o8.2.2.2.2.2.2.2.2.2.2.1, o8.2.2.2.2.2.2.2.2.2.2.2.1, o8.2.2.2.2.2.2.2.2.2.2.2.2.1, o8.2.2.2.2.2.2.2.2.2.2.2.2.2.1, o8.2.2.2.2.2.2.2.2.2.2.2.2.2.2, a22)) else (((Bj k) (a4, o8.2.2.2.1)).bind fun o9 => bif (!o9.1) then (some (o9.1, o9.2.1, o9.2.2.1, o9.2.2.2.2, o3.2.2.2.1, o5.2.2.2.1, o7.2.2.2.1, o9.2.2.2.1, a5, a6, a7, a8, a9, a10, o8.2.2.2.2.1, o8.2.2.2.2.2.1, o8.2.2.2.2.2.2.1, o8.2.2.2.2.2.2.2.1, o8.2.2.2.2.2.2.2.2.1, o8.2.2.2.2.2.2.2.2.2.1, o8.2.2.2.2.2.2.2.2.2.2.1, o8.2.2.2.2.2.2.2.2.2.2.2.1, o8.2.2.2.2.2.2.2.2.2.2.2.2.1, o8.2.2.2.2.2.2.2.2.2.2.2.2.2.1, o8.2.2.2.2.2.2.2.2.2.2.2.2.2.2, a22)) else (((Vc k) (o9.2.2.2.2, o8.2.2.2.2.1, o8.2.2.2.2.2.1, o8.2.2.2.2.2.2.1, o8.2.2.2.2.2.2.2.1, o8.2.2.2.2.2.2.2.2.1, o8.2.2.2.2.2.2.2.2.2.1, o8.2.2.2.2.2.2.2.2.2.2.1, o8.2.2.2.2.2.2.2.2.2.2.2.1, o8.2.2.2.2.2.2.2.2.2.2.2.2.1, o8.2.2.2.2.2.2.2.2.2.2.2.2.2.1, o8.2.2.2.2.2.2.2.2.2.2.2.2.2.2)).bind fun o10 => bif (!o10.1) then (some (o10.1, o10.2.1, o10.2.2.1, o10.2.2.2.1, o3.2.2.2.1, o5.2.2.2.1, o7.2.2.2.1, o9.2.2.2.1, a5, a6, a7, a8, a9, a10, o10.2.2.2.2.1, o10.2.2.2.2.2.1, o10.2.2.2.2.2.2.1, o10.2.2.2.2.2.2.2.1, o10.2.2.2.2.2.2.2.2.1, o10.2.2.2.2.2.2.2.2.2.1, o10.2.2.2.2.2.2.2.2.2.2.1, o10.2.2.2.2.2.2.2.2.2.2.2.1, o10.2.2.2.2.2.2.2.2.2.2.2.2.1, o10.2.2.2.2.2.2.2.2.2.2.2.2.2.1, o10.2.2.2.2.2.2.2.2.2.2.2.2.2.2, a22)) else (((Bj k) (a5, o10.2.2.2.1)).bind fun o11 => bif (!o11.1) then (some (o11.1, o11.2.1, o11.2.2.1, o11.2.2.2.2, o3.2.2.2.1, o5.2.2.2.1, o7.2.2.2.1, o9.2.2.2.1, o11.2.2.2.1, a6, a7, a8, a9, a10, o10.2.2.2.2.1, o10.2.2.2.2.2.1, o10.2.2.2.2.2.2.1, o10.2.2.2.2.2.2.2.1, o10.2.2.2.2.2.2.2.2.1, o10.2.2.2.2.2.2.2.2.2.1, o10.2.2.2.2.2.2.2.2.2.2.1, o10.2.2.2.2.2.2.2.2.2.2.2.1, o10.2.2.2.2.2.2.2.2.2.2.2.2.1, o10.2.2.2.2.2.2.2.2.2.2.2.2.2.1, o10.2.2.2.2.2.2.2.2.2.2.2.2.2.2, a22)) else (((Ps k) (a6, o11.2.2.2.2, a22)).bind fun o12 => ((Uu k) (o12.2.1, o10.2.2.2.2.1, o10.2.2.2.2.2.1, o10.2.2.2.2.2.2.1, o10.2.2.2.2.2.2.2.1, o10.2.2.2.2.2.2.2.2.1, o10.2.2.2.2.2.2.2.2.2.1, o10.2.2.2.2.2.2.2.2.2.2.1, o10.2.2.2.2.2.2.2.2.2.2.2.1, o10.2.2.2.2.2.2.2.2.2.2.2.2.1, o10.2.2.2.2.2.2.2.2.2.2.2.2.2.1, o10.2.2.2.2.2.2.2.2.2.2.2.2.2.2)).bind fun o13 => bif (!o13.1) then (some (o13.1, o13.2.1, o13.2.2.1, o13.2.2.2.1, o3.2.2.2.1, o5.2.2.2.1, o7.2.2.2.1, o9.2.2.2.1, o11.2.2.2.1, o12.1, a7, a8, a9, a10, o13.2.2.2.2.1, o13.2.2.2.2.2.1, o13.2.2.2.2.2.2.1, o13.2.2.2.2.2.2.2.1, o13.2.2.2.2.2.2.2.2.1, o13.2.2.2.2.2.2.2.2.2.1, o13.2.2.2.2.2.2.2.2.2.2.1, o13.2.2.2.2.2.2.2.2.2.2.2.1, o13.2.2.2.2.2.2.2.2.2.2.2.2.1, o13.2.2.2.2.2.2.2.2.2.2.2.2.2.1, o13.2.2.2.2.2.2.2.2.2.2.2.2.2.2, o12.2.2)) else (((Bj k) (a7, o13.2.2.2.1)).bind fun o14 => bif (!o14.1) then (some (o14.1, o14.2.1, o14.2.2.1, o14.2.2.2.2, o3.2.2.2.1, o5.2.2.2.1, o7.2.2.2.1, o9.2.2.2.1, o11.2.2.2.1, o12.1, o14.2.2.2.1, a8, a9, a10, o13.2.2.2.2.1, o13.2.2.2.2.2.1, o13.2.2.2.2.2.2.1, o13.2.2.2.2.2.2.2.1, o13.2.2.2.2.2.2.2.2.1, o13.2.2.2.2.2.2.2.2.2.1, o13.2.2.2.2.2.2.2.2.2.2.1, o13.2.2.2.2.2.2.2.2.2.2.2.1, o13.2.2.2.2.2.2.2.2.2.2.2.2.1, o13.2.2.2.2.2.2.2.2.2.2.2.2.2.1, o13.2.2.2.2.2.2.2.2.2.2.2.2.2.2, o12.2.2)) else (((Uv k) (o14.2.2.2.2, o13.2.2.2.2.1, o13.2.2.2.2.2.1, o13.2.2.2.2.2.2.1, o13.2.2.2.2.2.2.2.1, o13.2.2.2.2.2.2.2.2.1, o13.2.2.2.2.2.2.2.2.2.1, o13.2.2.2.2.2.2.2.2.2.2.1, o13.2.2.2.2.2.2.2.2.2.2.2.1, o13.2.2.2.2.2.2.2.2.2.2.2.2.1, o13.2.2.2.2.2.2.2.2.2.2.2.2.2.1, o13.2.2.2.2.2.2.2.2.2.2.2.2.2.2)).bind fun o15 => bif (!o15.1) then (some (o15.1, o15.2.1, o15.2.2.1, o15.2.2.2.1, o3.2.2.2.1, o5.2.2.2.1, o7.2.2.2.1, o9.2.2.2.1, o11.2.2.2.1, o12.1, o14.2.2.2.1, a8, a9, a10, o15.2.2.2.2.1, o15.2.2.2.2.2.1, o15.2.2.2.2.2.2.1, o15.2.2.2.2.2.2.2.1, o15.2.2.2.2.2.2.2.2.1, o15.2.2.2.2.2.2.2.2.2.1, o15.2.2.2.2.2.2.2.2.2.2.1, o15.2.2.2.2.2.2.2.2.2.2.2.1, o15.2.2.2.2.2.2.2.2.2.2.2.2.1, o15.2.2.2.2.2.2.2.2.2.2.2.2.2.1, o15.2.2.2.2.2.2.2.2.2.2.2.2.2.2, o12.2.2)) else (((Bj k) (a8, o15.2.2.2.1)).bind fun o16 => bif (!o16.1) then (some (o16.1, o16.2.1, o16.2.2.1, o16.2.2.2.2, o3.2.2.2.1, o5.2.2.2.1, o7.2.2.2.1, o9.2.2.2.1, o11.2.2.2.1, o12.1, o14.2.2.2.1, o16.2.2.2.1, a9, a10, o15.2.2.2.2.1, o15.2.2.2.2.2.1, o15.2.2.2.2.2.2.1, o15.2.2.2.2.2.2.2.1, o15.2.2.2.2.2.2.2.2.1, o15.2.2.2.2.2.2.2.2.2.1, o15.2.2.2.2.2.2.2.2.2.2.1, o15.2.2.2.2.2.2.2.2.2.2.2.1, o15.2.2.2.2.2.2.2.2.2.2.2.2.1, o15.2.2.2.2.2.2.2.2.2.2.2.2.2.1, o15.2.2.2.2.2.2.2.2.2.2.2.2.2.2, o12.2.2)) else (((Uw k) (o16.2.2.2.2, o15.2.2.2.2.1, o15.2.2.2.2.2.1, o15.2.2.2.2.2.2.1, o15.2.2.2.2.2.2.2.1, o15.2.2.2.2.2.2.2.2.1, o15.2.2.2.2.2.2.2.2.2.1, o15.2.2.2.2.2.2.2.2.2.2.1, o15.2.2.2.2.2.2.2.2.2.2.2.1, o15.2.2.2.2.2.2.2.2.2.2.2.2.1, o15.2.2.2.2.2.2.2.2.2.2.2.2.2.1, o15.2.2.2.2.2.2.2.2.2.2.2.2.2.2)).bind fun o17 => bif (!o17.1) then (some (o17.1, o17.2.1, o17.2.2.1, o17.2.2.2.1, o3.2.2.2.1, o5.2.2.2.1, o7.2.2.2.1, o9.2.2.2.1, o11.2.2.2.1, o12.1, o14.2.2.2.1, o16.2.2.2.1, a9, a10, o17.2.2.2.2.1, o17.2.2.2.2.2.1, o17.2.2.2.2.2.2.1, o17.2.2.2.2.2.2.2.1, o17.2.2.2.2.2.2.2.2.1, o17.2.2.2.2.2.2.2.2.2.1, o17.2.2.2.2.2.2.2.2.2.2.1, o17.2.2.2.2.2.2.2.2.2.2.2.1, o17.2.2.2.2.2.2.2.2.2.2.2.2.1, o17.2.2.2.2.2.2.2.2.2.2.2.2.2.1, o17.2.2.2.2.2.2.2.2.2.2.2.2.2.2, o12.2.2)) else (((Bj k) (a9, o17.2.2.2.1)).bind fun o18 => bif (!o18.1) then (some (o18.1, o18.2.1, o18.2.2.1, o18.2.2.2.2, o3.2.2.2.1, o5.2.2.2.1, o7.2.2.2.1, o9.2.2.2.1, o11.2.2.2.1, o12.1, o14.2.2.2.1, o16.2.2.2.1, o18.2.2.2.1, a10, o17.2.2.2.2.1, o17.2.2.2.2.2.1, o17.2.2.2.2.2.2.1, o17.2.2.2.2.2.2.2.1, o17.2.2.2.2.2.2.2.2.1, o17.2.2.2.2.2.2.2.2.2.1, o17.2.2.2.2.2.2.2.2.2.2.1, o17.2.2.2.2.2.2.2.2.2.2.2.1, o17.2.2.2.2.2.2.2.2.2.2.2.2.1, o17.2.2.2.2.2.2.2.2.2.2.2.2.2.1, o17.2.2.2.2.2.2.2.2.2.2.2.2.2.2, o12.2.2)) else (((Ux k) (o18.2.2.2.2, o17.2.2.2.2.1, o17.2.2.2.2.2.1, o17.2.2.2.2.2.2.1, o17.2.2.2.2.2.2.2.1, o17.2.2.2.2.2.2.2.2.1, o17.2.2.2.2.2.2.2.2.2.1, o17.2.2.2.2.2.2.2.2.2.2.1, o17.2.2.2.2.2.2.2.2.2.2.2.1, o17.2.2.2.2.2.2.2.2.2.2.2.2.1, o17.2.2.2.2.2.2.2.2.2.2.2.2.2.1, o17.2.2.2.2.2.2.2.2.2.2.2.2.2.2)).bind fun o19 => bif (!o19.1) then (some (o19.1, o19.2.1, o19.2.2.1, o19.2.2.2.1, o3.2.2.2.1, o5.2.2.2.1, o7.2.2.2.1, o9.2.2.2.1, o11.2.2.2.1, o12.1, o14.2.2.2.1, o16.2.2.2.1, o18.2.2.2.1, a10, o19.2.2.2.2.1, o19.2.2.2.2.2.1, o19.2.2.2.2.2.2.1, o19.2.2.2.2.2.2.2.1, o19.2.2.2.2.2.2.2.2.1, o19.2.2.2.2.2.2.2.2.2.1, o19.2.2.2.2.2.2.2.2.2.2.1, o19.2.2.2.2.2.2.2.2.2.2.2.1, o19.2.2.2.2.2.2.2.2.2.2.2.2.1, o19.2.2.2.2.2.2.2.2.2.2.2.2.2.1, o19.2.2.2.2.2.2.2.2.2.2.2.2.2.2, o12.2.2)) else (((Bj k) (a10, o19.2.2.2.1)).bind fun o20 => bif (!o20.1) then (some (o20.1, o20.2.1, o20.2.2.1, o20.2.2.2.2, o3.2.2.2.1, o5.2.2.2.1, o7.2.2.2.1, o9.2.2.2.1, o11.2.2.2.1, o12.1, o14.2.2.2.1, o16.2.2.2.1, o18.2.2.2.1, o20.2.2.2.1, o19.2.2.2.2.1, o19.2.2.2.2.2.1, o19.2.2.2.2.2.2.1, o19.2.2.2.2.2.2.2.1, o19.2.2.2.2.2.2.2.2.1, o19.2.2.2.2.2.2.2.2.2.1, o19.2.2.2.2.2.2.2.2.2.2.1, o19.2.2.2.2.2.2.2.2.2.2.2.1, o19.2.2.2.2.2.2.2.2.2.2.2.2.1, o19.2.2.2.2.2.2.2.2.2.2.2.2.2.1, o19.2.2.2.2.2.2.2.2.2.2.2.2.2.2, o12.2.2)) else (some (true, (0 : Int), (0 : Int), o20.2.2.2.2, o3.2.2.2.1, o5.2.2.2.1, o7.2.2.2.1, o9.2.2.2.1, o11.2.2.2.1, o12.1, o14.2.2.2.1, o16.2.2.2.1, o18.2.2.2.1, o20.2.2.2.1, o19.2.2.2.2.1, o19.2.2.2.2.2.1, o19.2.2.2.2.2.2.1, o19.2.2.2.2.2.2.2.1, o19.2.2.2.2.2.2.2.2.1, o19.2.2.2.2.2.2.2.2.2.1, o19.2.2.2.2.2.2.2.2.2.2.1, o19.2.2.2.2.2.2.2.2.2.2.2.1, o19.2.2.2.2.2.2.2.2.2.2.2.2.1, o19.2.2.2.2.2.2.2.2.2.2.2.2.2.1, o19.2.2.2.2.2.2.2.2.2.2.2.2.2.2, o12.2.2)))))))))))))))))))
theorem B1k (k : Nat) (x : H114) : Aay k x = Awj k x := (Af _ _).trans (by kernel_rfl)
theorem Brl (k : Nat) : Aa Tryz.prog 92 (Bj3 k) := Ae (Awi k) (k + 32) rfl ⟨⟨Bt7 k, trivial⟩, ⟨Bse k, trivial⟩, ⟨Fv k, trivial⟩, ⟨Btu k, Btv k, Bty k, Btf k, Btg k, Bth k, Bti k, trivial⟩, ⟨Brv k, trivial⟩, ⟨Aqk k, trivial⟩, trivial⟩ Ad Tryz.func92 (by kernel_rfl)
abbrev H116 : Type := (List Int) × (Int) × (Int) × (Int) × (Int) × (Int) × (Int) × (Int) × (Int) × (Int) × (Int) × (Bool) × (Int) × (Int) × (List (YT8))
def fpheadi : Sk := ⟨[.lf (.ptr 0 0)], [[.pv (.slice yt8)]], []⟩
def fpheado : Sk := ⟨[.agg [.pv .str, .pv (.int .i64), .pv (.int .i64), .pv (.int .i64), .pv (.int .i64), .pv (.int .i64), .pv (.int .i64), .pv (.int .i64), .pv (.int .i64), .pv (.int .i64), .pv (.int .i64)], .lf (.erp 88 [(.int .i64), (.int .i64)])], fpheadi.boxes, []⟩
def fpheadE (k : Nat) : EnvL := [(149, [Bl6 k]), (150, [Bke k]), (93, [Fl k]), (94, [Blg k, Blh k, Bli k, Blj k, Blk k, Bk2 k, Bk3 k]), (95, [Bj8 k]), (98, [Bkb k]), (92, [Bj3 k])]
def Axt (k : Nat) : Cfg := { mkC (fpheadE k) 154 1 0 with bl := [54, 56] }
def cphead (k : Nat) : (List (YT8)) → Option H116 := hid (Ac (Axt k) k Tryz.f152 fpheadi fpheado)
def sgphead (k : Nat) : Sig := Ab fpheadi fpheado (cphead k)
noncomputable def Axu (k : Nat) : (List (YT8)) → Option H116
 | a0 => ((Ab0 k) (a0, ([] : List Int), (0 : Int), (0 : Int), (0 : Int), (0 : Int), (0 : Int), (0 : Int), (0 : Int), (0 : Int), (0 : Int), (0 : Int))).bind fun o1 => ((Aa6 k) (o1.1, o1.2.1, o1.2.2.1, o1.2.2.2.1, o1.2.2.2.2.1, o1.2.2.2.2.2.1, o1.2.2.2.2.2.2.1, o1.2.2.2.2.2.2.2.1, o1.2.2.2.2.2.2.2.2.1, o1.2.2.2.2.2.2.2.2.2.1, o1.2.2.2.2.2.2.2.2.2.2.1, o1.2.2.2.2.2.2.2.2.2.2.2)).bind fun o2 => ((Bp k) (([118, 111, 108, 117, 109, 101] : List Int), o2.1)).bind fun o3 => ((Abv k) (o3.1, o2.2.1, o2.2.2.1, o2.2.2.2.1, o2.2.2.2.2.1, o2.2.2.2.2.2.1, o2.2.2.2.2.2.2.1, o2.2.2.2.2.2.2.2.1, o2.2.2.2.2.2.2.2.2.1, o2.2.2.2.2.2.2.2.2.2.1, o2.2.2.2.2.2.2.2.2.2.2.1, o2.2.2.2.2.2.2.2.2.2.2.2)).bind fun o4 => ((Bp k) (([102, 108, 111, 119] : List Int), o4.1)).bind fun o5 => ((Abw k) (o5.1, o4.2.1, o4.2.2.1, o4.2.2.2.1, o4.2.2.2.2.1, o4.2.2.2.2.2.1, o4.2.2.2.2.2.2.1, o4.2.2.2.2.2.2.2.1, o4.2.2.2.2.2.2.2.2.1, o4.2.2.2.2.2.2.2.2.2.1, o4.2.2.2.2.2.2.2.2.2.2.1, o4.2.2.2.2.2.2.2.2.2.2.2)).bind fun o6 => ((Bp k) (([117, 115, 101] : List Int), o6.1)).bind fun o7 => ((Aa3 k) (o7.1, o6.2.1, o6.2.2.1, o6.2.2.2.1, o6.2.2.2.2.1, o6.2.2.2.2.2.1, o6.2.2.2.2.2.2.1, o6.2.2.2.2.2.2.2.1, o6.2.2.2.2.2.2.2.2.1, o6.2.2.2.2.2.2.2.2.2.1, o6.2.2.2.2.2.2.2.2.2.2.1, o6.2.2.2.2.2.2.2.2.2.2.2)).bind fun o8 => ((Bp k) (([115, 112, 101, 101, 100] : List Int), o8.1)).bind fun o9 => ((Abx k) (o9.1, o8.2.1, o8.2.2.1, o8.2.2.2.1, o8.2.2.2.2.1, o8.2.2.2.2.2.1, o8.2.2.2.2.2.2.1, o8.2.2.2.2.2.2.2.1, o8.2.2.2.2.2.2.2.2.1, o8.2.2.2.2.2.2.2.2.2.1, o8.2.2.2.2.2.2.2.2.2.2.1, o8.2.2.2.2.2.2.2.2.2.2.2)).bind fun o10 => ((Bp k) (([103, 114, 97, 100, 101] : List Int), o10.1)).bind fun o11 => ((Aa4 k) (([45] : List Int), o11.1, false)).bind fun o12 => ((Aby k) (o12.1, o10.2.1, o10.2.2.1, o10.2.2.2.1, o10.2.2.2.2.1, o10.2.2.2.2.2.1, o10.2.2.2.2.2.2.1, o10.2.2.2.2.2.2.2.1, o10.2.2.2.2.2.2.2.2.1, o10.2.2.2.2.2.2.2.2.2.1, o10.2.2.2.2.2.2.2.2.2.2.1, o10.2.2.2.2.2.2.2.2.2.2.2)).bind fun o13 => ((Bp k) (([119, 105, 100, 116, 104] : List Int), o13.1)).bind fun o14 => ((Abz k) (o14.1, o13.2.1, o13.2.2.1, o13.2.2.2.1, o13.2.2.2.2.1, o13.2.2.2.2.2.1, o13.2.2.2.2.2.2.1, o13.2.2.2.2.2.2.2.1, o13.2.2.2.2.2.2.2.2.1, o13.2.2.2.2.2.2.2.2.2.1, o13.2.2.2.2.2.2.2.2.2.2.1, o13.2.2.2.2.2.2.2.2.2.2.2)).bind fun o15 => ((Bp k) (([108, 101, 110, 103, 116, 104] : List Int), o15.1)).bind fun o16 => ((Abh k) (o16.1, o15.2.1, o15.2.2.1, o15.2.2.2.1, o15.2.2.2.2.1, o15.2.2.2.2.2.1, o15.2.2.2.2.2.2.1, o15.2.2.2.2.2.2.2.1, o15.2.2.2.2.2.2.2.2.1, o15.2.2.2.2.2.2.2.2.2.1, o15.2.2.2.2.2.2.2.2.2.2.1, o15.2.2.2.2.2.2.2.2.2.2.2)).bind fun o17 => ((Bp k) (([103, 114, 101, 101, 110] : List Int), o17.1)).bind fun o18 => ((Abi k) (o18.1, o17.2.1, o17.2.2.1, o17.2.2.2.1, o17.2.2.2.2.1, o17.2.2.2.2.2.1, o17.2.2.2.2.2.2.1, o17.2.2.2.2.2.2.2.1, o17.2.2.2.2.2.2.2.2.1, o17.2.2.2.2.2.2.2.2.2.1, o17.2.2.2.2.2.2.2.2.2.2.1, o17.2.2.2.2.2.2.2.2.2.2.2)).bind fun o19 => ((Bp k) (([59] : List Int), o19.1)).bind fun o20 => ((Aay k) (o20.1, o3.2, o5.2, o7.2, o9.2, o11.2, o12.2.2, o14.2, o16.2, o18.2, o20.2, o19.2.1, o19.2.2.1, o19.2.2.2.1, o19.2.2.2.2.1, o19.2.2.2.2.2.1, o19.2.2.2.2.2.2.1, o19.2.2.2.2.2.2.2.1, o19.2.2.2.2.2.2.2.2.1, o19.2.2.2.2.2.2.2.2.2.1, o19.2.2.2.2.2.2.2.2.2.2.1, o19.2.2.2.2.2.2.2.2.2.2.2, o12.2.1)).bind fun o21 => bif o21.2.2.2.2.2.2.2.2.2.2.2.2.2.2.2.2.2.2.2.2.2.2.2.2.2 then (some (o21.2.2.2.2.2.2.2.2.2.2.2.2.2.2.1, o21.2.2.2.2.2.2.2.2.2.2.2.2.2.2.2.1, o21.2.2.2.2.2.2.2.2.2.2.2.2.2.2.2.2.1, o21.2.2.2.2.2.2.2.2.2.2.2.2.2.2.2.2.2.1, o21.2.2.2.2.2.2.2.2.2.2.2.2.2.2.2.2.2.2.1, o21.2.2.2.2.2.2.2.2.2.2.2.2.2.2.2.2.2.2.2.1, (negI .i64 o21.2.2.2.2.2.2.2.2.2.2.2.2.2.2.2.2.2.2.2.2.1), o21.2.2.2.2.2.2.2.2.2.2.2.2.2.2.2.2.2.2.2.2.2.1, o21.2.2.2.2.2.2.2.2.2.2.2.2.2.2.2.2.2.2.2.2.2.2.1, o21.2.2.2.2.2.2.2.2.2.2.2.2.2.2.2.2.2.2.2.2.2.2.2.1, o21.2.2.2.2.2.2.2.2.2.2.2.2.2.2.2.2.2.2.2.2.2.2.2.2.1, o21.1, o21.2.1, o21.2.2.1, o21.2.2.2.1)) else (some (o21.2.2.2.2.2.2.2.2.2.2.2.2.2.2.1, o21.2.2.2.2.2.2.2.2.2.2.2.2.2.2.2.1, o21.2.2.2.2.2.2.2.2.2.2.2.2.2.2.2.2.1, o21.2.2.2.2.2.2.2.2.2.2.2.2.2.2.2.2.2.1, o21.2.2.2.2.2.2.2.2.2.2.2.2.2.2.2.2.2.2.1, o21.2.2.2.2.2.2.2.2.2.2.2.2.2.2.2.2.2.2.2.1, o21.2.2.2.2.2.2.2.2.2.2.2.2.2.2.2.2.2.2.2.2.1, o21.2.2.2.2.2.2.2.2.2.2.2.2.2.2.2.2.2.2.2.2.2.1, o21.2.2.2.2.2.2.2.2.2.2.2.2.2.2.2.2.2.2.2.2.2.2.1, o21.2.2.2.2.2.2.2.2.2.2.2.2.2.2.2.2.2.2.2.2.2.2.2.1, o21.2.2.2.2.2.2.2.2.2.2.2.2.2.2.2.2.2.2.2.2.2.2.2.2.1, o21.1, o21.2.1, o21.2.2.1, o21.2.2.2.1))
theorem B15 (k : Nat) (x : (List (YT8))) : cphead k x = Axu k x := (Af _ _).trans (by kernel_rfl)
theorem Brz (k : Nat) : Aa Tryz.prog 152 (sgphead k) := Ae (Axt k) k rfl ⟨⟨Bt2 k, trivial⟩, ⟨Br5 k, trivial⟩, ⟨Fu k, trivial⟩, ⟨Bta k, Btb k, Btc k, Btd k, Bte k, Bsv k, Bsw k, trivial⟩, ⟨Bru k, trivial⟩, ⟨Br0 k, trivial⟩, ⟨Brl k, trivial⟩, trivial⟩ Ad Tryz.func152 (by kernel_rfl)
abbrev H117 : Type := (List Int) × (Int) × (List (YT8)) × (List Int) × (Int) × (List (YT1))
abbrev H118 : Type := (Bool) × (Int) × (Int) × (List Int) × (Int) × (List (YT8)) × (List Int) × (Int) × (List (YT1))
def Afl : Sk := ⟨[.lf (.ptr 0 0), .lf (.ptr 1 0), .lf (.ptr 2 0), .lf (.ptr 3 0), .lf (.ptr 4 0)], [[.ptr 5 0], [.pv .str], [.ptr 6 1], [.pv (.int .i64)], [.fn 152 [(5, 0)] []], [.pv (.slice yt8)], q7], []⟩
def Afm : Sk := ⟨[.lf (.erp 88 [(.int .i64), (.int .i64)])], [[.ptr 5 0], [.pv .str], [.ptr 6 1], [.pv (.int .i64)], [.fn 152 [(5, 0)] []], [.pv (.slice yt8)], q13], [some (95, yt1)]⟩
def Auz : Sk := ⟨sparse 37 [(0, .lf (.ptr 0 0)), (1, .lf (.ptr 1 0)), (2, .lf (.ptr 2 0)), (3, .lf (.ptr 3 0)), (4, .lf (.ptr 4 0))], [[.ptr 5 0], [.pv .str], [.ptr 6 1], [.pv (.int .i64)], [.fn 152 [(5, 0)] []], [.pv (.slice yt8)], q13], [some (95, yt1)]⟩
abbrev Afi := H117
def Rf : Afi → St := stOf Auz 85
def B0l (k : Nat) : EnvL := [(143, [Ep k]), (144, [A9 k]), (145, [Ba k]), (152, [sgphead k])]
def Hf (k : Nat) : FnX H118 := mkX ({ mkC (B0l k) 85 7 0 with hint := fun i => look none [(1, some Auz)] i, bl := [54, 56], ld := [(29, 2), (30, 2), (31, 9999), (32, 6), (33, 54), (36, 9999)], sr := [(36, 6)] }) k Tryz.f194 Afm
def T4 (k : Nat) : H105 → Option H118 := hid (Ac (Hf k).C k Tryz.f194 Afl Afm)
def Bjl (k : Nat) : Sig := Ab Afl Afm (T4 k)
noncomputable def Afk (k : Nat) (J : JF H118) (L : LF H118) : H105 → Option H118
 | (a0, a1, a2, a3, a4) => L 1 [] k (Rf (a0, a1, a2, a3, a4, []))
theorem B0m (k : Nat) (x : H105) : T4 k x = Afk k (Hf k).J (Hf k).L x := by
 refine (Af _ _).trans ?_; apply cutX (Hf k) [] [] (st0 (Hf k).C Tryz.f194 Afl x) [] [(1, [], k)] (Afk k · · x) <;> intros <;> kernel_rfl
noncomputable def Rg (k j1 : Nat) (J : JF H118) (L : LF H118) : Afi → Option H118
 | (a0, a1, a2, a3, a4, a5) => ((Dh k) (a0, a2)).bind fun o1 => bif o1.1 then (bif (((List.length a5 : Nat) : Int) == a1) then (((A7 k) ((4 : Int), o1.2)).bind fun o2 => some (o2.1, o2.2.1, o2.2.2.1, a0, a1, o2.2.2.2, a3, a4, a5)) else (((A4 k) (o1.2)).bind fun o3 => ((cphead k) (o3.2.2.2.2)).bind fun o4 => bif (!o4.2.2.2.2.2.2.2.2.2.2.2.1) then (some (o4.2.2.2.2.2.2.2.2.2.2.2.1, o4.2.2.2.2.2.2.2.2.2.2.2.2.1, o4.2.2.2.2.2.2.2.2.2.2.2.2.2.1, a0, a1, o4.2.2.2.2.2.2.2.2.2.2.2.2.2.2, a3, a4, a5)) else (app 96 a5 ([(o4.1, (o4.2.1, (o4.2.2.1, ((o4.2.2.2.1, (o4.2.2.2.2.1, ())), (o4.2.2.2.2.2.1, (o4.2.2.2.2.2.2.1, (o4.2.2.2.2.2.2.2.1, (o4.2.2.2.2.2.2.2.2.1, (o4.2.2.2.2.2.2.2.2.2.1, (o4.2.2.2.2.2.2.2.2.2.2.1, ()))))))))))] : List (YT1)) fun o5 => L 1 [] j1 (Rf (a0, a1, o4.2.2.2.2.2.2.2.2.2.2.2.2.2.2, a3, a4, o5))))) else (some (true, (0 : Int), (0 : Int), a0, a1, o1.2, a3, a4, a5))
theorem Afj (k j1 : Nat) (x : Afi) : (Hf k).L 1 [] (j1 + 1) (Rf x) = Rg k j1 (Hf k).J (Hf k).L x := by
 apply cutX (Hf k) [.r, .l, .b, .b] [j1] (Rf x) [] [(1, [], j1)] (Rg k j1 · · x) <;> intros <;> kernel_rfl
theorem Bqy (k : Nat) : Aa Tryz.prog 194 (Bjl k) := Ae (Hf k).C k rfl ⟨⟨Et k, trivial⟩, ⟨Bb k, trivial⟩, ⟨Bc k, trivial⟩, ⟨Brz k, trivial⟩, trivial⟩ Ad Tryz.func194 (by kernel_rfl)
abbrev H119 : Type := (List (YT8)) × (List Int) × (List Int) × (Int) × (Int) × (Int) × (Int)
def A48 : Sk := ⟨[.lf (.ptr 0 0), .lf (.ptr 1 5)], [[.pv (.slice yt8)], q14], []⟩
def A49 : Sk := ⟨[.lf (.fn 191 [] [(2, 0), (3, 0)])], [[.pv (.slice yt8)], q14, [.ptr 0 0], [.ptr 1 5]], []⟩
def A46 (k : Nat) : Cfg := { mkC [] 54 2 0 with bl := [54, 56] }
def Ab1 (k : Nat) : H119 → Option H119 := hid (Ac (A46 k) k Tryz.f149 A48 A49)
def Bl7 (k : Nat) : Sig := Ab A48 A49 (Ab1 k)
noncomputable def A47 (k : Nat) : H119 → Option H119
 | (a0, a1, a2, a3, a4, a5, a6) => some (a0, a1, a2, a3, a4, a5, a6)
theorem B5d (k : Nat) (x : H119) : Ab1 k x = A47 k x := (Af _ _).trans (by kernel_rfl)
theorem Bt3 (k : Nat) : Aa Tryz.prog 149 (Bl7 k) := Ae (A46 k) (l := []) k rfl trivial Ad Tryz.func149 (by kernel_rfl)
def Ayq : Sk := ⟨[.lf (.ptr 0 0), .lf (.ptr 1 0)], [[.pv (.slice yt8)], q14], []⟩
def Ayr : Sk := ⟨[.lf (.fn 192 [] [(2, 0), (3, 0)])], [[.pv (.slice yt8)], q14, [.ptr 0 0], [.ptr 1 0]], []⟩
def Ayo (k : Nat) : Cfg := { mkC [] 54 2 0 with bl := [54, 56] }
def Aa8 (k : Nat) : H119 → Option H119 := hid (Ac (Ayo k) k Tryz.f150 Ayq Ayr)
def Bkg (k : Nat) : Sig := Ab Ayq Ayr (Aa8 k)
noncomputable def Ayp (k : Nat) : H119 → Option H119
 | (a0, a1, a2, a3, a4, a5, a6) => some (a0, a1, a2, a3, a4, a5, a6)
theorem B2g (k : Nat) (x : H119) : Aa8 k x = Ayp k x := (Af _ _).trans (by kernel_rfl)
theorem Br6 (k : Nat) : Aa Tryz.prog 150 (Bkg k) := Ae (Ayo k) (l := []) k rfl trivial Ad Tryz.func150 (by kernel_rfl)
def Ayu : Sk := ⟨[.lf (.ptr 0 0), .lf (.ptr 1 1)], [[.pv (.slice yt8)], q14], []⟩
def Ayv : Sk := ⟨[.lf (.fn 192 [] [(2, 0), (3, 0)])], [[.pv (.slice yt8)], q14, [.ptr 0 0], [.ptr 1 1]], []⟩
def Ays (k : Nat) : Cfg := { mkC [] 54 2 0 with bl := [54, 56] }
def Aa9 (k : Nat) : H119 → Option H119 := hid (Ac (Ays k) k Tryz.f150 Ayu Ayv)
def Bkh (k : Nat) : Sig := Ab Ayu Ayv (Aa9 k)
noncomputable def Ayt (k : Nat) : H119 → Option H119
 | (a0, a1, a2, a3, a4, a5, a6) => some (a0, a1, a2, a3, a4, a5, a6)
theorem B2h (k : Nat) (x : H119) : Aa9 k x = Ayt k x := (Af _ _).trans (by kernel_rfl)
theorem Br7 (k : Nat) : Aa Tryz.prog 150 (Bkh k) := Ae (Ays k) (l := []) k rfl trivial Ad Tryz.func150 (by kernel_rfl)
def A1h : Sk := ⟨[.lf (.ptr 0 0), .lf (.ptr 1 2)], [[.pv (.slice yt8)], q14], []⟩
def A1i : Sk := ⟨[.lf (.fn 146 [] [(2, 0), (3, 0)])], [[.pv (.slice yt8)], q14, [.ptr 0 0], [.ptr 1 2]], []⟩
def A1f (k : Nat) : Cfg := { mkC [] 54 2 0 with bl := [54, 56] }
def Abl (k : Nat) : H119 → Option H119 := hid (Ac (A1f k) k Tryz.f94 A1h A1i)
def Bk6 (k : Nat) : Sig := Ab A1h A1i (Abl k)
noncomputable def A1g (k : Nat) : H119 → Option H119
 | (a0, a1, a2, a3, a4, a5, a6) => some (a0, a1, a2, a3, a4, a5, a6)
theorem B3p (k : Nat) (x : H119) : Abl k x = A1g k x := (Af _ _).trans (by kernel_rfl)
theorem Bsz (k : Nat) : Aa Tryz.prog 94 (Bk6 k) := Ae (A1f k) (l := []) k rfl trivial Ad Tryz.func94 (by kernel_rfl)
def A1l : Sk := ⟨[.lf (.ptr 0 0), .lf (.ptr 1 3)], [[.pv (.slice yt8)], q14], []⟩
def A1m : Sk := ⟨[.lf (.fn 146 [] [(2, 0), (3, 0)])], [[.pv (.slice yt8)], q14, [.ptr 0 0], [.ptr 1 3]], []⟩
def A1j (k : Nat) : Cfg := { mkC [] 54 2 0 with bl := [54, 56] }
def Abm (k : Nat) : H119 → Option H119 := hid (Ac (A1j k) k Tryz.f94 A1l A1m)
def Bk7 (k : Nat) : Sig := Ab A1l A1m (Abm k)
noncomputable def A1k (k : Nat) : H119 → Option H119
 | (a0, a1, a2, a3, a4, a5, a6) => some (a0, a1, a2, a3, a4, a5, a6)
theorem B3q (k : Nat) (x : H119) : Abm k x = A1k k x := (Af _ _).trans (by kernel_rfl)
theorem Bs0 (k : Nat) : Aa Tryz.prog 94 (Bk7 k) := Ae (A1j k) (l := []) k rfl trivial Ad Tryz.func94 (by kernel_rfl)
def A1p : Sk := ⟨[.lf (.ptr 0 0), .lf (.ptr 1 4)], [[.pv (.slice yt8)], q14], []⟩
def A1q : Sk := ⟨[.lf (.fn 146 [] [(2, 0), (3, 0)])], [[.pv (.slice yt8)], q14, [.ptr 0 0], [.ptr 1 4]], []⟩
def A1n (k : Nat) : Cfg := { mkC [] 54 2 0 with bl := [54, 56] }
def Abn (k : Nat) : H119 → Option H119 := hid (Ac (A1n k) k Tryz.f94 A1p A1q)
def Bk8 (k : Nat) : Sig := Ab A1p A1q (Abn k)
noncomputable def A1o (k : Nat) : H119 → Option H119
 | (a0, a1, a2, a3, a4, a5, a6) => some (a0, a1, a2, a3, a4, a5, a6)
theorem B3r (k : Nat) (x : H119) : Abn k x = A1o k x := (Af _ _).trans (by kernel_rfl)
theorem Bs1 (k : Nat) : Aa Tryz.prog 94 (Bk8 k) := Ae (A1n k) (l := []) k rfl trivial Ad Tryz.func94 (by kernel_rfl)
def Ah1 : Sk := ⟨[.lf (.ptr 0 0), .lf (.ptr 1 0)], [[.ptr 2 0], [.ptr 3 5], [.pv (.slice yt8)], q14], []⟩
def A5r : Sk := ⟨[.lf (.nil .ifc)], Ah1.boxes, []⟩
def A5p (k : Nat) : Cfg := { mkC [] 60 4 0 with ld := [(3, 1), (4, 0), (5, 9999), (6, 9999), (7, 2), (9, 9999), (10, 9999), (11, 9999)], sr := [(11, 3)] }
def Vf (k : Nat) : H119 → Option H119 := hid (Ac (A5p k) k Tryz.f191 Ah1 A5r)
def Bmd (k : Nat) : Sig := Ab Ah1 A5r (Vf k)
noncomputable def A5q (k : Nat) : H119 → Option H119
 | (a0, a1, a2, a3, a4, a5, a6) => idx zt8 a0 (0 : Int) fun o1 => some (a0, a1, a2, a3, a4, a5, o1.2.2.2.1)
theorem B5i (k : Nat) (x : H119) : Vf k x = A5q k x := (Af _ _).trans (by kernel_rfl)
theorem Bt8 (k : Nat) : Aa Tryz.prog 191 (Bmd k) := Ae (A5p k) (l := []) k rfl trivial Ad Tryz.func191 (by kernel_rfl)
abbrev H120 : Type := (Bool) × (Int) × (Int) × (List (YT8)) × (List Int) × (List Int) × (Int) × (Int) × (Int) × (Int)
def Agw : Sk := ⟨[.lf (.ptr 0 0), .lf (.ptr 1 0)], [[.ptr 2 0], [.ptr 3 0], [.pv (.slice yt8)], q14], []⟩
def Azr : Sk := ⟨[.lf (.erp 88 [(.int .i64), (.int .i64)])], Agw.boxes, []⟩
def B2r (k : Nat) : EnvL := [(193, [sgpnamed k]), (144, [A9 k]), (145, [Ba k])]
def Azp (k : Nat) : Cfg := { mkC (B2r k) 61 4 0 with ef := [(10, (([2], []), ([], [])))], ld := [(8, 1), (9, 0), (12, 9999)], sr := [(12, 3)] }
def Ui (k : Nat) : H119 → Option H120 := hid (Ac (Azp k) k Tryz.f192 Agw Azr)
def Bkq (k : Nat) : Sig := Ab Agw Azr (Ui k)
noncomputable def Azq (k : Nat) : H119 → Option H120
 | (a0, a1, a2, a3, a4, a5, a6) => ((cpnamed k) (a0)).bind fun o1 => bif (!o1.1) then (((A7 k) ((50 : Int), o1.2)).bind fun o2 => some (o2.1, o2.2.1, o2.2.2.1, o2.2.2.2, a1, a2, a3, a4, a5, a6)) else (((A4 k) (o1.2)).bind fun o3 => some (true, (0 : Int), (0 : Int), o3.2.2.2.2, o3.2.1, a2, a3, a4, a5, a6))
theorem B2s (k : Nat) (x : H119) : Ui k x = Azq k x := (Af _ _).trans (by kernel_rfl)
theorem Bsf (k : Nat) : Aa Tryz.prog 192 (Bkq k) := Ae (Azp k) k rfl ⟨⟨Gp k, trivial⟩, ⟨Bb k, trivial⟩, ⟨Bc k, trivial⟩, trivial⟩ Ad Tryz.func192 (by kernel_rfl)
def Agx : Sk := ⟨[.lf (.ptr 0 0), .lf (.ptr 1 0)], [[.ptr 2 0], [.ptr 3 1], [.pv (.slice yt8)], q14], []⟩
def Azu : Sk := ⟨[.lf (.erp 88 [(.int .i64), (.int .i64)])], Agx.boxes, []⟩
def B2t (k : Nat) : EnvL := [(193, [sgpnamed k]), (144, [A9 k]), (145, [Ba k])]
def Azs (k : Nat) : Cfg := { mkC (B2t k) 61 4 0 with ef := [(10, (([2], []), ([], [])))], ld := [(8, 1), (9, 0), (12, 9999)], sr := [(12, 3)] }
def Uj (k : Nat) : H119 → Option H120 := hid (Ac (Azs k) k Tryz.f192 Agx Azu)
def Bkr (k : Nat) : Sig := Ab Agx Azu (Uj k)
noncomputable def Azt (k : Nat) : H119 → Option H120
 | (a0, a1, a2, a3, a4, a5, a6) => ((cpnamed k) (a0)).bind fun o1 => bif (!o1.1) then (((A7 k) ((50 : Int), o1.2)).bind fun o2 => some (o2.1, o2.2.1, o2.2.2.1, o2.2.2.2, a1, a2, a3, a4, a5, a6)) else (((A4 k) (o1.2)).bind fun o3 => some (true, (0 : Int), (0 : Int), o3.2.2.2.2, a1, o3.2.1, a3, a4, a5, a6))
theorem B2u (k : Nat) (x : H119) : Uj k x = Azt k x := (Af _ _).trans (by kernel_rfl)
theorem Bsg (k : Nat) : Aa Tryz.prog 192 (Bkr k) := Ae (Azs k) k rfl ⟨⟨Gp k, trivial⟩, ⟨Bb k, trivial⟩, ⟨Bc k, trivial⟩, trivial⟩ Ad Tryz.func192 (by kernel_rfl)
def Ahj : Sk := ⟨[.lf (.ptr 0 0), .lf (.ptr 1 0)], [[.ptr 2 0], [.ptr 3 2], [.pv (.slice yt8)], q14], []⟩
def A3l : Sk := ⟨[.lf (.erp 88 [(.int .i64), (.int .i64)])], Ahj.boxes, []⟩
def B4d (k : Nat) : EnvL := [(144, [A9 k]), (145, [Ba k])]
def A3j (k : Nat) : Cfg := { mkC (B4d k) 66 4 0 with ef := [(15, (([2], []), ([], [])))], ld := [(13, 1), (14, 0), (17, 9999)], sr := [(17, 3)] }
def Uy (k : Nat) : H119 → Option H120 := hid (Ac (A3j k) k Tryz.f146 Ahj A3l)
def Blr (k : Nat) : Sig := Ab Ahj A3l (Uy k)
noncomputable def A3k (k : Nat) : H119 → Option H120
 | (a0, a1, a2, a3, a4, a5, a6) => idx zt8 a0 (0 : Int) fun o1 => bif (o1.1 != (2 : Int)) then (((A7 k) ((50 : Int), a0)).bind fun o2 => some (o2.1, o2.2.1, o2.2.2.1, o2.2.2.2, a1, a2, a3, a4, a5, a6)) else (((A4 k) (a0)).bind fun o3 => some (true, (0 : Int), (0 : Int), o3.2.2.2.2, a1, a2, o3.2.2.1, a4, a5, a6))
theorem B4e (k : Nat) (x : H119) : Uy k x = A3k k x := (Af _ _).trans (by kernel_rfl)
theorem Btj (k : Nat) : Aa Tryz.prog 146 (Blr k) := Ae (A3j k) k rfl ⟨⟨Bb k, trivial⟩, ⟨Bc k, trivial⟩, trivial⟩ Ad Tryz.func146 (by kernel_rfl)
def Ahk : Sk := ⟨[.lf (.ptr 0 0), .lf (.ptr 1 0)], [[.ptr 2 0], [.ptr 3 3], [.pv (.slice yt8)], q14], []⟩
def A3o : Sk := ⟨[.lf (.erp 88 [(.int .i64), (.int .i64)])], Ahk.boxes, []⟩
def B4f (k : Nat) : EnvL := [(144, [A9 k]), (145, [Ba k])]
def A3m (k : Nat) : Cfg := { mkC (B4f k) 66 4 0 with ef := [(15, (([2], []), ([], [])))], ld := [(13, 1), (14, 0), (17, 9999)], sr := [(17, 3)] }
def Uz (k : Nat) : H119 → Option H120 := hid (Ac (A3m k) k Tryz.f146 Ahk A3o)
def Bls (k : Nat) : Sig := Ab Ahk A3o (Uz k)
noncomputable def A3n (k : Nat) : H119 → Option H120
 | (a0, a1, a2, a3, a4, a5, a6) => idx zt8 a0 (0 : Int) fun o1 => bif (o1.1 != (2 : Int)) then (((A7 k) ((50 : Int), a0)).bind fun o2 => some (o2.1, o2.2.1, o2.2.2.1, o2.2.2.2, a1, a2, a3, a4, a5, a6)) else (((A4 k) (a0)).bind fun o3 => some (true, (0 : Int), (0 : Int), o3.2.2.2.2, a1, a2, a3, o3.2.2.1, a5, a6))
theorem B4g (k : Nat) (x : H119) : Uz k x = A3n k x := (Af _ _).trans (by kernel_rfl)
theorem Btk (k : Nat) : Aa Tryz.prog 146 (Bls k) := Ae (A3m k) k rfl ⟨⟨Bb k, trivial⟩, ⟨Bc k, trivial⟩, trivial⟩ Ad Tryz.func146 (by kernel_rfl)
def Ahl : Sk := ⟨[.lf (.ptr 0 0), .lf (.ptr 1 0)], [[.ptr 2 0], [.ptr 3 4], [.pv (.slice yt8)], q14], []⟩
def A3r : Sk := ⟨[.lf (.erp 88 [(.int .i64), (.int .i64)])], Ahl.boxes, []⟩
def B4h (k : Nat) : EnvL := [(144, [A9 k]), (145, [Ba k])]
def A3p (k : Nat) : Cfg := { mkC (B4h k) 66 4 0 with ef := [(15, (([2], []), ([], [])))], ld := [(13, 1), (14, 0), (17, 9999)], sr := [(17, 3)] }
def U0 (k : Nat) : H119 → Option H120 := hid (Ac (A3p k) k Tryz.f146 Ahl A3r)
def Blt (k : Nat) : Sig := Ab Ahl A3r (U0 k)
noncomputable def A3q (k : Nat) : H119 → Option H120
 | (a0, a1, a2, a3, a4, a5, a6) => idx zt8 a0 (0 : Int) fun o1 => bif (o1.1 != (2 : Int)) then (((A7 k) ((50 : Int), a0)).bind fun o2 => some (o2.1, o2.2.1, o2.2.2.1, o2.2.2.2, a1, a2, a3, a4, a5, a6)) else (((A4 k) (a0)).bind fun o3 => some (true, (0 : Int), (0 : Int), o3.2.2.2.2, a1, a2, a3, a4, o3.2.2.1, a6))
theorem B4i (k : Nat) (x : H119) : U0 k x = A3q k x := (Af _ _).trans (by kernel_rfl)
theorem Btl (k : Nat) : Aa Tryz.prog 146 (Blt k) := Ae (A3p k) k rfl ⟨⟨Bb k, trivial⟩, ⟨Bc k, trivial⟩, trivial⟩ Ad Tryz.func146 (by kernel_rfl)
abbrev H121 : Type := (List (YT8)) × (List Int) × (List Int) × (List Int) × (List Int) × (List Int) × (List Int) × (List Int) × (Int) × (Int) × (Int) × (Int)
abbrev H122 : Type := (Bool) × (Int) × (Int) × (List (YT8)) × (List Int) × (List Int) × (List Int) × (List Int) × (List Int) × (List Int) × (List Int) × (Int) × (Int) × (Int) × (Int)
def Agk : Sk := ⟨[.lf (.ptr 0 0), .lf (.sb 1 11)], [[.pv (.slice yt8)], q15, [.ptr 0 0], [.ptr 24 5], [.ptr 0 0], [.ptr 24 0], [.ptr 0 0], [.pv .str], [.ptr 0 0], [.ptr 24 1], [.ptr 0 0], [.pv .str], [.ptr 0 0], [.ptr 24 2], [.ptr 0 0], [.pv .str], [.ptr 0 0], [.ptr 24 3], [.ptr 0 0], [.pv .str], [.ptr 0 0], [.ptr 24 4], [.ptr 0 0], [.pv .str], q14], []⟩
def Awq : Sk := ⟨[.lf (.erp 88 [(.int .i64), (.int .i64)])], Agk.boxes, []⟩
def B1n (k : Nat) : EnvL := [(191, [Bmd k]), (192, [Bkq k, Bkr k]), (142, [Fm k]), (146, [Blr k, Bls k, Blt k])]
def Awo (k : Nat) : Cfg := mkC (B1n k) 68 25 0
def Aa0 (k : Nat) : H121 → Option H122 := hid (Ac (Awo k) (k + 32) Tryz.f92 Agk Awq)
def Bj5 (k : Nat) : Sig := Ab Agk Awq (Aa0 k)
noncomputable def Awp (k : Nat) : H121 → Option H122
 | (a0, a1, a2, a3, a4, a5, a6, a7, a8, a9, a10, a11) => ((Vf k) (a0, a6, a7, a8, a9, a10, a11)).bind fun o1 => ((Ui k) (o1.1, o1.2.1, o1.2.2.1, o1.2.2.2.1, o1.2.2.2.2.1, o1.2.2.2.2.2.1, o1.2.2.2.2.2.2)).bind fun o2 => bif (!o2.1) then (some (o2.1, o2.2.1, o2.2.2.1, o2.2.2.2.1, a1, a2, a3, a4, a5, o2.2.2.2.2.1, o2.2.2.2.2.2.1, o2.2.2.2.2.2.2.1, o2.2.2.2.2.2.2.2.1, o2.2.2.2.2.2.2.2.2.1, o2.2.2.2.2.2.2.2.2.2)) else (((Bj k) (a1, o2.2.2.2.1)).bind fun o3 => bif (!o3.1) then (some (o3.1, o3.2.1, o3.2.2.1, o3.2.2.2.2, o3.2.2.2.1, a2, a3, a4, a5, o2.2.2.2.2.1, o2.2.2.2.2.2.1, o2.2.2.2.2.2.2.1, o2.2.2.2.2.2.2.2.1, o2.2.2.2.2.2.2.2.2.1, o2.2.2.2.2.2.2.2.2.2)) else (((Uj k) (o3.2.2.2.2, o2.2.2.2.2.1, o2.2.2.2.2.2.1, o2.2.2.2.2.2.2.1, o2.2.2.2.2.2.2.2.1, o2.2.2.2.2.2.2.2.2.1, o2.2.2.2.2.2.2.2.2.2)).bind fun o4 => bif (!o4.1) then (some (o4.1, o4.2.1, o4.2.2.1, o4.2.2.2.1, o3.2.2.2.1, a2, a3, a4, a5, o4.2.2.2.2.1, o4.2.2.2.2.2.1, o4.2.2.2.2.2.2.1, o4.2.2.2.2.2.2.2.1, o4.2.2.2.2.2.2.2.2.1, o4.2.2.2.2.2.2.2.2.2)) else (((Bj k) (a2, o4.2.2.2.1)).bind fun o5 => bif (!o5.1) then (some (o5.1, o5.2.1, o5.2.2.1, o5.2.2.2.2, o3.2.2.2.1, o5.2.2.2.1, a3, a4, a5, o4.2.2.2.2.1, o4.2.2.2.2.2.1, o4.2.2.2.2.2.2.1, o4.2.2.2.2.2.2.2.1, o4.2.2.2.2.2.2.2.2.1, o4.2.2.2.2.2.2.2.2.2)) else (((Uy k) (o5.2.2.2.2, o4.2.2.2.2.1, o4.2.2.2.2.2.1, o4.2.2.2.2.2.2.1, o4.2.2.2.2.2.2.2.1, o4.2.2.2.2.2.2.2.2.1, o4.2.2.2.2.2.2.2.2.2)).bind fun o6 => bif (!o6.1) then (some (o6.1, o6.2.1, o6.2.2.1, o6.2.2.2.1, o3.2.2.2.1, o5.2.2.2.1, a3, a4, a5, o6.2.2.2.2.1, o6.2.2.2.2.2.1, o6.2.2.2.2.2.2.1, o6.2.2.2.2.2.2.2.1, o6.2.2.2.2.2.2.2.2.1, o6.2.2.2.2.2.2.2.2.2)) else (((Bj k) (a3, o6.2.2.2.1)).bind fun o7 => bif (!o7.1) then (some (o7.1, o7.2.1, o7.2.2.1, o7.2.2.2.2, o3.2.2.2.1, o5.2.2.2.1, o7.2.2.2.1, a4, a5, o6.2.2.2.2.1, o6.2.2.2.2.2.1, o6.2.2.2.2.2.2.1, o6.2.2.2.2.2.2.2.1, o6.2.2.2.2.2.2.2.2.1, o6.2.2.2.2.2.2.2.2.2)) else (((Uz k) (o7.2.2.2.2, o6.2.2.2.2.1, o6.2.2.2.2.2.1, o6.2.2.2.2.2.2.1, o6.2.2.2.2.2.2.2.1, o6.2.2.2.2.2.2.2.2.1, o6.2.2.2.2.2.2.2.2.2)).bind fun o8 => bif (!o8.1) then (some (o8.1, o8.2.1, o8.2.2.1, o8.2.2.2.1, o3.2.2.2.1, o5.2.2.2.1, o7.2.2.2.1, a4, a5, o8.2.2.2.2.1, o8.2.2.2.2.2.1, o8.2.2.2.2.2.2.1, o8.2.2.2.2.2.2.2.1, o8.2.2.2.2.2.2.2.2.1, o8.2.2.2.2.2.2.2.2.2)) else (((Bj k) (a4, o8.2.2.2.1)).bind fun o9 => bif (!o9.1) then (some (o9.1, o9.2.1, o9.2.2.1, o9.2.2.2.2, o3.2.2.2.1, o5.2.2.2.1, o7.2.2.2.1, o9.2.2.2.1, a5, o8.2.2.2.2.1, o8.2.2.2.2.2.1, o8.2.2.2.2.2.2.1, o8.2.2.2.2.2.2.2.1, o8.2.2.2.2.2.2.2.2.1, o8.2.2.2.2.2.2.2.2.2)) else (((U0 k) (o9.2.2.2.2, o8.2.2.2.2.1, o8.2.2.2.2.2.1, o8.2.2.2.2.2.2.1, o8.2.2.2.2.2.2.2.1, o8.2.2.2.2.2.2.2.2.1, o8.2.2.2.2.2.2.2.2.2)).bind fun o10 => bif (!o10.1) then (some (o10.1, o10.2.1, o10.2.2.1, o10.2.2.2.1, o3.2.2.2.1, o5.2.2.2.1, o7.2.2.2.1, o9.2.2.2.1, a5, o10.2.2.2.2.1, o10.2.2.2.2.2.1, o10.2.2.2.2.2.2.1, o10.2.2.2.2.2.2.2.1, o10.2.2.2.2.2.2.2.2.1, o10.2.2.2.2.2.2.2.2.2)) else (((Bj k) (a5, o10.2.2.2.1)).bind fun o11 => bif (!o11.1) then (some (o11.1, o11.2.1, o11.2.2.1, o11.2.2.2.2, o3.2.2.2.1, o5.2.2.2.1, o7.2.2.2.1, o9.2.2.2.1, o11.2.2.2.1, o10.2.2.2.2.1, o10.2.2.2.2.2.1, o10.2.2.2.2.2.2.1, o10.2.2.2.2.2.2.2.1, o10.2.2.2.2.2.2.2.2.1, o10.2.2.2.2.2.2.2.2.2)) else (some (true, (0 : Int), (0 : Int), o11.2.2.2.2, o3.2.2.2.1, o5.2.2.2.1, o7.2.2.2.1, o9.2.2.2.1, o11.2.2.2.1, o10.2.2.2.2.1, o10.2.2.2.2.2.1, o10.2.2.2.2.2.2.1, o10.2.2.2.2.2.2.2.1, o10.2.2.2.2.2.2.2.2.1, o10.2.2.2.2.2.2.2.2.2)))))))))))
theorem B1o (k : Nat) (x : H121) : Aa0 k x = Awp k x := (Af _ _).trans (by kernel_rfl)
theorem Brn (k : Nat) : Aa Tryz.prog 92 (Bj5 k) := Ae (Awo k) (k + 32) rfl ⟨⟨Bt8 k, trivial⟩, ⟨Bsf k, Bsg k, trivial⟩, ⟨Fv k, trivial⟩, ⟨Btj k, Btk k, Btl k, trivial⟩, trivial⟩ Ad Tryz.func92 (by kernel_rfl)
abbrev H123 : Type := (List Int) × (List Int) × (Int) × (Int) × (Int) × (Int) × (Bool) × (Int) × (Int) × (List (YT8))
def fpwalki : Sk := ⟨[.lf (.ptr 0 0)], [[.pv (.slice yt8)]], []⟩
def fpwalko : Sk := ⟨[.agg [.pv .str, .pv .str, .pv (.int .i64), .pv (.int .i64), .pv (.int .i64), .pv (.int .i64)], .lf (.erp 88 [(.int .i64), (.int .i64)])], fpwalki.boxes, []⟩
def fpwalkE (k : Nat) : EnvL := [(149, [Bl7 k]), (150, [Bkg k, Bkh k]), (93, [Fl k]), (94, [Bk6 k, Bk7 k, Bk8 k]), (92, [Bj5 k])]
def A6k (k : Nat) : Cfg := { mkC (fpwalkE k) 107 1 0 with bl := [54, 56] }
def cpwalk (k : Nat) : (List (YT8)) → Option H123 := hid (Ac (A6k k) k Tryz.f154 fpwalki fpwalko)
def sgpwalk (k : Nat) : Sig := Ab fpwalki fpwalko (cpwalk k)
noncomputable def A6l (k : Nat) : (List (YT8)) → Option H123
 | a0 => ((Ab1 k) (a0, ([] : List Int), ([] : List Int), (0 : Int), (0 : Int), (0 : Int), (0 : Int))).bind fun o1 => ((Aa8 k) (o1.1, o1.2.1, o1.2.2.1, o1.2.2.2.1, o1.2.2.2.2.1, o1.2.2.2.2.2.1, o1.2.2.2.2.2.2)).bind fun o2 => ((Bp k) (([119, 105, 116, 104] : List Int), o2.1)).bind fun o3 => ((Aa9 k) (o3.1, o2.2.1, o2.2.2.1, o2.2.2.2.1, o2.2.2.2.2.1, o2.2.2.2.2.2.1, o2.2.2.2.2.2.2)).bind fun o4 => ((Bp k) (([108, 111, 110, 103] : List Int), o4.1)).bind fun o5 => ((Abl k) (o5.1, o4.2.1, o4.2.2.1, o4.2.2.2.1, o4.2.2.2.2.1, o4.2.2.2.2.2.1, o4.2.2.2.2.2.2)).bind fun o6 => ((Bp k) (([112, 97, 99, 101] : List Int), o6.1)).bind fun o7 => ((Abm k) (o7.1, o6.2.1, o6.2.2.1, o6.2.2.2.1, o6.2.2.2.2.1, o6.2.2.2.2.2.1, o6.2.2.2.2.2.2)).bind fun o8 => ((Bp k) (([108, 101, 97, 115, 116] : List Int), o8.1)).bind fun o9 => ((Abn k) (o9.1, o8.2.1, o8.2.2.1, o8.2.2.2.1, o8.2.2.2.2.1, o8.2.2.2.2.2.1, o8.2.2.2.2.2.2)).bind fun o10 => ((Bp k) (([59] : List Int), o10.1)).bind fun o11 => ((Aa0 k) (o11.1, o3.2, o5.2, o7.2, o9.2, o11.2, o10.2.1, o10.2.2.1, o10.2.2.2.1, o10.2.2.2.2.1, o10.2.2.2.2.2.1, o10.2.2.2.2.2.2)).bind fun o12 => some (o12.2.2.2.2.2.2.2.2.2.1, o12.2.2.2.2.2.2.2.2.2.2.1, o12.2.2.2.2.2.2.2.2.2.2.2.1, o12.2.2.2.2.2.2.2.2.2.2.2.2.1, o12.2.2.2.2.2.2.2.2.2.2.2.2.2.1, o12.2.2.2.2.2.2.2.2.2.2.2.2.2.2, o12.1, o12.2.1, o12.2.2.1, o12.2.2.2.1)
theorem B5v (k : Nat) (x : (List (YT8))) : cpwalk k x = A6l k x := (Af _ _).trans (by kernel_rfl)
theorem Buj (k : Nat) : Aa Tryz.prog 154 (sgpwalk k) := Ae (A6k k) k rfl ⟨⟨Bt3 k, trivial⟩, ⟨Br6 k, Br7 k, trivial⟩, ⟨Fu k, trivial⟩, ⟨Bsz k, Bs0 k, Bs1 k, trivial⟩, ⟨Brn k, trivial⟩, trivial⟩ Ad Tryz.func154 (by kernel_rfl)
abbrev H124 : Type := (List Int) × (Int) × (List (YT8)) × (List Int) × (Int) × (List (YT1)) × (List (YT2))
abbrev H125 : Type := (Bool) × (Int) × (Int) × (List Int) × (Int) × (List (YT8)) × (List Int) × (Int) × (List (YT1)) × (List (YT2))
def Afv : Sk := ⟨[.lf (.ptr 0 0), .lf (.ptr 1 0), .lf (.ptr 2 0), .lf (.ptr 3 0), .lf (.ptr 4 0)], [[.ptr 5 0], [.pv .str], [.ptr 6 2], [.pv (.int .i64)], [.fn 154 [(5, 0)] []], [.pv (.slice yt8)], q13], [some (95, yt1)]⟩
def Afw : Sk := ⟨[.lf (.erp 88 [(.int .i64), (.int .i64)])], [[.ptr 5 0], [.pv .str], [.ptr 6 2], [.pv (.int .i64)], [.fn 154 [(5, 0)] []], [.pv (.slice yt8)], q16], [some (95, yt1), some (97, yt2)]⟩
def Au9 : Sk := ⟨sparse 37 [(0, .lf (.ptr 0 0)), (1, .lf (.ptr 1 0)), (2, .lf (.ptr 2 0)), (3, .lf (.ptr 3 0)), (4, .lf (.ptr 4 0))], [[.ptr 5 0], [.pv .str], [.ptr 6 2], [.pv (.int .i64)], [.fn 154 [(5, 0)] []], [.pv (.slice yt8)], q16], [some (95, yt1), some (97, yt2)]⟩
abbrev Afs := H124
def Rj : Afs → St := stOf Au9 85
def B0r (k : Nat) : EnvL := [(143, [Ep k]), (144, [A9 k]), (145, [Ba k]), (154, [sgpwalk k])]
def Hh (k : Nat) : FnX H125 := mkX ({ mkC (B0r k) 85 7 1 with hint := fun i => look none [(1, some Au9)] i, bl := [54, 56], ld := [(29, 2), (30, 2), (31, 9999), (32, 6), (33, 54), (36, 9999)], sr := [(36, 6)] }) k Tryz.f195 Afw
def T6 (k : Nat) : H117 → Option H125 := hid (Ac (Hh k).C k Tryz.f195 Afv Afw)
def Bjp (k : Nat) : Sig := Ab Afv Afw (T6 k)
noncomputable def Afu (k : Nat) (J : JF H125) (L : LF H125) : H117 → Option H125
 | (a0, a1, a2, a3, a4, a5) => L 1 [] k (Rj (a0, a1, a2, a3, a4, a5, []))
theorem B0s (k : Nat) (x : H117) : T6 k x = Afu k (Hh k).J (Hh k).L x := by
 refine (Af _ _).trans ?_; apply cutX (Hh k) [] [] (st0 (Hh k).C Tryz.f195 Afv x) [] [(1, [], k)] (Afu k · · x) <;> intros <;> kernel_rfl
noncomputable def Rk (k j1 : Nat) (J : JF H125) (L : LF H125) : Afs → Option H125
 | (a0, a1, a2, a3, a4, a5, a6) => ((Dh k) (a0, a2)).bind fun o1 => bif o1.1 then (bif (((List.length a6 : Nat) : Int) == a1) then (((A7 k) ((4 : Int), o1.2)).bind fun o2 => some (o2.1, o2.2.1, o2.2.2.1, a0, a1, o2.2.2.2, a3, a4, a5, a6)) else (((A4 k) (o1.2)).bind fun o3 => ((cpwalk k) (o3.2.2.2.2)).bind fun o4 => bif (!o4.2.2.2.2.2.2.1) then (some (o4.2.2.2.2.2.2.1, o4.2.2.2.2.2.2.2.1, o4.2.2.2.2.2.2.2.2.1, a0, a1, o4.2.2.2.2.2.2.2.2.2, a3, a4, a5, a6)) else (app 64 a6 ([(o4.1, (o4.2.1, (o4.2.2.1, (o4.2.2.2.1, (o4.2.2.2.2.1, (o4.2.2.2.2.2.1, ()))))))] : List (YT2)) fun o5 => L 1 [] j1 (Rj (a0, a1, o4.2.2.2.2.2.2.2.2.2, a3, a4, a5, o5))))) else (some (true, (0 : Int), (0 : Int), a0, a1, o1.2, a3, a4, a5, a6))
theorem Aft (k j1 : Nat) (x : Afs) : (Hh k).L 1 [] (j1 + 1) (Rj x) = Rk k j1 (Hh k).J (Hh k).L x := by
 apply cutX (Hh k) [.r, .l, .b, .b] [j1] (Rj x) [] [(1, [], j1)] (Rk k j1 · · x) <;> intros <;> kernel_rfl
theorem Bq2 (k : Nat) : Aa Tryz.prog 195 (Bjp k) := Ae (Hh k).C k rfl ⟨⟨Et k, trivial⟩, ⟨Bb k, trivial⟩, ⟨Bc k, trivial⟩, ⟨Buj k, trivial⟩, trivial⟩ Ad Tryz.func195 (by kernel_rfl)
def A5c : Sk := ⟨[.lf (.ptr 0 0), .lf (.ptr 1 2)], [[.pv (.slice yt8)], [.pv .str, .nil .sl, .pv (.int .i64)]], []⟩
def A5d : Sk := ⟨[.lf (.fn 191 [] [(2, 0), (3, 0)])], [[.pv (.slice yt8)], [.pv .str, .nil .sl, .pv (.int .i64)], [.ptr 0 0], [.ptr 1 2]], []⟩
def A5a (k : Nat) : Cfg := { mkC [] 54 2 0 with bl := [54, 56] }
def Ab2 (k : Nat) : H104 → Option H104 := hid (Ac (A5a k) k Tryz.f149 A5c A5d)
def Bl8 (k : Nat) : Sig := Ab A5c A5d (Ab2 k)
noncomputable def A5b (k : Nat) : H104 → Option H104
 | (a0, a1, a2) => some (a0, a1, a2)
theorem B5e (k : Nat) (x : H104) : Ab2 k x = A5b k x := (Af _ _).trans (by kernel_rfl)
theorem Bt4 (k : Nat) : Aa Tryz.prog 149 (Bl8 k) := Ae (A5a k) (l := []) k rfl trivial Ad Tryz.func149 (by kernel_rfl)
def Ayy : Sk := ⟨[.lf (.ptr 0 0), .lf (.ptr 1 0)], [[.pv (.slice yt8)], [.pv .str, .nil .sl, .pv (.int .i64)]], []⟩
def Ayz : Sk := ⟨[.lf (.fn 192 [] [(2, 0), (3, 0)])], [[.pv (.slice yt8)], [.pv .str, .nil .sl, .pv (.int .i64)], [.ptr 0 0], [.ptr 1 0]], []⟩
def Ayw (k : Nat) : Cfg := { mkC [] 54 2 0 with bl := [54, 56] }
def Aba (k : Nat) : H104 → Option H104 := hid (Ac (Ayw k) k Tryz.f150 Ayy Ayz)
def Bki (k : Nat) : Sig := Ab Ayy Ayz (Aba k)
noncomputable def Ayx (k : Nat) : H104 → Option H104
 | (a0, a1, a2) => some (a0, a1, a2)
theorem B2i (k : Nat) (x : H104) : Aba k x = Ayx k x := (Af _ _).trans (by kernel_rfl)
theorem Br8 (k : Nat) : Aa Tryz.prog 150 (Bki k) := Ae (Ayw k) (l := []) k rfl trivial Ad Tryz.func150 (by kernel_rfl)
abbrev H126 : Type := (Int) × (List (YT8)) × (List Int) × (Int)
abbrev H127 : Type := (List (YT8)) × (List Int) × (Int) × (Int)
def fpnamesi : Sk := ⟨[.lf (.ptr 0 0), .lf (.ptr 1 1), .lf (.pv (.int .i64))], [[.pv (.slice yt8)], [.pv .str, .nil .sl, .pv (.int .i64)]], []⟩
def fpnameso : Sk := ⟨[.lf (.fn 211 [] [(2, 0), (3, 0), (4, 0)])], [[.pv (.slice yt8)], [.pv .str, .nil .sl, .pv (.int .i64)], [.ptr 1 1], [.pv (.int .i64)], [.ptr 0 0]], []⟩
def A0u (k : Nat) : Cfg := { mkC [] 56 2 0 with bl := [54, 56] }
def cpnames (k : Nat) : H126 → Option H127 := hid (Ac (A0u k) k Tryz.f197 fpnamesi fpnameso)
def sgpnames (k : Nat) : Sig := Ab fpnamesi fpnameso (cpnames k)
noncomputable def A0v (k : Nat) : H126 → Option H127
 | (a0, a1, a2, a3) => some (a1, a2, a3, a0)
theorem B3j (k : Nat) (x : H126) : cpnames k x = A0v k x := (Af _ _).trans (by kernel_rfl)
theorem Bss (k : Nat) : Aa Tryz.prog 197 (sgpnames k) := Ae (A0u k) (l := []) k rfl trivial Ad Tryz.func197 (by kernel_rfl)
end
noncomputable section
def Ah2 : Sk := ⟨[.lf (.ptr 0 0), .lf (.ptr 1 0)], [[.ptr 2 0], [.ptr 3 2], [.pv (.slice yt8)], [.pv .str, .nil .sl, .pv (.int .i64)]], []⟩
def A5u : Sk := ⟨[.lf (.nil .ifc)], Ah2.boxes, []⟩
def A5s (k : Nat) : Cfg := { mkC [] 60 4 0 with ld := [(3, 1), (4, 0), (5, 9999), (6, 9999), (7, 2), (9, 9999), (10, 9999), (11, 9999)], sr := [(11, 3)] }
def Vh (k : Nat) : H104 → Option H104 := hid (Ac (A5s k) k Tryz.f191 Ah2 A5u)
def Bme (k : Nat) : Sig := Ab Ah2 A5u (Vh k)
noncomputable def A5t (k : Nat) : H104 → Option H104
 | (a0, a1, a2) => idx zt8 a0 (0 : Int) fun o1 => some (a0, a1, o1.2.2.2.1)
theorem B5j (k : Nat) (x : H104) : Vh k x = A5t k x := (Af _ _).trans (by kernel_rfl)
theorem Bt9 (k : Nat) : Aa Tryz.prog 191 (Bme k) := Ae (A5s k) (l := []) k rfl trivial Ad Tryz.func191 (by kernel_rfl)
def Agy : Sk := ⟨[.lf (.ptr 0 0), .lf (.ptr 1 0)], [[.ptr 2 0], [.ptr 3 0], [.pv (.slice yt8)], [.pv .str, .nil .sl, .pv (.int .i64)]], []⟩
def Azx : Sk := ⟨[.lf (.erp 88 [(.int .i64), (.int .i64)])], Agy.boxes, []⟩
def B2v (k : Nat) : EnvL := [(193, [sgpnamed k]), (144, [A9 k]), (145, [Ba k])]
def Azv (k : Nat) : Cfg := { mkC (B2v k) 61 4 0 with ef := [(10, (([2], []), ([], [])))], ld := [(8, 1), (9, 0), (12, 9999)], sr := [(12, 3)] }
def Uk (k : Nat) : H104 → Option H107 := hid (Ac (Azv k) k Tryz.f192 Agy Azx)
def Bks (k : Nat) : Sig := Ab Agy Azx (Uk k)
noncomputable def Azw (k : Nat) : H104 → Option H107
 | (a0, a1, a2) => ((cpnamed k) (a0)).bind fun o1 => bif (!o1.1) then (((A7 k) ((50 : Int), o1.2)).bind fun o2 => some (o2.1, o2.2.1, o2.2.2.1, o2.2.2.2, a1, a2)) else (((A4 k) (o1.2)).bind fun o3 => some (true, (0 : Int), (0 : Int), o3.2.2.2.2, o3.2.1, a2))
theorem B2w (k : Nat) (x : H104) : Uk k x = Azw k x := (Af _ _).trans (by kernel_rfl)
theorem Bsh (k : Nat) : Aa Tryz.prog 192 (Bks k) := Ae (Azv k) k rfl ⟨⟨Gp k, trivial⟩, ⟨Bb k, trivial⟩, ⟨Bc k, trivial⟩, trivial⟩ Ad Tryz.func192 (by kernel_rfl)
def A0k : Sk := ⟨[.lf (.rpt [(.slice yt8)])], [], []⟩
def A0l : Sk := ⟨[.lf (.pv .bool)], [], []⟩
def B3a (k : Nat) : EnvL := [(119, [Y0 k])]
def A0i (k : Nat) : Cfg := mkC (B3a k) 70 0 0
def Pt (k : Nat) : (List (YT8)) → Option Bool := hid (Ac (A0i k) k Tryz.f193 A0k A0l)
def Aod (k : Nat) : Sig := Ab A0k A0l (Pt k)
noncomputable def A0j (k : Nat) : (List (YT8)) → Option Bool
 | a0 => idx zt8 a0 (0 : Int) fun o1 => bif (o1.1 == (1 : Int)) then (idx zt8 a0 (0 : Int) fun o2 => ((Mp k) (o2.2.1)).bind fun o3 => some (!o3)) else (some false)
theorem B3b (k : Nat) (x : (List (YT8))) : Pt k x = A0j k x := (Af _ _).trans (by kernel_rfl)
theorem Aqm (k : Nat) : Aa Tryz.prog 193 (Aod k) := Ae (A0i k) k rfl ⟨⟨Aag k, trivial⟩, trivial⟩ Ad Tryz.func193 (by kernel_rfl)
def Ay1 : Sk := ⟨[.lf (.ptr 0 0), .lf (.ptr 1 0)], [[.pv (.slice yt8)], [.pv .str]], []⟩
def Ay2 : Sk := ⟨[.lf (.fn 192 [] [(2, 0), (3, 0)])], [[.pv (.slice yt8)], [.pv .str], [.ptr 0 0], [.ptr 1 0]], []⟩
def Ay0 (k : Nat) : Cfg := { mkC [] 54 2 0 with bl := [54, 56] }
def Mv (k : Nat) : H101 → Option H101 := hid (Ac (Ay0 k) k Tryz.f150 Ay1 Ay2)
def Aoc (k : Nat) : Sig := Ab Ay1 Ay2 (Mv k)
noncomputable def Lp (k : Nat) : H101 → Option H101
 | (a0, a1) => some (a0, a1)
theorem M7 (k : Nat) (x : H101) : Mv k x = Lp k x := (Af _ _).trans (by kernel_rfl)
theorem Aql (k : Nat) : Aa Tryz.prog 150 (Aoc k) := Ae (Ay0 k) (l := []) k rfl trivial Ad Tryz.func150 (by kernel_rfl)
abbrev H128 : Type := (Bool) × (Int) × (Int) × (List (YT8)) × (List Int)
def Agz : Sk := ⟨[.lf (.ptr 0 0), .lf (.ptr 1 0)], [[.ptr 2 0], [.ptr 3 0], [.pv (.slice yt8)], [.pv .str]], []⟩
def Az0 : Sk := ⟨[.lf (.erp 88 [(.int .i64), (.int .i64)])], Agz.boxes, []⟩
def B2x (k : Nat) : EnvL := [(193, [sgpnamed k]), (144, [A9 k]), (145, [Ba k])]
def Azy (k : Nat) : Cfg := { mkC (B2x k) 61 4 0 with ef := [(10, (([2], []), ([], [])))], ld := [(8, 1), (9, 0), (12, 9999)], sr := [(12, 3)] }
def Ul (k : Nat) : H101 → Option H128 := hid (Ac (Azy k) k Tryz.f192 Agz Az0)
def Bkt (k : Nat) : Sig := Ab Agz Az0 (Ul k)
noncomputable def Azz (k : Nat) : H101 → Option H128
 | (a0, a1) => ((cpnamed k) (a0)).bind fun o1 => bif (!o1.1) then (((A7 k) ((50 : Int), o1.2)).bind fun o2 => some (o2.1, o2.2.1, o2.2.2.1, o2.2.2.2, a1)) else (((A4 k) (o1.2)).bind fun o3 => some (true, (0 : Int), (0 : Int), o3.2.2.2.2, o3.2.1))
theorem B2y (k : Nat) (x : H101) : Ul k x = Azz k x := (Af _ _).trans (by kernel_rfl)
theorem Bsi (k : Nat) : Aa Tryz.prog 192 (Bkt k) := Ae (Azy k) k rfl ⟨⟨Gp k, trivial⟩, ⟨Bb k, trivial⟩, ⟨Bc k, trivial⟩, trivial⟩ Ad Tryz.func192 (by kernel_rfl)
def Agl : Sk := ⟨[.lf (.ptr 0 0), .lf (.sb 1 1)], [[.pv (.slice yt8)], [.fn 192 [] [(2, 0), (3, 0)]], [.ptr 0 0], [.ptr 4 0], [.pv .str]], []⟩
def Aww : Sk := ⟨[.lf (.erp 88 [(.int .i64), (.int .i64)])], Agl.boxes, []⟩
def B1r (k : Nat) : EnvL := [(192, [Bkt k])]
def Awv (k : Nat) : Cfg := mkC (B1r k) 68 5 0
def Mt (k : Nat) : H101 → Option H128 := hid (Ac (Awv k) (k + 32) Tryz.f92 Agl Aww)
def An9 (k : Nat) : Sig := Ab Agl Aww (Mt k)
noncomputable def Lo (k : Nat) : H101 → Option H128
 | (a0, a1) => ((Ul k) (a0, a1)).bind fun o1 => bif (!o1.1) then (some (o1.1, o1.2.1, o1.2.2.1, o1.2.2.2.1, o1.2.2.2.2)) else (some (true, (0 : Int), (0 : Int), o1.2.2.2.1, o1.2.2.2.2))
theorem M6 (k : Nat) (x : H101) : Mt k x = Lo k x := (Af _ _).trans (by kernel_rfl)
theorem Aqi (k : Nat) : Aa Tryz.prog 92 (An9 k) := Ae (Awv k) (k + 32) rfl ⟨⟨Bsi k, trivial⟩, trivial⟩ Ad Tryz.func92 (by kernel_rfl)
def Agn : Sk := ⟨[.lf (.ptr 0 0), .lf (.sb 1 1)], [[.pv (.slice yt8)], [.fn 142 [] [(2, 0), (3, 0)]], [.ptr 0 0], [.pv .str]], []⟩
def Awz : Sk := ⟨[.lf (.erp 88 [(.int .i64), (.int .i64)])], Agn.boxes, []⟩
def B1s (k : Nat) : EnvL := [(142, [Fm k])]
def Awx (k : Nat) : Cfg := mkC (B1s k) 68 4 0
def Mu (k : Nat) : H101 → Option H128 := hid (Ac (Awx k) (k + 32) Tryz.f92 Agn Awz)
def Aoa (k : Nat) : Sig := Ab Agn Awz (Mu k)
noncomputable def Agm (k : Nat) : H101 → Option H128
 | (a0, a1) => ((Bj k) (a1, a0)).bind fun o1 => bif (!o1.1) then (some (o1.1, o1.2.1, o1.2.2.1, o1.2.2.2.2, o1.2.2.2.1)) else (some (true, (0 : Int), (0 : Int), o1.2.2.2.2, o1.2.2.2.1))
theorem Awy (k : Nat) (x : H101) : Mu k x = Agm k x := (Af _ _).trans (by kernel_rfl)
theorem Aqj (k : Nat) : Aa Tryz.prog 92 (Aoa k) := Ae (Awx k) (k + 32) rfl ⟨⟨Fv k, trivial⟩, trivial⟩ Ad Tryz.func92 (by kernel_rfl)
abbrev H129 : Type := (Int) × (List Int) × (Int) × (List (YT8)) × (List (List Int))
abbrev H130 : Type := (Int) × (List Int) × (Int) × (List (YT8))
abbrev H131 : Type := (Bool) × (Int) × (Int) × (Int) × (List Int) × (Int) × (List (YT8)) × (List (List Int))
def Ahb : Sk := ⟨[.lf (.ptr 0 0), .lf (.ptr 1 0), .lf (.ptr 2 0)], [[.ptr 3 1], [.pv (.int .i64)], [.ptr 4 0], [.pv .str, .nil .sl, .pv (.int .i64)], [.pv (.slice yt8)]], []⟩
def Ahc : Sk := ⟨[.lf (.erp 88 [(.int .i64), (.int .i64)])], [[.ptr 3 1], [.pv (.int .i64)], [.ptr 4 0], [.pv .str, .own 0, .pv (.int .i64)], [.pv (.slice yt8)]], [some (9, .str)]⟩
def A0t : Sk := ⟨sparse 44 [(0, .lf (.ptr 0 0)), (1, .lf (.ptr 1 0)), (2, .lf (.ptr 2 0))], [[.ptr 3 1], [.pv (.int .i64)], [.ptr 4 0], [.pv .str, .own 0, .pv (.int .i64)], [.pv (.slice yt8)]], [some (9, .str)]⟩
abbrev Ag9 := H129
def Na : Ag9 → St := stOf A0t 136
def B3h (k : Nat) : EnvL := [(193, [Aod k]), (144, [A9 k]), (150, [Aoc k]), (92, [An9 k, Aoa k]), (143, [Ep k]), (93, [Fl k]), (145, [Ba k])]
def Hl (k : Nat) : FnX H131 := mkX ({ mkC (B3h k) 136 5 0 with hint := fun i => look none [(1, some A0t)] i, bl := [54, 56], ef := [(20, (([4, 52], []), ([68, 112], []))), (22, (([4, 52, 68, 69, 112], []), ([], []))), (39, (([4], []), ([87, 131], []))), (41, (([4, 87, 88, 131], []), ([], [])))], ld := [(18, 2), (19, 2), (26, 0), (27, 0), (28, 9999), (29, 3), (30, 52), (33, 9999), (37, 2), (38, 2)], sr := [(33, 3)], rb := [21, 40] }) k Tryz.f211 Ahc
def Uq (k : Nat) : H130 → Option H131 := hid (Ac (Hl k).C k Tryz.f211 Ahb Ahc)
def Bkz (k : Nat) : Sig := Ab Ahb Ahc (Uq k)
noncomputable def Aha (k : Nat) (J : JF H131) (L : LF H131) : H130 → Option H131
 | (a0, a1, a2, a3) => L 1 [] k (Na (a0, a1, a2, a3, []))
theorem B3i (k : Nat) (x : H130) : Uq k x = Aha k (Hl k).J (Hl k).L x := by
 refine (Af _ _).trans ?_; apply cutX (Hl k) [] [] (st0 (Hl k).C Tryz.f211 Ahb x) [] [(1, [], k)] (Aha k · · x) <;> intros <;> kernel_rfl
noncomputable def Nb (k j1 : Nat) (J : JF H131) (L : LF H131) : Ag9 → Option H131
 | (a0, a1, a2, a3, a4) => bif (((List.length a4 : Nat) : Int) == a0) then (((Pt k) (a3)).bind fun o1 => bif o1 then (((A7 k) ((4 : Int), a3)).bind fun o2 => some (o2.1, o2.2.1, o2.2.2.1, a0, a1, a2, o2.2.2.2, a4)) else (((Mv k) (a3, ([] : List Int))).bind fun o3 => ((Mt k) (o3.1, o3.2)).bind fun o4 => bif (!o4.1) then (some (o4.1, o4.2.1, o4.2.2.1, a0, a1, a2, o4.2.2.2.1, a4)) else (app 16 a4 ([o4.2.2.2.2] : List (List Int)) fun o5 => ((Dh k) (([44] : List Int), o4.2.2.2.1)).bind fun o6 => bif (!o6.1) then (((Bp k) (([59] : List Int), o6.2)).bind fun o7 => ((Mu k) (o7.1, o7.2)).bind fun o8 => some (o8.1, o8.2.1, o8.2.2.1, a0, a1, a2, o8.2.2.2.1, o5)) else (((A4 k) (o6.2)).bind fun o9 => L 1 [] j1 (Na (a0, a1, a2, o9.2.2.2.2, o5)))))) else (((Mv k) (a3, ([] : List Int))).bind fun o10 => ((Mt k) (o10.1, o10.2)).bind fun o11 => bif (!o11.1) then (some (o11.1, o11.2.1, o11.2.2.1, a0, a1, a2, o11.2.2.2.1, a4)) else (app 16 a4 ([o11.2.2.2.2] : List (List Int)) fun o12 => ((Dh k) (([44] : List Int), o11.2.2.2.1)).bind fun o13 => bif (!o13.1) then (((Bp k) (([59] : List Int), o13.2)).bind fun o14 => ((Mu k) (o14.1, o14.2)).bind fun o15 => some (o15.1, o15.2.1, o15.2.2.1, a0, a1, a2, o15.2.2.2.1, o12)) else (((A4 k) (o13.2)).bind fun o16 => L 1 [] j1 (Na (a0, a1, a2, o16.2.2.2.2, o12)))))
theorem Wz (k j1 : Nat) (x : Ag9) : (Hl k).L 1 [] (j1 + 1) (Na x) = Nb k j1 (Hl k).J (Hl k).L x := by
 apply cutX (Hl k) [.r, .b, .b] [j1] (Na x) [] [(1, [], j1)] (Nb k j1 · · x) <;> intros <;> kernel_rfl
theorem Bsr (k : Nat) : Aa Tryz.prog 211 (Bkz k) := Ae (Hl k).C k rfl ⟨⟨Aqm k, trivial⟩, ⟨Bb k, trivial⟩, ⟨Aql k, trivial⟩, ⟨Aqi k, Aqj k, trivial⟩, ⟨Et k, trivial⟩, ⟨Fu k, trivial⟩, ⟨Bc k, trivial⟩, trivial⟩ Ad Tryz.func211 (by kernel_rfl)
abbrev H132 : Type := (Bool) × (Int) × (Int) × (List (YT8)) × (List Int) × (Int) × (List Int) × (Int) × (List (List Int))
def Awt : Sk := ⟨[.lf (.ptr 0 0), .lf (.sb 1 4)], [[.pv (.slice yt8)], q17, [.ptr 0 0], [.ptr 11 2], [.ptr 0 0], [.ptr 11 0], [.ptr 0 0], [.pv .str], [.ptr 11 1], [.pv (.int .i64)], [.ptr 0 0], [.pv .str, .nil .sl, .pv (.int .i64)]], []⟩
def Awu : Sk := ⟨[.lf (.erp 88 [(.int .i64), (.int .i64)])], [[.pv (.slice yt8)], q17, [.ptr 0 0], [.ptr 11 2], [.ptr 0 0], [.ptr 11 0], [.ptr 0 0], [.pv .str], [.ptr 11 1], [.pv (.int .i64)], [.ptr 0 0], [.pv .str, .own 0, .pv (.int .i64)]], [some (9, .str)]⟩
def B1p (k : Nat) : EnvL := [(191, [Bme k]), (192, [Bks k]), (142, [Fm k]), (211, [Bkz k])]
def Awr (k : Nat) : Cfg := mkC (B1p k) 69 12 0
def Aa1 (k : Nat) : H106 → Option H132 := hid (Ac (Awr k) (k + 32) Tryz.f92 Awt Awu)
def Bj6 (k : Nat) : Sig := Ab Awt Awu (Aa1 k)
noncomputable def Aws (k : Nat) : H106 → Option H132
 | (a0, a1, a2, a3, a4) => ((Vh k) (a0, a3, a4)).bind fun o1 => ((Uk k) (o1.1, o1.2.1, o1.2.2)).bind fun o2 => bif (!o2.1) then (some (o2.1, o2.2.1, o2.2.2.1, o2.2.2.2.1, a1, a2, o2.2.2.2.2.1, o2.2.2.2.2.2, [])) else (((Bj k) (a1, o2.2.2.2.1)).bind fun o3 => bif (!o3.1) then (some (o3.1, o3.2.1, o3.2.2.1, o3.2.2.2.2, o3.2.2.2.1, a2, o2.2.2.2.2.1, o2.2.2.2.2.2, [])) else (((Uq k) (a2, o2.2.2.2.2.1, o2.2.2.2.2.2, o3.2.2.2.2)).bind fun o4 => bif (!o4.1) then (some (o4.1, o4.2.1, o4.2.2.1, o4.2.2.2.2.2.2.1, o3.2.2.2.1, o4.2.2.2.1, o4.2.2.2.2.1, o4.2.2.2.2.2.1, o4.2.2.2.2.2.2.2)) else (some (true, (0 : Int), (0 : Int), o4.2.2.2.2.2.2.1, o3.2.2.2.1, o4.2.2.2.1, o4.2.2.2.2.1, o4.2.2.2.2.2.1, o4.2.2.2.2.2.2.2))))
theorem B1q (k : Nat) (x : H106) : Aa1 k x = Aws k x := (Af _ _).trans (by kernel_rfl)
theorem Bro (k : Nat) : Aa Tryz.prog 92 (Bj6 k) := Ae (Awr k) (k + 32) rfl ⟨⟨Bt9 k, trivial⟩, ⟨Bsh k, trivial⟩, ⟨Fv k, trivial⟩, ⟨Bsr k, trivial⟩, trivial⟩ Ad Tryz.func92 (by kernel_rfl)
abbrev H133 : Type := (List Int) × (Int) × (Bool) × (Int) × (Int) × (List (YT8)) × (List (List Int))
def fpphasei : Sk := ⟨[.lf (.ptr 0 0)], [[.pv (.slice yt8)]], []⟩
def fpphaseo : Sk := ⟨[.agg [.pv .str, .own 0, .pv (.int .i64)], .lf (.erp 88 [(.int .i64), (.int .i64)])], fpphasei.boxes, [some (9, .str)]⟩
def B5a (k : Nat) : EnvL := [(149, [Bl8 k]), (150, [Bki k]), (93, [Fl k]), (197, [sgpnames k]), (92, [Bj6 k])]
def A40 (k : Nat) : Cfg := { mkC (B5a k) 77 1 0 with bl := [54, 56] }
def cpphase (k : Nat) : (List (YT8)) → Option H133 := hid (Ac (A40 k) k Tryz.f156 fpphasei fpphaseo)
def sgpphase (k : Nat) : Sig := Ab fpphasei fpphaseo (cpphase k)
noncomputable def A41 (k : Nat) : (List (YT8)) → Option H133
 | a0 => ((Ab2 k) (a0, ([] : List Int), (0 : Int))).bind fun o1 => ((Aba k) (o1.1, o1.2.1, o1.2.2)).bind fun o2 => ((Bp k) (([58] : List Int), o2.1)).bind fun o3 => ((cpnames k) ((16 : Int), o3.1, o2.2.1, o2.2.2)).bind fun o4 => ((Aa1 k) (o4.1, o3.2, o4.2.2.2, o4.2.1, o4.2.2.1)).bind fun o5 => some (o5.2.2.2.2.2.2.1, o5.2.2.2.2.2.2.2.1, o5.1, o5.2.1, o5.2.2.1, o5.2.2.2.1, o5.2.2.2.2.2.2.2.2)
theorem B5b (k : Nat) (x : (List (YT8))) : cpphase k x = A41 k x := (Af _ _).trans (by kernel_rfl)
theorem Bt1 (k : Nat) : Aa Tryz.prog 156 (sgpphase k) := Ae (A40 k) k rfl ⟨⟨Bt4 k, trivial⟩, ⟨Br8 k, trivial⟩, ⟨Fu k, trivial⟩, ⟨Bss k, trivial⟩, ⟨Bro k, trivial⟩, trivial⟩ Ad Tryz.func156 (by kernel_rfl)
abbrev H134 : Type := (List Int) × (Int) × (List (YT8)) × (List Int) × (Int) × (List (YT1)) × (List (YT2)) × (List (YT3))
abbrev H135 : Type := (Bool) × (Int) × (Int) × (List Int) × (Int) × (List (YT8)) × (List Int) × (Int) × (List (YT1)) × (List (YT2)) × (List (YT3))
def Af0 : Sk := ⟨[.lf (.ptr 0 0), .lf (.ptr 1 0), .lf (.ptr 2 0), .lf (.ptr 3 0), .lf (.ptr 4 0)], [[.ptr 5 0], [.pv .str], [.ptr 6 3], [.pv (.int .i64)], [.fn 156 [(5, 0)] []], [.pv (.slice yt8)], q16], [some (95, yt1), some (97, yt2)]⟩
def Af1 : Sk := ⟨[.lf (.erp 88 [(.int .i64), (.int .i64)])], [[.ptr 5 0], [.pv .str], [.ptr 6 3], [.pv (.int .i64)], [.fn 156 [(5, 0)] []], [.pv (.slice yt8)], q18], [some (95, yt1), some (97, yt2), some (99, yt3)]⟩
def Ave : Sk := ⟨sparse 37 [(0, .lf (.ptr 0 0)), (1, .lf (.ptr 1 0)), (2, .lf (.ptr 2 0)), (3, .lf (.ptr 3 0)), (4, .lf (.ptr 4 0))], [[.ptr 5 0], [.pv .str], [.ptr 6 3], [.pv (.int .i64)], [.fn 156 [(5, 0)] []], [.pv (.slice yt8)], q18], [some (95, yt1), some (97, yt2), some (99, yt3)]⟩
abbrev Afx := H134
def Rl : Afx → St := stOf Ave 86
def B0u (k : Nat) : EnvL := [(143, [Ep k]), (144, [A9 k]), (145, [Ba k]), (156, [sgpphase k])]
def Hi (k : Nat) : FnX H135 := mkX ({ mkC (B0u k) 86 7 2 with hint := fun i => look none [(1, some Ave)] i, bl := [54, 56], ld := [(29, 2), (30, 2), (31, 9999), (32, 6), (33, 54), (36, 9999)], sr := [(36, 6)] }) k Tryz.f196 Af1
def T7 (k : Nat) : H124 → Option H135 := hid (Ac (Hi k).C k Tryz.f196 Af0 Af1)
def Bjr (k : Nat) : Sig := Ab Af0 Af1 (T7 k)
noncomputable def Afz (k : Nat) (J : JF H135) (L : LF H135) : H124 → Option H135
 | (a0, a1, a2, a3, a4, a5, a6) => L 1 [] k (Rl (a0, a1, a2, a3, a4, a5, a6, []))
theorem B0v (k : Nat) (x : H124) : T7 k x = Afz k (Hi k).J (Hi k).L x := by
 refine (Af _ _).trans ?_; apply cutX (Hi k) [] [] (st0 (Hi k).C Tryz.f196 Af0 x) [] [(1, [], k)] (Afz k · · x) <;> intros <;> kernel_rfl
noncomputable def Rm (k j1 : Nat) (J : JF H135) (L : LF H135) : Afx → Option H135
 | (a0, a1, a2, a3, a4, a5, a6, a7) => ((Dh k) (a0, a2)).bind fun o1 => bif o1.1 then (bif (((List.length a7 : Nat) : Int) == a1) then (((A7 k) ((4 : Int), o1.2)).bind fun o2 => some (o2.1, o2.2.1, o2.2.2.1, a0, a1, o2.2.2.2, a3, a4, a5, a6, a7)) else (((A4 k) (o1.2)).bind fun o3 => ((cpphase k) (o3.2.2.2.2)).bind fun o4 => bif (!o4.2.2.1) then (some (o4.2.2.1, o4.2.2.2.1, o4.2.2.2.2.1, a0, a1, o4.2.2.2.2.2.1, a3, a4, a5, a6, a7)) else (app 48 a7 ([(o4.1, (o4.2.2.2.2.2.2, (o4.2.1, ())))] : List (YT3)) fun o5 => L 1 [] j1 (Rl (a0, a1, o4.2.2.2.2.2.1, a3, a4, a5, a6, o5))))) else (some (true, (0 : Int), (0 : Int), a0, a1, o1.2, a3, a4, a5, a6, a7))
theorem Afy (k j1 : Nat) (x : Afx) : (Hi k).L 1 [] (j1 + 1) (Rl x) = Rm k j1 (Hi k).J (Hi k).L x := by
 apply cutX (Hi k) [.r, .l, .b, .b] [j1] (Rl x) [] [(1, [], j1)] (Rm k j1 · · x) <;> intros <;> kernel_rfl
theorem Bq4 (k : Nat) : Aa Tryz.prog 196 (Bjr k) := Ae (Hi k).C k rfl ⟨⟨Et k, trivial⟩, ⟨Bb k, trivial⟩, ⟨Bc k, trivial⟩, ⟨Bt1 k, trivial⟩, trivial⟩ Ad Tryz.func196 (by kernel_rfl)
def fpseesi : Sk := ⟨[.lf (.ptr 0 0), .lf (.pv .str)], [[.pv (.slice yt8)]], []⟩
def fpseeso : Sk := ⟨[.lf (.fn 212 [] [(1, 0), (2, 0)])], [[.pv (.slice yt8)], [.ptr 0 0], [.pv .str]], []⟩
def A6a (k : Nat) : Cfg := { mkC [] 54 1 0 with bl := [54, 56] }
def cpsees (k : Nat) : H91 → Option H101 := hid (Ac (A6a k) k Tryz.f199 fpseesi fpseeso)
def sgpsees (k : Nat) : Sig := Ab fpseesi fpseeso (cpsees k)
noncomputable def A6c (k : Nat) : H91 → Option H101
 | (a0, a1) => some (a1, a0)
theorem B5r (k : Nat) (x : H91) : cpsees k x = A6c k x := (Af _ _).trans (by kernel_rfl)
theorem Bug (k : Nat) : Aa Tryz.prog 199 (sgpsees k) := Ae (A6a k) (l := []) k rfl trivial Ad Tryz.func199 (by kernel_rfl)
abbrev H136 : Type := (List Int) × (Int) × (List (YT8))
def Avl : Sk := ⟨[.lf (.ptr 0 0), .lf (.pv .str), .lf (.pv (.int .i64)), .lf (.ptr 1 0), .lf (.fn 201 [(0, 0)] [])], [[.pv (.slice yt8)], [.nil .sl]], []⟩
def Avm : Sk := ⟨[.lf (.fn 213 [] [(2, 0), (3, 0), (4, 0), (5, 0), (6, 0)])], [[.pv (.slice yt8)], [.nil .sl], [.ptr 0 0], [.pv .str], [.ptr 1 0], [.pv (.int .i64)], [.fn 201 [(0, 0)] []]], []⟩
def Avi (k : Nat) : Cfg := { mkC [] 60 2 0 with bl := [54, 56] }
def Aaq (k : Nat) : H136 → Option H104 := hid (Ac (Avi k) k Tryz.f200 Avl Avm)
def Bjs (k : Nat) : Sig := Ab Avl Avm (Aaq k)
noncomputable def Avk (k : Nat) : H136 → Option H104
 | (a0, a1, a2) => some (a2, a0, a1)
theorem B0z (k : Nat) (x : H136) : Aaq k x = Avk k x := (Af _ _).trans (by kernel_rfl)
theorem Bq7 (k : Nat) : Aa Tryz.prog 200 (Bjs k) := Ae (Avi k) (l := []) k rfl trivial Ad Tryz.func200 (by kernel_rfl)
def Ah6 : Sk := ⟨[.lf (.ptr 0 0), .lf (.ptr 1 0)], [[.ptr 2 0], [.pv .str], [.pv (.slice yt8)]], []⟩
def A6b : Sk := ⟨[.lf (.erp 88 [(.int .i64), (.int .i64)])], Ah6.boxes, []⟩
def B5p (k : Nat) : EnvL := [(143, [Ep k]), (144, [A9 k])]
def A58 (k : Nat) : Cfg := mkC (B5p k) 57 3 0
def Vk (k : Nat) : H91 → Option H98 := hid (Ac (A58 k) k Tryz.f212 Ah6 A6b)
def Bmh (k : Nat) : Sig := Ab Ah6 A6b (Vk k)
noncomputable def A59 (k : Nat) : H91 → Option H98
 | (a0, a1) => ((Dh k) (a0, a1)).bind fun o1 => bif (!o1.1) then (((A7 k) ((50 : Int), o1.2)).bind fun o2 => some (o2.1, o2.2.1, o2.2.2.1, a0, o2.2.2.2)) else (some (true, (0 : Int), (0 : Int), a0, o1.2))
theorem B5q (k : Nat) (x : H91) : Vk k x = A59 k x := (Af _ _).trans (by kernel_rfl)
theorem Buf (k : Nat) : Aa Tryz.prog 212 (Bmh k) := Ae (A58 k) k rfl ⟨⟨Et k, trivial⟩, ⟨Bb k, trivial⟩, trivial⟩ Ad Tryz.func212 (by kernel_rfl)
def Ax6 : Sk := ⟨[.lf (.ptr 0 0), .lf (.pv .str), .lf (.ptr 1 0)], [[.pv (.slice yt8)], [.pv .bool, .nil .sl]], []⟩
def Ax7 : Sk := ⟨[.lf (.fn 161 [] [(2, 0), (3, 0), (4, 0)])], [[.pv (.slice yt8)], [.pv .bool, .nil .sl], [.ptr 0 0], [.pv .str], [.ptr 1 0]], []⟩
def Ax4 (k : Nat) : Cfg := { mkC [] 56 2 0 with bl := [54, 56] }
def Aa5 (k : Nat) : H109 → Option H110 := hid (Ac (Ax4 k) k Tryz.f98 Ax6 Ax7)
def Bkc (k : Nat) : Sig := Ab Ax6 Ax7 (Aa5 k)
noncomputable def Ax5 (k : Nat) : H109 → Option H110
 | (a0, a1, a2) => some (a1, a2, a0)
theorem B18 (k : Nat) (x : H109) : Aa5 k x = Ax5 k x := (Af _ _).trans (by kernel_rfl)
theorem Br1 (k : Nat) : Aa Tryz.prog 98 (Bkc k) := Ae (Ax4 k) (l := []) k rfl trivial Ad Tryz.func98 (by kernel_rfl)
abbrev H137 : Type := (Int) × (List (YT8)) × (Bool)
abbrev H138 : Type := (List (YT8)) × (Bool) × (Int)
def A0q : Sk := ⟨[.lf (.ptr 0 0), .lf (.ptr 1 1), .lf (.pv (.int .i64))], [[.pv (.slice yt8)], [.pv .bool, .nil .sl]], []⟩
def A0r : Sk := ⟨[.lf (.fn 211 [] [(2, 0), (3, 0), (4, 0)])], [[.pv (.slice yt8)], [.pv .bool, .nil .sl], [.ptr 1 1], [.pv (.int .i64)], [.ptr 0 0]], []⟩
def A0o (k : Nat) : Cfg := { mkC [] 56 2 0 with bl := [54, 56] }
def Abf (k : Nat) : H137 → Option H138 := hid (Ac (A0o k) k Tryz.f197 A0q A0r)
def Bky (k : Nat) : Sig := Ab A0q A0r (Abf k)
noncomputable def A0p (k : Nat) : H137 → Option H138
 | (a0, a1, a2) => some (a1, a2, a0)
theorem B3e (k : Nat) (x : H137) : Abf k x = A0p k x := (Af _ _).trans (by kernel_rfl)
theorem Bsp (k : Nat) : Aa Tryz.prog 197 (Bky k) := Ae (A0o k) (l := []) k rfl trivial Ad Tryz.func197 (by kernel_rfl)
def Ags : Sk := ⟨[.lf (.ptr 0 0), .lf (.ptr 1 0), .lf (.ptr 2 0)], [[.ptr 3 0], [.pv .str], [.ptr 4 0], [.pv (.slice yt8)], [.pv .bool, .nil .sl]], []⟩
def Aya : Sk := ⟨[.lf (.nil .ifc)], Ags.boxes, []⟩
def B19 (k : Nat) : EnvL := [(143, [Ep k]), (145, [Ba k])]
def Ax8 (k : Nat) : Cfg := mkC (B19 k) 59 5 0
def Ue (k : Nat) : H109 → Option H109 := hid (Ac (Ax8 k) k Tryz.f161 Ags Aya)
def Bkd (k : Nat) : Sig := Ab Ags Aya (Ue k)
noncomputable def Ax9 (k : Nat) : H109 → Option H109
 | (a0, a1, a2) => ((Dh k) (a0, a1)).bind fun o1 => bif o1.1 then (((A4 k) (o1.2)).bind fun o2 => some (a0, o2.2.2.2.2, true)) else (some (a0, o1.2, a2))
theorem B2a (k : Nat) (x : H109) : Ue k x = Ax9 k x := (Af _ _).trans (by kernel_rfl)
theorem Br2 (k : Nat) : Aa Tryz.prog 161 (Bkd k) := Ae (Ax8 k) k rfl ⟨⟨Et k, trivial⟩, ⟨Bc k, trivial⟩, trivial⟩ Ad Tryz.func161 (by kernel_rfl)
abbrev H139 : Type := (Int) × (Bool) × (List (YT8)) × (List (List Int))
abbrev H140 : Type := (Int) × (Bool) × (List (YT8))
abbrev H141 : Type := (Bool) × (Int) × (Int) × (Int) × (Bool) × (List (YT8)) × (List (List Int))
def Ag7 : Sk := ⟨[.lf (.ptr 0 0), .lf (.ptr 1 0), .lf (.ptr 2 0)], [[.ptr 3 1], [.pv (.int .i64)], [.ptr 4 0], [.pv .bool, .nil .sl], [.pv (.slice yt8)]], []⟩
def Ag8 : Sk := ⟨[.lf (.erp 88 [(.int .i64), (.int .i64)])], [[.ptr 3 1], [.pv (.int .i64)], [.ptr 4 0], [.pv .bool, .own 0], [.pv (.slice yt8)]], [some (9, .str)]⟩
def A0s : Sk := ⟨sparse 44 [(0, .lf (.ptr 0 0)), (1, .lf (.ptr 1 0)), (2, .lf (.ptr 2 0))], [[.ptr 3 1], [.pv (.int .i64)], [.ptr 4 0], [.pv .bool, .own 0], [.pv (.slice yt8)]], [some (9, .str)]⟩
abbrev Ag5 := H139
def M8 : Ag5 → St := stOf A0s 136
def B3f (k : Nat) : EnvL := [(193, [Aod k]), (144, [A9 k]), (150, [Aoc k]), (92, [An9 k, Aoa k]), (143, [Ep k]), (93, [Fl k]), (145, [Ba k])]
def Hm (k : Nat) : FnX H141 := mkX ({ mkC (B3f k) 136 5 0 with hint := fun i => look none [(1, some A0s)] i, bl := [54, 56], ef := [(20, (([4, 52], []), ([68, 112], []))), (22, (([4, 52, 68, 69, 112], []), ([], []))), (39, (([4], []), ([87, 131], []))), (41, (([4, 87, 88, 131], []), ([], [])))], ld := [(18, 2), (19, 2), (26, 0), (27, 0), (28, 9999), (29, 3), (30, 52), (33, 9999), (37, 2), (38, 2)], sr := [(33, 3)], rb := [21, 40] }) k Tryz.f211 Ag8
def Ur (k : Nat) : H140 → Option H141 := hid (Ac (Hm k).C k Tryz.f211 Ag7 Ag8)
def Bk0 (k : Nat) : Sig := Ab Ag7 Ag8 (Ur k)
noncomputable def Ag6 (k : Nat) (J : JF H141) (L : LF H141) : H140 → Option H141
 | (a0, a1, a2) => L 1 [] k (M8 (a0, a1, a2, []))
theorem B3g (k : Nat) (x : H140) : Ur k x = Ag6 k (Hm k).J (Hm k).L x := by
 refine (Af _ _).trans ?_; apply cutX (Hm k) [] [] (st0 (Hm k).C Tryz.f211 Ag7 x) [] [(1, [], k)] (Ag6 k · · x) <;> intros <;> kernel_rfl
noncomputable def M9 (k j1 : Nat) (J : JF H141) (L : LF H141) : Ag5 → Option H141
 | (a0, a1, a2, a3) => bif (((List.length a3 : Nat) : Int) == a0) then (((Pt k) (a2)).bind fun o1 => bif o1 then (((A7 k) ((4 : Int), a2)).bind fun o2 => some (o2.1, o2.2.1, o2.2.2.1, a0, a1, o2.2.2.2, a3)) else (((Mv k) (a2, ([] : List Int))).bind fun o3 => ((Mt k) (o3.1, o3.2)).bind fun o4 => bif (!o4.1) then (some (o4.1, o4.2.1, o4.2.2.1, a0, a1, o4.2.2.2.1, a3)) else (app 16 a3 ([o4.2.2.2.2] : List (List Int)) fun o5 => ((Dh k) (([44] : List Int), o4.2.2.2.1)).bind fun o6 => bif (!o6.1) then (((Bp k) (([59] : List Int), o6.2)).bind fun o7 => ((Mu k) (o7.1, o7.2)).bind fun o8 => some (o8.1, o8.2.1, o8.2.2.1, a0, a1, o8.2.2.2.1, o5)) else (((A4 k) (o6.2)).bind fun o9 => L 1 [] j1 (M8 (a0, a1, o9.2.2.2.2, o5)))))) else (((Mv k) (a2, ([] : List Int))).bind fun o10 => ((Mt k) (o10.1, o10.2)).bind fun o11 => bif (!o11.1) then (some (o11.1, o11.2.1, o11.2.2.1, a0, a1, o11.2.2.2.1, a3)) else (app 16 a3 ([o11.2.2.2.2] : List (List Int)) fun o12 => ((Dh k) (([44] : List Int), o11.2.2.2.1)).bind fun o13 => bif (!o13.1) then (((Bp k) (([59] : List Int), o13.2)).bind fun o14 => ((Mu k) (o14.1, o14.2)).bind fun o15 => some (o15.1, o15.2.1, o15.2.2.1, a0, a1, o15.2.2.2.1, o12)) else (((A4 k) (o13.2)).bind fun o16 => L 1 [] j1 (M8 (a0, a1, o16.2.2.2.2, o12)))))
theorem Wy (k j1 : Nat) (x : Ag5) : (Hm k).L 1 [] (j1 + 1) (M8 x) = M9 k j1 (Hm k).J (Hm k).L x := by
 apply cutX (Hm k) [.r, .b, .b] [j1] (M8 x) [] [(1, [], j1)] (M9 k j1 · · x) <;> intros <;> kernel_rfl
theorem Bsq (k : Nat) : Aa Tryz.prog 211 (Bk0 k) := Ae (Hm k).C k rfl ⟨⟨Aqm k, trivial⟩, ⟨Bb k, trivial⟩, ⟨Aql k, trivial⟩, ⟨Aqi k, Aqj k, trivial⟩, ⟨Et k, trivial⟩, ⟨Fu k, trivial⟩, ⟨Bc k, trivial⟩, trivial⟩ Ad Tryz.func211 (by kernel_rfl)
abbrev H142 : Type := (List (YT8)) × (List Int) × (Int) × (Bool)
abbrev H143 : Type := (Bool) × (Int) × (Int) × (List (YT8)) × (List Int) × (Int) × (Bool) × (List (List Int))
def Avw : Sk := ⟨[.lf (.ptr 0 0), .lf (.sb 1 2)], [[.pv (.slice yt8)], q20, [.ptr 0 0], [.pv .str], [.ptr 8 0], [.ptr 8 1], [.pv (.int .i64)], [.ptr 0 0], [.pv .bool, .nil .sl]], []⟩
def Avx : Sk := ⟨[.lf (.erp 88 [(.int .i64), (.int .i64)])], [[.pv (.slice yt8)], q20, [.ptr 0 0], [.pv .str], [.ptr 8 0], [.ptr 8 1], [.pv (.int .i64)], [.ptr 0 0], [.pv .bool, .own 0]], [some (9, .str)]⟩
def B05 (k : Nat) : EnvL := [(161, [Bkd k]), (211, [Bk0 k])]
def Avu (k : Nat) : Cfg := mkC (B05 k) 69 9 0
def Aau (k : Nat) : H142 → Option H143 := hid (Ac (Avu k) (k + 32) Tryz.f92 Avw Avx)
def Bjx (k : Nat) : Sig := Ab Avw Avx (Aau k)
noncomputable def Avv (k : Nat) : H142 → Option H143
 | (a0, a1, a2, a3) => ((Ue k) (a1, a0, a3)).bind fun o1 => ((Ur k) (a2, o1.2.2, o1.2.1)).bind fun o2 => bif (!o2.1) then (some (o2.1, o2.2.1, o2.2.2.1, o2.2.2.2.2.2.1, o1.1, o2.2.2.2.1, o2.2.2.2.2.1, o2.2.2.2.2.2.2)) else (some (true, (0 : Int), (0 : Int), o2.2.2.2.2.2.1, o1.1, o2.2.2.2.1, o2.2.2.2.2.1, o2.2.2.2.2.2.2))
theorem B06 (k : Nat) (x : H142) : Aau k x = Avv k x := (Af _ _).trans (by kernel_rfl)
theorem Bre (k : Nat) : Aa Tryz.prog 92 (Bjx k) := Ae (Avu k) (k + 32) rfl ⟨⟨Br2 k, trivial⟩, ⟨Bsq k, trivial⟩, trivial⟩ Ad Tryz.func92 (by kernel_rfl)
abbrev H144 : Type := (Bool) × (Bool) × (Int) × (Int) × (List (YT8)) × (List (List Int))
def fpringi : Sk := ⟨[.lf (.ptr 0 0)], [[.pv (.slice yt8)]], []⟩
def fpringo : Sk := ⟨[.agg [.pv .bool, .own 0], .lf (.erp 88 [(.int .i64), (.int .i64)])], fpringi.boxes, [some (9, .str)]⟩
def fpringE (k : Nat) : EnvL := [(98, [Bkc k]), (197, [Bky k]), (92, [Bjx k])]
def A56 (k : Nat) : Cfg := { mkC (fpringE k) 69 1 0 with bl := [54, 56] }
def cpring (k : Nat) : (List (YT8)) → Option H144 := hid (Ac (A56 k) k Tryz.f201 fpringi fpringo)
def sgpring (k : Nat) : Sig := Ab fpringi fpringo (cpring k)
noncomputable def A57 (k : Nat) : (List (YT8)) → Option H144
 | a0 => ((Aa5 k) (([102, 114, 101, 101] : List Int), a0, false)).bind fun o1 => ((Abf k) ((4 : Int), o1.1, o1.2.1)).bind fun o2 => ((Aau k) (o2.1, o1.2.2, o2.2.2, o2.2.1)).bind fun o3 => some (o3.2.2.2.2.2.2.1, o3.1, o3.2.1, o3.2.2.1, o3.2.2.2.1, o3.2.2.2.2.2.2.2)
theorem B5o (k : Nat) (x : (List (YT8))) : cpring k x = A57 k x := (Af _ _).trans (by kernel_rfl)
theorem Bue (k : Nat) : Aa Tryz.prog 201 (sgpring k) := Ae (A56 k) k rfl ⟨⟨Br1 k, trivial⟩, ⟨Bsp k, trivial⟩, ⟨Bre k, trivial⟩, trivial⟩ Ad Tryz.func201 (by kernel_rfl)
abbrev H145 : Type := (List Int) × (Int) × (List (YT8)) × (List (YT4))
abbrev H146 : Type := (Bool) × (Int) × (Int) × (List Int) × (Int) × (List (YT8)) × (List (YT4))
def Af5 : Sk := ⟨[.lf (.ptr 0 0), .lf (.ptr 1 0), .lf (.ptr 2 0), .lf (.ptr 3 0), .lf (.ptr 4 0)], [[.ptr 5 0], [.pv .str], [.ptr 6 0], [.pv (.int .i64)], [.fn 201 [(5, 0)] []], [.pv (.slice yt8)], [.nil .sl]], []⟩
def Af6 : Sk := ⟨[.lf (.erp 88 [(.int .i64), (.int .i64)])], [[.ptr 5 0], [.pv .str], [.ptr 6 0], [.pv (.int .i64)], [.fn 201 [(5, 0)] []], [.pv (.slice yt8)], [.own 0]], [some (104, yt4)]⟩
def Avj : Sk := ⟨sparse 37 [(0, .lf (.ptr 0 0)), (1, .lf (.ptr 1 0)), (2, .lf (.ptr 2 0)), (3, .lf (.ptr 3 0)), (4, .lf (.ptr 4 0))], [[.ptr 5 0], [.pv .str], [.ptr 6 0], [.pv (.int .i64)], [.fn 201 [(5, 0)] []], [.pv (.slice yt8)], [.own 0]], [some (104, yt4)]⟩
abbrev Af2 := H145
def Rn : Af2 → St := stOf Avj 86
def B0x (k : Nat) : EnvL := [(143, [Ep k]), (144, [A9 k]), (145, [Ba k]), (201, [sgpring k])]
def Hj (k : Nat) : FnX H146 := mkX ({ mkC (B0x k) 86 7 0 with hint := fun i => look none [(1, some Avj)] i, bl := [54, 56], ld := [(29, 2), (30, 2), (31, 9999), (32, 6), (33, 54), (36, 9999)], sr := [(36, 6)] }) k Tryz.f213 Af6
def T8 (k : Nat) : H136 → Option H146 := hid (Ac (Hj k).C k Tryz.f213 Af5 Af6)
def Bjt (k : Nat) : Sig := Ab Af5 Af6 (T8 k)
noncomputable def Af4 (k : Nat) (J : JF H146) (L : LF H146) : H136 → Option H146
 | (a0, a1, a2) => L 1 [] k (Rn (a0, a1, a2, []))
theorem B0y (k : Nat) (x : H136) : T8 k x = Af4 k (Hj k).J (Hj k).L x := by
 refine (Af _ _).trans ?_; apply cutX (Hj k) [] [] (st0 (Hj k).C Tryz.f213 Af5 x) [] [(1, [], k)] (Af4 k · · x) <;> intros <;> kernel_rfl
noncomputable def Ro (k j1 : Nat) (J : JF H146) (L : LF H146) : Af2 → Option H146
 | (a0, a1, a2, a3) => ((Dh k) (a0, a2)).bind fun o1 => bif o1.1 then (bif (((List.length a3 : Nat) : Int) == a1) then (((A7 k) ((4 : Int), o1.2)).bind fun o2 => some (o2.1, o2.2.1, o2.2.2.1, a0, a1, o2.2.2.2, a3)) else (((A4 k) (o1.2)).bind fun o3 => ((cpring k) (o3.2.2.2.2)).bind fun o4 => bif (!o4.2.1) then (some (o4.2.1, o4.2.2.1, o4.2.2.2.1, a0, a1, o4.2.2.2.2.1, a3)) else (app 32 a3 ([(o4.1, (o4.2.2.2.2.2, ()))] : List (YT4)) fun o5 => L 1 [] j1 (Rn (a0, a1, o4.2.2.2.2.1, o5))))) else (some (true, (0 : Int), (0 : Int), a0, a1, o1.2, a3))
theorem Af3 (k j1 : Nat) (x : Af2) : (Hj k).L 1 [] (j1 + 1) (Rn x) = Ro k j1 (Hj k).J (Hj k).L x := by
 apply cutX (Hj k) [.r, .l, .b, .b] [j1] (Rn x) [] [(1, [], j1)] (Ro k j1 · · x) <;> intros <;> kernel_rfl
theorem Bq6 (k : Nat) : Aa Tryz.prog 213 (Bjt k) := Ae (Hj k).C k rfl ⟨⟨Et k, trivial⟩, ⟨Bb k, trivial⟩, ⟨Bc k, trivial⟩, ⟨Bue k, trivial⟩, trivial⟩ Ad Tryz.func213 (by kernel_rfl)
abbrev H147 : Type := (List (YT8)) × (List Int) × (List Int) × (List Int) × (Int) × (List Int)
abbrev H148 : Type := (Bool) × (Int) × (Int) × (List (YT8)) × (List Int) × (List Int) × (List Int) × (Int) × (List Int) × (List (YT4))
def Aw2 : Sk := ⟨[.lf (.ptr 0 0), .lf (.sb 1 4)], [[.pv (.slice yt8)], q19, [.ptr 0 0], [.pv .str], [.ptr 0 0], [.pv .str], [.ptr 0 0], [.pv .str], [.ptr 13 0], [.pv (.int .i64)], [.fn 201 [(0, 0)] []], [.ptr 0 0], [.pv .str], [.nil .sl]], []⟩
def Aw3 : Sk := ⟨[.lf (.erp 88 [(.int .i64), (.int .i64)])], [[.pv (.slice yt8)], q19, [.ptr 0 0], [.pv .str], [.ptr 0 0], [.pv .str], [.ptr 0 0], [.pv .str], [.ptr 13 0], [.pv (.int .i64)], [.fn 201 [(0, 0)] []], [.ptr 0 0], [.pv .str], [.own 0]], [some (104, yt4)]⟩
def B1t (k : Nat) : EnvL := [(142, [Fm k]), (212, [Bmh k]), (213, [Bjt k])]
def Aw0 (k : Nat) : Cfg := mkC (B1t k) 69 14 0
def Aa2 (k : Nat) : H147 → Option H148 := hid (Ac (Aw0 k) (k + 32) Tryz.f92 Aw2 Aw3)
def Bj7 (k : Nat) : Sig := Ab Aw2 Aw3 (Aa2 k)
noncomputable def Aw1 (k : Nat) : H147 → Option H148
 | (a0, a1, a2, a3, a4, a5) => ((Bj k) (a1, a0)).bind fun o1 => bif (!o1.1) then (some (o1.1, o1.2.1, o1.2.2.1, o1.2.2.2.2, o1.2.2.2.1, a2, a3, a4, a5, [])) else (((Vk k) (a2, o1.2.2.2.2)).bind fun o2 => bif (!o2.1) then (some (o2.1, o2.2.1, o2.2.2.1, o2.2.2.2.2, o1.2.2.2.1, o2.2.2.2.1, a3, a4, a5, [])) else (((T8 k) (a3, a4, o2.2.2.2.2)).bind fun o3 => bif (!o3.1) then (some (o3.1, o3.2.1, o3.2.2.1, o3.2.2.2.2.2.1, o1.2.2.2.1, o2.2.2.2.1, o3.2.2.2.1, o3.2.2.2.2.1, a5, o3.2.2.2.2.2.2)) else (((Bj k) (a5, o3.2.2.2.2.2.1)).bind fun o4 => bif (!o4.1) then (some (o4.1, o4.2.1, o4.2.2.1, o4.2.2.2.2, o1.2.2.2.1, o2.2.2.2.1, o3.2.2.2.1, o3.2.2.2.2.1, o4.2.2.2.1, o3.2.2.2.2.2.2)) else (some (true, (0 : Int), (0 : Int), o4.2.2.2.2, o1.2.2.2.1, o2.2.2.2.1, o3.2.2.2.1, o3.2.2.2.2.1, o4.2.2.2.1, o3.2.2.2.2.2.2)))))
theorem B1u (k : Nat) (x : H147) : Aa2 k x = Aw1 k x := (Af _ _).trans (by kernel_rfl)
theorem Brp (k : Nat) : Aa Tryz.prog 92 (Bj7 k) := Ae (Aw0 k) (k + 32) rfl ⟨⟨Fv k, trivial⟩, ⟨Buf k, trivial⟩, ⟨Bq6 k, trivial⟩, trivial⟩ Ad Tryz.func92 (by kernel_rfl)
abbrev H149 : Type := (Bool) × (Int) × (Int) × (List (YT8)) × (List (YT4))
def fpgroupi : Sk := ⟨[.lf (.ptr 0 0)], [[.pv (.slice yt8)]], []⟩
def fpgroupo : Sk := ⟨[.agg [.own 0], .lf (.erp 88 [(.int .i64), (.int .i64)])], fpgroupi.boxes, [some (104, yt4)]⟩
def B13 (k : Nat) : EnvL := [(93, [Fl k]), (199, [sgpsees k]), (200, [Bjs k]), (92, [Bj7 k])]
def Axr (k : Nat) : Cfg := { mkC (B13 k) 79 1 0 with bl := [54, 56] }
def cpgroup (k : Nat) : (List (YT8)) → Option H149 := hid (Ac (Axr k) k Tryz.f158 fpgroupi fpgroupo)
def sgpgroup (k : Nat) : Sig := Ab fpgroupi fpgroupo (cpgroup k)
noncomputable def Axs (k : Nat) : (List (YT8)) → Option H149
 | a0 => ((Bp k) (([123] : List Int), a0)).bind fun o1 => ((cpsees k) (([114, 105, 110, 103] : List Int), o1.1)).bind fun o2 => ((Aaq k) (([114, 105, 110, 103] : List Int), (2 : Int), o2.1)).bind fun o3 => ((Bp k) (([125] : List Int), o3.1)).bind fun o4 => ((Aa2 k) (o4.1, o1.2, o2.2, o3.2.1, o3.2.2, o4.2)).bind fun o5 => some (o5.1, o5.2.1, o5.2.2.1, o5.2.2.2.1, o5.2.2.2.2.2.2.2.2.2)
theorem B14 (k : Nat) (x : (List (YT8))) : cpgroup k x = Axs k x := (Af _ _).trans (by kernel_rfl)
theorem Bry (k : Nat) : Aa Tryz.prog 158 (sgpgroup k) := Ae (Axr k) k rfl ⟨⟨Fu k, trivial⟩, ⟨Bug k, trivial⟩, ⟨Bq7 k, trivial⟩, ⟨Brp k, trivial⟩, trivial⟩ Ad Tryz.func158 (by kernel_rfl)
abbrev H150 : Type := (List Int) × (Int) × (List (YT8)) × (List Int) × (Int) × (List (YT1)) × (List (YT2)) × (List (YT3)) × (List ((List (YT4)) × (Unit)))
abbrev H151 : Type := (Bool) × (Int) × (Int) × (List Int) × (Int) × (List (YT8)) × (List Int) × (Int) × (List (YT1)) × (List (YT2)) × (List (YT3)) × (List ((List (YT4)) × (Unit)))
def Afg : Sk := ⟨[.lf (.ptr 0 0), .lf (.ptr 1 0), .lf (.ptr 2 0), .lf (.ptr 3 0), .lf (.ptr 4 0)], [[.ptr 5 0], [.pv .str], [.ptr 6 4], [.pv (.int .i64)], [.fn 158 [(5, 0)] []], [.pv (.slice yt8)], q18], [some (95, yt1), some (97, yt2), some (99, yt3)]⟩
def Afh : Sk := ⟨[.lf (.erp 88 [(.int .i64), (.int .i64)])], [[.ptr 5 0], [.pv .str], [.ptr 6 4], [.pv (.int .i64)], [.fn 158 [(5, 0)] []], [.pv (.slice yt8)], q21], [some (95, yt1), some (97, yt2), some (99, yt3), some (102, (.cons (.slice yt4) .nil))]⟩
def Auu : Sk := ⟨sparse 37 [(0, .lf (.ptr 0 0)), (1, .lf (.ptr 1 0)), (2, .lf (.ptr 2 0)), (3, .lf (.ptr 3 0)), (4, .lf (.ptr 4 0))], [[.ptr 5 0], [.pv .str], [.ptr 6 4], [.pv (.int .i64)], [.fn 158 [(5, 0)] []], [.pv (.slice yt8)], q21], [some (95, yt1), some (97, yt2), some (99, yt3), some (102, (.cons (.slice yt4) .nil))]⟩
abbrev Afd := H150
def Rd : Afd → St := stOf Auu 86
def B0i (k : Nat) : EnvL := [(143, [Ep k]), (144, [A9 k]), (145, [Ba k]), (158, [sgpgroup k])]
def He (k : Nat) : FnX H151 := mkX ({ mkC (B0i k) 86 7 3 with hint := fun i => look none [(1, some Auu)] i, bl := [54, 56], ld := [(29, 2), (30, 2), (31, 9999), (32, 6), (33, 54), (36, 9999)], sr := [(36, 6)] }) k Tryz.f198 Afh
def T2 (k : Nat) : H134 → Option H151 := hid (Ac (He k).C k Tryz.f198 Afg Afh)
def Bjj (k : Nat) : Sig := Ab Afg Afh (T2 k)
noncomputable def Aff (k : Nat) (J : JF H151) (L : LF H151) : H134 → Option H151
 | (a0, a1, a2, a3, a4, a5, a6, a7) => L 1 [] k (Rd (a0, a1, a2, a3, a4, a5, a6, a7, []))
theorem B0j (k : Nat) (x : H134) : T2 k x = Aff k (He k).J (He k).L x := by
 refine (Af _ _).trans ?_; apply cutX (He k) [] [] (st0 (He k).C Tryz.f198 Afg x) [] [(1, [], k)] (Aff k · · x) <;> intros <;> kernel_rfl
noncomputable def Re (k j1 : Nat) (J : JF H151) (L : LF H151) : Afd → Option H151
 | (a0, a1, a2, a3, a4, a5, a6, a7, a8) => ((Dh k) (a0, a2)).bind fun o1 => bif o1.1 then (bif (((List.length a8 : Nat) : Int) == a1) then (((A7 k) ((4 : Int), o1.2)).bind fun o2 => some (o2.1, o2.2.1, o2.2.2.1, a0, a1, o2.2.2.2, a3, a4, a5, a6, a7, a8)) else (((A4 k) (o1.2)).bind fun o3 => ((cpgroup k) (o3.2.2.2.2)).bind fun o4 => bif (!o4.1) then (some (o4.1, o4.2.1, o4.2.2.1, a0, a1, o4.2.2.2.1, a3, a4, a5, a6, a7, a8)) else (app 24 a8 ([(o4.2.2.2.2, ())] : List ((List (YT4)) × (Unit))) fun o5 => L 1 [] j1 (Rd (a0, a1, o4.2.2.2.1, a3, a4, a5, a6, a7, o5))))) else (some (true, (0 : Int), (0 : Int), a0, a1, o1.2, a3, a4, a5, a6, a7, a8))
theorem Afe (k j1 : Nat) (x : Afd) : (He k).L 1 [] (j1 + 1) (Rd x) = Re k j1 (He k).J (He k).L x := by
 apply cutX (He k) [.r, .l, .b, .b] [j1] (Rd x) [] [(1, [], j1)] (Re k j1 · · x) <;> intros <;> kernel_rfl
theorem Bqw (k : Nat) : Aa Tryz.prog 198 (Bjj k) := Ae (He k).C k rfl ⟨⟨Et k, trivial⟩, ⟨Bb k, trivial⟩, ⟨Bc k, trivial⟩, ⟨Bry k, trivial⟩, trivial⟩ Ad Tryz.func198 (by kernel_rfl)
abbrev H152 : Type := (List (YT8)) × (List Int) × (List Int) × (Int)
def A5g : Sk := ⟨[.lf (.ptr 0 0), .lf (.ptr 1 2)], [[.pv (.slice yt8)], [.pv .str, .pv .str, .pv (.int .i64)]], []⟩
def A5h : Sk := ⟨[.lf (.fn 191 [] [(2, 0), (3, 0)])], [[.pv (.slice yt8)], [.pv .str, .pv .str, .pv (.int .i64)], [.ptr 0 0], [.ptr 1 2]], []⟩
def A5e (k : Nat) : Cfg := { mkC [] 54 2 0 with bl := [54, 56] }
def Ab3 (k : Nat) : H152 → Option H152 := hid (Ac (A5e k) k Tryz.f149 A5g A5h)
def Bl9 (k : Nat) : Sig := Ab A5g A5h (Ab3 k)
noncomputable def A5f (k : Nat) : H152 → Option H152
 | (a0, a1, a2, a3) => some (a0, a1, a2, a3)
theorem B5f (k : Nat) (x : H152) : Ab3 k x = A5f k x := (Af _ _).trans (by kernel_rfl)
theorem Bt5 (k : Nat) : Aa Tryz.prog 149 (Bl9 k) := Ae (A5e k) (l := []) k rfl trivial Ad Tryz.func149 (by kernel_rfl)
def Ay5 : Sk := ⟨[.lf (.ptr 0 0), .lf (.ptr 1 0)], [[.pv (.slice yt8)], [.pv .str, .pv .str, .pv (.int .i64)]], []⟩
def Ay6 : Sk := ⟨[.lf (.fn 192 [] [(2, 0), (3, 0)])], [[.pv (.slice yt8)], [.pv .str, .pv .str, .pv (.int .i64)], [.ptr 0 0], [.ptr 1 0]], []⟩
def Ay3 (k : Nat) : Cfg := { mkC [] 54 2 0 with bl := [54, 56] }
def Abb (k : Nat) : H152 → Option H152 := hid (Ac (Ay3 k) k Tryz.f150 Ay5 Ay6)
def Bkj (k : Nat) : Sig := Ab Ay5 Ay6 (Abb k)
noncomputable def Ay4 (k : Nat) : H152 → Option H152
 | (a0, a1, a2, a3) => some (a0, a1, a2, a3)
theorem B2j (k : Nat) (x : H152) : Abb k x = Ay4 k x := (Af _ _).trans (by kernel_rfl)
theorem Br9 (k : Nat) : Aa Tryz.prog 150 (Bkj k) := Ae (Ay3 k) (l := []) k rfl trivial Ad Tryz.func150 (by kernel_rfl)
def Ay9 : Sk := ⟨[.lf (.ptr 0 0), .lf (.ptr 1 1)], [[.pv (.slice yt8)], [.pv .str, .pv .str, .pv (.int .i64)]], []⟩
def Aza : Sk := ⟨[.lf (.fn 192 [] [(2, 0), (3, 0)])], [[.pv (.slice yt8)], [.pv .str, .pv .str, .pv (.int .i64)], [.ptr 0 0], [.ptr 1 1]], []⟩
def Ay7 (k : Nat) : Cfg := { mkC [] 54 2 0 with bl := [54, 56] }
def Abc (k : Nat) : H152 → Option H152 := hid (Ac (Ay7 k) k Tryz.f150 Ay9 Aza)
def Bkk (k : Nat) : Sig := Ab Ay9 Aza (Abc k)
noncomputable def Ay8 (k : Nat) : H152 → Option H152
 | (a0, a1, a2, a3) => some (a0, a1, a2, a3)
theorem B2k (k : Nat) (x : H152) : Abc k x = Ay8 k x := (Af _ _).trans (by kernel_rfl)
theorem Bsa (k : Nat) : Aa Tryz.prog 150 (Bkk k) := Ae (Ay7 k) (l := []) k rfl trivial Ad Tryz.func150 (by kernel_rfl)
def Ah3 : Sk := ⟨[.lf (.ptr 0 0), .lf (.ptr 1 0)], [[.ptr 2 0], [.ptr 3 2], [.pv (.slice yt8)], [.pv .str, .pv .str, .pv (.int .i64)]], []⟩
def A5x : Sk := ⟨[.lf (.nil .ifc)], Ah3.boxes, []⟩
def A5v (k : Nat) : Cfg := { mkC [] 60 4 0 with ld := [(3, 1), (4, 0), (5, 9999), (6, 9999), (7, 2), (9, 9999), (10, 9999), (11, 9999)], sr := [(11, 3)] }
def Vi (k : Nat) : H152 → Option H152 := hid (Ac (A5v k) k Tryz.f191 Ah3 A5x)
def Bmf (k : Nat) : Sig := Ab Ah3 A5x (Vi k)
noncomputable def A5w (k : Nat) : H152 → Option H152
 | (a0, a1, a2, a3) => idx zt8 a0 (0 : Int) fun o1 => some (a0, a1, a2, o1.2.2.2.1)
theorem B5k (k : Nat) (x : H152) : Vi k x = A5w k x := (Af _ _).trans (by kernel_rfl)
theorem Bua (k : Nat) : Aa Tryz.prog 191 (Bmf k) := Ae (A5v k) (l := []) k rfl trivial Ad Tryz.func191 (by kernel_rfl)
abbrev H153 : Type := (Bool) × (Int) × (Int) × (List (YT8)) × (List Int) × (List Int) × (Int)
def Ag0 : Sk := ⟨[.lf (.ptr 0 0), .lf (.ptr 1 0)], [[.ptr 2 0], [.ptr 3 0], [.pv (.slice yt8)], [.pv .str, .pv .str, .pv (.int .i64)]], []⟩
def Az3 : Sk := ⟨[.lf (.erp 88 [(.int .i64), (.int .i64)])], Ag0.boxes, []⟩
def B2z (k : Nat) : EnvL := [(193, [sgpnamed k]), (144, [A9 k]), (145, [Ba k])]
def Az1 (k : Nat) : Cfg := { mkC (B2z k) 61 4 0 with ef := [(10, (([2], []), ([], [])))], ld := [(8, 1), (9, 0), (12, 9999)], sr := [(12, 3)] }
def Um (k : Nat) : H152 → Option H153 := hid (Ac (Az1 k) k Tryz.f192 Ag0 Az3)
def Bku (k : Nat) : Sig := Ab Ag0 Az3 (Um k)
noncomputable def Az2 (k : Nat) : H152 → Option H153
 | (a0, a1, a2, a3) => ((cpnamed k) (a0)).bind fun o1 => bif (!o1.1) then (((A7 k) ((50 : Int), o1.2)).bind fun o2 => some (o2.1, o2.2.1, o2.2.2.1, o2.2.2.2, a1, a2, a3)) else (((A4 k) (o1.2)).bind fun o3 => some (true, (0 : Int), (0 : Int), o3.2.2.2.2, o3.2.1, a2, a3))
theorem B20 (k : Nat) (x : H152) : Um k x = Az2 k x := (Af _ _).trans (by kernel_rfl)
theorem Bsj (k : Nat) : Aa Tryz.prog 192 (Bku k) := Ae (Az1 k) k rfl ⟨⟨Gp k, trivial⟩, ⟨Bb k, trivial⟩, ⟨Bc k, trivial⟩, trivial⟩ Ad Tryz.func192 (by kernel_rfl)
def Ag1 : Sk := ⟨[.lf (.ptr 0 0), .lf (.ptr 1 0)], [[.ptr 2 0], [.ptr 3 1], [.pv (.slice yt8)], [.pv .str, .pv .str, .pv (.int .i64)]], []⟩
def Az6 : Sk := ⟨[.lf (.erp 88 [(.int .i64), (.int .i64)])], Ag1.boxes, []⟩
def B21 (k : Nat) : EnvL := [(193, [sgpnamed k]), (144, [A9 k]), (145, [Ba k])]
def Az4 (k : Nat) : Cfg := { mkC (B21 k) 61 4 0 with ef := [(10, (([2], []), ([], [])))], ld := [(8, 1), (9, 0), (12, 9999)], sr := [(12, 3)] }
def Un (k : Nat) : H152 → Option H153 := hid (Ac (Az4 k) k Tryz.f192 Ag1 Az6)
def Bkv (k : Nat) : Sig := Ab Ag1 Az6 (Un k)
noncomputable def Az5 (k : Nat) : H152 → Option H153
 | (a0, a1, a2, a3) => ((cpnamed k) (a0)).bind fun o1 => bif (!o1.1) then (((A7 k) ((50 : Int), o1.2)).bind fun o2 => some (o2.1, o2.2.1, o2.2.2.1, o2.2.2.2, a1, a2, a3)) else (((A4 k) (o1.2)).bind fun o3 => some (true, (0 : Int), (0 : Int), o3.2.2.2.2, a1, o3.2.1, a3))
theorem B22 (k : Nat) (x : H152) : Un k x = Az5 k x := (Af _ _).trans (by kernel_rfl)
theorem Bsk (k : Nat) : Aa Tryz.prog 192 (Bkv k) := Ae (Az4 k) k rfl ⟨⟨Gp k, trivial⟩, ⟨Bb k, trivial⟩, ⟨Bc k, trivial⟩, trivial⟩ Ad Tryz.func192 (by kernel_rfl)
abbrev H154 : Type := (List (YT8)) × (List Int) × (List Int) × (List Int) × (Int)
abbrev H155 : Type := (Bool) × (Int) × (Int) × (List (YT8)) × (List Int) × (List Int) × (List Int) × (Int)
def Age : Sk := ⟨[.lf (.ptr 0 0), .lf (.sb 1 4)], [[.pv (.slice yt8)], q22, [.ptr 0 0], [.ptr 10 2], [.ptr 0 0], [.ptr 10 0], [.ptr 0 0], [.ptr 10 1], [.ptr 0 0], [.pv .str], [.pv .str, .pv .str, .pv (.int .i64)]], []⟩
def Av0 : Sk := ⟨[.lf (.erp 88 [(.int .i64), (.int .i64)])], Age.boxes, []⟩
def B07 (k : Nat) : EnvL := [(191, [Bmf k]), (192, [Bku k, Bkv k]), (142, [Fm k])]
def Avy (k : Nat) : Cfg := mkC (B07 k) 68 11 0
def Aav (k : Nat) : H154 → Option H155 := hid (Ac (Avy k) (k + 32) Tryz.f92 Age Av0)
def Bjy (k : Nat) : Sig := Ab Age Av0 (Aav k)
noncomputable def Avz (k : Nat) : H154 → Option H155
 | (a0, a1, a2, a3, a4) => ((Vi k) (a0, a2, a3, a4)).bind fun o1 => ((Um k) (o1.1, o1.2.1, o1.2.2.1, o1.2.2.2)).bind fun o2 => bif (!o2.1) then (some (o2.1, o2.2.1, o2.2.2.1, o2.2.2.2.1, a1, o2.2.2.2.2.1, o2.2.2.2.2.2.1, o2.2.2.2.2.2.2)) else (((Un k) (o2.2.2.2.1, o2.2.2.2.2.1, o2.2.2.2.2.2.1, o2.2.2.2.2.2.2)).bind fun o3 => bif (!o3.1) then (some (o3.1, o3.2.1, o3.2.2.1, o3.2.2.2.1, a1, o3.2.2.2.2.1, o3.2.2.2.2.2.1, o3.2.2.2.2.2.2)) else (((Bj k) (a1, o3.2.2.2.1)).bind fun o4 => bif (!o4.1) then (some (o4.1, o4.2.1, o4.2.2.1, o4.2.2.2.2, o4.2.2.2.1, o3.2.2.2.2.1, o3.2.2.2.2.2.1, o3.2.2.2.2.2.2)) else (some (true, (0 : Int), (0 : Int), o4.2.2.2.2, o4.2.2.2.1, o3.2.2.2.2.1, o3.2.2.2.2.2.1, o3.2.2.2.2.2.2))))
theorem B08 (k : Nat) (x : H154) : Aav k x = Avz k x := (Af _ _).trans (by kernel_rfl)
theorem Brf (k : Nat) : Aa Tryz.prog 92 (Bjy k) := Ae (Avy k) (k + 32) rfl ⟨⟨Bua k, trivial⟩, ⟨Bsj k, Bsk k, trivial⟩, ⟨Fv k, trivial⟩, trivial⟩ Ad Tryz.func92 (by kernel_rfl)
abbrev H156 : Type := (List Int) × (List Int) × (Int) × (Bool) × (Int) × (Int) × (List (YT8))
def fpfoei : Sk := ⟨[.lf (.ptr 0 0)], [[.pv (.slice yt8)]], []⟩
def fpfoeo : Sk := ⟨[.agg [.pv .str, .pv .str, .pv (.int .i64)], .lf (.erp 88 [(.int .i64), (.int .i64)])], fpfoei.boxes, []⟩
def fpfoeE (k : Nat) : EnvL := [(149, [Bl9 k]), (150, [Bkj k, Bkk k]), (93, [Fl k]), (92, [Bjy k])]
def Axd (k : Nat) : Cfg := { mkC (fpfoeE k) 76 1 0 with bl := [54, 56] }
def cpfoe (k : Nat) : (List (YT8)) → Option H156 := hid (Ac (Axd k) k Tryz.f160 fpfoei fpfoeo)
def sgpfoe (k : Nat) : Sig := Ab fpfoei fpfoeo (cpfoe k)
noncomputable def Axe (k : Nat) : (List (YT8)) → Option H156
 | a0 => ((Ab3 k) (a0, ([] : List Int), ([] : List Int), (0 : Int))).bind fun o1 => ((Abb k) (o1.1, o1.2.1, o1.2.2.1, o1.2.2.2)).bind fun o2 => ((Abc k) (o2.1, o2.2.1, o2.2.2.1, o2.2.2.2)).bind fun o3 => ((Bp k) (([59] : List Int), o3.1)).bind fun o4 => ((Aav k) (o4.1, o4.2, o3.2.1, o3.2.2.1, o3.2.2.2)).bind fun o5 => some (o5.2.2.2.2.2.1, o5.2.2.2.2.2.2.1, o5.2.2.2.2.2.2.2, o5.1, o5.2.1, o5.2.2.1, o5.2.2.2.1)
theorem fpfoe_e (k : Nat) (x : (List (YT8))) : cpfoe k x = Axe k x := (Af _ _).trans (by kernel_rfl)
theorem Brt (k : Nat) : Aa Tryz.prog 160 (sgpfoe k) := Ae (Axd k) k rfl ⟨⟨Bt5 k, trivial⟩, ⟨Br9 k, Bsa k, trivial⟩, ⟨Fu k, trivial⟩, ⟨Brf k, trivial⟩, trivial⟩ Ad Tryz.func160 (by kernel_rfl)
abbrev H157 : Type := (List Int) × (Int) × (List (YT8)) × (List Int) × (Int) × (List (YT1)) × (List (YT2)) × (List (YT3)) × (List ((List (YT4)) × (Unit))) × (List (YT5))
abbrev H158 : Type := (Bool) × (Int) × (Int) × (List Int) × (Int) × (List (YT8)) × (List Int) × (Int) × (List (YT1)) × (List (YT2)) × (List (YT3)) × (List ((List (YT4)) × (Unit))) × (List (YT5))
def Afb : Sk := ⟨[.lf (.ptr 0 0), .lf (.ptr 1 0), .lf (.ptr 2 0), .lf (.ptr 3 0), .lf (.ptr 4 0)], [[.ptr 5 0], [.pv .str], [.ptr 6 5], [.pv (.int .i64)], [.fn 160 [(5, 0)] []], [.pv (.slice yt8)], q21], [some (95, yt1), some (97, yt2), some (99, yt3), some (102, (.cons (.slice yt4) .nil))]⟩
def Afc : Sk := ⟨[.lf (.erp 88 [(.int .i64), (.int .i64)])], [[.ptr 5 0], [.pv .str], [.ptr 6 5], [.pv (.int .i64)], [.fn 160 [(5, 0)] []], [.pv (.slice yt8)], q23], [some (95, yt1), some (97, yt2), some (99, yt3), some (102, (.cons (.slice yt4) .nil)), some (106, yt5)]⟩
def Aup : Sk := ⟨sparse 37 [(0, .lf (.ptr 0 0)), (1, .lf (.ptr 1 0)), (2, .lf (.ptr 2 0)), (3, .lf (.ptr 3 0)), (4, .lf (.ptr 4 0))], [[.ptr 5 0], [.pv .str], [.ptr 6 5], [.pv (.int .i64)], [.fn 160 [(5, 0)] []], [.pv (.slice yt8)], q23], [some (95, yt1), some (97, yt2), some (99, yt3), some (102, (.cons (.slice yt4) .nil)), some (106, yt5)]⟩
abbrev Ae8 := H157
def Rb : Ae8 → St := stOf Aup 85
def B0f (k : Nat) : EnvL := [(143, [Ep k]), (144, [A9 k]), (145, [Ba k]), (160, [sgpfoe k])]
def Hd (k : Nat) : FnX H158 := mkX ({ mkC (B0f k) 85 7 4 with hint := fun i => look none [(1, some Aup)] i, bl := [54, 56], ld := [(29, 2), (30, 2), (31, 9999), (32, 6), (33, 54), (36, 9999)], sr := [(36, 6)] }) k Tryz.f202 Afc
def T1 (k : Nat) : H150 → Option H158 := hid (Ac (Hd k).C k Tryz.f202 Afb Afc)
def Bjh (k : Nat) : Sig := Ab Afb Afc (T1 k)
noncomputable def Afa (k : Nat) (J : JF H158) (L : LF H158) : H150 → Option H158
 | (a0, a1, a2, a3, a4, a5, a6, a7, a8) => L 1 [] k (Rb (a0, a1, a2, a3, a4, a5, a6, a7, a8, []))
theorem B0g (k : Nat) (x : H150) : T1 k x = Afa k (Hd k).J (Hd k).L x := by
 refine (Af _ _).trans ?_; apply cutX (Hd k) [] [] (st0 (Hd k).C Tryz.f202 Afb x) [] [(1, [], k)] (Afa k · · x) <;> intros <;> kernel_rfl
noncomputable def Rc (k j1 : Nat) (J : JF H158) (L : LF H158) : Ae8 → Option H158
 | (a0, a1, a2, a3, a4, a5, a6, a7, a8, a9) => ((Dh k) (a0, a2)).bind fun o1 => bif o1.1 then (bif (((List.length a9 : Nat) : Int) == a1) then (((A7 k) ((4 : Int), o1.2)).bind fun o2 => some (o2.1, o2.2.1, o2.2.2.1, a0, a1, o2.2.2.2, a3, a4, a5, a6, a7, a8, a9)) else (((A4 k) (o1.2)).bind fun o3 => ((cpfoe k) (o3.2.2.2.2)).bind fun o4 => bif (!o4.2.2.2.1) then (some (o4.2.2.2.1, o4.2.2.2.2.1, o4.2.2.2.2.2.1, a0, a1, o4.2.2.2.2.2.2, a3, a4, a5, a6, a7, a8, a9)) else (app 40 a9 ([(o4.1, (o4.2.1, (o4.2.2.1, ())))] : List (YT5)) fun o5 => L 1 [] j1 (Rb (a0, a1, o4.2.2.2.2.2.2, a3, a4, a5, a6, a7, a8, o5))))) else (some (true, (0 : Int), (0 : Int), a0, a1, o1.2, a3, a4, a5, a6, a7, a8, a9))
theorem Ae9 (k j1 : Nat) (x : Ae8) : (Hd k).L 1 [] (j1 + 1) (Rb x) = Rc k j1 (Hd k).J (Hd k).L x := by
 apply cutX (Hd k) [.r, .l, .b, .b] [j1] (Rb x) [] [(1, [], j1)] (Rc k j1 · · x) <;> intros <;> kernel_rfl
theorem Bqu (k : Nat) : Aa Tryz.prog 202 (Bjh k) := Ae (Hd k).C k rfl ⟨⟨Et k, trivial⟩, ⟨Bb k, trivial⟩, ⟨Bc k, trivial⟩, ⟨Brt k, trivial⟩, trivial⟩ Ad Tryz.func202 (by kernel_rfl)
abbrev H159 : Type := (List (YT8)) × (List Int) × (List Int) × (Int) × (List Int) × (Int) × (List Int) × (Int) × (List Int) × (Int) × (List Int) × (Int) × (List Int) × (List Int) × (Int)
abbrev H160 : Type := (Bool) × (Int) × (Int) × (List (YT8)) × (List Int) × (List Int) × (Int) × (List Int) × (Int) × (List Int) × (Int) × (List Int) × (Int) × (List Int) × (Int) × (List Int) × (List Int) × (Int) × (List (YT1)) × (List (YT2)) × (List (YT3)) × (List ((List (YT4)) × (Unit))) × (List (YT5))
def Awg : Sk := ⟨[.lf (.ptr 0 0), .lf (.sb 1 9)], [[.pv (.slice yt8)], q8, [.ptr 0 0], [.ptr 35 6], [.ptr 0 0], [.ptr 35 0], [.ptr 0 0], [.pv .str], [.ptr 0 0], [.pv .str], [.ptr 35 1], [.pv (.int .i64)], [.fn 152 [(0, 0)] []], [.ptr 0 0], [.pv .str], [.ptr 35 2], [.pv (.int .i64)], [.fn 154 [(0, 0)] []], [.ptr 0 0], [.pv .str], [.ptr 35 3], [.pv (.int .i64)], [.fn 156 [(0, 0)] []], [.ptr 0 0], [.pv .str], [.ptr 35 4], [.pv (.int .i64)], [.fn 158 [(0, 0)] []], [.ptr 0 0], [.pv .str], [.ptr 35 5], [.pv (.int .i64)], [.fn 160 [(0, 0)] []], [.ptr 0 0], [.pv .str], q7], []⟩
def Awh : Sk := ⟨[.lf (.erp 88 [(.int .i64), (.int .i64)])], [[.pv (.slice yt8)], q8, [.ptr 0 0], [.ptr 35 6], [.ptr 0 0], [.ptr 35 0], [.ptr 0 0], [.pv .str], [.ptr 0 0], [.pv .str], [.ptr 35 1], [.pv (.int .i64)], [.fn 152 [(0, 0)] []], [.ptr 0 0], [.pv .str], [.ptr 35 2], [.pv (.int .i64)], [.fn 154 [(0, 0)] []], [.ptr 0 0], [.pv .str], [.ptr 35 3], [.pv (.int .i64)], [.fn 156 [(0, 0)] []], [.ptr 0 0], [.pv .str], [.ptr 35 4], [.pv (.int .i64)], [.fn 158 [(0, 0)] []], [.ptr 0 0], [.pv .str], [.ptr 35 5], [.pv (.int .i64)], [.fn 160 [(0, 0)] []], [.ptr 0 0], [.pv .str], q23], [some (95, yt1), some (97, yt2), some (99, yt3), some (102, (.cons (.slice yt4) .nil)), some (106, yt5)]⟩
def B1h (k : Nat) : EnvL := [(191, [Bmb k]), (192, [Bkn k]), (142, [Fm k]), (194, [Bjl k]), (195, [Bjp k]), (196, [Bjr k]), (198, [Bjj k]), (202, [Bjh k])]
def Awe (k : Nat) : Cfg := mkC (B1h k) 73 36 0
def Aax (k : Nat) : H159 → Option H160 := hid (Ac (Awe k) (k + 32) Tryz.f92 Awg Awh)
def Bj2 (k : Nat) : Sig := Ab Awg Awh (Aax k)
noncomputable def Awf (k : Nat) : H159 → Option H160
 | (a0, a1, a2, a3, a4, a5, a6, a7, a8, a9, a10, a11, a12, a13, a14) => ((Vd k) (a0, a13, a14)).bind fun o1 => ((Uf k) (o1.1, o1.2.1, o1.2.2)).bind fun o2 => bif (!o2.1) then (some (o2.1, o2.2.1, o2.2.2.1, o2.2.2.2.1, a1, a2, a3, a4, a5, a6, a7, a8, a9, a10, a11, a12, o2.2.2.2.2.1, o2.2.2.2.2.2, [], [], [], [], [])) else (((Bj k) (a1, o2.2.2.2.1)).bind fun o3 => bif (!o3.1) then (some (o3.1, o3.2.1, o3.2.2.1, o3.2.2.2.2, o3.2.2.2.1, a2, a3, a4, a5, a6, a7, a8, a9, a10, a11, a12, o2.2.2.2.2.1, o2.2.2.2.2.2, [], [], [], [], [])) else (((T4 k) (a2, a3, o3.2.2.2.2, o2.2.2.2.2.1, o2.2.2.2.2.2)).bind fun o4 => bif (!o4.1) then (some (o4.1, o4.2.1, o4.2.2.1, o4.2.2.2.2.2.1, o3.2.2.2.1, o4.2.2.2.1, o4.2.2.2.2.1, a4, a5, a6, a7, a8, a9, a10, a11, a12, o4.2.2.2.2.2.2.1, o4.2.2.2.2.2.2.2.1, o4.2.2.2.2.2.2.2.2, [], [], [], [])) else (((T6 k) (a4, a5, o4.2.2.2.2.2.1, o4.2.2.2.2.2.2.1, o4.2.2.2.2.2.2.2.1, o4.2.2.2.2.2.2.2.2)).bind fun o5 => bif (!o5.1) then (some (o5.1, o5.2.1, o5.2.2.1, o5.2.2.2.2.2.1, o3.2.2.2.1, o4.2.2.2.1, o4.2.2.2.2.1, o5.2.2.2.1, o5.2.2.2.2.1, a6, a7, a8, a9, a10, a11, a12, o5.2.2.2.2.2.2.1, o5.2.2.2.2.2.2.2.1, o5.2.2.2.2.2.2.2.2.1, o5.2.2.2.2.2.2.2.2.2, [], [], [])) else (((T7 k) (a6, a7, o5.2.2.2.2.2.1, o5.2.2.2.2.2.2.1, o5.2.2.2.2.2.2.2.1, o5.2.2.2.2.2.2.2.2.1, o5.2.2.2.2.2.2.2.2.2)).bind fun o6 => bif (!o6.1) then (some (o6.1, o6.2.1, o6.2.2.1, o6.2.2.2.2.2.1, o3.2.2.2.1, o4.2.2.2.1, o4.2.2.2.2.1, o5.2.2.2.1, o5.2.2.2.2.1, o6.2.2.2.1, o6.2.2.2.2.1, a8, a9, a10, a11, a12, o6.2.2.2.2.2.2.1, o6.2.2.2.2.2.2.2.1, o6.2.2.2.2.2.2.2.2.1, o6.2.2.2.2.2.2.2.2.2.1, o6.2.2.2.2.2.2.2.2.2.2, [], [])) else (((T2 k) (a8, a9, o6.2.2.2.2.2.1, o6.2.2.2.2.2.2.1, o6.2.2.2.2.2.2.2.1, o6.2.2.2.2.2.2.2.2.1, o6.2.2.2.2.2.2.2.2.2.1, o6.2.2.2.2.2.2.2.2.2.2)).bind fun o7 => bif (!o7.1) then (some (o7.1, o7.2.1, o7.2.2.1, o7.2.2.2.2.2.1, o3.2.2.2.1, o4.2.2.2.1, o4.2.2.2.2.1, o5.2.2.2.1, o5.2.2.2.2.1, o6.2.2.2.1, o6.2.2.2.2.1, o7.2.2.2.1, o7.2.2.2.2.1, a10, a11, a12, o7.2.2.2.2.2.2.1, o7.2.2.2.2.2.2.2.1, o7.2.2.2.2.2.2.2.2.1, o7.2.2.2.2.2.2.2.2.2.1, o7.2.2.2.2.2.2.2.2.2.2.1, o7.2.2.2.2.2.2.2.2.2.2.2, [])) else (((T1 k) (a10, a11, o7.2.2.2.2.2.1, o7.2.2.2.2.2.2.1, o7.2.2.2.2.2.2.2.1, o7.2.2.2.2.2.2.2.2.1, o7.2.2.2.2.2.2.2.2.2.1, o7.2.2.2.2.2.2.2.2.2.2.1, o7.2.2.2.2.2.2.2.2.2.2.2)).bind fun o8 => bif (!o8.1) then (some (o8.1, o8.2.1, o8.2.2.1, o8.2.2.2.2.2.1, o3.2.2.2.1, o4.2.2.2.1, o4.2.2.2.2.1, o5.2.2.2.1, o5.2.2.2.2.1, o6.2.2.2.1, o6.2.2.2.2.1, o7.2.2.2.1, o7.2.2.2.2.1, o8.2.2.2.1, o8.2.2.2.2.1, a12, o8.2.2.2.2.2.2.1, o8.2.2.2.2.2.2.2.1, o8.2.2.2.2.2.2.2.2.1, o8.2.2.2.2.2.2.2.2.2.1, o8.2.2.2.2.2.2.2.2.2.2.1, o8.2.2.2.2.2.2.2.2.2.2.2.1, o8.2.2.2.2.2.2.2.2.2.2.2.2)) else (((Bj k) (a12, o8.2.2.2.2.2.1)).bind fun o9 => bif (!o9.1) then (some (o9.1, o9.2.1, o9.2.2.1, o9.2.2.2.2, o3.2.2.2.1, o4.2.2.2.1, o4.2.2.2.2.1, o5.2.2.2.1, o5.2.2.2.2.1, o6.2.2.2.1, o6.2.2.2.2.1, o7.2.2.2.1, o7.2.2.2.2.1, o8.2.2.2.1, o8.2.2.2.2.1, o9.2.2.2.1, o8.2.2.2.2.2.2.1, o8.2.2.2.2.2.2.2.1, o8.2.2.2.2.2.2.2.2.1, o8.2.2.2.2.2.2.2.2.2.1, o8.2.2.2.2.2.2.2.2.2.2.1, o8.2.2.2.2.2.2.2.2.2.2.2.1, o8.2.2.2.2.2.2.2.2.2.2.2.2)) else (some (true, (0 : Int), (0 : Int), o9.2.2.2.2, o3.2.2.2.1, o4.2.2.2.1, o4.2.2.2.2.1, o5.2.2.2.1, o5.2.2.2.2.1, o6.2.2.2.1, o6.2.2.2.2.1, o7.2.2.2.1, o7.2.2.2.2.1, o8.2.2.2.1, o8.2.2.2.2.1, o9.2.2.2.1, o8.2.2.2.2.2.2.1, o8.2.2.2.2.2.2.2.1, o8.2.2.2.2.2.2.2.2.1, o8.2.2.2.2.2.2.2.2.2.1, o8.2.2.2.2.2.2.2.2.2.2.1, o8.2.2.2.2.2.2.2.2.2.2.2.1, o8.2.2.2.2.2.2.2.2.2.2.2.2)))))))))
theorem B1i (k : Nat) (x : H159) : Aax k x = Awf k x := (Af _ _).trans (by kernel_rfl)
theorem Brk (k : Nat) : Aa Tryz.prog 92 (Bj2 k) := Ae (Awe k) (k + 32) rfl ⟨⟨Buc k, trivial⟩, ⟨Bsn k, trivial⟩, ⟨Fv k, trivial⟩, ⟨Bqy k, trivial⟩, ⟨Bq2 k, trivial⟩, ⟨Bq4 k, trivial⟩, ⟨Bqw k, trivial⟩, ⟨Bqu k, trivial⟩, trivial⟩ Ad Tryz.func92 (by kernel_rfl)
abbrev H161 : Type := (List Int) × (Int) × (Bool) × (Int) × (Int) × (List (YT8)) × (List (YT1)) × (List (YT2)) × (List (YT3)) × (List ((List (YT4)) × (Unit))) × (List (YT5))
def fpnodei : Sk := ⟨[.lf (.ptr 0 0)], [[.pv (.slice yt8)]], []⟩
def fpnodeo : Sk := ⟨[.agg [.pv .str, .own 0, .own 1, .own 2, .own 3, .own 4, .pv (.int .i64)], .lf (.erp 88 [(.int .i64), (.int .i64)])], fpnodei.boxes, [some (95, yt1), some (97, yt2), some (99, yt3), some (102, (.cons (.slice yt4) .nil)), some (106, yt5)]⟩
def fpnodeE (k : Nat) : EnvL := [(149, [sgpplace k]), (150, [sgpname k]), (93, [Fl k]), (151, [Bjk k]), (153, [Bjo k]), (155, [Bjq k]), (157, [Bji k]), (159, [Bjg k]), (92, [Bj2 k])]
def A0x (k : Nat) : Cfg := { mkC (fpnodeE k) 125 1 0 with bl := [54, 56] }
def cpnode (k : Nat) : (List (YT8)) → Option H161 := hid (Ac (A0x k) k Tryz.f97 fpnodei fpnodeo)
def sgpnode (k : Nat) : Sig := Ab fpnodei fpnodeo (cpnode k)
noncomputable def A0y (k : Nat) : (List (YT8)) → Option H161
 | a0 => ((cpplace k) (a0, ([] : List Int), (0 : Int))).bind fun o1 => ((cpname k) (o1.1, o1.2.1, o1.2.2)).bind fun o2 => ((Bp k) (([123] : List Int), o2.1)).bind fun o3 => ((Aam k) (([104, 101, 97, 100] : List Int), (16 : Int), o3.1, o2.2.1, o2.2.2)).bind fun o4 => ((Aao k) (([119, 97, 108, 107] : List Int), (8 : Int), o4.1, o4.2.1, o4.2.2.1)).bind fun o5 => ((Aap k) (([112, 104, 97, 115, 101] : List Int), (16 : Int), o5.1, o5.2.1, o5.2.2.1)).bind fun o6 => ((Aal k) (([103, 114, 111, 117, 112] : List Int), (4 : Int), o6.1, o6.2.1, o6.2.2.1)).bind fun o7 => ((Aak k) (([102, 111, 101] : List Int), (64 : Int), o7.1, o7.2.1, o7.2.2.1)).bind fun o8 => ((Bp k) (([125] : List Int), o8.1)).bind fun o9 => ((Aax k) (o9.1, o3.2, o4.2.2.2.1, o4.2.2.2.2, o5.2.2.2.1, o5.2.2.2.2, o6.2.2.2.1, o6.2.2.2.2, o7.2.2.2.1, o7.2.2.2.2, o8.2.2.2.1, o8.2.2.2.2, o9.2, o8.2.1, o8.2.2.1)).bind fun o10 => some (o10.2.2.2.2.2.2.2.2.2.2.2.2.2.2.2.2.1, o10.2.2.2.2.2.2.2.2.2.2.2.2.2.2.2.2.2.1, o10.1, o10.2.1, o10.2.2.1, o10.2.2.2.1, o10.2.2.2.2.2.2.2.2.2.2.2.2.2.2.2.2.2.2.1, o10.2.2.2.2.2.2.2.2.2.2.2.2.2.2.2.2.2.2.2.1, o10.2.2.2.2.2.2.2.2.2.2.2.2.2.2.2.2.2.2.2.2.1, o10.2.2.2.2.2.2.2.2.2.2.2.2.2.2.2.2.2.2.2.2.2.1, o10.2.2.2.2.2.2.2.2.2.2.2.2.2.2.2.2.2.2.2.2.2.2)
theorem B3k (k : Nat) (x : (List (YT8))) : cpnode k x = A0y k x := (Af _ _).trans (by kernel_rfl)
theorem Bsu (k : Nat) : Aa Tryz.prog 97 (sgpnode k) := Ae (A0x k) k rfl ⟨⟨Bud k, trivial⟩, ⟨Bso k, trivial⟩, ⟨Fu k, trivial⟩, ⟨Bqz k, trivial⟩, ⟨Bq3 k, trivial⟩, ⟨Bq5 k, trivial⟩, ⟨Bqx k, trivial⟩, ⟨Bqv k, trivial⟩, ⟨Brk k, trivial⟩, trivial⟩ Ad Tryz.func97 (by kernel_rfl)
abbrev H162 : Type := (List Int) × (Int) × (List (YT8)) × (Int) × (Int) × (Int) × (Int) × (Int) × (Int) × (Int) × (List (YT6))
abbrev H163 : Type := (List Int) × (Int) × (List (YT8)) × (Int) × (Int) × (Int) × (Int) × (Int) × (Int) × (Int)
abbrev H164 : Type := (Bool) × (Int) × (Int) × (List Int) × (Int) × (List (YT8)) × (Int) × (Int) × (Int) × (Int) × (Int) × (Int) × (Int) × (List (YT6))
def Afq : Sk := ⟨[.lf (.ptr 0 0), .lf (.ptr 1 0), .lf (.ptr 2 0), .lf (.ptr 3 0), .lf (.ptr 4 0)], [[.ptr 5 0], [.pv .str], [.ptr 6 5], [.pv (.int .i64)], [.fn 97 [(5, 0)] []], [.pv (.slice yt8)], q3], []⟩
def Afr : Sk := ⟨[.lf (.erp 88 [(.int .i64), (.int .i64)])], [[.ptr 5 0], [.pv .str], [.ptr 6 5], [.pv (.int .i64)], [.fn 97 [(5, 0)] []], [.pv (.slice yt8)], q24], [some (46, yt6)]⟩
def Au4 : Sk := ⟨sparse 37 [(0, .lf (.ptr 0 0)), (1, .lf (.ptr 1 0)), (2, .lf (.ptr 2 0)), (3, .lf (.ptr 3 0)), (4, .lf (.ptr 4 0))], [[.ptr 5 0], [.pv .str], [.ptr 6 5], [.pv (.int .i64)], [.fn 97 [(5, 0)] []], [.pv (.slice yt8)], q24], [some (46, yt6)]⟩
abbrev Afn := H162
def Rh : Afn → St := stOf Au4 90
def B0o (k : Nat) : EnvL := [(143, [Ep k]), (144, [A9 k]), (145, [Ba k]), (97, [sgpnode k])]
def Hg (k : Nat) : FnX H164 := mkX ({ mkC (B0o k) 90 7 0 with hint := fun i => look none [(1, some Au4)] i, bl := [54, 56], ld := [(29, 2), (30, 2), (31, 9999), (32, 6), (33, 54), (36, 9999)], sr := [(36, 6)] }) k Tryz.f148 Afr
def T5 (k : Nat) : H163 → Option H164 := hid (Ac (Hg k).C k Tryz.f148 Afq Afr)
def Bjn (k : Nat) : Sig := Ab Afq Afr (T5 k)
noncomputable def Afp (k : Nat) (J : JF H164) (L : LF H164) : H163 → Option H164
 | (a0, a1, a2, a3, a4, a5, a6, a7, a8, a9) => L 1 [] k (Rh (a0, a1, a2, a3, a4, a5, a6, a7, a8, a9, []))
theorem B0p (k : Nat) (x : H163) : T5 k x = Afp k (Hg k).J (Hg k).L x := by
 refine (Af _ _).trans ?_; apply cutX (Hg k) [] [] (st0 (Hg k).C Tryz.f148 Afq x) [] [(1, [], k)] (Afp k · · x) <;> intros <;> kernel_rfl
noncomputable def Ri (k j1 : Nat) (J : JF H164) (L : LF H164) : Afn → Option H164
 | (a0, a1, a2, a3, a4, a5, a6, a7, a8, a9, a10) => ((Dh k) (a0, a2)).bind fun o1 => bif o1.1 then (bif (((List.length a10 : Nat) : Int) == a1) then (((A7 k) ((4 : Int), o1.2)).bind fun o2 => some (o2.1, o2.2.1, o2.2.2.1, a0, a1, o2.2.2.2, a3, a4, a5, a6, a7, a8, a9, a10)) else (((A4 k) (o1.2)).bind fun o3 => ((cpnode k) (o3.2.2.2.2)).bind fun o4 => bif (!o4.2.2.1) then (some (o4.2.2.1, o4.2.2.2.1, o4.2.2.2.2.1, a0, a1, o4.2.2.2.2.2.1, a3, a4, a5, a6, a7, a8, a9, a10)) else (app 144 a10 ([(o4.1, (o4.2.2.2.2.2.2.1, (o4.2.2.2.2.2.2.2.1, (o4.2.2.2.2.2.2.2.2.1, (o4.2.2.2.2.2.2.2.2.2.1, (o4.2.2.2.2.2.2.2.2.2.2, (o4.2.1, ())))))))] : List (YT6)) fun o5 => L 1 [] j1 (Rh (a0, a1, o4.2.2.2.2.2.1, a3, a4, a5, a6, a7, a8, a9, o5))))) else (some (true, (0 : Int), (0 : Int), a0, a1, o1.2, a3, a4, a5, a6, a7, a8, a9, a10))
theorem Afo (k j1 : Nat) (x : Afn) : (Hg k).L 1 [] (j1 + 1) (Rh x) = Ri k j1 (Hg k).J (Hg k).L x := by
 apply cutX (Hg k) [.r, .l, .b, .b] [j1] (Rh x) [] [(1, [], j1)] (Ri k j1 · · x) <;> intros <;> kernel_rfl
theorem Bq0 (k : Nat) : Aa Tryz.prog 148 (Bjn k) := Ae (Hg k).C k rfl ⟨⟨Et k, trivial⟩, ⟨Bb k, trivial⟩, ⟨Bc k, trivial⟩, ⟨Bsu k, trivial⟩, trivial⟩ Ad Tryz.func148 (by kernel_rfl)
end
end Go.Proofs.YtipcabmhdokfjaaGreatDoorV
