import Derived.Test.YtipcabmhdokfjaaGreatDoorB7
import Derived.Test.YtipcabmhdokfjaaGreatDoorB3
/-! Joined, names shortened: G5, G6, G7, VM, LxS. -/
set_option linter.unusedVariables false
set_option linter.unusedSimpArgs false
set_option maxHeartbeats 4000000
set_option maxRecDepth 100000
namespace Go.Proofs.YtipcabmhdokfjaaGreatDoorV
open Go Go.RowKit
noncomputable section
def Ah2 : Sk := ⟨[.lf (.ptr 0 0), .lf (.ptr 1 0)], [[.ptr 2 0], [.ptr 3 2], [.pv (.slice yt8)], [.pv .str, .nil .sl, .pv (.int .i64)]], []⟩
def A5u : Sk := ⟨[.lf (.nil .ifc)], Ah2.boxes, []⟩
def A5s (k : Nat) : Cfg := { mkC [] 60 4 0 with ld := [(3, 1), (4, 0), (5, 9999), (6, 9999), (7, 2), (9, 9999), (10, 9999), (11, 9999)], sr := [(11, 3)] }
def Vh (k : Nat) : H104 → Option H104 := hid (Ac (A5s k) k Tryz.f191 Ah2 A5u)
def Bme (k : Nat) : Sig := Ab Ah2 A5u (Vh k)
noncomputable def A5t (k : Nat) : H104 → Option H104
 | (a0, a1, a2) => idx zt8 a0 (0 : Int) fun o1 => some (a0, a1, o1.2.2.2.1)
theorem B5j (k : Nat) (x : H104) : Vh k x = A5t k x := (Af _ _).trans (by kernel_rfl)
theorem Bt9 (k : Nat) : Aa Tryz.prog 191 (Bme k) := Ae (A5s k) (l := []) k rfl trivial Ad Tryz.func191 (by kernel_rfl)
def Agy : Sk := ⟨[.lf (.ptr 0 0), .lf (.ptr 1 0)], [[.ptr 2 0], [.ptr 3 0], [.pv (.slice yt8)], [.pv .str, .nil .sl, .pv (.int .i64)]], []⟩
def Azx : Sk := ⟨[.lf (.erp 88 [(.int .i64), (.int .i64)])], Agy.boxes, []⟩
def B2v (k : Nat) : EnvL := [(193, [sgpnamed k]), (144, [A9 k]), (145, [Ba k])]
def Azv (k : Nat) : Cfg := { mkC (B2v k) 61 4 0 with ef := [(10, (([2], []), ([], [])))], ld := [(8, 1), (9, 0), (12, 9999)], sr := [(12, 3)] }
def Uk (k : Nat) : H104 → Option H107 := hid (Ac (Azv k) k Tryz.f192 Agy Azx)
def Bks (k : Nat) : Sig := Ab Agy Azx (Uk k)
noncomputable def Azw (k : Nat) : H104 → Option H107
 | (a0, a1, a2) => ((cpnamed k) (a0)).bind fun o1 => bif (!o1.1) then (((A7 k) ((50 : Int), o1.2)).bind fun o2 => some (o2.1, o2.2.1, o2.2.2.1, o2.2.2.2, a1, a2)) else (((A4 k) (o1.2)).bind fun o3 => some (true, (0 : Int), (0 : Int), o3.2.2.2.2, o3.2.1, a2))
theorem B2w (k : Nat) (x : H104) : Uk k x = Azw k x := (Af _ _).trans (by kernel_rfl)
theorem Bsh (k : Nat) : Aa Tryz.prog 192 (Bks k) := Ae (Azv k) k rfl ⟨⟨Gp k, trivial⟩, ⟨Bb k, trivial⟩, ⟨Bc k, trivial⟩, trivial⟩ Ad Tryz.func192 (by kernel_rfl)
def A0k : Sk := ⟨[.lf (.rpt [(.slice yt8)])], [], []⟩
def A0l : Sk := ⟨[.lf (.pv .bool)], [], []⟩
def B3a (k : Nat) : EnvL := [(119, [Y0 k])]
def A0i (k : Nat) : Cfg := mkC (B3a k) 70 0 0
def Pt (k : Nat) : (List (YT8)) → Option Bool := hid (Ac (A0i k) k Tryz.f193 A0k A0l)
def Aod (k : Nat) : Sig := Ab A0k A0l (Pt k)
noncomputable def A0j (k : Nat) : (List (YT8)) → Option Bool
 | a0 => idx zt8 a0 (0 : Int) fun o1 => bif (o1.1 == (1 : Int)) then (idx zt8 a0 (0 : Int) fun o2 => ((Mp k) (o2.2.1)).bind fun o3 => some (!o3)) else (some false)
theorem B3b (k : Nat) (x : (List (YT8))) : Pt k x = A0j k x := (Af _ _).trans (by kernel_rfl)
theorem Aqm (k : Nat) : Aa Tryz.prog 193 (Aod k) := Ae (A0i k) k rfl ⟨⟨Aag k, trivial⟩, trivial⟩ Ad Tryz.func193 (by kernel_rfl)
def Ay1 : Sk := ⟨[.lf (.ptr 0 0), .lf (.ptr 1 0)], [[.pv (.slice yt8)], [.pv .str]], []⟩
def Ay2 : Sk := ⟨[.lf (.fn 192 [] [(2, 0), (3, 0)])], [[.pv (.slice yt8)], [.pv .str], [.ptr 0 0], [.ptr 1 0]], []⟩
def Ay0 (k : Nat) : Cfg := { mkC [] 54 2 0 with bl := [54, 56] }
def Mv (k : Nat) : H101 → Option H101 := hid (Ac (Ay0 k) k Tryz.f150 Ay1 Ay2)
def Aoc (k : Nat) : Sig := Ab Ay1 Ay2 (Mv k)
noncomputable def Lp (k : Nat) : H101 → Option H101
 | (a0, a1) => some (a0, a1)
theorem M7 (k : Nat) (x : H101) : Mv k x = Lp k x := (Af _ _).trans (by kernel_rfl)
theorem Aql (k : Nat) : Aa Tryz.prog 150 (Aoc k) := Ae (Ay0 k) (l := []) k rfl trivial Ad Tryz.func150 (by kernel_rfl)
abbrev H128 : Type := (Bool) × (Int) × (Int) × (List (YT8)) × (List Int)
def Agz : Sk := ⟨[.lf (.ptr 0 0), .lf (.ptr 1 0)], [[.ptr 2 0], [.ptr 3 0], [.pv (.slice yt8)], [.pv .str]], []⟩
def Az0 : Sk := ⟨[.lf (.erp 88 [(.int .i64), (.int .i64)])], Agz.boxes, []⟩
def B2x (k : Nat) : EnvL := [(193, [sgpnamed k]), (144, [A9 k]), (145, [Ba k])]
def Azy (k : Nat) : Cfg := { mkC (B2x k) 61 4 0 with ef := [(10, (([2], []), ([], [])))], ld := [(8, 1), (9, 0), (12, 9999)], sr := [(12, 3)] }
def Ul (k : Nat) : H101 → Option H128 := hid (Ac (Azy k) k Tryz.f192 Agz Az0)
def Bkt (k : Nat) : Sig := Ab Agz Az0 (Ul k)
noncomputable def Azz (k : Nat) : H101 → Option H128
 | (a0, a1) => ((cpnamed k) (a0)).bind fun o1 => bif (!o1.1) then (((A7 k) ((50 : Int), o1.2)).bind fun o2 => some (o2.1, o2.2.1, o2.2.2.1, o2.2.2.2, a1)) else (((A4 k) (o1.2)).bind fun o3 => some (true, (0 : Int), (0 : Int), o3.2.2.2.2, o3.2.1))
theorem B2y (k : Nat) (x : H101) : Ul k x = Azz k x := (Af _ _).trans (by kernel_rfl)
theorem Bsi (k : Nat) : Aa Tryz.prog 192 (Bkt k) := Ae (Azy k) k rfl ⟨⟨Gp k, trivial⟩, ⟨Bb k, trivial⟩, ⟨Bc k, trivial⟩, trivial⟩ Ad Tryz.func192 (by kernel_rfl)
def Agl : Sk := ⟨[.lf (.ptr 0 0), .lf (.sb 1 1)], [[.pv (.slice yt8)], [.fn 192 [] [(2, 0), (3, 0)]], [.ptr 0 0], [.ptr 4 0], [.pv .str]], []⟩
def Aww : Sk := ⟨[.lf (.erp 88 [(.int .i64), (.int .i64)])], Agl.boxes, []⟩
def B1r (k : Nat) : EnvL := [(192, [Bkt k])]
def Awv (k : Nat) : Cfg := mkC (B1r k) 68 5 0
def Mt (k : Nat) : H101 → Option H128 := hid (Ac (Awv k) (k + 32) Tryz.f92 Agl Aww)
def An9 (k : Nat) : Sig := Ab Agl Aww (Mt k)
noncomputable def Lo (k : Nat) : H101 → Option H128
 | (a0, a1) => ((Ul k) (a0, a1)).bind fun o1 => bif (!o1.1) then (some (o1.1, o1.2.1, o1.2.2.1, o1.2.2.2.1, o1.2.2.2.2)) else (some (true, (0 : Int), (0 : Int), o1.2.2.2.1, o1.2.2.2.2))
theorem M6 (k : Nat) (x : H101) : Mt k x = Lo k x := (Af _ _).trans (by kernel_rfl)
theorem Aqi (k : Nat) : Aa Tryz.prog 92 (An9 k) := Ae (Awv k) (k + 32) rfl ⟨⟨Bsi k, trivial⟩, trivial⟩ Ad Tryz.func92 (by kernel_rfl)
def Agn : Sk := ⟨[.lf (.ptr 0 0), .lf (.sb 1 1)], [[.pv (.slice yt8)], [.fn 142 [] [(2, 0), (3, 0)]], [.ptr 0 0], [.pv .str]], []⟩
def Awz : Sk := ⟨[.lf (.erp 88 [(.int .i64), (.int .i64)])], Agn.boxes, []⟩
def B1s (k : Nat) : EnvL := [(142, [Fm k])]
def Awx (k : Nat) : Cfg := mkC (B1s k) 68 4 0
def Mu (k : Nat) : H101 → Option H128 := hid (Ac (Awx k) (k + 32) Tryz.f92 Agn Awz)
def Aoa (k : Nat) : Sig := Ab Agn Awz (Mu k)
noncomputable def Agm (k : Nat) : H101 → Option H128
 | (a0, a1) => ((Bj k) (a1, a0)).bind fun o1 => bif (!o1.1) then (some (o1.1, o1.2.1, o1.2.2.1, o1.2.2.2.2, o1.2.2.2.1)) else (some (true, (0 : Int), (0 : Int), o1.2.2.2.2, o1.2.2.2.1))
theorem Awy (k : Nat) (x : H101) : Mu k x = Agm k x := (Af _ _).trans (by kernel_rfl)
theorem Aqj (k : Nat) : Aa Tryz.prog 92 (Aoa k) := Ae (Awx k) (k + 32) rfl ⟨⟨Fv k, trivial⟩, trivial⟩ Ad Tryz.func92 (by kernel_rfl)
abbrev H129 : Type := (Int) × (List Int) × (Int) × (List (YT8)) × (List (List Int))
abbrev H130 : Type := (Int) × (List Int) × (Int) × (List (YT8))
abbrev H131 : Type := (Bool) × (Int) × (Int) × (Int) × (List Int) × (Int) × (List (YT8)) × (List (List Int))
def Ahb : Sk := ⟨[.lf (.ptr 0 0), .lf (.ptr 1 0), .lf (.ptr 2 0)], [[.ptr 3 1], [.pv (.int .i64)], [.ptr 4 0], [.pv .str, .nil .sl, .pv (.int .i64)], [.pv (.slice yt8)]], []⟩
def Ahc : Sk := ⟨[.lf (.erp 88 [(.int .i64), (.int .i64)])], [[.ptr 3 1], [.pv (.int .i64)], [.ptr 4 0], [.pv .str, .own 0, .pv (.int .i64)], [.pv (.slice yt8)]], [some (9, .str)]⟩
def A0t : Sk := ⟨sparse 44 [(0, .lf (.ptr 0 0)), (1, .lf (.ptr 1 0)), (2, .lf (.ptr 2 0))], [[.ptr 3 1], [.pv (.int .i64)], [.ptr 4 0], [.pv .str, .own 0, .pv (.int .i64)], [.pv (.slice yt8)]], [some (9, .str)]⟩
abbrev Ag9 := H129
def Na : Ag9 → St := stOf A0t 136
def B3h (k : Nat) : EnvL := [(193, [Aod k]), (144, [A9 k]), (150, [Aoc k]), (92, [An9 k, Aoa k]), (143, [Ep k]), (93, [Fl k]), (145, [Ba k])]
def Hl (k : Nat) : FnX H131 := mkX ({ mkC (B3h k) 136 5 0 with hint := fun i => look none [(1, some A0t)] i, bl := [54, 56], ef := [(20, (([4, 52], []), ([68, 112], []))), (22, (([4, 52, 68, 69, 112], []), ([], []))), (39, (([4], []), ([87, 131], []))), (41, (([4, 87, 88, 131], []), ([], [])))], ld := [(18, 2), (19, 2), (26, 0), (27, 0), (28, 9999), (29, 3), (30, 52), (33, 9999), (37, 2), (38, 2)], sr := [(33, 3)], rb := [21, 40] }) k Tryz.f211 Ahc
def Uq (k : Nat) : H130 → Option H131 := hid (Ac (Hl k).C k Tryz.f211 Ahb Ahc)
def Bkz (k : Nat) : Sig := Ab Ahb Ahc (Uq k)
noncomputable def Aha (k : Nat) (J : JF H131) (L : LF H131) : H130 → Option H131
 | (a0, a1, a2, a3) => L 1 [] k (Na (a0, a1, a2, a3, []))
theorem B3i (k : Nat) (x : H130) : Uq k x = Aha k (Hl k).J (Hl k).L x := by
 refine (Af _ _).trans ?_; apply cutX (Hl k) [] [] (st0 (Hl k).C Tryz.f211 Ahb x) [] [(1, [], k)] (Aha k · · x) <;> intros <;> kernel_rfl
noncomputable def Nb (k j1 : Nat) (J : JF H131) (L : LF H131) : Ag9 → Option H131
 | (a0, a1, a2, a3, a4) => bif (((List.length a4 : Nat) : Int) == a0) then (((Pt k) (a3)).bind fun o1 => bif o1 then (((A7 k) ((4 : Int), a3)).bind fun o2 => some (o2.1, o2.2.1, o2.2.2.1, a0, a1, a2, o2.2.2.2, a4)) else (((Mv k) (a3, ([] : List Int))).bind fun o3 => ((Mt k) (o3.1, o3.2)).bind fun o4 => bif (!o4.1) then (some (o4.1, o4.2.1, o4.2.2.1, a0, a1, a2, o4.2.2.2.1, a4)) else (app 16 a4 ([o4.2.2.2.2] : List (List Int)) fun o5 => ((Dh k) (([44] : List Int), o4.2.2.2.1)).bind fun o6 => bif (!o6.1) then (((Bp k) (([59] : List Int), o6.2)).bind fun o7 => ((Mu k) (o7.1, o7.2)).bind fun o8 => some (o8.1, o8.2.1, o8.2.2.1, a0, a1, a2, o8.2.2.2.1, o5)) else (((A4 k) (o6.2)).bind fun o9 => L 1 [] j1 (Na (a0, a1, a2, o9.2.2.2.2, o5)))))) else (((Mv k) (a3, ([] : List Int))).bind fun o10 => ((Mt k) (o10.1, o10.2)).bind fun o11 => bif (!o11.1) then (some (o11.1, o11.2.1, o11.2.2.1, a0, a1, a2, o11.2.2.2.1, a4)) else (app 16 a4 ([o11.2.2.2.2] : List (List Int)) fun o12 => ((Dh k) (([44] : List Int), o11.2.2.2.1)).bind fun o13 => bif (!o13.1) then (((Bp k) (([59] : List Int), o13.2)).bind fun o14 => ((Mu k) (o14.1, o14.2)).bind fun o15 => some (o15.1, o15.2.1, o15.2.2.1, a0, a1, a2, o15.2.2.2.1, o12)) else (((A4 k) (o13.2)).bind fun o16 => L 1 [] j1 (Na (a0, a1, a2, o16.2.2.2.2, o12)))))
theorem Wz (k j1 : Nat) (x : Ag9) : (Hl k).L 1 [] (j1 + 1) (Na x) = Nb k j1 (Hl k).J (Hl k).L x := by
 apply cutX (Hl k) [.r, .b, .b] [j1] (Na x) [] [(1, [], j1)] (Nb k j1 · · x) <;> intros <;> kernel_rfl
theorem Bsr (k : Nat) : Aa Tryz.prog 211 (Bkz k) := Ae (Hl k).C k rfl ⟨⟨Aqm k, trivial⟩, ⟨Bb k, trivial⟩, ⟨Aql k, trivial⟩, ⟨Aqi k, Aqj k, trivial⟩, ⟨Et k, trivial⟩, ⟨Fu k, trivial⟩, ⟨Bc k, trivial⟩, trivial⟩ Ad Tryz.func211 (by kernel_rfl)
abbrev H132 : Type := (Bool) × (Int) × (Int) × (List (YT8)) × (List Int) × (Int) × (List Int) × (Int) × (List (List Int))
def Awt : Sk := ⟨[.lf (.ptr 0 0), .lf (.sb 1 4)], [[.pv (.slice yt8)], q17, [.ptr 0 0], [.ptr 11 2], [.ptr 0 0], [.ptr 11 0], [.ptr 0 0], [.pv .str], [.ptr 11 1], [.pv (.int .i64)], [.ptr 0 0], [.pv .str, .nil .sl, .pv (.int .i64)]], []⟩
def Awu : Sk := ⟨[.lf (.erp 88 [(.int .i64), (.int .i64)])], [[.pv (.slice yt8)], q17, [.ptr 0 0], [.ptr 11 2], [.ptr 0 0], [.ptr 11 0], [.ptr 0 0], [.pv .str], [.ptr 11 1], [.pv (.int .i64)], [.ptr 0 0], [.pv .str, .own 0, .pv (.int .i64)]], [some (9, .str)]⟩
def B1p (k : Nat) : EnvL := [(191, [Bme k]), (192, [Bks k]), (142, [Fm k]), (211, [Bkz k])]
def Awr (k : Nat) : Cfg := mkC (B1p k) 69 12 0
def Aa1 (k : Nat) : H106 → Option H132 := hid (Ac (Awr k) (k + 32) Tryz.f92 Awt Awu)
def Bj6 (k : Nat) : Sig := Ab Awt Awu (Aa1 k)
noncomputable def Aws (k : Nat) : H106 → Option H132
 | (a0, a1, a2, a3, a4) => ((Vh k) (a0, a3, a4)).bind fun o1 => ((Uk k) (o1.1, o1.2.1, o1.2.2)).bind fun o2 => bif (!o2.1) then (some (o2.1, o2.2.1, o2.2.2.1, o2.2.2.2.1, a1, a2, o2.2.2.2.2.1, o2.2.2.2.2.2, [])) else (((Bj k) (a1, o2.2.2.2.1)).bind fun o3 => bif (!o3.1) then (some (o3.1, o3.2.1, o3.2.2.1, o3.2.2.2.2, o3.2.2.2.1, a2, o2.2.2.2.2.1, o2.2.2.2.2.2, [])) else (((Uq k) (a2, o2.2.2.2.2.1, o2.2.2.2.2.2, o3.2.2.2.2)).bind fun o4 => bif (!o4.1) then (some (o4.1, o4.2.1, o4.2.2.1, o4.2.2.2.2.2.2.1, o3.2.2.2.1, o4.2.2.2.1, o4.2.2.2.2.1, o4.2.2.2.2.2.1, o4.2.2.2.2.2.2.2)) else (some (true, (0 : Int), (0 : Int), o4.2.2.2.2.2.2.1, o3.2.2.2.1, o4.2.2.2.1, o4.2.2.2.2.1, o4.2.2.2.2.2.1, o4.2.2.2.2.2.2.2))))
theorem B1q (k : Nat) (x : H106) : Aa1 k x = Aws k x := (Af _ _).trans (by kernel_rfl)
theorem Bro (k : Nat) : Aa Tryz.prog 92 (Bj6 k) := Ae (Awr k) (k + 32) rfl ⟨⟨Bt9 k, trivial⟩, ⟨Bsh k, trivial⟩, ⟨Fv k, trivial⟩, ⟨Bsr k, trivial⟩, trivial⟩ Ad Tryz.func92 (by kernel_rfl)
abbrev H133 : Type := (List Int) × (Int) × (Bool) × (Int) × (Int) × (List (YT8)) × (List (List Int))
def fpphasei : Sk := ⟨[.lf (.ptr 0 0)], [[.pv (.slice yt8)]], []⟩
def fpphaseo : Sk := ⟨[.agg [.pv .str, .own 0, .pv (.int .i64)], .lf (.erp 88 [(.int .i64), (.int .i64)])], fpphasei.boxes, [some (9, .str)]⟩
def B5a (k : Nat) : EnvL := [(149, [Bl8 k]), (150, [Bki k]), (93, [Fl k]), (197, [sgpnames k]), (92, [Bj6 k])]
def A40 (k : Nat) : Cfg := { mkC (B5a k) 77 1 0 with bl := [54, 56] }
def cpphase (k : Nat) : (List (YT8)) → Option H133 := hid (Ac (A40 k) k Tryz.f156 fpphasei fpphaseo)
def sgpphase (k : Nat) : Sig := Ab fpphasei fpphaseo (cpphase k)
noncomputable def A41 (k : Nat) : (List (YT8)) → Option H133
 | a0 => ((Ab2 k) (a0, ([] : List Int), (0 : Int))).bind fun o1 => ((Aba k) (o1.1, o1.2.1, o1.2.2)).bind fun o2 => ((Bp k) (([58] : List Int), o2.1)).bind fun o3 => ((cpnames k) ((16 : Int), o3.1, o2.2.1, o2.2.2)).bind fun o4 => ((Aa1 k) (o4.1, o3.2, o4.2.2.2, o4.2.1, o4.2.2.1)).bind fun o5 => some (o5.2.2.2.2.2.2.1, o5.2.2.2.2.2.2.2.1, o5.1, o5.2.1, o5.2.2.1, o5.2.2.2.1, o5.2.2.2.2.2.2.2.2)
theorem B5b (k : Nat) (x : (List (YT8))) : cpphase k x = A41 k x := (Af _ _).trans (by kernel_rfl)
theorem Bt1 (k : Nat) : Aa Tryz.prog 156 (sgpphase k) := Ae (A40 k) k rfl ⟨⟨Bt4 k, trivial⟩, ⟨Br8 k, trivial⟩, ⟨Fu k, trivial⟩, ⟨Bss k, trivial⟩, ⟨Bro k, trivial⟩, trivial⟩ Ad Tryz.func156 (by kernel_rfl)
abbrev H134 : Type := (List Int) × (Int) × (List (YT8)) × (List Int) × (Int) × (List (YT1)) × (List (YT2)) × (List (YT3))
abbrev H135 : Type := (Bool) × (Int) × (Int) × (List Int) × (Int) × (List (YT8)) × (List Int) × (Int) × (List (YT1)) × (List (YT2)) × (List (YT3))
def Af0 : Sk := ⟨[.lf (.ptr 0 0), .lf (.ptr 1 0), .lf (.ptr 2 0), .lf (.ptr 3 0), .lf (.ptr 4 0)], [[.ptr 5 0], [.pv .str], [.ptr 6 3], [.pv (.int .i64)], [.fn 156 [(5, 0)] []], [.pv (.slice yt8)], q16], [some (95, yt1), some (97, yt2)]⟩
def Af1 : Sk := ⟨[.lf (.erp 88 [(.int .i64), (.int .i64)])], [[.ptr 5 0], [.pv .str], [.ptr 6 3], [.pv (.int .i64)], [.fn 156 [(5, 0)] []], [.pv (.slice yt8)], q18], [some (95, yt1), some (97, yt2), some (99, yt3)]⟩
def Ave : Sk := ⟨sparse 37 [(0, .lf (.ptr 0 0)), (1, .lf (.ptr 1 0)), (2, .lf (.ptr 2 0)), (3, .lf (.ptr 3 0)), (4, .lf (.ptr 4 0))], [[.ptr 5 0], [.pv .str], [.ptr 6 3], [.pv (.int .i64)], [.fn 156 [(5, 0)] []], [.pv (.slice yt8)], q18], [some (95, yt1), some (97, yt2), some (99, yt3)]⟩
abbrev Afx := H134
def Rl : Afx → St := stOf Ave 86
def B0u (k : Nat) : EnvL := [(143, [Ep k]), (144, [A9 k]), (145, [Ba k]), (156, [sgpphase k])]
def Hi (k : Nat) : FnX H135 := mkX ({ mkC (B0u k) 86 7 2 with hint := fun i => look none [(1, some Ave)] i, bl := [54, 56], ld := [(29, 2), (30, 2), (31, 9999), (32, 6), (33, 54), (36, 9999)], sr := [(36, 6)] }) k Tryz.f196 Af1
def T7 (k : Nat) : H124 → Option H135 := hid (Ac (Hi k).C k Tryz.f196 Af0 Af1)
def Bjr (k : Nat) : Sig := Ab Af0 Af1 (T7 k)
noncomputable def Afz (k : Nat) (J : JF H135) (L : LF H135) : H124 → Option H135
 | (a0, a1, a2, a3, a4, a5, a6) => L 1 [] k (Rl (a0, a1, a2, a3, a4, a5, a6, []))
theorem B0v (k : Nat) (x : H124) : T7 k x = Afz k (Hi k).J (Hi k).L x := by
 refine (Af _ _).trans ?_; apply cutX (Hi k) [] [] (st0 (Hi k).C Tryz.f196 Af0 x) [] [(1, [], k)] (Afz k · · x) <;> intros <;> kernel_rfl
noncomputable def Rm (k j1 : Nat) (J : JF H135) (L : LF H135) : Afx → Option H135
 | (a0, a1, a2, a3, a4, a5, a6, a7) => ((Dh k) (a0, a2)).bind fun o1 => bif o1.1 then (bif (((List.length a7 : Nat) : Int) == a1) then (((A7 k) ((4 : Int), o1.2)).bind fun o2 => some (o2.1, o2.2.1, o2.2.2.1, a0, a1, o2.2.2.2, a3, a4, a5, a6, a7)) else (((A4 k) (o1.2)).bind fun o3 => ((cpphase k) (o3.2.2.2.2)).bind fun o4 => bif (!o4.2.2.1) then (some (o4.2.2.1, o4.2.2.2.1, o4.2.2.2.2.1, a0, a1, o4.2.2.2.2.2.1, a3, a4, a5, a6, a7)) else (app 48 a7 ([(o4.1, (o4.2.2.2.2.2.2, (o4.2.1, ())))] : List (YT3)) fun o5 => L 1 [] j1 (Rl (a0, a1, o4.2.2.2.2.2.1, a3, a4, a5, a6, o5))))) else (some (true, (0 : Int), (0 : Int), a0, a1, o1.2, a3, a4, a5, a6, a7))
theorem Afy (k j1 : Nat) (x : Afx) : (Hi k).L 1 [] (j1 + 1) (Rl x) = Rm k j1 (Hi k).J (Hi k).L x := by
 apply cutX (Hi k) [.r, .l, .b, .b] [j1] (Rl x) [] [(1, [], j1)] (Rm k j1 · · x) <;> intros <;> kernel_rfl
theorem Bq4 (k : Nat) : Aa Tryz.prog 196 (Bjr k) := Ae (Hi k).C k rfl ⟨⟨Et k, trivial⟩, ⟨Bb k, trivial⟩, ⟨Bc k, trivial⟩, ⟨Bt1 k, trivial⟩, trivial⟩ Ad Tryz.func196 (by kernel_rfl)
def fpseesi : Sk := ⟨[.lf (.ptr 0 0), .lf (.pv .str)], [[.pv (.slice yt8)]], []⟩
def fpseeso : Sk := ⟨[.lf (.fn 212 [] [(1, 0), (2, 0)])], [[.pv (.slice yt8)], [.ptr 0 0], [.pv .str]], []⟩
def A6a (k : Nat) : Cfg := { mkC [] 54 1 0 with bl := [54, 56] }
def cpsees (k : Nat) : H91 → Option H101 := hid (Ac (A6a k) k Tryz.f199 fpseesi fpseeso)
def sgpsees (k : Nat) : Sig := Ab fpseesi fpseeso (cpsees k)
noncomputable def A6c (k : Nat) : H91 → Option H101
 | (a0, a1) => some (a1, a0)
theorem B5r (k : Nat) (x : H91) : cpsees k x = A6c k x := (Af _ _).trans (by kernel_rfl)
theorem Bug (k : Nat) : Aa Tryz.prog 199 (sgpsees k) := Ae (A6a k) (l := []) k rfl trivial Ad Tryz.func199 (by kernel_rfl)
abbrev H136 : Type := (List Int) × (Int) × (List (YT8))
def Avl : Sk := ⟨[.lf (.ptr 0 0), .lf (.pv .str), .lf (.pv (.int .i64)), .lf (.ptr 1 0), .lf (.fn 201 [(0, 0)] [])], [[.pv (.slice yt8)], [.nil .sl]], []⟩
def Avm : Sk := ⟨[.lf (.fn 213 [] [(2, 0), (3, 0), (4, 0), (5, 0), (6, 0)])], [[.pv (.slice yt8)], [.nil .sl], [.ptr 0 0], [.pv .str], [.ptr 1 0], [.pv (.int .i64)], [.fn 201 [(0, 0)] []]], []⟩
def Avi (k : Nat) : Cfg := { mkC [] 60 2 0 with bl := [54, 56] }
def Aaq (k : Nat) : H136 → Option H104 := hid (Ac (Avi k) k Tryz.f200 Avl Avm)
def Bjs (k : Nat) : Sig := Ab Avl Avm (Aaq k)
noncomputable def Avk (k : Nat) : H136 → Option H104
 | (a0, a1, a2) => some (a2, a0, a1)
theorem B0z (k : Nat) (x : H136) : Aaq k x = Avk k x := (Af _ _).trans (by kernel_rfl)
theorem Bq7 (k : Nat) : Aa Tryz.prog 200 (Bjs k) := Ae (Avi k) (l := []) k rfl trivial Ad Tryz.func200 (by kernel_rfl)
def Ah6 : Sk := ⟨[.lf (.ptr 0 0), .lf (.ptr 1 0)], [[.ptr 2 0], [.pv .str], [.pv (.slice yt8)]], []⟩
def A6b : Sk := ⟨[.lf (.erp 88 [(.int .i64), (.int .i64)])], Ah6.boxes, []⟩
def B5p (k : Nat) : EnvL := [(143, [Ep k]), (144, [A9 k])]
def A58 (k : Nat) : Cfg := mkC (B5p k) 57 3 0
def Vk (k : Nat) : H91 → Option H98 := hid (Ac (A58 k) k Tryz.f212 Ah6 A6b)
def Bmh (k : Nat) : Sig := Ab Ah6 A6b (Vk k)
noncomputable def A59 (k : Nat) : H91 → Option H98
 | (a0, a1) => ((Dh k) (a0, a1)).bind fun o1 => bif (!o1.1) then (((A7 k) ((50 : Int), o1.2)).bind fun o2 => some (o2.1, o2.2.1, o2.2.2.1, a0, o2.2.2.2)) else (some (true, (0 : Int), (0 : Int), a0, o1.2))
theorem B5q (k : Nat) (x : H91) : Vk k x = A59 k x := (Af _ _).trans (by kernel_rfl)
theorem Buf (k : Nat) : Aa Tryz.prog 212 (Bmh k) := Ae (A58 k) k rfl ⟨⟨Et k, trivial⟩, ⟨Bb k, trivial⟩, trivial⟩ Ad Tryz.func212 (by kernel_rfl)
def Ax6 : Sk := ⟨[.lf (.ptr 0 0), .lf (.pv .str), .lf (.ptr 1 0)], [[.pv (.slice yt8)], [.pv .bool, .nil .sl]], []⟩
def Ax7 : Sk := ⟨[.lf (.fn 161 [] [(2, 0), (3, 0), (4, 0)])], [[.pv (.slice yt8)], [.pv .bool, .nil .sl], [.ptr 0 0], [.pv .str], [.ptr 1 0]], []⟩
def Ax4 (k : Nat) : Cfg := { mkC [] 56 2 0 with bl := [54, 56] }
def Aa5 (k : Nat) : H109 → Option H110 := hid (Ac (Ax4 k) k Tryz.f98 Ax6 Ax7)
def Bkc (k : Nat) : Sig := Ab Ax6 Ax7 (Aa5 k)
noncomputable def Ax5 (k : Nat) : H109 → Option H110
 | (a0, a1, a2) => some (a1, a2, a0)
theorem B18 (k : Nat) (x : H109) : Aa5 k x = Ax5 k x := (Af _ _).trans (by kernel_rfl)
theorem Br1 (k : Nat) : Aa Tryz.prog 98 (Bkc k) := Ae (Ax4 k) (l := []) k rfl trivial Ad Tryz.func98 (by kernel_rfl)
abbrev H137 : Type := (Int) × (List (YT8)) × (Bool)
abbrev H138 : Type := (List (YT8)) × (Bool) × (Int)
def A0q : Sk := ⟨[.lf (.ptr 0 0), .lf (.ptr 1 1), .lf (.pv (.int .i64))], [[.pv (.slice yt8)], [.pv .bool, .nil .sl]], []⟩
def A0r : Sk := ⟨[.lf (.fn 211 [] [(2, 0), (3, 0), (4, 0)])], [[.pv (.slice yt8)], [.pv .bool, .nil .sl], [.ptr 1 1], [.pv (.int .i64)], [.ptr 0 0]], []⟩
def A0o (k : Nat) : Cfg := { mkC [] 56 2 0 with bl := [54, 56] }
def Abf (k : Nat) : H137 → Option H138 := hid (Ac (A0o k) k Tryz.f197 A0q A0r)
def Bky (k : Nat) : Sig := Ab A0q A0r (Abf k)
noncomputable def A0p (k : Nat) : H137 → Option H138
 | (a0, a1, a2) => some (a1, a2, a0)
theorem B3e (k : Nat) (x : H137) : Abf k x = A0p k x := (Af _ _).trans (by kernel_rfl)
theorem Bsp (k : Nat) : Aa Tryz.prog 197 (Bky k) := Ae (A0o k) (l := []) k rfl trivial Ad Tryz.func197 (by kernel_rfl)
def Ags : Sk := ⟨[.lf (.ptr 0 0), .lf (.ptr 1 0), .lf (.ptr 2 0)], [[.ptr 3 0], [.pv .str], [.ptr 4 0], [.pv (.slice yt8)], [.pv .bool, .nil .sl]], []⟩
def Aya : Sk := ⟨[.lf (.nil .ifc)], Ags.boxes, []⟩
def B19 (k : Nat) : EnvL := [(143, [Ep k]), (145, [Ba k])]
def Ax8 (k : Nat) : Cfg := mkC (B19 k) 59 5 0
def Ue (k : Nat) : H109 → Option H109 := hid (Ac (Ax8 k) k Tryz.f161 Ags Aya)
def Bkd (k : Nat) : Sig := Ab Ags Aya (Ue k)
noncomputable def Ax9 (k : Nat) : H109 → Option H109
 | (a0, a1, a2) => ((Dh k) (a0, a1)).bind fun o1 => bif o1.1 then (((A4 k) (o1.2)).bind fun o2 => some (a0, o2.2.2.2.2, true)) else (some (a0, o1.2, a2))
theorem B2a (k : Nat) (x : H109) : Ue k x = Ax9 k x := (Af _ _).trans (by kernel_rfl)
theorem Br2 (k : Nat) : Aa Tryz.prog 161 (Bkd k) := Ae (Ax8 k) k rfl ⟨⟨Et k, trivial⟩, ⟨Bc k, trivial⟩, trivial⟩ Ad Tryz.func161 (by kernel_rfl)
abbrev H139 : Type := (Int) × (Bool) × (List (YT8)) × (List (List Int))
abbrev H140 : Type := (Int) × (Bool) × (List (YT8))
abbrev H141 : Type := (Bool) × (Int) × (Int) × (Int) × (Bool) × (List (YT8)) × (List (List Int))
def Ag7 : Sk := ⟨[.lf (.ptr 0 0), .lf (.ptr 1 0), .lf (.ptr 2 0)], [[.ptr 3 1], [.pv (.int .i64)], [.ptr 4 0], [.pv .bool, .nil .sl], [.pv (.slice yt8)]], []⟩
def Ag8 : Sk := ⟨[.lf (.erp 88 [(.int .i64), (.int .i64)])], [[.ptr 3 1], [.pv (.int .i64)], [.ptr 4 0], [.pv .bool, .own 0], [.pv (.slice yt8)]], [some (9, .str)]⟩
def A0s : Sk := ⟨sparse 44 [(0, .lf (.ptr 0 0)), (1, .lf (.ptr 1 0)), (2, .lf (.ptr 2 0))], [[.ptr 3 1], [.pv (.int .i64)], [.ptr 4 0], [.pv .bool, .own 0], [.pv (.slice yt8)]], [some (9, .str)]⟩
abbrev Ag5 := H139
def M8 : Ag5 → St := stOf A0s 136
def B3f (k : Nat) : EnvL := [(193, [Aod k]), (144, [A9 k]), (150, [Aoc k]), (92, [An9 k, Aoa k]), (143, [Ep k]), (93, [Fl k]), (145, [Ba k])]
def Hm (k : Nat) : FnX H141 := mkX ({ mkC (B3f k) 136 5 0 with hint := fun i => look none [(1, some A0s)] i, bl := [54, 56], ef := [(20, (([4, 52], []), ([68, 112], []))), (22, (([4, 52, 68, 69, 112], []), ([], []))), (39, (([4], []), ([87, 131], []))), (41, (([4, 87, 88, 131], []), ([], [])))], ld := [(18, 2), (19, 2), (26, 0), (27, 0), (28, 9999), (29, 3), (30, 52), (33, 9999), (37, 2), (38, 2)], sr := [(33, 3)], rb := [21, 40] }) k Tryz.f211 Ag8
def Ur (k : Nat) : H140 → Option H141 := hid (Ac (Hm k).C k Tryz.f211 Ag7 Ag8)
def Bk0 (k : Nat) : Sig := Ab Ag7 Ag8 (Ur k)
noncomputable def Ag6 (k : Nat) (J : JF H141) (L : LF H141) : H140 → Option H141
 | (a0, a1, a2) => L 1 [] k (M8 (a0, a1, a2, []))
theorem B3g (k : Nat) (x : H140) : Ur k x = Ag6 k (Hm k).J (Hm k).L x := by
 refine (Af _ _).trans ?_; apply cutX (Hm k) [] [] (st0 (Hm k).C Tryz.f211 Ag7 x) [] [(1, [], k)] (Ag6 k · · x) <;> intros <;> kernel_rfl
noncomputable def M9 (k j1 : Nat) (J : JF H141) (L : LF H141) : Ag5 → Option H141
 | (a0, a1, a2, a3) => bif (((List.length a3 : Nat) : Int) == a0) then (((Pt k) (a2)).bind fun o1 => bif o1 then (((A7 k) ((4 : Int), a2)).bind fun o2 => some (o2.1, o2.2.1, o2.2.2.1, a0, a1, o2.2.2.2, a3)) else (((Mv k) (a2, ([] : List Int))).bind fun o3 => ((Mt k) (o3.1, o3.2)).bind fun o4 => bif (!o4.1) then (some (o4.1, o4.2.1, o4.2.2.1, a0, a1, o4.2.2.2.1, a3)) else (app 16 a3 ([o4.2.2.2.2] : List (List Int)) fun o5 => ((Dh k) (([44] : List Int), o4.2.2.2.1)).bind fun o6 => bif (!o6.1) then (((Bp k) (([59] : List Int), o6.2)).bind fun o7 => ((Mu k) (o7.1, o7.2)).bind fun o8 => some (o8.1, o8.2.1, o8.2.2.1, a0, a1, o8.2.2.2.1, o5)) else (((A4 k) (o6.2)).bind fun o9 => L 1 [] j1 (M8 (a0, a1, o9.2.2.2.2, o5)))))) else (((Mv k) (a2, ([] : List Int))).bind fun o10 => ((Mt k) (o10.1, o10.2)).bind fun o11 => bif (!o11.1) then (some (o11.1, o11.2.1, o11.2.2.1, a0, a1, o11.2.2.2.1, a3)) else (app 16 a3 ([o11.2.2.2.2] : List (List Int)) fun o12 => ((Dh k) (([44] : List Int), o11.2.2.2.1)).bind fun o13 => bif (!o13.1) then (((Bp k) (([59] : List Int), o13.2)).bind fun o14 => ((Mu k) (o14.1, o14.2)).bind fun o15 => some (o15.1, o15.2.1, o15.2.2.1, a0, a1, o15.2.2.2.1, o12)) else (((A4 k) (o13.2)).bind fun o16 => L 1 [] j1 (M8 (a0, a1, o16.2.2.2.2, o12)))))
theorem Wy (k j1 : Nat) (x : Ag5) : (Hm k).L 1 [] (j1 + 1) (M8 x) = M9 k j1 (Hm k).J (Hm k).L x := by
 apply cutX (Hm k) [.r, .b, .b] [j1] (M8 x) [] [(1, [], j1)] (M9 k j1 · · x) <;> intros <;> kernel_rfl
theorem Bsq (k : Nat) : Aa Tryz.prog 211 (Bk0 k) := Ae (Hm k).C k rfl ⟨⟨Aqm k, trivial⟩, ⟨Bb k, trivial⟩, ⟨Aql k, trivial⟩, ⟨Aqi k, Aqj k, trivial⟩, ⟨Et k, trivial⟩, ⟨Fu k, trivial⟩, ⟨Bc k, trivial⟩, trivial⟩ Ad Tryz.func211 (by kernel_rfl)
abbrev H142 : Type := (List (YT8)) × (List Int) × (Int) × (Bool)
abbrev H143 : Type := (Bool) × (Int) × (Int) × (List (YT8)) × (List Int) × (Int) × (Bool) × (List (List Int))
def Avw : Sk := ⟨[.lf (.ptr 0 0), .lf (.sb 1 2)], [[.pv (.slice yt8)], q20, [.ptr 0 0], [.pv .str], [.ptr 8 0], [.ptr 8 1], [.pv (.int .i64)], [.ptr 0 0], [.pv .bool, .nil .sl]], []⟩
def Avx : Sk := ⟨[.lf (.erp 88 [(.int .i64), (.int .i64)])], [[.pv (.slice yt8)], q20, [.ptr 0 0], [.pv .str], [.ptr 8 0], [.ptr 8 1], [.pv (.int .i64)], [.ptr 0 0], [.pv .bool, .own 0]], [some (9, .str)]⟩
def B05 (k : Nat) : EnvL := [(161, [Bkd k]), (211, [Bk0 k])]
def Avu (k : Nat) : Cfg := mkC (B05 k) 69 9 0
def Aau (k : Nat) : H142 → Option H143 := hid (Ac (Avu k) (k + 32) Tryz.f92 Avw Avx)
def Bjx (k : Nat) : Sig := Ab Avw Avx (Aau k)
noncomputable def Avv (k : Nat) : H142 → Option H143
 | (a0, a1, a2, a3) => ((Ue k) (a1, a0, a3)).bind fun o1 => ((Ur k) (a2, o1.2.2, o1.2.1)).bind fun o2 => bif (!o2.1) then (some (o2.1, o2.2.1, o2.2.2.1, o2.2.2.2.2.2.1, o1.1, o2.2.2.2.1, o2.2.2.2.2.1, o2.2.2.2.2.2.2)) else (some (true, (0 : Int), (0 : Int), o2.2.2.2.2.2.1, o1.1, o2.2.2.2.1, o2.2.2.2.2.1, o2.2.2.2.2.2.2))
theorem B06 (k : Nat) (x : H142) : Aau k x = Avv k x := (Af _ _).trans (by kernel_rfl)
theorem Bre (k : Nat) : Aa Tryz.prog 92 (Bjx k) := Ae (Avu k) (k + 32) rfl ⟨⟨Br2 k, trivial⟩, ⟨Bsq k, trivial⟩, trivial⟩ Ad Tryz.func92 (by kernel_rfl)
abbrev H144 : Type := (Bool) × (Bool) × (Int) × (Int) × (List (YT8)) × (List (List Int))
def fpringi : Sk := ⟨[.lf (.ptr 0 0)], [[.pv (.slice yt8)]], []⟩
def fpringo : Sk := ⟨[.agg [.pv .bool, .own 0], .lf (.erp 88 [(.int .i64), (.int .i64)])], fpringi.boxes, [some (9, .str)]⟩
def fpringE (k : Nat) : EnvL := [(98, [Bkc k]), (197, [Bky k]), (92, [Bjx k])]
def A56 (k : Nat) : Cfg := { mkC (fpringE k) 69 1 0 with bl := [54, 56] }
def cpring (k : Nat) : (List (YT8)) → Option H144 := hid (Ac (A56 k) k Tryz.f201 fpringi fpringo)
def sgpring (k : Nat) : Sig := Ab fpringi fpringo (cpring k)
noncomputable def A57 (k : Nat) : (List (YT8)) → Option H144
 | a0 => ((Aa5 k) (([102, 114, 101, 101] : List Int), a0, false)).bind fun o1 => ((Abf k) ((4 : Int), o1.1, o1.2.1)).bind fun o2 => ((Aau k) (o2.1, o1.2.2, o2.2.2, o2.2.1)).bind fun o3 => some (o3.2.2.2.2.2.2.1, o3.1, o3.2.1, o3.2.2.1, o3.2.2.2.1, o3.2.2.2.2.2.2.2)
theorem B5o (k : Nat) (x : (List (YT8))) : cpring k x = A57 k x := (Af _ _).trans (by kernel_rfl)
theorem Bue (k : Nat) : Aa Tryz.prog 201 (sgpring k) := Ae (A56 k) k rfl ⟨⟨Br1 k, trivial⟩, ⟨Bsp k, trivial⟩, ⟨Bre k, trivial⟩, trivial⟩ Ad Tryz.func201 (by kernel_rfl)
abbrev H145 : Type := (List Int) × (Int) × (List (YT8)) × (List (YT4))
abbrev H146 : Type := (Bool) × (Int) × (Int) × (List Int) × (Int) × (List (YT8)) × (List (YT4))
def Af5 : Sk := ⟨[.lf (.ptr 0 0), .lf (.ptr 1 0), .lf (.ptr 2 0), .lf (.ptr 3 0), .lf (.ptr 4 0)], [[.ptr 5 0], [.pv .str], [.ptr 6 0], [.pv (.int .i64)], [.fn 201 [(5, 0)] []], [.pv (.slice yt8)], [.nil .sl]], []⟩
def Af6 : Sk := ⟨[.lf (.erp 88 [(.int .i64), (.int .i64)])], [[.ptr 5 0], [.pv .str], [.ptr 6 0], [.pv (.int .i64)], [.fn 201 [(5, 0)] []], [.pv (.slice yt8)], [.own 0]], [some (104, yt4)]⟩
def Avj : Sk := ⟨sparse 37 [(0, .lf (.ptr 0 0)), (1, .lf (.ptr 1 0)), (2, .lf (.ptr 2 0)), (3, .lf (.ptr 3 0)), (4, .lf (.ptr 4 0))], [[.ptr 5 0], [.pv .str], [.ptr 6 0], [.pv (.int .i64)], [.fn 201 [(5, 0)] []], [.pv (.slice yt8)], [.own 0]], [some (104, yt4)]⟩
abbrev Af2 := H145
def Rn : Af2 → St := stOf Avj 86
def B0x (k : Nat) : EnvL := [(143, [Ep k]), (144, [A9 k]), (145, [Ba k]), (201, [sgpring k])]
def Hj (k : Nat) : FnX H146 := mkX ({ mkC (B0x k) 86 7 0 with hint := fun i => look none [(1, some Avj)] i, bl := [54, 56], ld := [(29, 2), (30, 2), (31, 9999), (32, 6), (33, 54), (36, 9999)], sr := [(36, 6)] }) k Tryz.f213 Af6
def T8 (k : Nat) : H136 → Option H146 := hid (Ac (Hj k).C k Tryz.f213 Af5 Af6)
def Bjt (k : Nat) : Sig := Ab Af5 Af6 (T8 k)
noncomputable def Af4 (k : Nat) (J : JF H146) (L : LF H146) : H136 → Option H146
 | (a0, a1, a2) => L 1 [] k (Rn (a0, a1, a2, []))
theorem B0y (k : Nat) (x : H136) : T8 k x = Af4 k (Hj k).J (Hj k).L x := by
 refine (Af _ _).trans ?_; apply cutX (Hj k) [] [] (st0 (Hj k).C Tryz.f213 Af5 x) [] [(1, [], k)] (Af4 k · · x) <;> intros <;> kernel_rfl
noncomputable def Ro (k j1 : Nat) (J : JF H146) (L : LF H146) : Af2 → Option H146
 | (a0, a1, a2, a3) => ((Dh k) (a0, a2)).bind fun o1 => bif o1.1 then (bif (((List.length a3 : Nat) : Int) == a1) then (((A7 k) ((4 : Int), o1.2)).bind fun o2 => some (o2.1, o2.2.1, o2.2.2.1, a0, a1, o2.2.2.2, a3)) else (((A4 k) (o1.2)).bind fun o3 => ((cpring k) (o3.2.2.2.2)).bind fun o4 => bif (!o4.2.1) then (some (o4.2.1, o4.2.2.1, o4.2.2.2.1, a0, a1, o4.2.2.2.2.1, a3)) else (app 32 a3 ([(o4.1, (o4.2.2.2.2.2, ()))] : List (YT4)) fun o5 => L 1 [] j1 (Rn (a0, a1, o4.2.2.2.2.1, o5))))) else (some (true, (0 : Int), (0 : Int), a0, a1, o1.2, a3))
theorem Af3 (k j1 : Nat) (x : Af2) : (Hj k).L 1 [] (j1 + 1) (Rn x) = Ro k j1 (Hj k).J (Hj k).L x := by
 apply cutX (Hj k) [.r, .l, .b, .b] [j1] (Rn x) [] [(1, [], j1)] (Ro k j1 · · x) <;> intros <;> kernel_rfl
theorem Bq6 (k : Nat) : Aa Tryz.prog 213 (Bjt k) := Ae (Hj k).C k rfl ⟨⟨Et k, trivial⟩, ⟨Bb k, trivial⟩, ⟨Bc k, trivial⟩, ⟨Bue k, trivial⟩, trivial⟩ Ad Tryz.func213 (by kernel_rfl)
abbrev H147 : Type := (List (YT8)) × (List Int) × (List Int) × (List Int) × (Int) × (List Int)
abbrev H148 : Type := (Bool) × (Int) × (Int) × (List (YT8)) × (List Int) × (List Int) × (List Int) × (Int) × (List Int) × (List (YT4))
def Aw2 : Sk := ⟨[.lf (.ptr 0 0), .lf (.sb 1 4)], [[.pv (.slice yt8)], q19, [.ptr 0 0], [.pv .str], [.ptr 0 0], [.pv .str], [.ptr 0 0], [.pv .str], [.ptr 13 0], [.pv (.int .i64)], [.fn 201 [(0, 0)] []], [.ptr 0 0], [.pv .str], [.nil .sl]], []⟩
def Aw3 : Sk := ⟨[.lf (.erp 88 [(.int .i64), (.int .i64)])], [[.pv (.slice yt8)], q19, [.ptr 0 0], [.pv .str], [.ptr 0 0], [.pv .str], [.ptr 0 0], [.pv .str], [.ptr 13 0], [.pv (.int .i64)], [.fn 201 [(0, 0)] []], [.ptr 0 0], [.pv .str], [.own 0]], [some (104, yt4)]⟩
def B1t (k : Nat) : EnvL := [(142, [Fm k]), (212, [Bmh k]), (213, [Bjt k])]
def Aw0 (k : Nat) : Cfg := mkC (B1t k) 69 14 0
def Aa2 (k : Nat) : H147 → Option H148 := hid (Ac (Aw0 k) (k + 32) Tryz.f92 Aw2 Aw3)
def Bj7 (k : Nat) : Sig := Ab Aw2 Aw3 (Aa2 k)
noncomputable def Aw1 (k : Nat) : H147 → Option H148
 | (a0, a1, a2, a3, a4, a5) => ((Bj k) (a1, a0)).bind fun o1 => bif (!o1.1) then (some (o1.1, o1.2.1, o1.2.2.1, o1.2.2.2.2, o1.2.2.2.1, a2, a3, a4, a5, [])) else (((Vk k) (a2, o1.2.2.2.2)).bind fun o2 => bif (!o2.1) then (some (o2.1, o2.2.1, o2.2.2.1, o2.2.2.2.2, o1.2.2.2.1, o2.2.2.2.1, a3, a4, a5, [])) else (((T8 k) (a3, a4, o2.2.2.2.2)).bind fun o3 => bif (!o3.1) then (some (o3.1, o3.2.1, o3.2.2.1, o3.2.2.2.2.2.1, o1.2.2.2.1, o2.2.2.2.1, o3.2.2.2.1, o3.2.2.2.2.1, a5, o3.2.2.2.2.2.2)) else (((Bj k) (a5, o3.2.2.2.2.2.1)).bind fun o4 => bif (!o4.1) then (some (o4.1, o4.2.1, o4.2.2.1, o4.2.2.2.2, o1.2.2.2.1, o2.2.2.2.1, o3.2.2.2.1, o3.2.2.2.2.1, o4.2.2.2.1, o3.2.2.2.2.2.2)) else (some (true, (0 : Int), (0 : Int), o4.2.2.2.2, o1.2.2.2.1, o2.2.2.2.1, o3.2.2.2.1, o3.2.2.2.2.1, o4.2.2.2.1, o3.2.2.2.2.2.2)))))
theorem B1u (k : Nat) (x : H147) : Aa2 k x = Aw1 k x := (Af _ _).trans (by kernel_rfl)
theorem Brp (k : Nat) : Aa Tryz.prog 92 (Bj7 k) := Ae (Aw0 k) (k + 32) rfl ⟨⟨Fv k, trivial⟩, ⟨Buf k, trivial⟩, ⟨Bq6 k, trivial⟩, trivial⟩ Ad Tryz.func92 (by kernel_rfl)
abbrev H149 : Type := (Bool) × (Int) × (Int) × (List (YT8)) × (List (YT4))
def fpgroupi : Sk := ⟨[.lf (.ptr 0 0)], [[.pv (.slice yt8)]], []⟩
def fpgroupo : Sk := ⟨[.agg [.own 0], .lf (.erp 88 [(.int .i64), (.int .i64)])], fpgroupi.boxes, [some (104, yt4)]⟩
def B13 (k : Nat) : EnvL := [(93, [Fl k]), (199, [sgpsees k]), (200, [Bjs k]), (92, [Bj7 k])]
def Axr (k : Nat) : Cfg := { mkC (B13 k) 79 1 0 with bl := [54, 56] }
def cpgroup (k : Nat) : (List (YT8)) → Option H149 := hid (Ac (Axr k) k Tryz.f158 fpgroupi fpgroupo)
def sgpgroup (k : Nat) : Sig := Ab fpgroupi fpgroupo (cpgroup k)
noncomputable def Axs (k : Nat) : (List (YT8)) → Option H149
 | a0 => ((Bp k) (([123] : List Int), a0)).bind fun o1 => ((cpsees k) (([114, 105, 110, 103] : List Int), o1.1)).bind fun o2 => ((Aaq k) (([114, 105, 110, 103] : List Int), (2 : Int), o2.1)).bind fun o3 => ((Bp k) (([125] : List Int), o3.1)).bind fun o4 => ((Aa2 k) (o4.1, o1.2, o2.2, o3.2.1, o3.2.2, o4.2)).bind fun o5 => some (o5.1, o5.2.1, o5.2.2.1, o5.2.2.2.1, o5.2.2.2.2.2.2.2.2.2)
theorem B14 (k : Nat) (x : (List (YT8))) : cpgroup k x = Axs k x := (Af _ _).trans (by kernel_rfl)
theorem Bry (k : Nat) : Aa Tryz.prog 158 (sgpgroup k) := Ae (Axr k) k rfl ⟨⟨Fu k, trivial⟩, ⟨Bug k, trivial⟩, ⟨Bq7 k, trivial⟩, ⟨Brp k, trivial⟩, trivial⟩ Ad Tryz.func158 (by kernel_rfl)
abbrev H150 : Type := (List Int) × (Int) × (List (YT8)) × (List Int) × (Int) × (List (YT1)) × (List (YT2)) × (List (YT3)) × (List ((List (YT4)) × (Unit)))
abbrev H151 : Type := (Bool) × (Int) × (Int) × (List Int) × (Int) × (List (YT8)) × (List Int) × (Int) × (List (YT1)) × (List (YT2)) × (List (YT3)) × (List ((List (YT4)) × (Unit)))
def Afg : Sk := ⟨[.lf (.ptr 0 0), .lf (.ptr 1 0), .lf (.ptr 2 0), .lf (.ptr 3 0), .lf (.ptr 4 0)], [[.ptr 5 0], [.pv .str], [.ptr 6 4], [.pv (.int .i64)], [.fn 158 [(5, 0)] []], [.pv (.slice yt8)], q18], [some (95, yt1), some (97, yt2), some (99, yt3)]⟩
def Afh : Sk := ⟨[.lf (.erp 88 [(.int .i64), (.int .i64)])], [[.ptr 5 0], [.pv .str], [.ptr 6 4], [.pv (.int .i64)], [.fn 158 [(5, 0)] []], [.pv (.slice yt8)], q21], [some (95, yt1), some (97, yt2), some (99, yt3), some (102, (.cons (.slice yt4) .nil))]⟩
def Auu : Sk := ⟨sparse 37 [(0, .lf (.ptr 0 0)), (1, .lf (.ptr 1 0)), (2, .lf (.ptr 2 0)), (3, .lf (.ptr 3 0)), (4, .lf (.ptr 4 0))], [[.ptr 5 0], [.pv .str], [.ptr 6 4], [.pv (.int .i64)], [.fn 158 [(5, 0)] []], [.pv (.slice yt8)], q21], [some (95, yt1), some (97, yt2), some (99, yt3), some (102, (.cons (.slice yt4) .nil))]⟩
abbrev Afd := H150
def Rd : Afd → St := stOf Auu 86
def B0i (k : Nat) : EnvL := [(143, [Ep k]), (144, [A9 k]), (145, [Ba k]), (158, [sgpgroup k])]
def He (k : Nat) : FnX H151 := mkX ({ mkC (B0i k) 86 7 3 with hint := fun i => look none [(1, some Auu)] i, bl := [54, 56], ld := [(29, 2), (30, 2), (31, 9999), (32, 6), (33, 54), (36, 9999)], sr := [(36, 6)] }) k Tryz.f198 Afh
def T2 (k : Nat) : H134 → Option H151 := hid (Ac (He k).C k Tryz.f198 Afg Afh)
def Bjj (k : Nat) : Sig := Ab Afg Afh (T2 k)
noncomputable def Aff (k : Nat) (J : JF H151) (L : LF H151) : H134 → Option H151
 | (a0, a1, a2, a3, a4, a5, a6, a7) => L 1 [] k (Rd (a0, a1, a2, a3, a4, a5, a6, a7, []))
theorem B0j (k : Nat) (x : H134) : T2 k x = Aff k (He k).J (He k).L x := by
 refine (Af _ _).trans ?_; apply cutX (He k) [] [] (st0 (He k).C Tryz.f198 Afg x) [] [(1, [], k)] (Aff k · · x) <;> intros <;> kernel_rfl
noncomputable def Re (k j1 : Nat) (J : JF H151) (L : LF H151) : Afd → Option H151
 | (a0, a1, a2, a3, a4, a5, a6, a7, a8) => ((Dh k) (a0, a2)).bind fun o1 => bif o1.1 then (bif (((List.length a8 : Nat) : Int) == a1) then (((A7 k) ((4 : Int), o1.2)).bind fun o2 => some (o2.1, o2.2.1, o2.2.2.1, a0, a1, o2.2.2.2, a3, a4, a5, a6, a7, a8)) else (((A4 k) (o1.2)).bind fun o3 => ((cpgroup k) (o3.2.2.2.2)).bind fun o4 => bif (!o4.1) then (some (o4.1, o4.2.1, o4.2.2.1, a0, a1, o4.2.2.2.1, a3, a4, a5, a6, a7, a8)) else (app 24 a8 ([(o4.2.2.2.2, ())] : List ((List (YT4)) × (Unit))) fun o5 => L 1 [] j1 (Rd (a0, a1, o4.2.2.2.1, a3, a4, a5, a6, a7, o5))))) else (some (true, (0 : Int), (0 : Int), a0, a1, o1.2, a3, a4, a5, a6, a7, a8))
theorem Afe (k j1 : Nat) (x : Afd) : (He k).L 1 [] (j1 + 1) (Rd x) = Re k j1 (He k).J (He k).L x := by
 apply cutX (He k) [.r, .l, .b, .b] [j1] (Rd x) [] [(1, [], j1)] (Re k j1 · · x) <;> intros <;> kernel_rfl
theorem Bqw (k : Nat) : Aa Tryz.prog 198 (Bjj k) := Ae (He k).C k rfl ⟨⟨Et k, trivial⟩, ⟨Bb k, trivial⟩, ⟨Bc k, trivial⟩, ⟨Bry k, trivial⟩, trivial⟩ Ad Tryz.func198 (by kernel_rfl)
abbrev H152 : Type := (List (YT8)) × (List Int) × (List Int) × (Int)
def A5g : Sk := ⟨[.lf (.ptr 0 0), .lf (.ptr 1 2)], [[.pv (.slice yt8)], [.pv .str, .pv .str, .pv (.int .i64)]], []⟩
def A5h : Sk := ⟨[.lf (.fn 191 [] [(2, 0), (3, 0)])], [[.pv (.slice yt8)], [.pv .str, .pv .str, .pv (.int .i64)], [.ptr 0 0], [.ptr 1 2]], []⟩
def A5e (k : Nat) : Cfg := { mkC [] 54 2 0 with bl := [54, 56] }
def Ab3 (k : Nat) : H152 → Option H152 := hid (Ac (A5e k) k Tryz.f149 A5g A5h)
def Bl9 (k : Nat) : Sig := Ab A5g A5h (Ab3 k)
noncomputable def A5f (k : Nat) : H152 → Option H152
 | (a0, a1, a2, a3) => some (a0, a1, a2, a3)
theorem B5f (k : Nat) (x : H152) : Ab3 k x = A5f k x := (Af _ _).trans (by kernel_rfl)
theorem Bt5 (k : Nat) : Aa Tryz.prog 149 (Bl9 k) := Ae (A5e k) (l := []) k rfl trivial Ad Tryz.func149 (by kernel_rfl)
def Ay5 : Sk := ⟨[.lf (.ptr 0 0), .lf (.ptr 1 0)], [[.pv (.slice yt8)], [.pv .str, .pv .str, .pv (.int .i64)]], []⟩
def Ay6 : Sk := ⟨[.lf (.fn 192 [] [(2, 0), (3, 0)])], [[.pv (.slice yt8)], [.pv .str, .pv .str, .pv (.int .i64)], [.ptr 0 0], [.ptr 1 0]], []⟩
def Ay3 (k : Nat) : Cfg := { mkC [] 54 2 0 with bl := [54, 56] }
def Abb (k : Nat) : H152 → Option H152 := hid (Ac (Ay3 k) k Tryz.f150 Ay5 Ay6)
def Bkj (k : Nat) : Sig := Ab Ay5 Ay6 (Abb k)
noncomputable def Ay4 (k : Nat) : H152 → Option H152
 | (a0, a1, a2, a3) => some (a0, a1, a2, a3)
theorem B2j (k : Nat) (x : H152) : Abb k x = Ay4 k x := (Af _ _).trans (by kernel_rfl)
theorem Br9 (k : Nat) : Aa Tryz.prog 150 (Bkj k) := Ae (Ay3 k) (l := []) k rfl trivial Ad Tryz.func150 (by kernel_rfl)
def Ay9 : Sk := ⟨[.lf (.ptr 0 0), .lf (.ptr 1 1)], [[.pv (.slice yt8)], [.pv .str, .pv .str, .pv (.int .i64)]], []⟩
def Aza : Sk := ⟨[.lf (.fn 192 [] [(2, 0), (3, 0)])], [[.pv (.slice yt8)], [.pv .str, .pv .str, .pv (.int .i64)], [.ptr 0 0], [.ptr 1 1]], []⟩
def Ay7 (k : Nat) : Cfg := { mkC [] 54 2 0 with bl := [54, 56] }
def Abc (k : Nat) : H152 → Option H152 := hid (Ac (Ay7 k) k Tryz.f150 Ay9 Aza)
def Bkk (k : Nat) : Sig := Ab Ay9 Aza (Abc k)
noncomputable def Ay8 (k : Nat) : H152 → Option H152
 | (a0, a1, a2, a3) => some (a0, a1, a2, a3)
theorem B2k (k : Nat) (x : H152) : Abc k x = Ay8 k x := (Af _ _).trans (by kernel_rfl)
theorem Bsa (k : Nat) : Aa Tryz.prog 150 (Bkk k) := Ae (Ay7 k) (l := []) k rfl trivial Ad Tryz.func150 (by kernel_rfl)
def Ah3 : Sk := ⟨[.lf (.ptr 0 0), .lf (.ptr 1 0)], [[.ptr 2 0], [.ptr 3 2], [.pv (.slice yt8)], [.pv .str, .pv .str, .pv (.int .i64)]], []⟩
def A5x : Sk := ⟨[.lf (.nil .ifc)], Ah3.boxes, []⟩
def A5v (k : Nat) : Cfg := { mkC [] 60 4 0 with ld := [(3, 1), (4, 0), (5, 9999), (6, 9999), (7, 2), (9, 9999), (10, 9999), (11, 9999)], sr := [(11, 3)] }
def Vi (k : Nat) : H152 → Option H152 := hid (Ac (A5v k) k Tryz.f191 Ah3 A5x)
def Bmf (k : Nat) : Sig := Ab Ah3 A5x (Vi k)
noncomputable def A5w (k : Nat) : H152 → Option H152
 | (a0, a1, a2, a3) => idx zt8 a0 (0 : Int) fun o1 => some (a0, a1, a2, o1.2.2.2.1)
theorem B5k (k : Nat) (x : H152) : Vi k x = A5w k x := (Af _ _).trans (by kernel_rfl)
theorem Bua (k : Nat) : Aa Tryz.prog 191 (Bmf k) := Ae (A5v k) (l := []) k rfl trivial Ad Tryz.func191 (by kernel_rfl)
abbrev H153 : Type := (Bool) × (Int) × (Int) × (List (YT8)) × (List Int) × (List Int) × (Int)
def Ag0 : Sk := ⟨[.lf (.ptr 0 0), .lf (.ptr 1 0)], [[.ptr 2 0], [.ptr 3 0], [.pv (.slice yt8)], [.pv .str, .pv .str, .pv (.int .i64)]], []⟩
def Az3 : Sk := ⟨[.lf (.erp 88 [(.int .i64), (.int .i64)])], Ag0.boxes, []⟩
def B2z (k : Nat) : EnvL := [(193, [sgpnamed k]), (144, [A9 k]), (145, [Ba k])]
def Az1 (k : Nat) : Cfg := { mkC (B2z k) 61 4 0 with ef := [(10, (([2], []), ([], [])))], ld := [(8, 1), (9, 0), (12, 9999)], sr := [(12, 3)] }
def Um (k : Nat) : H152 → Option H153 := hid (Ac (Az1 k) k Tryz.f192 Ag0 Az3)
def Bku (k : Nat) : Sig := Ab Ag0 Az3 (Um k)
noncomputable def Az2 (k : Nat) : H152 → Option H153
 | (a0, a1, a2, a3) => ((cpnamed k) (a0)).bind fun o1 => bif (!o1.1) then (((A7 k) ((50 : Int), o1.2)).bind fun o2 => some (o2.1, o2.2.1, o2.2.2.1, o2.2.2.2, a1, a2, a3)) else (((A4 k) (o1.2)).bind fun o3 => some (true, (0 : Int), (0 : Int), o3.2.2.2.2, o3.2.1, a2, a3))
theorem B20 (k : Nat) (x : H152) : Um k x = Az2 k x := (Af _ _).trans (by kernel_rfl)
theorem Bsj (k : Nat) : Aa Tryz.prog 192 (Bku k) := Ae (Az1 k) k rfl ⟨⟨Gp k, trivial⟩, ⟨Bb k, trivial⟩, ⟨Bc k, trivial⟩, trivial⟩ Ad Tryz.func192 (by kernel_rfl)
def Ag1 : Sk := ⟨[.lf (.ptr 0 0), .lf (.ptr 1 0)], [[.ptr 2 0], [.ptr 3 1], [.pv (.slice yt8)], [.pv .str, .pv .str, .pv (.int .i64)]], []⟩
def Az6 : Sk := ⟨[.lf (.erp 88 [(.int .i64), (.int .i64)])], Ag1.boxes, []⟩
def B21 (k : Nat) : EnvL := [(193, [sgpnamed k]), (144, [A9 k]), (145, [Ba k])]
def Az4 (k : Nat) : Cfg := { mkC (B21 k) 61 4 0 with ef := [(10, (([2], []), ([], [])))], ld := [(8, 1), (9, 0), (12, 9999)], sr := [(12, 3)] }
def Un (k : Nat) : H152 → Option H153 := hid (Ac (Az4 k) k Tryz.f192 Ag1 Az6)
def Bkv (k : Nat) : Sig := Ab Ag1 Az6 (Un k)
noncomputable def Az5 (k : Nat) : H152 → Option H153
 | (a0, a1, a2, a3) => ((cpnamed k) (a0)).bind fun o1 => bif (!o1.1) then (((A7 k) ((50 : Int), o1.2)).bind fun o2 => some (o2.1, o2.2.1, o2.2.2.1, o2.2.2.2, a1, a2, a3)) else (((A4 k) (o1.2)).bind fun o3 => some (true, (0 : Int), (0 : Int), o3.2.2.2.2, a1, o3.2.1, a3))
theorem B22 (k : Nat) (x : H152) : Un k x = Az5 k x := (Af _ _).trans (by kernel_rfl)
theorem Bsk (k : Nat) : Aa Tryz.prog 192 (Bkv k) := Ae (Az4 k) k rfl ⟨⟨Gp k, trivial⟩, ⟨Bb k, trivial⟩, ⟨Bc k, trivial⟩, trivial⟩ Ad Tryz.func192 (by kernel_rfl)
abbrev H154 : Type := (List (YT8)) × (List Int) × (List Int) × (List Int) × (Int)
abbrev H155 : Type := (Bool) × (Int) × (Int) × (List (YT8)) × (List Int) × (List Int) × (List Int) × (Int)
def Age : Sk := ⟨[.lf (.ptr 0 0), .lf (.sb 1 4)], [[.pv (.slice yt8)], q22, [.ptr 0 0], [.ptr 10 2], [.ptr 0 0], [.ptr 10 0], [.ptr 0 0], [.ptr 10 1], [.ptr 0 0], [.pv .str], [.pv .str, .pv .str, .pv (.int .i64)]], []⟩
def Av0 : Sk := ⟨[.lf (.erp 88 [(.int .i64), (.int .i64)])], Age.boxes, []⟩
def B07 (k : Nat) : EnvL := [(191, [Bmf k]), (192, [Bku k, Bkv k]), (142, [Fm k])]
def Avy (k : Nat) : Cfg := mkC (B07 k) 68 11 0
def Aav (k : Nat) : H154 → Option H155 := hid (Ac (Avy k) (k + 32) Tryz.f92 Age Av0)
def Bjy (k : Nat) : Sig := Ab Age Av0 (Aav k)
noncomputable def Avz (k : Nat) : H154 → Option H155
 | (a0, a1, a2, a3, a4) => ((Vi k) (a0, a2, a3, a4)).bind fun o1 => ((Um k) (o1.1, o1.2.1, o1.2.2.1, o1.2.2.2)).bind fun o2 => bif (!o2.1) then (some (o2.1, o2.2.1, o2.2.2.1, o2.2.2.2.1, a1, o2.2.2.2.2.1, o2.2.2.2.2.2.1, o2.2.2.2.2.2.2)) else (((Un k) (o2.2.2.2.1, o2.2.2.2.2.1, o2.2.2.2.2.2.1, o2.2.2.2.2.2.2)).bind fun o3 => bif (!o3.1) then (some (o3.1, o3.2.1, o3.2.2.1, o3.2.2.2.1, a1, o3.2.2.2.2.1, o3.2.2.2.2.2.1, o3.2.2.2.2.2.2)) else (((Bj k) (a1, o3.2.2.2.1)).bind fun o4 => bif (!o4.1) then (some (o4.1, o4.2.1, o4.2.2.1, o4.2.2.2.2, o4.2.2.2.1, o3.2.2.2.2.1, o3.2.2.2.2.2.1, o3.2.2.2.2.2.2)) else (some (true, (0 : Int), (0 : Int), o4.2.2.2.2, o4.2.2.2.1, o3.2.2.2.2.1, o3.2.2.2.2.2.1, o3.2.2.2.2.2.2))))
theorem B08 (k : Nat) (x : H154) : Aav k x = Avz k x := (Af _ _).trans (by kernel_rfl)
theorem Brf (k : Nat) : Aa Tryz.prog 92 (Bjy k) := Ae (Avy k) (k + 32) rfl ⟨⟨Bua k, trivial⟩, ⟨Bsj k, Bsk k, trivial⟩, ⟨Fv k, trivial⟩, trivial⟩ Ad Tryz.func92 (by kernel_rfl)
abbrev H156 : Type := (List Int) × (List Int) × (Int) × (Bool) × (Int) × (Int) × (List (YT8))
def fpfoei : Sk := ⟨[.lf (.ptr 0 0)], [[.pv (.slice yt8)]], []⟩
def fpfoeo : Sk := ⟨[.agg [.pv .str, .pv .str, .pv (.int .i64)], .lf (.erp 88 [(.int .i64), (.int .i64)])], fpfoei.boxes, []⟩
def fpfoeE (k : Nat) : EnvL := [(149, [Bl9 k]), (150, [Bkj k, Bkk k]), (93, [Fl k]), (92, [Bjy k])]
def Axd (k : Nat) : Cfg := { mkC (fpfoeE k) 76 1 0 with bl := [54, 56] }
def cpfoe (k : Nat) : (List (YT8)) → Option H156 := hid (Ac (Axd k) k Tryz.f160 fpfoei fpfoeo)
def sgpfoe (k : Nat) : Sig := Ab fpfoei fpfoeo (cpfoe k)
noncomputable def Axe (k : Nat) : (List (YT8)) → Option H156
 | a0 => ((Ab3 k) (a0, ([] : List Int), ([] : List Int), (0 : Int))).bind fun o1 => ((Abb k) (o1.1, o1.2.1, o1.2.2.1, o1.2.2.2)).bind fun o2 => ((Abc k) (o2.1, o2.2.1, o2.2.2.1, o2.2.2.2)).bind fun o3 => ((Bp k) (([59] : List Int), o3.1)).bind fun o4 => ((Aav k) (o4.1, o4.2, o3.2.1, o3.2.2.1, o3.2.2.2)).bind fun o5 => some (o5.2.2.2.2.2.1, o5.2.2.2.2.2.2.1, o5.2.2.2.2.2.2.2, o5.1, o5.2.1, o5.2.2.1, o5.2.2.2.1)
theorem fpfoe_e (k : Nat) (x : (List (YT8))) : cpfoe k x = Axe k x := (Af _ _).trans (by kernel_rfl)
theorem Brt (k : Nat) : Aa Tryz.prog 160 (sgpfoe k) := Ae (Axd k) k rfl ⟨⟨Bt5 k, trivial⟩, ⟨Br9 k, Bsa k, trivial⟩, ⟨Fu k, trivial⟩, ⟨Brf k, trivial⟩, trivial⟩ Ad Tryz.func160 (by kernel_rfl)
abbrev H157 : Type := (List Int) × (Int) × (List (YT8)) × (List Int) × (Int) × (List (YT1)) × (List (YT2)) × (List (YT3)) × (List ((List (YT4)) × (Unit))) × (List (YT5))
abbrev H158 : Type := (Bool) × (Int) × (Int) × (List Int) × (Int) × (List (YT8)) × (List Int) × (Int) × (List (YT1)) × (List (YT2)) × (List (YT3)) × (List ((List (YT4)) × (Unit))) × (List (YT5))
def Afb : Sk := ⟨[.lf (.ptr 0 0), .lf (.ptr 1 0), .lf (.ptr 2 0), .lf (.ptr 3 0), .lf (.ptr 4 0)], [[.ptr 5 0], [.pv .str], [.ptr 6 5], [.pv (.int .i64)], [.fn 160 [(5, 0)] []], [.pv (.slice yt8)], q21], [some (95, yt1), some (97, yt2), some (99, yt3), some (102, (.cons (.slice yt4) .nil))]⟩
def Afc : Sk := ⟨[.lf (.erp 88 [(.int .i64), (.int .i64)])], [[.ptr 5 0], [.pv .str], [.ptr 6 5], [.pv (.int .i64)], [.fn 160 [(5, 0)] []], [.pv (.slice yt8)], q23], [some (95, yt1), some (97, yt2), some (99, yt3), some (102, (.cons (.slice yt4) .nil)), some (106, yt5)]⟩
def Aup : Sk := ⟨sparse 37 [(0, .lf (.ptr 0 0)), (1, .lf (.ptr 1 0)), (2, .lf (.ptr 2 0)), (3, .lf (.ptr 3 0)), (4, .lf (.ptr 4 0))], [[.ptr 5 0], [.pv .str], [.ptr 6 5], [.pv (.int .i64)], [.fn 160 [(5, 0)] []], [.pv (.slice yt8)], q23], [some (95, yt1), some (97, yt2), some (99, yt3), some (102, (.cons (.slice yt4) .nil)), some (106, yt5)]⟩
abbrev Ae8 := H157
def Rb : Ae8 → St := stOf Aup 85
def B0f (k : Nat) : EnvL := [(143, [Ep k]), (144, [A9 k]), (145, [Ba k]), (160, [sgpfoe k])]
def Hd (k : Nat) : FnX H158 := mkX ({ mkC (B0f k) 85 7 4 with hint := fun i => look none [(1, some Aup)] i, bl := [54, 56], ld := [(29, 2), (30, 2), (31, 9999), (32, 6), (33, 54), (36, 9999)], sr := [(36, 6)] }) k Tryz.f202 Afc
def T1 (k : Nat) : H150 → Option H158 := hid (Ac (Hd k).C k Tryz.f202 Afb Afc)
def Bjh (k : Nat) : Sig := Ab Afb Afc (T1 k)
noncomputable def Afa (k : Nat) (J : JF H158) (L : LF H158) : H150 → Option H158
 | (a0, a1, a2, a3, a4, a5, a6, a7, a8) => L 1 [] k (Rb (a0, a1, a2, a3, a4, a5, a6, a7, a8, []))
theorem B0g (k : Nat) (x : H150) : T1 k x = Afa k (Hd k).J (Hd k).L x := by
 refine (Af _ _).trans ?_; apply cutX (Hd k) [] [] (st0 (Hd k).C Tryz.f202 Afb x) [] [(1, [], k)] (Afa k · · x) <;> intros <;> kernel_rfl
noncomputable def Rc (k j1 : Nat) (J : JF H158) (L : LF H158) : Ae8 → Option H158
 | (a0, a1, a2, a3, a4, a5, a6, a7, a8, a9) => ((Dh k) (a0, a2)).bind fun o1 => bif o1.1 then (bif (((List.length a9 : Nat) : Int) == a1) then (((A7 k) ((4 : Int), o1.2)).bind fun o2 => some (o2.1, o2.2.1, o2.2.2.1, a0, a1, o2.2.2.2, a3, a4, a5, a6, a7, a8, a9)) else (((A4 k) (o1.2)).bind fun o3 => ((cpfoe k) (o3.2.2.2.2)).bind fun o4 => bif (!o4.2.2.2.1) then (some (o4.2.2.2.1, o4.2.2.2.2.1, o4.2.2.2.2.2.1, a0, a1, o4.2.2.2.2.2.2, a3, a4, a5, a6, a7, a8, a9)) else (app 40 a9 ([(o4.1, (o4.2.1, (o4.2.2.1, ())))] : List (YT5)) fun o5 => L 1 [] j1 (Rb (a0, a1, o4.2.2.2.2.2.2, a3, a4, a5, a6, a7, a8, o5))))) else (some (true, (0 : Int), (0 : Int), a0, a1, o1.2, a3, a4, a5, a6, a7, a8, a9))
theorem Ae9 (k j1 : Nat) (x : Ae8) : (Hd k).L 1 [] (j1 + 1) (Rb x) = Rc k j1 (Hd k).J (Hd k).L x := by
 apply cutX (Hd k) [.r, .l, .b, .b] [j1] (Rb x) [] [(1, [], j1)] (Rc k j1 · · x) <;> intros <;> kernel_rfl
theorem Bqu (k : Nat) : Aa Tryz.prog 202 (Bjh k) := Ae (Hd k).C k rfl ⟨⟨Et k, trivial⟩, ⟨Bb k, trivial⟩, ⟨Bc k, trivial⟩, ⟨Brt k, trivial⟩, trivial⟩ Ad Tryz.func202 (by kernel_rfl)
abbrev H159 : Type := (List (YT8)) × (List Int) × (List Int) × (Int) × (List Int) × (Int) × (List Int) × (Int) × (List Int) × (Int) × (List Int) × (Int) × (List Int) × (List Int) × (Int)
abbrev H160 : Type := (Bool) × (Int) × (Int) × (List (YT8)) × (List Int) × (List Int) × (Int) × (List Int) × (Int) × (List Int) × (Int) × (List Int) × (Int) × (List Int) × (Int) × (List Int) × (List Int) × (Int) × (List (YT1)) × (List (YT2)) × (List (YT3)) × (List ((List (YT4)) × (Unit))) × (List (YT5))
def Awg : Sk := ⟨[.lf (.ptr 0 0), .lf (.sb 1 9)], [[.pv (.slice yt8)], q8, [.ptr 0 0], [.ptr 35 6], [.ptr 0 0], [.ptr 35 0], [.ptr 0 0], [.pv .str], [.ptr 0 0], [.pv .str], [.ptr 35 1], [.pv (.int .i64)], [.fn 152 [(0, 0)] []], [.ptr 0 0], [.pv .str], [.ptr 35 2], [.pv (.int .i64)], [.fn 154 [(0, 0)] []], [.ptr 0 0], [.pv .str], [.ptr 35 3], [.pv (.int .i64)], [.fn 156 [(0, 0)] []], [.ptr 0 0], [.pv .str], [.ptr 35 4], [.pv (.int .i64)], [.fn 158 [(0, 0)] []], [.ptr 0 0], [.pv .str], [.ptr 35 5], [.pv (.int .i64)], [.fn 160 [(0, 0)] []], [.ptr 0 0], [.pv .str], q7], []⟩
def Awh : Sk := ⟨[.lf (.erp 88 [(.int .i64), (.int .i64)])], [[.pv (.slice yt8)], q8, [.ptr 0 0], [.ptr 35 6], [.ptr 0 0], [.ptr 35 0], [.ptr 0 0], [.pv .str], [.ptr 0 0], [.pv .str], [.ptr 35 1], [.pv (.int .i64)], [.fn 152 [(0, 0)] []], [.ptr 0 0], [.pv .str], [.ptr 35 2], [.pv (.int .i64)], [.fn 154 [(0, 0)] []], [.ptr 0 0], [.pv .str], [.ptr 35 3], [.pv (.int .i64)], [.fn 156 [(0, 0)] []], [.ptr 0 0], [.pv .str], [.ptr 35 4], [.pv (.int .i64)], [.fn 158 [(0, 0)] []], [.ptr 0 0], [.pv .str], [.ptr 35 5], [.pv (.int .i64)], [.fn 160 [(0, 0)] []], [.ptr 0 0], [.pv .str], q23], [some (95, yt1), some (97, yt2), some (99, yt3), some (102, (.cons (.slice yt4) .nil)), some (106, yt5)]⟩
def B1h (k : Nat) : EnvL := [(191, [Bmb k]), (192, [Bkn k]), (142, [Fm k]), (194, [Bjl k]), (195, [Bjp k]), (196, [Bjr k]), (198, [Bjj k]), (202, [Bjh k])]
def Awe (k : Nat) : Cfg := mkC (B1h k) 73 36 0
def Aax (k : Nat) : H159 → Option H160 := hid (Ac (Awe k) (k + 32) Tryz.f92 Awg Awh)
def Bj2 (k : Nat) : Sig := Ab Awg Awh (Aax k)
noncomputable def Awf (k : Nat) : H159 → Option H160
 | (a0, a1, a2, a3, a4, a5, a6, a7, a8, a9, a10, a11, a12, a13, a14) => ((Vd k) (a0, a13, a14)).bind fun o1 => ((Uf k) (o1.1, o1.2.1, o1.2.2)).bind fun o2 => bif (!o2.1) then (some (o2.1, o2.2.1, o2.2.2.1, o2.2.2.2.1, a1, a2, a3, a4, a5, a6, a7, a8, a9, a10, a11, a12, o2.2.2.2.2.1, o2.2.2.2.2.2, [], [], [], [], [])) else (((Bj k) (a1, o2.2.2.2.1)).bind fun o3 => bif (!o3.1) then (some (o3.1, o3.2.1, o3.2.2.1, o3.2.2.2.2, o3.2.2.2.1, a2, a3, a4, a5, a6, a7, a8, a9, a10, a11, a12, o2.2.2.2.2.1, o2.2.2.2.2.2, [], [], [], [], [])) else (((T4 k) (a2, a3, o3.2.2.2.2, o2.2.2.2.2.1, o2.2.2.2.2.2)).bind fun o4 => bif (!o4.1) then (some (o4.1, o4.2.1, o4.2.2.1, o4.2.2.2.2.2.1, o3.2.2.2.1, o4.2.2.2.1, o4.2.2.2.2.1, a4, a5, a6, a7, a8, a9, a10, a11, a12, o4.2.2.2.2.2.2.1, o4.2.2.2.2.2.2.2.1, o4.2.2.2.2.2.2.2.2, [], [], [], [])) else (((T6 k) (a4, a5, o4.2.2.2.2.2.1, o4.2.2.2.2.2.2.1, o4.2.2.2.2.2.2.2.1, o4.2.2.2.2.2.2.2.2)).bind fun o5 => bif (!o5.1) then (some (o5.1, o5.2.1, o5.2.2.1, o5.2.2.2.2.2.1, o3.2.2.2.1, o4.2.2.2.1, o4.2.2.2.2.1, o5.2.2.2.1, o5.2.2.2.2.1, a6, a7, a8, a9, a10, a11, a12, o5.2.2.2.2.2.2.1, o5.2.2.2.2.2.2.2.1, o5.2.2.2.2.2.2.2.2.1, o5.2.2.2.2.2.2.2.2.2, [], [], [])) else (((T7 k) (a6, a7, o5.2.2.2.2.2.1, o5.2.2.2.2.2.2.1, o5.2.2.2.2.2.2.2.1, o5.2.2.2.2.2.2.2.2.1, o5.2.2.2.2.2.2.2.2.2)).bind fun o6 => bif (!o6.1) then (some (o6.1, o6.2.1, o6.2.2.1, o6.2.2.2.2.2.1, o3.2.2.2.1, o4.2.2.2.1, o4.2.2.2.2.1, o5.2.2.2.1, o5.2.2.2.2.1, o6.2.2.2.1, o6.2.2.2.2.1, a8, a9, a10, a11, a12, o6.2.2.2.2.2.2.1, o6.2.2.2.2.2.2.2.1, o6.2.2.2.2.2.2.2.2.1, o6.2.2.2.2.2.2.2.2.2.1, o6.2.2.2.2.2.2.2.2.2.2, [], [])) else (((T2 k) (a8, a9, o6.2.2.2.2.2.1, o6.2.2.2.2.2.2.1, o6.2.2.2.2.2.2.2.1, o6.2.2.2.2.2.2.2.2.1, o6.2.2.2.2.2.2.2.2.2.1, o6.2.2.2.2.2.2.2.2.2.2)).bind fun o7 => bif (!o7.1) then (some (o7.1, o7.2.1, o7.2.2.1, o7.2.2.2.2.2.1, o3.2.2.2.1, o4.2.2.2.1, o4.2.2.2.2.1, o5.2.2.2.1, o5.2.2.2.2.1, o6.2.2.2.1, o6.2.2.2.2.1, o7.2.2.2.1, o7.2.2.2.2.1, a10, a11, a12, o7.2.2.2.2.2.2.1, o7.2.2.2.2.2.2.2.1, o7.2.2.2.2.2.2.2.2.1, o7.2.2.2.2.2.2.2.2.2.1, o7.2.2.2.2.2.2.2.2.2.2.1, o7.2.2.2.2.2.2.2.2.2.2.2, [])) else (((T1 k) (a10, a11, o7.2.2.2.2.2.1, o7.2.2.2.2.2.2.1, o7.2.2.2.2.2.2.2.1, o7.2.2.2.2.2.2.2.2.1, o7.2.2.2.2.2.2.2.2.2.1, o7.2.2.2.2.2.2.2.2.2.2.1, o7.2.2.2.2.2.2.2.2.2.2.2)).bind fun o8 => bif (!o8.1) then (some (o8.1, o8.2.1, o8.2.2.1, o8.2.2.2.2.2.1, o3.2.2.2.1, o4.2.2.2.1, o4.2.2.2.2.1, o5.2.2.2.1, o5.2.2.2.2.1, o6.2.2.2.1, o6.2.2.2.2.1, o7.2.2.2.1, o7.2.2.2.2.1, o8.2.2.2.1, o8.2.2.2.2.1, a12, o8.2.2.2.2.2.2.1, o8.2.2.2.2.2.2.2.1, o8.2.2.2.2.2.2.2.2.1, o8.2.2.2.2.2.2.2.2.2.1, o8.2.2.2.2.2.2.2.2.2.2.1, o8.2.2.2.2.2.2.2.2.2.2.2.1, o8.2.2.2.2.2.2.2.2.2.2.2.2)) else (((Bj k) (a12, o8.2.2.2.2.2.1)).bind fun o9 => bif (!o9.1) then (some (o9.1, o9.2.1, o9.2.2.1, o9.2.2.2.2, o3.2.2.2.1, o4.2.2.2.1, o4.2.2.2.2.1, o5.2.2.2.1, o5.2.2.2.2.1, o6.2.2.2.1, o6.2.2.2.2.1, o7.2.2.2.1, o7.2.2.2.2.1, o8.2.2.2.1, o8.2.2.2.2.1, o9.2.2.2.1, o8.2.2.2.2.2.2.1, o8.2.2.2.2.2.2.2.1, o8.2.2.2.2.2.2.2.2.1, o8.2.2.2.2.2.2.2.2.2.1, o8.2.2.2.2.2.2.2.2.2.2.1, o8.2.2.2.2.2.2.2.2.2.2.2.1, o8.2.2.2.2.2.2.2.2.2.2.2.2)) else (some (true, (0 : Int), (0 : Int), o9.2.2.2.2, o3.2.2.2.1, o4.2.2.2.1, o4.2.2.2.2.1, o5.2.2.2.1, o5.2.2.2.2.1, o6.2.2.2.1, o6.2.2.2.2.1, o7.2.2.2.1, o7.2.2.2.2.1, o8.2.2.2.1, o8.2.2.2.2.1, o9.2.2.2.1, o8.2.2.2.2.2.2.1, o8.2.2.2.2.2.2.2.1, o8.2.2.2.2.2.2.2.2.1, o8.2.2.2.2.2.2.2.2.2.1, o8.2.2.2.2.2.2.2.2.2.2.1, o8.2.2.2.2.2.2.2.2.2.2.2.1, o8.2.2.2.2.2.2.2.2.2.2.2.2)))))))))
theorem B1i (k : Nat) (x : H159) : Aax k x = Awf k x := (Af _ _).trans (by kernel_rfl)
theorem Brk (k : Nat) : Aa Tryz.prog 92 (Bj2 k) := Ae (Awe k) (k + 32) rfl ⟨⟨Buc k, trivial⟩, ⟨Bsn k, trivial⟩, ⟨Fv k, trivial⟩, ⟨Bqy k, trivial⟩, ⟨Bq2 k, trivial⟩, ⟨Bq4 k, trivial⟩, ⟨Bqw k, trivial⟩, ⟨Bqu k, trivial⟩, trivial⟩ Ad Tryz.func92 (by kernel_rfl)
abbrev H161 : Type := (List Int) × (Int) × (Bool) × (Int) × (Int) × (List (YT8)) × (List (YT1)) × (List (YT2)) × (List (YT3)) × (List ((List (YT4)) × (Unit))) × (List (YT5))
def fpnodei : Sk := ⟨[.lf (.ptr 0 0)], [[.pv (.slice yt8)]], []⟩
def fpnodeo : Sk := ⟨[.agg [.pv .str, .own 0, .own 1, .own 2, .own 3, .own 4, .pv (.int .i64)], .lf (.erp 88 [(.int .i64), (.int .i64)])], fpnodei.boxes, [some (95, yt1), some (97, yt2), some (99, yt3), some (102, (.cons (.slice yt4) .nil)), some (106, yt5)]⟩
def fpnodeE (k : Nat) : EnvL := [(149, [sgpplace k]), (150, [sgpname k]), (93, [Fl k]), (151, [Bjk k]), (153, [Bjo k]), (155, [Bjq k]), (157, [Bji k]), (159, [Bjg k]), (92, [Bj2 k])]
def A0x (k : Nat) : Cfg := { mkC (fpnodeE k) 125 1 0 with bl := [54, 56] }
def cpnode (k : Nat) : (List (YT8)) → Option H161 := hid (Ac (A0x k) k Tryz.f97 fpnodei fpnodeo)
def sgpnode (k : Nat) : Sig := Ab fpnodei fpnodeo (cpnode k)
noncomputable def A0y (k : Nat) : (List (YT8)) → Option H161
 | a0 => ((cpplace k) (a0, ([] : List Int), (0 : Int))).bind fun o1 => ((cpname k) (o1.1, o1.2.1, o1.2.2)).bind fun o2 => ((Bp k) (([123] : List Int), o2.1)).bind fun o3 => ((Aam k) (([104, 101, 97, 100] : List Int), (16 : Int), o3.1, o2.2.1, o2.2.2)).bind fun o4 => ((Aao k) (([119, 97, 108, 107] : List Int), (8 : Int), o4.1, o4.2.1, o4.2.2.1)).bind fun o5 => ((Aap k) (([112, 104, 97, 115, 101] : List Int), (16 : Int), o5.1, o5.2.1, o5.2.2.1)).bind fun o6 => ((Aal k) (([103, 114, 111, 117, 112] : List Int), (4 : Int), o6.1, o6.2.1, o6.2.2.1)).bind fun o7 => ((Aak k) (([102, 111, 101] : List Int), (64 : Int), o7.1, o7.2.1, o7.2.2.1)).bind fun o8 => ((Bp k) (([125] : List Int), o8.1)).bind fun o9 => ((Aax k) (o9.1, o3.2, o4.2.2.2.1, o4.2.2.2.2, o5.2.2.2.1, o5.2.2.2.2, o6.2.2.2.1, o6.2.2.2.2, o7.2.2.2.1, o7.2.2.2.2, o8.2.2.2.1, o8.2.2.2.2, o9.2, o8.2.1, o8.2.2.1)).bind fun o10 => some (o10.2.2.2.2.2.2.2.2.2.2.2.2.2.2.2.2.1, o10.2.2.2.2.2.2.2.2.2.2.2.2.2.2.2.2.2.1, o10.1, o10.2.1, o10.2.2.1, o10.2.2.2.1, o10.2.2.2.2.2.2.2.2.2.2.2.2.2.2.2.2.2.2.1, o10.2.2.2.2.2.2.2.2.2.2.2.2.2.2.2.2.2.2.2.1, o10.2.2.2.2.2.2.2.2.2.2.2.2.2.2.2.2.2.2.2.2.1, o10.2.2.2.2.2.2.2.2.2.2.2.2.2.2.2.2.2.2.2.2.2.1, o10.2.2.2.2.2.2.2.2.2.2.2.2.2.2.2.2.2.2.2.2.2.2)
theorem B3k (k : Nat) (x : (List (YT8))) : cpnode k x = A0y k x := (Af _ _).trans (by kernel_rfl)
theorem Bsu (k : Nat) : Aa Tryz.prog 97 (sgpnode k) := Ae (A0x k) k rfl ⟨⟨Bud k, trivial⟩, ⟨Bso k, trivial⟩, ⟨Fu k, trivial⟩, ⟨Bqz k, trivial⟩, ⟨Bq3 k, trivial⟩, ⟨Bq5 k, trivial⟩, ⟨Bqx k, trivial⟩, ⟨Bqv k, trivial⟩, ⟨Brk k, trivial⟩, trivial⟩ Ad Tryz.func97 (by kernel_rfl)
abbrev H162 : Type := (List Int) × (Int) × (List (YT8)) × (Int) × (Int) × (Int) × (Int) × (Int) × (Int) × (Int) × (List (YT6))
abbrev H163 : Type := (List Int) × (Int) × (List (YT8)) × (Int) × (Int) × (Int) × (Int) × (Int) × (Int) × (Int)
abbrev H164 : Type := (Bool) × (Int) × (Int) × (List Int) × (Int) × (List (YT8)) × (Int) × (Int) × (Int) × (Int) × (Int) × (Int) × (Int) × (List (YT6))
def Afq : Sk := ⟨[.lf (.ptr 0 0), .lf (.ptr 1 0), .lf (.ptr 2 0), .lf (.ptr 3 0), .lf (.ptr 4 0)], [[.ptr 5 0], [.pv .str], [.ptr 6 5], [.pv (.int .i64)], [.fn 97 [(5, 0)] []], [.pv (.slice yt8)], q3], []⟩
def Afr : Sk := ⟨[.lf (.erp 88 [(.int .i64), (.int .i64)])], [[.ptr 5 0], [.pv .str], [.ptr 6 5], [.pv (.int .i64)], [.fn 97 [(5, 0)] []], [.pv (.slice yt8)], q24], [some (46, yt6)]⟩
def Au4 : Sk := ⟨sparse 37 [(0, .lf (.ptr 0 0)), (1, .lf (.ptr 1 0)), (2, .lf (.ptr 2 0)), (3, .lf (.ptr 3 0)), (4, .lf (.ptr 4 0))], [[.ptr 5 0], [.pv .str], [.ptr 6 5], [.pv (.int .i64)], [.fn 97 [(5, 0)] []], [.pv (.slice yt8)], q24], [some (46, yt6)]⟩
abbrev Afn := H162
def Rh : Afn → St := stOf Au4 90
def B0o (k : Nat) : EnvL := [(143, [Ep k]), (144, [A9 k]), (145, [Ba k]), (97, [sgpnode k])]
def Hg (k : Nat) : FnX H164 := mkX ({ mkC (B0o k) 90 7 0 with hint := fun i => look none [(1, some Au4)] i, bl := [54, 56], ld := [(29, 2), (30, 2), (31, 9999), (32, 6), (33, 54), (36, 9999)], sr := [(36, 6)] }) k Tryz.f148 Afr
def T5 (k : Nat) : H163 → Option H164 := hid (Ac (Hg k).C k Tryz.f148 Afq Afr)
def Bjn (k : Nat) : Sig := Ab Afq Afr (T5 k)
noncomputable def Afp (k : Nat) (J : JF H164) (L : LF H164) : H163 → Option H164
 | (a0, a1, a2, a3, a4, a5, a6, a7, a8, a9) => L 1 [] k (Rh (a0, a1, a2, a3, a4, a5, a6, a7, a8, a9, []))
theorem B0p (k : Nat) (x : H163) : T5 k x = Afp k (Hg k).J (Hg k).L x := by
 refine (Af _ _).trans ?_; apply cutX (Hg k) [] [] (st0 (Hg k).C Tryz.f148 Afq x) [] [(1, [], k)] (Afp k · · x) <;> intros <;> kernel_rfl
noncomputable def Ri (k j1 : Nat) (J : JF H164) (L : LF H164) : Afn → Option H164
 | (a0, a1, a2, a3, a4, a5, a6, a7, a8, a9, a10) => ((Dh k) (a0, a2)).bind fun o1 => bif o1.1 then (bif (((List.length a10 : Nat) : Int) == a1) then (((A7 k) ((4 : Int), o1.2)).bind fun o2 => some (o2.1, o2.2.1, o2.2.2.1, a0, a1, o2.2.2.2, a3, a4, a5, a6, a7, a8, a9, a10)) else (((A4 k) (o1.2)).bind fun o3 => ((cpnode k) (o3.2.2.2.2)).bind fun o4 => bif (!o4.2.2.1) then (some (o4.2.2.1, o4.2.2.2.1, o4.2.2.2.2.1, a0, a1, o4.2.2.2.2.2.1, a3, a4, a5, a6, a7, a8, a9, a10)) else (app 144 a10 ([(o4.1, (o4.2.2.2.2.2.2.1, (o4.2.2.2.2.2.2.2.1, (o4.2.2.2.2.2.2.2.2.1, (o4.2.2.2.2.2.2.2.2.2.1, (o4.2.2.2.2.2.2.2.2.2.2, (o4.2.1, ())))))))] : List (YT6)) fun o5 => L 1 [] j1 (Rh (a0, a1, o4.2.2.2.2.2.1, a3, a4, a5, a6, a7, a8, a9, o5))))) else (some (true, (0 : Int), (0 : Int), a0, a1, o1.2, a3, a4, a5, a6, a7, a8, a9, a10))
theorem Afo (k j1 : Nat) (x : Afn) : (Hg k).L 1 [] (j1 + 1) (Rh x) = Ri k j1 (Hg k).J (Hg k).L x := by
 apply cutX (Hg k) [.r, .l, .b, .b] [j1] (Rh x) [] [(1, [], j1)] (Ri k j1 · · x) <;> intros <;> kernel_rfl
theorem Bq0 (k : Nat) : Aa Tryz.prog 148 (Bjn k) := Ae (Hg k).C k rfl ⟨⟨Et k, trivial⟩, ⟨Bb k, trivial⟩, ⟨Bc k, trivial⟩, ⟨Bsu k, trivial⟩, trivial⟩ Ad Tryz.func148 (by kernel_rfl)
end
noncomputable section
abbrev H165 : Type := (List Int) × (List Int) × (List Int) × (List Int) × (List Int) × (List Int) × (List Int) × (Int) × (List Int) × (Int) × (Int) × (Int) × (Int) × (Int) × (Int) × (Int) × (Bool) × (List (YT8))
abbrev H166 : Type := (Bool) × (Int) × (Int) × (List (YT8)) × (List Int) × (List Int) × (List Int) × (List Int) × (List Int) × (List Int) × (List Int) × (Int) × (List Int) × (Int) × (Int) × (Int) × (Int) × (Int) × (Int) × (Int) × (Bool) × (List (YT6))
def fpalli : Sk := ⟨[.lf (.ptr 0 0), .lf (.sb 1 12)], [[.own 0], q4, [.ptr 0 0], [.pv .str], [.ptr 0 0], [.ptr 30 0], [.ptr 0 0], [.pv .str], [.ptr 0 0], [.ptr 30 1], [.ptr 0 0], [.pv .str], [.ptr 0 0], [.ptr 30 2], [.ptr 0 0], [.pv .str], [.ptr 0 0], [.pv .str], [.ptr 0 0], [.ptr 30 3], [.ptr 0 0], [.pv .str], [.ptr 0 0], [.pv .str], [.ptr 30 5], [.pv (.int .i64)], [.fn 97 [(0, 0)] []], [.ptr 0 0], [.pv .str], [.ptr 31 0], q3, [.pv .bool]], [some (135, yt8)]⟩
def fpallo : Sk := ⟨[.lf (.erp 88 [(.int .i64), (.int .i64)])], [[.pv (.slice yt8)], q4, [.ptr 0 0], [.pv .str], [.ptr 0 0], [.ptr 30 0], [.ptr 0 0], [.pv .str], [.ptr 0 0], [.ptr 30 1], [.ptr 0 0], [.pv .str], [.ptr 0 0], [.ptr 30 2], [.ptr 0 0], [.pv .str], [.ptr 0 0], [.pv .str], [.ptr 0 0], [.ptr 30 3], [.ptr 0 0], [.pv .str], [.ptr 0 0], [.pv .str], [.ptr 30 5], [.pv (.int .i64)], [.fn 97 [(0, 0)] []], [.ptr 0 0], [.pv .str], [.ptr 31 0], q25, [.pv .bool]], [none, some (46, yt6)]⟩
def fpallE (k : Nat) : EnvL := [(142, [Bmi k, Fm k]), (146, [Bll k, Blm k, Blx k]), (147, [Bj9 k]), (148, [Bjn k]), (161, [Aob k])]
def Aw4 (k : Nat) : Cfg := mkC (fpallE k) 69 32 1
def cpall (k : Nat) : H165 → Option H166 := hid (Ac (Aw4 k) (k + 32) Tryz.f92 fpalli fpallo)
def sgpall (k : Nat) : Sig := Ab fpalli fpallo (cpall k)
noncomputable def Aw5 (k : Nat) : H165 → Option H166
 | (a0, a1, a2, a3, a4, a5, a6, a7, a8, a9, a10, a11, a12, a13, a14, a15, a16, a17) => ((Vl k) (a0, a17)).bind fun o1 => bif (!o1.1) then (some (o1.1, o1.2.1, o1.2.2.1, o1.2.2.2.2, o1.2.2.2.1, a1, a2, a3, a4, a5, a6, a7, a8, a9, a10, a11, a12, a13, a14, a15, a16, [])) else (((Us k) (o1.2.2.2.2, a9, a10, a11, a12, a13, a14, a15)).bind fun o2 => bif (!o2.1) then (some (o2.1, o2.2.1, o2.2.2.1, o2.2.2.2.1, o1.2.2.2.1, a1, a2, a3, a4, a5, a6, a7, a8, o2.2.2.2.2.1, o2.2.2.2.2.2.1, o2.2.2.2.2.2.2.1, o2.2.2.2.2.2.2.2.1, o2.2.2.2.2.2.2.2.2.1, o2.2.2.2.2.2.2.2.2.2.1, o2.2.2.2.2.2.2.2.2.2.2, a16, [])) else (((Bj k) (a1, o2.2.2.2.1)).bind fun o3 => bif (!o3.1) then (some (o3.1, o3.2.1, o3.2.2.1, o3.2.2.2.2, o1.2.2.2.1, o3.2.2.2.1, a2, a3, a4, a5, a6, a7, a8, o2.2.2.2.2.1, o2.2.2.2.2.2.1, o2.2.2.2.2.2.2.1, o2.2.2.2.2.2.2.2.1, o2.2.2.2.2.2.2.2.2.1, o2.2.2.2.2.2.2.2.2.2.1, o2.2.2.2.2.2.2.2.2.2.2, a16, [])) else (((Ut k) (o3.2.2.2.2, o2.2.2.2.2.1, o2.2.2.2.2.2.1, o2.2.2.2.2.2.2.1, o2.2.2.2.2.2.2.2.1, o2.2.2.2.2.2.2.2.2.1, o2.2.2.2.2.2.2.2.2.2.1, o2.2.2.2.2.2.2.2.2.2.2)).bind fun o4 => bif (!o4.1) then (some (o4.1, o4.2.1, o4.2.2.1, o4.2.2.2.1, o1.2.2.2.1, o3.2.2.2.1, a2, a3, a4, a5, a6, a7, a8, o4.2.2.2.2.1, o4.2.2.2.2.2.1, o4.2.2.2.2.2.2.1, o4.2.2.2.2.2.2.2.1, o4.2.2.2.2.2.2.2.2.1, o4.2.2.2.2.2.2.2.2.2.1, o4.2.2.2.2.2.2.2.2.2.2, a16, [])) else (((Bj k) (a2, o4.2.2.2.1)).bind fun o5 => bif (!o5.1) then (some (o5.1, o5.2.1, o5.2.2.1, o5.2.2.2.2, o1.2.2.2.1, o3.2.2.2.1, o5.2.2.2.1, a3, a4, a5, a6, a7, a8, o4.2.2.2.2.1, o4.2.2.2.2.2.1, o4.2.2.2.2.2.2.1, o4.2.2.2.2.2.2.2.1, o4.2.2.2.2.2.2.2.2.1, o4.2.2.2.2.2.2.2.2.2.1, o4.2.2.2.2.2.2.2.2.2.2, a16, [])) else (((U4 k) (o5.2.2.2.2, o4.2.2.2.2.1, o4.2.2.2.2.2.1, o4.2.2.2.2.2.2.1, o4.2.2.2.2.2.2.2.1, o4.2.2.2.2.2.2.2.2.1, o4.2.2.2.2.2.2.2.2.2.1, o4.2.2.2.2.2.2.2.2.2.2)).bind fun o6 => bif (!o6.1) then (some (o6.1, o6.2.1, o6.2.2.1, o6.2.2.2.1, o1.2.2.2.1, o3.2.2.2.1, o5.2.2.2.1, a3, a4, a5, a6, a7, a8, o6.2.2.2.2.1, o6.2.2.2.2.2.1, o6.2.2.2.2.2.2.1, o6.2.2.2.2.2.2.2.1, o6.2.2.2.2.2.2.2.2.1, o6.2.2.2.2.2.2.2.2.2.1, o6.2.2.2.2.2.2.2.2.2.2, a16, [])) else (((Bj k) (a3, o6.2.2.2.1)).bind fun o7 => bif (!o7.1) then (some (o7.1, o7.2.1, o7.2.2.1, o7.2.2.2.2, o1.2.2.2.1, o3.2.2.2.1, o5.2.2.2.1, o7.2.2.2.1, a4, a5, a6, a7, a8, o6.2.2.2.2.1, o6.2.2.2.2.2.1, o6.2.2.2.2.2.2.1, o6.2.2.2.2.2.2.2.1, o6.2.2.2.2.2.2.2.2.1, o6.2.2.2.2.2.2.2.2.2.1, o6.2.2.2.2.2.2.2.2.2.2, a16, [])) else (((Bj k) (a4, o7.2.2.2.2)).bind fun o8 => bif (!o8.1) then (some (o8.1, o8.2.1, o8.2.2.1, o8.2.2.2.2, o1.2.2.2.1, o3.2.2.2.1, o5.2.2.2.1, o7.2.2.2.1, o8.2.2.2.1, a5, a6, a7, a8, o6.2.2.2.2.1, o6.2.2.2.2.2.1, o6.2.2.2.2.2.2.1, o6.2.2.2.2.2.2.2.1, o6.2.2.2.2.2.2.2.2.1, o6.2.2.2.2.2.2.2.2.2.1, o6.2.2.2.2.2.2.2.2.2.2, a16, [])) else (((Uc k) (o8.2.2.2.2, o6.2.2.2.2.1, o6.2.2.2.2.2.1, o6.2.2.2.2.2.2.1, o6.2.2.2.2.2.2.2.1, o6.2.2.2.2.2.2.2.2.1, o6.2.2.2.2.2.2.2.2.2.1, o6.2.2.2.2.2.2.2.2.2.2)).bind fun o9 => bif (!o9.1) then (some (o9.1, o9.2.1, o9.2.2.1, o9.2.2.2.1, o1.2.2.2.1, o3.2.2.2.1, o5.2.2.2.1, o7.2.2.2.1, o8.2.2.2.1, a5, a6, a7, a8, o9.2.2.2.2.1, o9.2.2.2.2.2.1, o9.2.2.2.2.2.2.1, o9.2.2.2.2.2.2.2.1, o9.2.2.2.2.2.2.2.2.1, o9.2.2.2.2.2.2.2.2.2.1, o9.2.2.2.2.2.2.2.2.2.2, a16, [])) else (((Bj k) (a5, o9.2.2.2.1)).bind fun o10 => bif (!o10.1) then (some (o10.1, o10.2.1, o10.2.2.1, o10.2.2.2.2, o1.2.2.2.1, o3.2.2.2.1, o5.2.2.2.1, o7.2.2.2.1, o8.2.2.2.1, o10.2.2.2.1, a6, a7, a8, o9.2.2.2.2.1, o9.2.2.2.2.2.1, o9.2.2.2.2.2.2.1, o9.2.2.2.2.2.2.2.1, o9.2.2.2.2.2.2.2.2.1, o9.2.2.2.2.2.2.2.2.2.1, o9.2.2.2.2.2.2.2.2.2.2, a16, [])) else (((T5 k) (a6, a7, o10.2.2.2.2, o9.2.2.2.2.1, o9.2.2.2.2.2.1, o9.2.2.2.2.2.2.1, o9.2.2.2.2.2.2.2.1, o9.2.2.2.2.2.2.2.2.1, o9.2.2.2.2.2.2.2.2.2.1, o9.2.2.2.2.2.2.2.2.2.2)).bind fun o11 => bif (!o11.1) then (some (o11.1, o11.2.1, o11.2.2.1, o11.2.2.2.2.2.1, o1.2.2.2.1, o3.2.2.2.1, o5.2.2.2.1, o7.2.2.2.1, o8.2.2.2.1, o10.2.2.2.1, o11.2.2.2.1, o11.2.2.2.2.1, a8, o11.2.2.2.2.2.2.1, o11.2.2.2.2.2.2.2.1, o11.2.2.2.2.2.2.2.2.1, o11.2.2.2.2.2.2.2.2.2.1, o11.2.2.2.2.2.2.2.2.2.2.1, o11.2.2.2.2.2.2.2.2.2.2.2.1, o11.2.2.2.2.2.2.2.2.2.2.2.2.1, a16, o11.2.2.2.2.2.2.2.2.2.2.2.2.2)) else (((Ps k) (a8, o11.2.2.2.2.2.1, a16)).bind fun o12 => some (true, (0 : Int), (0 : Int), o12.2.1, o1.2.2.2.1, o3.2.2.2.1, o5.2.2.2.1, o7.2.2.2.1, o8.2.2.2.1, o10.2.2.2.1, o11.2.2.2.1, o11.2.2.2.2.1, o12.1, o11.2.2.2.2.2.2.1, o11.2.2.2.2.2.2.2.1, o11.2.2.2.2.2.2.2.2.1, o11.2.2.2.2.2.2.2.2.2.1, o11.2.2.2.2.2.2.2.2.2.2.1, o11.2.2.2.2.2.2.2.2.2.2.2.1, o11.2.2.2.2.2.2.2.2.2.2.2.2.1, o12.2.2, o11.2.2.2.2.2.2.2.2.2.2.2.2.2))))))))))))
theorem fpall_e (k : Nat) (x : H165) : cpall k x = Aw5 k x := (Af _ _).trans (by kernel_rfl)
theorem Brq (k : Nat) : Aa Tryz.prog 92 (sgpall k) := Ae (Aw4 k) (k + 32) rfl ⟨⟨Buk k, Fv k, trivial⟩, ⟨Btz k, Btp k, Btr k, trivial⟩, ⟨Brw k, trivial⟩, ⟨Bq0 k, trivial⟩, ⟨Aqk k, trivial⟩, trivial⟩ Ad Tryz.func92 (by kernel_rfl)
abbrev H167 : Type := (List (YT8)) × (Int) × (Int) × (Int) × (Int) × (Int) × (Int) × (Int) × (List Int) × (Int) × (List (YT6))
def Avq : Sk := ⟨[.lf (.ptr 0 0), .lf (.pv .str), .lf (.pv (.int .i64)), .lf (.ptr 1 6), .lf (.fn 100 [(0, 0)] [])], [[.pv (.slice yt8)], q24], [some (46, yt6)]⟩
def Avr : Sk := ⟨[.lf (.fn 162 [] [(2, 0), (3, 0), (4, 0), (5, 0), (6, 0)])], [[.pv (.slice yt8)], q24, [.ptr 0 0], [.pv .str], [.ptr 1 6], [.pv (.int .i64)], [.fn 100 [(0, 0)] []]], [some (46, yt6)]⟩
def Avn (k : Nat) : Cfg := { mkC [] 60 2 1 with bl := [54, 56] }
def Aar (k : Nat) : H162 → Option H167 := hid (Ac (Avn k) k Tryz.f99 Avq Avr)
def Bju (k : Nat) : Sig := Ab Avq Avr (Aar k)
noncomputable def Avp (k : Nat) : H162 → Option H167
 | (a0, a1, a2, a3, a4, a5, a6, a7, a8, a9, a10) => some (a2, a3, a4, a5, a6, a7, a8, a9, a0, a1, a10)
theorem B02 (k : Nat) (x : H162) : Aar k x = Avp k x := (Af _ _).trans (by kernel_rfl)
theorem Bq9 (k : Nat) : Aa Tryz.prog 99 (Bju k) := Ae (Avn k) (l := []) k rfl trivial Ad Tryz.func99 (by kernel_rfl)
abbrev H168 : Type := (List (YT8)) × (Int) × (Int) × (Int) × (Int) × (Int) × (Int) × (Int) × (List (YT6))
def A1t : Sk := ⟨[.lf (.ptr 0 0), .lf (.ptr 1 7)], [[.pv (.slice yt8)], q24], [some (46, yt6)]⟩
def A1u : Sk := ⟨[.lf (.fn 146 [] [(2, 0), (3, 0)])], [[.pv (.slice yt8)], q24, [.ptr 0 0], [.ptr 1 7]], [some (46, yt6)]⟩
def A1r (k : Nat) : Cfg := { mkC [] 54 2 1 with bl := [54, 56] }
def Abo (k : Nat) : H168 → Option H168 := hid (Ac (A1r k) k Tryz.f94 A1t A1u)
def Bk9 (k : Nat) : Sig := Ab A1t A1u (Abo k)
noncomputable def A1s (k : Nat) : H168 → Option H168
 | (a0, a1, a2, a3, a4, a5, a6, a7, a8) => some (a0, a1, a2, a3, a4, a5, a6, a7, a8)
theorem B3s (k : Nat) (x : H168) : Abo k x = A1s k x := (Af _ _).trans (by kernel_rfl)
theorem Bs2 (k : Nat) : Aa Tryz.prog 94 (Bk9 k) := Ae (A1r k) (l := []) k rfl trivial Ad Tryz.func94 (by kernel_rfl)
def A1x : Sk := ⟨[.lf (.ptr 0 0), .lf (.ptr 1 8)], [[.pv (.slice yt8)], q24], [some (46, yt6)]⟩
def A1y : Sk := ⟨[.lf (.fn 146 [] [(2, 0), (3, 0)])], [[.pv (.slice yt8)], q24, [.ptr 0 0], [.ptr 1 8]], [some (46, yt6)]⟩
def A1v (k : Nat) : Cfg := { mkC [] 54 2 1 with bl := [54, 56] }
def Abp (k : Nat) : H168 → Option H168 := hid (Ac (A1v k) k Tryz.f94 A1x A1y)
def Bla (k : Nat) : Sig := Ab A1x A1y (Abp k)
noncomputable def A1w (k : Nat) : H168 → Option H168
 | (a0, a1, a2, a3, a4, a5, a6, a7, a8) => some (a0, a1, a2, a3, a4, a5, a6, a7, a8)
theorem B3t (k : Nat) (x : H168) : Abp k x = A1w k x := (Af _ _).trans (by kernel_rfl)
theorem Bs3 (k : Nat) : Aa Tryz.prog 94 (Bla k) := Ae (A1v k) (l := []) k rfl trivial Ad Tryz.func94 (by kernel_rfl)
abbrev H169 : Type := (List (YT8)) × (List Int) × (List Int) × (List Int) × (Int) × (Int) × (Int)
def A5k : Sk := ⟨[.lf (.ptr 0 0), .lf (.ptr 1 5)], [[.pv (.slice yt8)], q27], []⟩
def A5l : Sk := ⟨[.lf (.fn 191 [] [(2, 0), (3, 0)])], [[.pv (.slice yt8)], q27, [.ptr 0 0], [.ptr 1 5]], []⟩
def A5i (k : Nat) : Cfg := { mkC [] 54 2 0 with bl := [54, 56] }
def Ab4 (k : Nat) : H169 → Option H169 := hid (Ac (A5i k) k Tryz.f149 A5k A5l)
def Bma (k : Nat) : Sig := Ab A5k A5l (Ab4 k)
noncomputable def A5j (k : Nat) : H169 → Option H169
 | (a0, a1, a2, a3, a4, a5, a6) => some (a0, a1, a2, a3, a4, a5, a6)
theorem B5g (k : Nat) (x : H169) : Ab4 k x = A5j k x := (Af _ _).trans (by kernel_rfl)
theorem Bt6 (k : Nat) : Aa Tryz.prog 149 (Bma k) := Ae (A5i k) (l := []) k rfl trivial Ad Tryz.func149 (by kernel_rfl)
def Azd : Sk := ⟨[.lf (.ptr 0 0), .lf (.ptr 1 0)], [[.pv (.slice yt8)], q27], []⟩
def Aze : Sk := ⟨[.lf (.fn 192 [] [(2, 0), (3, 0)])], [[.pv (.slice yt8)], q27, [.ptr 0 0], [.ptr 1 0]], []⟩
def Azb (k : Nat) : Cfg := { mkC [] 54 2 0 with bl := [54, 56] }
def Abd (k : Nat) : H169 → Option H169 := hid (Ac (Azb k) k Tryz.f150 Azd Aze)
def Bkl (k : Nat) : Sig := Ab Azd Aze (Abd k)
noncomputable def Azc (k : Nat) : H169 → Option H169
 | (a0, a1, a2, a3, a4, a5, a6) => some (a0, a1, a2, a3, a4, a5, a6)
theorem B2l (k : Nat) (x : H169) : Abd k x = Azc k x := (Af _ _).trans (by kernel_rfl)
theorem Bsb (k : Nat) : Aa Tryz.prog 150 (Bkl k) := Ae (Azb k) (l := []) k rfl trivial Ad Tryz.func150 (by kernel_rfl)
def Azh : Sk := ⟨[.lf (.ptr 0 0), .lf (.ptr 1 1)], [[.pv (.slice yt8)], q27], []⟩
def Azi : Sk := ⟨[.lf (.fn 192 [] [(2, 0), (3, 0)])], [[.pv (.slice yt8)], q27, [.ptr 0 0], [.ptr 1 1]], []⟩
def Azf (k : Nat) : Cfg := { mkC [] 54 2 0 with bl := [54, 56] }
def Abe (k : Nat) : H169 → Option H169 := hid (Ac (Azf k) k Tryz.f150 Azh Azi)
def Bkm (k : Nat) : Sig := Ab Azh Azi (Abe k)
noncomputable def Azg (k : Nat) : H169 → Option H169
 | (a0, a1, a2, a3, a4, a5, a6) => some (a0, a1, a2, a3, a4, a5, a6)
theorem B2m (k : Nat) (x : H169) : Abe k x = Azg k x := (Af _ _).trans (by kernel_rfl)
theorem Bsc (k : Nat) : Aa Tryz.prog 150 (Bkm k) := Ae (Azf k) (l := []) k rfl trivial Ad Tryz.func150 (by kernel_rfl)
def Ayi : Sk := ⟨[.lf (.ptr 0 0), .lf (.ptr 1 2)], [[.pv (.slice yt8)], q27], []⟩
def Ayj : Sk := ⟨[.lf (.fn 192 [] [(2, 0), (3, 0)])], [[.pv (.slice yt8)], q27, [.ptr 0 0], [.ptr 1 2]], []⟩
def Ayg (k : Nat) : Cfg := { mkC [] 54 2 0 with bl := [54, 56] }
def Aa7 (k : Nat) : H169 → Option H169 := hid (Ac (Ayg k) k Tryz.f150 Ayi Ayj)
def Bkf (k : Nat) : Sig := Ab Ayi Ayj (Aa7 k)
noncomputable def Ayh (k : Nat) : H169 → Option H169
 | (a0, a1, a2, a3, a4, a5, a6) => some (a0, a1, a2, a3, a4, a5, a6)
theorem B2e (k : Nat) (x : H169) : Aa7 k x = Ayh k x := (Af _ _).trans (by kernel_rfl)
theorem Br4 (k : Nat) : Aa Tryz.prog 150 (Bkf k) := Ae (Ayg k) (l := []) k rfl trivial Ad Tryz.func150 (by kernel_rfl)
def A11 : Sk := ⟨[.lf (.ptr 0 0), .lf (.ptr 1 3)], [[.pv (.slice yt8)], q27], []⟩
def A12 : Sk := ⟨[.lf (.fn 146 [] [(2, 0), (3, 0)])], [[.pv (.slice yt8)], q27, [.ptr 0 0], [.ptr 1 3]], []⟩
def A1z (k : Nat) : Cfg := { mkC [] 54 2 0 with bl := [54, 56] }
def Abq (k : Nat) : H169 → Option H169 := hid (Ac (A1z k) k Tryz.f94 A11 A12)
def Blb (k : Nat) : Sig := Ab A11 A12 (Abq k)
noncomputable def A10 (k : Nat) : H169 → Option H169
 | (a0, a1, a2, a3, a4, a5, a6) => some (a0, a1, a2, a3, a4, a5, a6)
theorem B3u (k : Nat) (x : H169) : Abq k x = A10 k x := (Af _ _).trans (by kernel_rfl)
theorem Bs4 (k : Nat) : Aa Tryz.prog 94 (Blb k) := Ae (A1z k) (l := []) k rfl trivial Ad Tryz.func94 (by kernel_rfl)
def A19 : Sk := ⟨[.lf (.ptr 0 0), .lf (.ptr 1 4)], [[.pv (.slice yt8)], q27], []⟩
def A2a : Sk := ⟨[.lf (.fn 146 [] [(2, 0), (3, 0)])], [[.pv (.slice yt8)], q27, [.ptr 0 0], [.ptr 1 4]], []⟩
def A17 (k : Nat) : Cfg := { mkC [] 54 2 0 with bl := [54, 56] }
def Abs (k : Nat) : H169 → Option H169 := hid (Ac (A17 k) k Tryz.f94 A19 A2a)
def Bld (k : Nat) : Sig := Ab A19 A2a (Abs k)
noncomputable def A18 (k : Nat) : H169 → Option H169
 | (a0, a1, a2, a3, a4, a5, a6) => some (a0, a1, a2, a3, a4, a5, a6)
theorem B3w (k : Nat) (x : H169) : Abs k x = A18 k x := (Af _ _).trans (by kernel_rfl)
theorem Bs6 (k : Nat) : Aa Tryz.prog 94 (Bld k) := Ae (A17 k) (l := []) k rfl trivial Ad Tryz.func94 (by kernel_rfl)
def Ah4 : Sk := ⟨[.lf (.ptr 0 0), .lf (.ptr 1 0)], [[.ptr 2 0], [.ptr 3 5], [.pv (.slice yt8)], q27], []⟩
def A50 : Sk := ⟨[.lf (.nil .ifc)], Ah4.boxes, []⟩
def A5y (k : Nat) : Cfg := { mkC [] 60 4 0 with ld := [(3, 1), (4, 0), (5, 9999), (6, 9999), (7, 2), (9, 9999), (10, 9999), (11, 9999)], sr := [(11, 3)] }
def Vj (k : Nat) : H169 → Option H169 := hid (Ac (A5y k) k Tryz.f191 Ah4 A50)
def Bmg (k : Nat) : Sig := Ab Ah4 A50 (Vj k)
noncomputable def A5z (k : Nat) : H169 → Option H169
 | (a0, a1, a2, a3, a4, a5, a6) => idx zt8 a0 (0 : Int) fun o1 => some (a0, a1, a2, a3, a4, a5, o1.2.2.2.1)
theorem B5l (k : Nat) (x : H169) : Vj k x = A5z k x := (Af _ _).trans (by kernel_rfl)
theorem Bub (k : Nat) : Aa Tryz.prog 191 (Bmg k) := Ae (A5y k) (l := []) k rfl trivial Ad Tryz.func191 (by kernel_rfl)
abbrev H170 : Type := (Bool) × (Int) × (Int) × (List (YT8)) × (List Int) × (List Int) × (List Int) × (Int) × (Int) × (Int)
def Ag2 : Sk := ⟨[.lf (.ptr 0 0), .lf (.ptr 1 0)], [[.ptr 2 0], [.ptr 3 0], [.pv (.slice yt8)], q27], []⟩
def Az9 : Sk := ⟨[.lf (.erp 88 [(.int .i64), (.int .i64)])], Ag2.boxes, []⟩
def B23 (k : Nat) : EnvL := [(193, [sgpnamed k]), (144, [A9 k]), (145, [Ba k])]
def Az7 (k : Nat) : Cfg := { mkC (B23 k) 61 4 0 with ef := [(10, (([2], []), ([], [])))], ld := [(8, 1), (9, 0), (12, 9999)], sr := [(12, 3)] }
def Uo (k : Nat) : H169 → Option H170 := hid (Ac (Az7 k) k Tryz.f192 Ag2 Az9)
def Bkw (k : Nat) : Sig := Ab Ag2 Az9 (Uo k)
noncomputable def Az8 (k : Nat) : H169 → Option H170
 | (a0, a1, a2, a3, a4, a5, a6) => ((cpnamed k) (a0)).bind fun o1 => bif (!o1.1) then (((A7 k) ((50 : Int), o1.2)).bind fun o2 => some (o2.1, o2.2.1, o2.2.2.1, o2.2.2.2, a1, a2, a3, a4, a5, a6)) else (((A4 k) (o1.2)).bind fun o3 => some (true, (0 : Int), (0 : Int), o3.2.2.2.2, o3.2.1, a2, a3, a4, a5, a6))
theorem B24 (k : Nat) (x : H169) : Uo k x = Az8 k x := (Af _ _).trans (by kernel_rfl)
theorem Bsl (k : Nat) : Aa Tryz.prog 192 (Bkw k) := Ae (Az7 k) k rfl ⟨⟨Gp k, trivial⟩, ⟨Bb k, trivial⟩, ⟨Bc k, trivial⟩, trivial⟩ Ad Tryz.func192 (by kernel_rfl)
def Ag3 : Sk := ⟨[.lf (.ptr 0 0), .lf (.ptr 1 0)], [[.ptr 2 0], [.ptr 3 1], [.pv (.slice yt8)], q27], []⟩
def A0c : Sk := ⟨[.lf (.erp 88 [(.int .i64), (.int .i64)])], Ag3.boxes, []⟩
def B25 (k : Nat) : EnvL := [(193, [sgpnamed k]), (144, [A9 k]), (145, [Ba k])]
def A0a (k : Nat) : Cfg := { mkC (B25 k) 61 4 0 with ef := [(10, (([2], []), ([], [])))], ld := [(8, 1), (9, 0), (12, 9999)], sr := [(12, 3)] }
def Up (k : Nat) : H169 → Option H170 := hid (Ac (A0a k) k Tryz.f192 Ag3 A0c)
def Bkx (k : Nat) : Sig := Ab Ag3 A0c (Up k)
noncomputable def A0b (k : Nat) : H169 → Option H170
 | (a0, a1, a2, a3, a4, a5, a6) => ((cpnamed k) (a0)).bind fun o1 => bif (!o1.1) then (((A7 k) ((50 : Int), o1.2)).bind fun o2 => some (o2.1, o2.2.1, o2.2.2.1, o2.2.2.2, a1, a2, a3, a4, a5, a6)) else (((A4 k) (o1.2)).bind fun o3 => some (true, (0 : Int), (0 : Int), o3.2.2.2.2, a1, o3.2.1, a3, a4, a5, a6))
theorem B26 (k : Nat) (x : H169) : Up k x = A0b k x := (Af _ _).trans (by kernel_rfl)
theorem Bsm (k : Nat) : Aa Tryz.prog 192 (Bkx k) := Ae (A0a k) k rfl ⟨⟨Gp k, trivial⟩, ⟨Bb k, trivial⟩, ⟨Bc k, trivial⟩, trivial⟩ Ad Tryz.func192 (by kernel_rfl)
def Agu : Sk := ⟨[.lf (.ptr 0 0), .lf (.ptr 1 0)], [[.ptr 2 0], [.ptr 3 2], [.pv (.slice yt8)], q27], []⟩
def Azl : Sk := ⟨[.lf (.erp 88 [(.int .i64), (.int .i64)])], Agu.boxes, []⟩
def B2n (k : Nat) : EnvL := [(193, [sgpnamed k]), (144, [A9 k]), (145, [Ba k])]
def Azj (k : Nat) : Cfg := { mkC (B2n k) 61 4 0 with ef := [(10, (([2], []), ([], [])))], ld := [(8, 1), (9, 0), (12, 9999)], sr := [(12, 3)] }
def Uh (k : Nat) : H169 → Option H170 := hid (Ac (Azj k) k Tryz.f192 Agu Azl)
def Bkp (k : Nat) : Sig := Ab Agu Azl (Uh k)
noncomputable def Azk (k : Nat) : H169 → Option H170
 | (a0, a1, a2, a3, a4, a5, a6) => ((cpnamed k) (a0)).bind fun o1 => bif (!o1.1) then (((A7 k) ((50 : Int), o1.2)).bind fun o2 => some (o2.1, o2.2.1, o2.2.2.1, o2.2.2.2, a1, a2, a3, a4, a5, a6)) else (((A4 k) (o1.2)).bind fun o3 => some (true, (0 : Int), (0 : Int), o3.2.2.2.2, a1, a2, o3.2.1, a4, a5, a6))
theorem B2o (k : Nat) (x : H169) : Uh k x = Azk k x := (Af _ _).trans (by kernel_rfl)
theorem Bsd (k : Nat) : Aa Tryz.prog 192 (Bkp k) := Ae (Azj k) k rfl ⟨⟨Gp k, trivial⟩, ⟨Bb k, trivial⟩, ⟨Bc k, trivial⟩, trivial⟩ Ad Tryz.func192 (by kernel_rfl)
def Ahm : Sk := ⟨[.lf (.ptr 0 0), .lf (.ptr 1 0)], [[.ptr 2 0], [.ptr 3 3], [.pv (.slice yt8)], q27], []⟩
def A3u : Sk := ⟨[.lf (.erp 88 [(.int .i64), (.int .i64)])], Ahm.boxes, []⟩
def B4j (k : Nat) : EnvL := [(144, [A9 k]), (145, [Ba k])]
def A3s (k : Nat) : Cfg := { mkC (B4j k) 66 4 0 with ef := [(15, (([2], []), ([], [])))], ld := [(13, 1), (14, 0), (17, 9999)], sr := [(17, 3)] }
def U1 (k : Nat) : H169 → Option H170 := hid (Ac (A3s k) k Tryz.f146 Ahm A3u)
def Blu (k : Nat) : Sig := Ab Ahm A3u (U1 k)
noncomputable def A3t (k : Nat) : H169 → Option H170
 | (a0, a1, a2, a3, a4, a5, a6) => idx zt8 a0 (0 : Int) fun o1 => bif (o1.1 != (2 : Int)) then (((A7 k) ((50 : Int), a0)).bind fun o2 => some (o2.1, o2.2.1, o2.2.2.1, o2.2.2.2, a1, a2, a3, a4, a5, a6)) else (((A4 k) (a0)).bind fun o3 => some (true, (0 : Int), (0 : Int), o3.2.2.2.2, a1, a2, a3, o3.2.2.1, a5, a6))
theorem B4k (k : Nat) (x : H169) : U1 k x = A3t k x := (Af _ _).trans (by kernel_rfl)
theorem Btm (k : Nat) : Aa Tryz.prog 146 (Blu k) := Ae (A3s k) k rfl ⟨⟨Bb k, trivial⟩, ⟨Bc k, trivial⟩, trivial⟩ Ad Tryz.func146 (by kernel_rfl)
def Ahn : Sk := ⟨[.lf (.ptr 0 0), .lf (.ptr 1 0)], [[.ptr 2 0], [.ptr 3 4], [.pv (.slice yt8)], q27], []⟩
def A3x : Sk := ⟨[.lf (.erp 88 [(.int .i64), (.int .i64)])], Ahn.boxes, []⟩
def B4l (k : Nat) : EnvL := [(144, [A9 k]), (145, [Ba k])]
def A3v (k : Nat) : Cfg := { mkC (B4l k) 66 4 0 with ef := [(15, (([2], []), ([], [])))], ld := [(13, 1), (14, 0), (17, 9999)], sr := [(17, 3)] }
def U2 (k : Nat) : H169 → Option H170 := hid (Ac (A3v k) k Tryz.f146 Ahn A3x)
def Blv (k : Nat) : Sig := Ab Ahn A3x (U2 k)
noncomputable def A3w (k : Nat) : H169 → Option H170
 | (a0, a1, a2, a3, a4, a5, a6) => idx zt8 a0 (0 : Int) fun o1 => bif (o1.1 != (2 : Int)) then (((A7 k) ((50 : Int), a0)).bind fun o2 => some (o2.1, o2.2.1, o2.2.2.1, o2.2.2.2, a1, a2, a3, a4, a5, a6)) else (((A4 k) (a0)).bind fun o3 => some (true, (0 : Int), (0 : Int), o3.2.2.2.2, a1, a2, a3, a4, o3.2.2.1, a6))
theorem B4m (k : Nat) (x : H169) : U2 k x = A3w k x := (Af _ _).trans (by kernel_rfl)
theorem Btn (k : Nat) : Aa Tryz.prog 146 (Blv k) := Ae (A3v k) k rfl ⟨⟨Bb k, trivial⟩, ⟨Bc k, trivial⟩, trivial⟩ Ad Tryz.func146 (by kernel_rfl)
abbrev H171 : Type := (List (YT8)) × (List Int) × (List Int) × (List Int) × (List Int) × (List Int) × (List Int) × (List Int) × (List Int) × (Int) × (Int) × (Int)
abbrev H172 : Type := (Bool) × (Int) × (Int) × (List (YT8)) × (List Int) × (List Int) × (List Int) × (List Int) × (List Int) × (List Int) × (List Int) × (List Int) × (Int) × (Int) × (Int)
def Agf : Sk := ⟨[.lf (.ptr 0 0), .lf (.sb 1 11)], [[.pv (.slice yt8)], q28, [.ptr 0 0], [.ptr 24 5], [.ptr 0 0], [.ptr 24 0], [.ptr 0 0], [.pv .str], [.ptr 0 0], [.ptr 24 1], [.ptr 0 0], [.pv .str], [.ptr 0 0], [.ptr 24 2], [.ptr 0 0], [.pv .str], [.ptr 0 0], [.ptr 24 3], [.ptr 0 0], [.pv .str], [.ptr 0 0], [.ptr 24 4], [.ptr 0 0], [.pv .str], q27], []⟩
def Av7 : Sk := ⟨[.lf (.erp 88 [(.int .i64), (.int .i64)])], Agf.boxes, []⟩
def B1b (k : Nat) : EnvL := [(191, [Bmg k]), (192, [Bkw k, Bkx k, Bkp k]), (142, [Fm k]), (146, [Blu k, Blv k])]
def Av5 (k : Nat) : Cfg := mkC (B1b k) 68 25 0
def Aaw (k : Nat) : H171 → Option H172 := hid (Ac (Av5 k) (k + 32) Tryz.f92 Agf Av7)
def Bj0 (k : Nat) : Sig := Ab Agf Av7 (Aaw k)
noncomputable def Av6 (k : Nat) : H171 → Option H172
 | (a0, a1, a2, a3, a4, a5, a6, a7, a8, a9, a10, a11) => ((Vj k) (a0, a6, a7, a8, a9, a10, a11)).bind fun o1 => ((Uo k) (o1.1, o1.2.1, o1.2.2.1, o1.2.2.2.1, o1.2.2.2.2.1, o1.2.2.2.2.2.1, o1.2.2.2.2.2.2)).bind fun o2 => bif (!o2.1) then (some (o2.1, o2.2.1, o2.2.2.1, o2.2.2.2.1, a1, a2, a3, a4, a5, o2.2.2.2.2.1, o2.2.2.2.2.2.1, o2.2.2.2.2.2.2.1, o2.2.2.2.2.2.2.2.1, o2.2.2.2.2.2.2.2.2.1, o2.2.2.2.2.2.2.2.2.2)) else (((Bj k) (a1, o2.2.2.2.1)).bind fun o3 => bif (!o3.1) then (some (o3.1, o3.2.1, o3.2.2.1, o3.2.2.2.2, o3.2.2.2.1, a2, a3, a4, a5, o2.2.2.2.2.1, o2.2.2.2.2.2.1, o2.2.2.2.2.2.2.1, o2.2.2.2.2.2.2.2.1, o2.2.2.2.2.2.2.2.2.1, o2.2.2.2.2.2.2.2.2.2)) else (((Up k) (o3.2.2.2.2, o2.2.2.2.2.1, o2.2.2.2.2.2.1, o2.2.2.2.2.2.2.1, o2.2.2.2.2.2.2.2.1, o2.2.2.2.2.2.2.2.2.1, o2.2.2.2.2.2.2.2.2.2)).bind fun o4 => bif (!o4.1) then (some (o4.1, o4.2.1, o4.2.2.1, o4.2.2.2.1, o3.2.2.2.1, a2, a3, a4, a5, o4.2.2.2.2.1, o4.2.2.2.2.2.1, o4.2.2.2.2.2.2.1, o4.2.2.2.2.2.2.2.1, o4.2.2.2.2.2.2.2.2.1, o4.2.2.2.2.2.2.2.2.2)) else (((Bj k) (a2, o4.2.2.2.1)).bind fun o5 => bif (!o5.1) then (some (o5.1, o5.2.1, o5.2.2.1, o5.2.2.2.2, o3.2.2.2.1, o5.2.2.2.1, a3, a4, a5, o4.2.2.2.2.1, o4.2.2.2.2.2.1, o4.2.2.2.2.2.2.1, o4.2.2.2.2.2.2.2.1, o4.2.2.2.2.2.2.2.2.1, o4.2.2.2.2.2.2.2.2.2)) else (((Uh k) (o5.2.2.2.2, o4.2.2.2.2.1, o4.2.2.2.2.2.1, o4.2.2.2.2.2.2.1, o4.2.2.2.2.2.2.2.1, o4.2.2.2.2.2.2.2.2.1, o4.2.2.2.2.2.2.2.2.2)).bind fun o6 => bif (!o6.1) then (some (o6.1, o6.2.1, o6.2.2.1, o6.2.2.2.1, o3.2.2.2.1, o5.2.2.2.1, a3, a4, a5, o6.2.2.2.2.1, o6.2.2.2.2.2.1, o6.2.2.2.2.2.2.1, o6.2.2.2.2.2.2.2.1, o6.2.2.2.2.2.2.2.2.1, o6.2.2.2.2.2.2.2.2.2)) else (((Bj k) (a3, o6.2.2.2.1)).bind fun o7 => bif (!o7.1) then (some (o7.1, o7.2.1, o7.2.2.1, o7.2.2.2.2, o3.2.2.2.1, o5.2.2.2.1, o7.2.2.2.1, a4, a5, o6.2.2.2.2.1, o6.2.2.2.2.2.1, o6.2.2.2.2.2.2.1, o6.2.2.2.2.2.2.2.1, o6.2.2.2.2.2.2.2.2.1, o6.2.2.2.2.2.2.2.2.2)) else (((U1 k) (o7.2.2.2.2, o6.2.2.2.2.1, o6.2.2.2.2.2.1, o6.2.2.2.2.2.2.1, o6.2.2.2.2.2.2.2.1, o6.2.2.2.2.2.2.2.2.1, o6.2.2.2.2.2.2.2.2.2)).bind fun o8 => bif (!o8.1) then (some (o8.1, o8.2.1, o8.2.2.1, o8.2.2.2.1, o3.2.2.2.1, o5.2.2.2.1, o7.2.2.2.1, a4, a5, o8.2.2.2.2.1, o8.2.2.2.2.2.1, o8.2.2.2.2.2.2.1, o8.2.2.2.2.2.2.2.1, o8.2.2.2.2.2.2.2.2.1, o8.2.2.2.2.2.2.2.2.2)) else (((Bj k) (a4, o8.2.2.2.1)).bind fun o9 => bif (!o9.1) then (some (o9.1, o9.2.1, o9.2.2.1, o9.2.2.2.2, o3.2.2.2.1, o5.2.2.2.1, o7.2.2.2.1, o9.2.2.2.1, a5, o8.2.2.2.2.1, o8.2.2.2.2.2.1, o8.2.2.2.2.2.2.1, o8.2.2.2.2.2.2.2.1, o8.2.2.2.2.2.2.2.2.1, o8.2.2.2.2.2.2.2.2.2)) else (((U2 k) (o9.2.2.2.2, o8.2.2.2.2.1, o8.2.2.2.2.2.1, o8.2.2.2.2.2.2.1, o8.2.2.2.2.2.2.2.1, o8.2.2.2.2.2.2.2.2.1, o8.2.2.2.2.2.2.2.2.2)).bind fun o10 => bif (!o10.1) then (some (o10.1, o10.2.1, o10.2.2.1, o10.2.2.2.1, o3.2.2.2.1, o5.2.2.2.1, o7.2.2.2.1, o9.2.2.2.1, a5, o10.2.2.2.2.1, o10.2.2.2.2.2.1, o10.2.2.2.2.2.2.1, o10.2.2.2.2.2.2.2.1, o10.2.2.2.2.2.2.2.2.1, o10.2.2.2.2.2.2.2.2.2)) else (((Bj k) (a5, o10.2.2.2.1)).bind fun o11 => bif (!o11.1) then (some (o11.1, o11.2.1, o11.2.2.1, o11.2.2.2.2, o3.2.2.2.1, o5.2.2.2.1, o7.2.2.2.1, o9.2.2.2.1, o11.2.2.2.1, o10.2.2.2.2.1, o10.2.2.2.2.2.1, o10.2.2.2.2.2.2.1, o10.2.2.2.2.2.2.2.1, o10.2.2.2.2.2.2.2.2.1, o10.2.2.2.2.2.2.2.2.2)) else (some (true, (0 : Int), (0 : Int), o11.2.2.2.2, o3.2.2.2.1, o5.2.2.2.1, o7.2.2.2.1, o9.2.2.2.1, o11.2.2.2.1, o10.2.2.2.2.1, o10.2.2.2.2.2.1, o10.2.2.2.2.2.2.1, o10.2.2.2.2.2.2.2.1, o10.2.2.2.2.2.2.2.2.1, o10.2.2.2.2.2.2.2.2.2)))))))))))
theorem B1c (k : Nat) (x : H171) : Aaw k x = Av6 k x := (Af _ _).trans (by kernel_rfl)
theorem Brh (k : Nat) : Aa Tryz.prog 92 (Bj0 k) := Ae (Av5 k) (k + 32) rfl ⟨⟨Bub k, trivial⟩, ⟨Bsl k, Bsm k, Bsd k, trivial⟩, ⟨Fv k, trivial⟩, ⟨Btm k, Btn k, trivial⟩, trivial⟩ Ad Tryz.func92 (by kernel_rfl)
abbrev H173 : Type := (List Int) × (List Int) × (List Int) × (Int) × (Int) × (Int) × (Bool) × (Int) × (Int) × (List (YT8))
def fpstopi : Sk := ⟨[.lf (.ptr 0 0)], [[.pv (.slice yt8)]], []⟩
def fpstopo : Sk := ⟨[.agg [.pv .str, .pv .str, .pv .str, .pv (.int .i64), .pv (.int .i64), .pv (.int .i64)], .lf (.erp 88 [(.int .i64), (.int .i64)])], fpstopi.boxes, []⟩
def fpstopE (k : Nat) : EnvL := [(149, [Bma k]), (150, [Bkl k, Bkm k, Bkf k]), (93, [Fl k]), (94, [Blb k, Bld k]), (92, [Bj0 k])]
def A6d (k : Nat) : Cfg := { mkC (fpstopE k) 107 1 0 with bl := [54, 56] }
def cpstop (k : Nat) : (List (YT8)) → Option H173 := hid (Ac (A6d k) k Tryz.f100 fpstopi fpstopo)
def sgpstop (k : Nat) : Sig := Ab fpstopi fpstopo (cpstop k)
noncomputable def A6e (k : Nat) : (List (YT8)) → Option H173
 | a0 => ((Ab4 k) (a0, ([] : List Int), ([] : List Int), ([] : List Int), (0 : Int), (0 : Int), (0 : Int))).bind fun o1 => ((Abd k) (o1.1, o1.2.1, o1.2.2.1, o1.2.2.2.1, o1.2.2.2.2.1, o1.2.2.2.2.2.1, o1.2.2.2.2.2.2)).bind fun o2 => ((Bp k) (([111, 117, 116] : List Int), o2.1)).bind fun o3 => ((Abe k) (o3.1, o2.2.1, o2.2.2.1, o2.2.2.2.1, o2.2.2.2.2.1, o2.2.2.2.2.2.1, o2.2.2.2.2.2.2)).bind fun o4 => ((Bp k) (([105, 110] : List Int), o4.1)).bind fun o5 => ((Aa7 k) (o5.1, o4.2.1, o4.2.2.1, o4.2.2.2.1, o4.2.2.2.2.1, o4.2.2.2.2.2.1, o4.2.2.2.2.2.2)).bind fun o6 => ((Bp k) (([97, 104, 101, 97, 100] : List Int), o6.1)).bind fun o7 => ((Abq k) (o7.1, o6.2.1, o6.2.2.1, o6.2.2.2.1, o6.2.2.2.2.1, o6.2.2.2.2.2.1, o6.2.2.2.2.2.2)).bind fun o8 => ((Bp k) (([98, 97, 99, 107] : List Int), o8.1)).bind fun o9 => ((Abs k) (o9.1, o8.2.1, o8.2.2.1, o8.2.2.2.1, o8.2.2.2.2.1, o8.2.2.2.2.2.1, o8.2.2.2.2.2.2)).bind fun o10 => ((Bp k) (([59] : List Int), o10.1)).bind fun o11 => ((Aaw k) (o11.1, o3.2, o5.2, o7.2, o9.2, o11.2, o10.2.1, o10.2.2.1, o10.2.2.2.1, o10.2.2.2.2.1, o10.2.2.2.2.2.1, o10.2.2.2.2.2.2)).bind fun o12 => some (o12.2.2.2.2.2.2.2.2.2.1, o12.2.2.2.2.2.2.2.2.2.2.1, o12.2.2.2.2.2.2.2.2.2.2.2.1, o12.2.2.2.2.2.2.2.2.2.2.2.2.1, o12.2.2.2.2.2.2.2.2.2.2.2.2.2.1, o12.2.2.2.2.2.2.2.2.2.2.2.2.2.2, o12.1, o12.2.1, o12.2.2.1, o12.2.2.2.1)
theorem B5s (k : Nat) (x : (List (YT8))) : cpstop k x = A6e k x := (Af _ _).trans (by kernel_rfl)
theorem Buh (k : Nat) : Aa Tryz.prog 100 (sgpstop k) := Ae (A6d k) k rfl ⟨⟨Bt6 k, trivial⟩, ⟨Bsb k, Bsc k, Br4 k, trivial⟩, ⟨Fu k, trivial⟩, ⟨Bs4 k, Bs6 k, trivial⟩, ⟨Brh k, trivial⟩, trivial⟩ Ad Tryz.func100 (by kernel_rfl)
abbrev H174 : Type := (List Int) × (Int) × (List (YT8)) × (Int) × (Int) × (Int) × (Int) × (Int) × (Int) × (Int) × (List (YT6)) × (List (YT7))
abbrev H175 : Type := (Bool) × (Int) × (Int) × (List Int) × (Int) × (List (YT8)) × (Int) × (Int) × (Int) × (Int) × (Int) × (Int) × (Int) × (List (YT6)) × (List (YT7))
def Aga : Sk := ⟨[.lf (.ptr 0 0), .lf (.ptr 1 0), .lf (.ptr 2 0), .lf (.ptr 3 0), .lf (.ptr 4 0)], [[.ptr 5 0], [.pv .str], [.ptr 6 6], [.pv (.int .i64)], [.fn 100 [(5, 0)] []], [.pv (.slice yt8)], q24], [some (46, yt6)]⟩
def Agb : Sk := ⟨[.lf (.erp 88 [(.int .i64), (.int .i64)])], [[.ptr 5 0], [.pv .str], [.ptr 6 6], [.pv (.int .i64)], [.fn 100 [(5, 0)] []], [.pv (.slice yt8)], q29], [some (46, yt6), some (49, yt7)]⟩
def Avo : Sk := ⟨sparse 37 [(0, .lf (.ptr 0 0)), (1, .lf (.ptr 1 0)), (2, .lf (.ptr 2 0)), (3, .lf (.ptr 3 0)), (4, .lf (.ptr 4 0))], [[.ptr 5 0], [.pv .str], [.ptr 6 6], [.pv (.int .i64)], [.fn 100 [(5, 0)] []], [.pv (.slice yt8)], q29], [some (46, yt6), some (49, yt7)]⟩
abbrev Af7 := H174
def Rp : Af7 → St := stOf Avo 85
def B00 (k : Nat) : EnvL := [(143, [Ep k]), (144, [A9 k]), (145, [Ba k]), (100, [sgpstop k])]
def Hk (k : Nat) : FnX H175 := mkX ({ mkC (B00 k) 85 7 1 with hint := fun i => look none [(1, some Avo)] i, bl := [54, 56], ld := [(29, 2), (30, 2), (31, 9999), (32, 6), (33, 54), (36, 9999)], sr := [(36, 6)] }) k Tryz.f162 Agb
def T9 (k : Nat) : H162 → Option H175 := hid (Ac (Hk k).C k Tryz.f162 Aga Agb)
def Bjv (k : Nat) : Sig := Ab Aga Agb (T9 k)
noncomputable def Af9 (k : Nat) (J : JF H175) (L : LF H175) : H162 → Option H175
 | (a0, a1, a2, a3, a4, a5, a6, a7, a8, a9, a10) => L 1 [] k (Rp (a0, a1, a2, a3, a4, a5, a6, a7, a8, a9, a10, []))
theorem B01 (k : Nat) (x : H162) : T9 k x = Af9 k (Hk k).J (Hk k).L x := by
 refine (Af _ _).trans ?_; apply cutX (Hk k) [] [] (st0 (Hk k).C Tryz.f162 Aga x) [] [(1, [], k)] (Af9 k · · x) <;> intros <;> kernel_rfl
noncomputable def Rq (k j1 : Nat) (J : JF H175) (L : LF H175) : Af7 → Option H175
 | (a0, a1, a2, a3, a4, a5, a6, a7, a8, a9, a10, a11) => ((Dh k) (a0, a2)).bind fun o1 => bif o1.1 then (bif (((List.length a11 : Nat) : Int) == a1) then (((A7 k) ((4 : Int), o1.2)).bind fun o2 => some (o2.1, o2.2.1, o2.2.2.1, a0, a1, o2.2.2.2, a3, a4, a5, a6, a7, a8, a9, a10, a11)) else (((A4 k) (o1.2)).bind fun o3 => ((cpstop k) (o3.2.2.2.2)).bind fun o4 => bif (!o4.2.2.2.2.2.2.1) then (some (o4.2.2.2.2.2.2.1, o4.2.2.2.2.2.2.2.1, o4.2.2.2.2.2.2.2.2.1, a0, a1, o4.2.2.2.2.2.2.2.2.2, a3, a4, a5, a6, a7, a8, a9, a10, a11)) else (app 72 a11 ([(o4.1, (o4.2.1, (o4.2.2.1, (o4.2.2.2.1, (o4.2.2.2.2.1, (o4.2.2.2.2.2.1, ()))))))] : List (YT7)) fun o5 => L 1 [] j1 (Rp (a0, a1, o4.2.2.2.2.2.2.2.2.2, a3, a4, a5, a6, a7, a8, a9, a10, o5))))) else (some (true, (0 : Int), (0 : Int), a0, a1, o1.2, a3, a4, a5, a6, a7, a8, a9, a10, a11))
theorem Af8 (k j1 : Nat) (x : Af7) : (Hk k).L 1 [] (j1 + 1) (Rp x) = Rq k j1 (Hk k).J (Hk k).L x := by
 apply cutX (Hk k) [.r, .l, .b, .b] [j1] (Rp x) [] [(1, [], j1)] (Rq k j1 · · x) <;> intros <;> kernel_rfl
theorem Bq8 (k : Nat) : Aa Tryz.prog 162 (Bjv k) := Ae (Hk k).C k rfl ⟨⟨Et k, trivial⟩, ⟨Bb k, trivial⟩, ⟨Bc k, trivial⟩, ⟨Buh k, trivial⟩, trivial⟩ Ad Tryz.func162 (by kernel_rfl)
abbrev H176 : Type := (List (YT8)) × (Int) × (Int) × (Int) × (Int) × (Int) × (Int) × (Int) × (List (YT6)) × (List (YT7))
abbrev H177 : Type := (Bool) × (Int) × (Int) × (List (YT8)) × (Int) × (Int) × (Int) × (Int) × (Int) × (Int) × (Int) × (List (YT6)) × (List (YT7))
def Aho : Sk := ⟨[.lf (.ptr 0 0), .lf (.ptr 1 0)], [[.ptr 2 0], [.ptr 3 7], [.pv (.slice yt8)], q29], [some (46, yt6), some (49, yt7)]⟩
def A30 : Sk := ⟨[.lf (.erp 88 [(.int .i64), (.int .i64)])], Aho.boxes, [some (46, yt6), some (49, yt7)]⟩
def B4n (k : Nat) : EnvL := [(144, [A9 k]), (145, [Ba k])]
def A3y (k : Nat) : Cfg := { mkC (B4n k) 66 4 2 with ef := [(15, (([2], []), ([], [])))], ld := [(13, 1), (14, 0), (17, 9999)], sr := [(17, 3)] }
def U3 (k : Nat) : H176 → Option H177 := hid (Ac (A3y k) k Tryz.f146 Aho A30)
def Blw (k : Nat) : Sig := Ab Aho A30 (U3 k)
noncomputable def A3z (k : Nat) : H176 → Option H177
 | (a0, a1, a2, a3, a4, a5, a6, a7, a8, a9) => idx zt8 a0 (0 : Int) fun o1 => bif (o1.1 != (2 : Int)) then (((A7 k) ((50 : Int), a0)).bind fun o2 => some (o2.1, o2.2.1, o2.2.2.1, o2.2.2.2, a1, a2, a3, a4, a5, a6, a7, a8, a9)) else (((A4 k) (a0)).bind fun o3 => some (true, (0 : Int), (0 : Int), o3.2.2.2.2, a1, a2, a3, a4, a5, o3.2.2.1, a7, a8, a9))
theorem B4o (k : Nat) (x : H176) : U3 k x = A3z k x := (Af _ _).trans (by kernel_rfl)
theorem Bto (k : Nat) : Aa Tryz.prog 146 (Blw k) := Ae (A3y k) k rfl ⟨⟨Bb k, trivial⟩, ⟨Bc k, trivial⟩, trivial⟩ Ad Tryz.func146 (by kernel_rfl)
def Ahq : Sk := ⟨[.lf (.ptr 0 0), .lf (.ptr 1 0)], [[.ptr 2 0], [.ptr 3 8], [.pv (.slice yt8)], q29], [some (46, yt6), some (49, yt7)]⟩
def A36 : Sk := ⟨[.lf (.erp 88 [(.int .i64), (.int .i64)])], Ahq.boxes, [some (46, yt6), some (49, yt7)]⟩
def B4r (k : Nat) : EnvL := [(144, [A9 k]), (145, [Ba k])]
def A34 (k : Nat) : Cfg := { mkC (B4r k) 66 4 2 with ef := [(15, (([2], []), ([], [])))], ld := [(13, 1), (14, 0), (17, 9999)], sr := [(17, 3)] }
def U5 (k : Nat) : H176 → Option H177 := hid (Ac (A34 k) k Tryz.f146 Ahq A36)
def Bly (k : Nat) : Sig := Ab Ahq A36 (U5 k)
noncomputable def A35 (k : Nat) : H176 → Option H177
 | (a0, a1, a2, a3, a4, a5, a6, a7, a8, a9) => idx zt8 a0 (0 : Int) fun o1 => bif (o1.1 != (2 : Int)) then (((A7 k) ((50 : Int), a0)).bind fun o2 => some (o2.1, o2.2.1, o2.2.2.1, o2.2.2.2, a1, a2, a3, a4, a5, a6, a7, a8, a9)) else (((A4 k) (a0)).bind fun o3 => some (true, (0 : Int), (0 : Int), o3.2.2.2.2, a1, a2, a3, a4, a5, a6, o3.2.2.1, a8, a9))
theorem B4s (k : Nat) (x : H176) : U5 k x = A35 k x := (Af _ _).trans (by kernel_rfl)
theorem Btq (k : Nat) : Aa Tryz.prog 146 (Bly k) := Ae (A34 k) k rfl ⟨⟨Bb k, trivial⟩, ⟨Bc k, trivial⟩, trivial⟩ Ad Tryz.func146 (by kernel_rfl)
abbrev H178 : Type := (List (YT8)) × (List Int) × (List Int) × (Int) × (List Int) × (List Int) × (List Int) × (Int) × (Int) × (Int) × (Int) × (Int) × (Int) × (Int) × (List (YT6))
abbrev H179 : Type := (Bool) × (Int) × (Int) × (List (YT8)) × (List Int) × (List Int) × (Int) × (List Int) × (List Int) × (List Int) × (Int) × (Int) × (Int) × (Int) × (Int) × (Int) × (Int) × (List (YT6)) × (List (YT7))
def Av3 : Sk := ⟨[.lf (.ptr 0 0), .lf (.sb 1 7)], [[.pv (.slice yt8)], q26, [.ptr 0 0], [.pv .str], [.ptr 0 0], [.pv .str], [.ptr 19 6], [.pv (.int .i64)], [.fn 100 [(0, 0)] []], [.ptr 0 0], [.pv .str], [.ptr 0 0], [.ptr 19 7], [.ptr 0 0], [.ptr 19 8], [.ptr 0 0], [.pv .str], [.ptr 0 0], [.pv .str], q24], [some (46, yt6)]⟩
def Av4 : Sk := ⟨[.lf (.erp 88 [(.int .i64), (.int .i64)])], [[.pv (.slice yt8)], q26, [.ptr 0 0], [.pv .str], [.ptr 0 0], [.pv .str], [.ptr 19 6], [.pv (.int .i64)], [.fn 100 [(0, 0)] []], [.ptr 0 0], [.pv .str], [.ptr 0 0], [.ptr 19 7], [.ptr 0 0], [.ptr 19 8], [.ptr 0 0], [.pv .str], [.ptr 0 0], [.pv .str], q29], [some (46, yt6), some (49, yt7)]⟩
def B09 (k : Nat) : EnvL := [(142, [Fm k]), (162, [Bjv k]), (146, [Blw k, Bly k])]
def Av1 (k : Nat) : Cfg := mkC (B09 k) 69 20 1
def Ua (k : Nat) : H178 → Option H179 := hid (Ac (Av1 k) (k + 32) Tryz.f92 Av3 Av4)
def Bjz (k : Nat) : Sig := Ab Av3 Av4 (Ua k)
noncomputable def Av2 (k : Nat) : H178 → Option H179
 | (a0, a1, a2, a3, a4, a5, a6, a7, a8, a9, a10, a11, a12, a13, a14) => ((Bj k) (a1, a0)).bind fun o1 => bif (!o1.1) then (some (o1.1, o1.2.1, o1.2.2.1, o1.2.2.2.2, o1.2.2.2.1, a2, a3, a4, a5, a6, a7, a8, a9, a10, a11, a12, a13, a14, [])) else (((T9 k) (a2, a3, o1.2.2.2.2, a7, a8, a9, a10, a11, a12, a13, a14)).bind fun o2 => bif (!o2.1) then (some (o2.1, o2.2.1, o2.2.2.1, o2.2.2.2.2.2.1, o1.2.2.2.1, o2.2.2.2.1, o2.2.2.2.2.1, a4, a5, a6, o2.2.2.2.2.2.2.1, o2.2.2.2.2.2.2.2.1, o2.2.2.2.2.2.2.2.2.1, o2.2.2.2.2.2.2.2.2.2.1, o2.2.2.2.2.2.2.2.2.2.2.1, o2.2.2.2.2.2.2.2.2.2.2.2.1, o2.2.2.2.2.2.2.2.2.2.2.2.2.1, o2.2.2.2.2.2.2.2.2.2.2.2.2.2.1, o2.2.2.2.2.2.2.2.2.2.2.2.2.2.2)) else (((Bj k) (a4, o2.2.2.2.2.2.1)).bind fun o3 => bif (!o3.1) then (some (o3.1, o3.2.1, o3.2.2.1, o3.2.2.2.2, o1.2.2.2.1, o2.2.2.2.1, o2.2.2.2.2.1, o3.2.2.2.1, a5, a6, o2.2.2.2.2.2.2.1, o2.2.2.2.2.2.2.2.1, o2.2.2.2.2.2.2.2.2.1, o2.2.2.2.2.2.2.2.2.2.1, o2.2.2.2.2.2.2.2.2.2.2.1, o2.2.2.2.2.2.2.2.2.2.2.2.1, o2.2.2.2.2.2.2.2.2.2.2.2.2.1, o2.2.2.2.2.2.2.2.2.2.2.2.2.2.1, o2.2.2.2.2.2.2.2.2.2.2.2.2.2.2)) else (((U3 k) (o3.2.2.2.2, o2.2.2.2.2.2.2.1, o2.2.2.2.2.2.2.2.1, o2.2.2.2.2.2.2.2.2.1, o2.2.2.2.2.2.2.2.2.2.1, o2.2.2.2.2.2.2.2.2.2.2.1, o2.2.2.2.2.2.2.2.2.2.2.2.1, o2.2.2.2.2.2.2.2.2.2.2.2.2.1, o2.2.2.2.2.2.2.2.2.2.2.2.2.2.1, o2.2.2.2.2.2.2.2.2.2.2.2.2.2.2)).bind fun o4 => bif (!o4.1) then (some (o4.1, o4.2.1, o4.2.2.1, o4.2.2.2.1, o1.2.2.2.1, o2.2.2.2.1, o2.2.2.2.2.1, o3.2.2.2.1, a5, a6, o4.2.2.2.2.1, o4.2.2.2.2.2.1, o4.2.2.2.2.2.2.1, o4.2.2.2.2.2.2.2.1, o4.2.2.2.2.2.2.2.2.1, o4.2.2.2.2.2.2.2.2.2.1, o4.2.2.2.2.2.2.2.2.2.2.1, o4.2.2.2.2.2.2.2.2.2.2.2.1, o4.2.2.2.2.2.2.2.2.2.2.2.2)) else (((U5 k) (o4.2.2.2.1, o4.2.2.2.2.1, o4.2.2.2.2.2.1, o4.2.2.2.2.2.2.1, o4.2.2.2.2.2.2.2.1, o4.2.2.2.2.2.2.2.2.1, o4.2.2.2.2.2.2.2.2.2.1, o4.2.2.2.2.2.2.2.2.2.2.1, o4.2.2.2.2.2.2.2.2.2.2.2.1, o4.2.2.2.2.2.2.2.2.2.2.2.2)).bind fun o5 => bif (!o5.1) then (some (o5.1, o5.2.1, o5.2.2.1, o5.2.2.2.1, o1.2.2.2.1, o2.2.2.2.1, o2.2.2.2.2.1, o3.2.2.2.1, a5, a6, o5.2.2.2.2.1, o5.2.2.2.2.2.1, o5.2.2.2.2.2.2.1, o5.2.2.2.2.2.2.2.1, o5.2.2.2.2.2.2.2.2.1, o5.2.2.2.2.2.2.2.2.2.1, o5.2.2.2.2.2.2.2.2.2.2.1, o5.2.2.2.2.2.2.2.2.2.2.2.1, o5.2.2.2.2.2.2.2.2.2.2.2.2)) else (((Bj k) (a5, o5.2.2.2.1)).bind fun o6 => bif (!o6.1) then (some (o6.1, o6.2.1, o6.2.2.1, o6.2.2.2.2, o1.2.2.2.1, o2.2.2.2.1, o2.2.2.2.2.1, o3.2.2.2.1, o6.2.2.2.1, a6, o5.2.2.2.2.1, o5.2.2.2.2.2.1, o5.2.2.2.2.2.2.1, o5.2.2.2.2.2.2.2.1, o5.2.2.2.2.2.2.2.2.1, o5.2.2.2.2.2.2.2.2.2.1, o5.2.2.2.2.2.2.2.2.2.2.1, o5.2.2.2.2.2.2.2.2.2.2.2.1, o5.2.2.2.2.2.2.2.2.2.2.2.2)) else (((Bj k) (a6, o6.2.2.2.2)).bind fun o7 => bif (!o7.1) then (some (o7.1, o7.2.1, o7.2.2.1, o7.2.2.2.2, o1.2.2.2.1, o2.2.2.2.1, o2.2.2.2.2.1, o3.2.2.2.1, o6.2.2.2.1, o7.2.2.2.1, o5.2.2.2.2.1, o5.2.2.2.2.2.1, o5.2.2.2.2.2.2.1, o5.2.2.2.2.2.2.2.1, o5.2.2.2.2.2.2.2.2.1, o5.2.2.2.2.2.2.2.2.2.1, o5.2.2.2.2.2.2.2.2.2.2.1, o5.2.2.2.2.2.2.2.2.2.2.2.1, o5.2.2.2.2.2.2.2.2.2.2.2.2)) else (some (true, (0 : Int), (0 : Int), o7.2.2.2.2, o1.2.2.2.1, o2.2.2.2.1, o2.2.2.2.2.1, o3.2.2.2.1, o6.2.2.2.1, o7.2.2.2.1, o5.2.2.2.2.1, o5.2.2.2.2.2.1, o5.2.2.2.2.2.2.1, o5.2.2.2.2.2.2.2.1, o5.2.2.2.2.2.2.2.2.1, o5.2.2.2.2.2.2.2.2.2.1, o5.2.2.2.2.2.2.2.2.2.2.1, o5.2.2.2.2.2.2.2.2.2.2.2.1, o5.2.2.2.2.2.2.2.2.2.2.2.2))))))))
theorem B1a (k : Nat) (x : H178) : Ua k x = Av2 k x := (Af _ _).trans (by kernel_rfl)
theorem Brg (k : Nat) : Aa Tryz.prog 92 (Bjz k) := Ae (Av1 k) (k + 32) rfl ⟨⟨Fv k, trivial⟩, ⟨Bq8 k, trivial⟩, ⟨Bto k, Btq k, trivial⟩, trivial⟩ Ad Tryz.func92 (by kernel_rfl)
def fpendi : Sk := ⟨[.lf (.ptr 0 0)], [[.pv (.slice yt8)]], []⟩
def fpendo : Sk := ⟨[.lf (.erp 88 [(.int .i64), (.int .i64)])], fpendi.boxes, []⟩
def fpendE (k : Nat) : EnvL := [(144, [A9 k])]
def Aw6 (k : Nat) : Cfg := mkC (fpendE k) 61 1 0
def cpend (k : Nat) : (List (YT8)) → Option H62 := hid (Ac (Aw6 k) k Tryz.f101 fpendi fpendo)
def sgpend (k : Nat) : Sig := Ab fpendi fpendo (cpend k)
noncomputable def Aw7 (k : Nat) : (List (YT8)) → Option H62
 | a0 => idx zt8 a0 (0 : Int) fun o1 => bif (o1.1 != (0 : Int)) then (((A7 k) ((50 : Int), a0)).bind fun o2 => some (o2.1, o2.2.1, o2.2.2.1, o2.2.2.2)) else (some (true, (0 : Int), (0 : Int), a0))
theorem fpend_e (k : Nat) (x : (List (YT8))) : cpend k x = Aw7 k x := (Af _ _).trans (by kernel_rfl)
theorem Brr (k : Nat) : Aa Tryz.prog 101 (sgpend k) := Ae (Aw6 k) k rfl ⟨⟨Bb k, trivial⟩, trivial⟩ Ad Tryz.func101 (by kernel_rfl)
def Agg : Sk := ⟨[.lf (.ptr 0 0), .lf (.sb 1 1)], [[.pv (.slice yt8)], [.fn 101 [(0, 0)] []]], []⟩
def Awa : Sk := ⟨[.lf (.erp 88 [(.int .i64), (.int .i64)])], Agg.boxes, []⟩
def B1d (k : Nat) : EnvL := [(101, [sgpend k])]
def Av8 (k : Nat) : Cfg := mkC (B1d k) 68 2 0
def Ub (k : Nat) : (List (YT8)) → Option H62 := hid (Ac (Av8 k) (k + 32) Tryz.f92 Agg Awa)
def Bj1 (k : Nat) : Sig := Ab Agg Awa (Ub k)
noncomputable def Av9 (k : Nat) : (List (YT8)) → Option H62
 | a0 => ((cpend k) (a0)).bind fun o1 => bif (!o1.1) then (some (o1.1, o1.2.1, o1.2.2.1, o1.2.2.2)) else (some (true, (0 : Int), (0 : Int), o1.2.2.2))
theorem B1e (k : Nat) (x : (List (YT8))) : Ub k x = Av9 k x := (Af _ _).trans (by kernel_rfl)
theorem Bri (k : Nat) : Aa Tryz.prog 92 (Bj1 k) := Ae (Av8 k) (k + 32) rfl ⟨⟨Brr k, trivial⟩, trivial⟩ Ad Tryz.func92 (by kernel_rfl)
def q31 : List SL := [.pv (.int .i64), .pv (.int .i64), .pv (.int .i64), .pv (.int .i64), .pv (.int .i64), .own 1, .own 2, .pv (.int .i64), .pv (.int .i64)]
abbrev H180 : Type := (Int) × (Int) × (Int) × (Int) × (Int) × (Int) × (Int) × (Bool) × (Int) × (Int) × (List (YT8)) × (List (YT6)) × (List (YT7))
def fpneti : Sk := ⟨[.lf (.ptr 0 0)], [[.own 0]], [some (135, yt8)]⟩
def fpneto : Sk := ⟨[.agg [.pv (.int .i64), .pv (.int .i64), .pv (.int .i64), .pv (.int .i64), .pv (.int .i64), .own 1, .own 2, .pv (.int .i64), .pv (.int .i64)], .lf (.erp 88 [(.int .i64), (.int .i64)])], [[.pv (.slice yt8)]], [none, some (46, yt6), some (49, yt7)]⟩
def A0w : Sk := ⟨sparse 75 [(0, .lf (.ptr 0 0)), (2, .lf (.ptr 1 0)), (3, .lf (.erp 88 [(.int .i64), (.int .i64)]))], [[.pv (.slice yt8)], q31], [none, some (46, yt6), some (49, yt7)]⟩
abbrev Ahd := H177
def Rs : Ahd → St := stOf A0w 168
def fpnetE (k : Nat) : EnvL := [(93, [sgpword k, Fl k]), (94, [sgpnum k, Bk1 k, Blc k, Bk9 k, Bla k]), (95, [sgpfrac k]), (96, [Bjm k]), (98, [sgpmaybe k]), (92, [sgpall k, Bjz k, Bj1 k]), (99, [Bju k])]
def fpnet (k : Nat) : FnX H180 := mkX ({ mkC (fpnetE k) 168 1 1 with hint := fun i => look none [(5, some A0w)] i, bl := [54, 56] }) k Tryz.f47 fpneto
def cpnet (k : Nat) : (List (YT8)) → Option H180 := hid (Ac (fpnet k).C k Tryz.f47 fpneti fpneto)
def sgpnet (k : Nat) : Sig := Ab fpneti fpneto (cpnet k)
noncomputable def Ahe (k : Nat) (J : JF H180) (L : LF H180) : (List (YT8)) → Option H180
 | a0 => ((cpword k) (([99, 121, 99, 108, 101] : List Int), a0)).bind fun o1 => ((cpnum k) ((0 : Int), (0 : Int), (0 : Int), (0 : Int), (0 : Int), (0 : Int), (0 : Int), o1.2)).bind fun o2 => ((cpword k) (([116, 111] : List Int), o2.2.2.2.2.2.2.2)).bind fun o3 => ((Abg k) (o2.1, o2.2.1, o2.2.2.1, o2.2.2.2.1, o2.2.2.2.2.1, o2.2.2.2.2.2.1, o2.2.2.2.2.2.2.1, o3.2)).bind fun o4 => ((cpword k) (([98, 121] : List Int), o4.2.2.2.2.2.2.2)).bind fun o5 => ((Abr k) (o4.1, o4.2.1, o4.2.2.1, o4.2.2.2.1, o4.2.2.2.2.1, o4.2.2.2.2.2.1, o4.2.2.2.2.2.2.1, o5.2)).bind fun o6 => ((cpword k) (([59] : List Int), o6.2.2.2.2.2.2.2)).bind fun o7 => ((cpword k) (([112, 101, 97, 107] : List Int), o7.2)).bind fun o8 => ((cpfrac k) (o6.1, o6.2.1, o6.2.2.1, o6.2.2.2.1, o6.2.2.2.2.1, o6.2.2.2.2.2.1, o6.2.2.2.2.2.2.1, o8.2)).bind fun o9 => ((cpword k) (([59] : List Int), o9.2.2.2.2.2.2.2)).bind fun o10 => ((Aan k) (([110, 111, 100, 101] : List Int), (12 : Int), o9.1, o9.2.1, o9.2.2.1, o9.2.2.2.1, o9.2.2.2.2.1, o9.2.2.2.2.2.1, o9.2.2.2.2.2.2.1, o10.2)).bind fun o11 => ((cpmaybe k) (([97, 114, 116, 101, 114, 121] : List Int), false, o11.2.2.2.2.2.2.2.2.2)).bind fun o12 => ((cpall k) (o1.1, o3.1, o5.1, o7.1, o8.1, o10.1, o11.2.2.2.2.2.2.2.1, o11.2.2.2.2.2.2.2.2.1, o12.2.1, o11.1, o11.2.1, o11.2.2.1, o11.2.2.2.1, o11.2.2.2.2.1, o11.2.2.2.2.2.1, o11.2.2.2.2.2.2.1, o12.1, o12.2.2)).bind fun o13 => bif o13.1 then (bif o13.2.2.2.2.2.2.2.2.2.2.2.2.2.2.2.2.2.2.2.2.1 then (((Bp k) (([123] : List Int), o13.2.2.2.1)).bind fun o14 => ((Aar k) (([115, 116, 111, 112] : List Int), (12 : Int), o14.1, o13.2.2.2.2.2.2.2.2.2.2.2.2.2.1, o13.2.2.2.2.2.2.2.2.2.2.2.2.2.2.1, o13.2.2.2.2.2.2.2.2.2.2.2.2.2.2.2.1, o13.2.2.2.2.2.2.2.2.2.2.2.2.2.2.2.2.1, o13.2.2.2.2.2.2.2.2.2.2.2.2.2.2.2.2.2.1, o13.2.2.2.2.2.2.2.2.2.2.2.2.2.2.2.2.2.2.1, o13.2.2.2.2.2.2.2.2.2.2.2.2.2.2.2.2.2.2.2.1, o13.2.2.2.2.2.2.2.2.2.2.2.2.2.2.2.2.2.2.2.2.2)).bind fun o15 => ((Bp k) (([119, 101, 105, 103, 104, 116, 115] : List Int), o15.1)).bind fun o16 => ((Abo k) (o16.1, o15.2.1, o15.2.2.1, o15.2.2.2.1, o15.2.2.2.2.1, o15.2.2.2.2.2.1, o15.2.2.2.2.2.2.1, o15.2.2.2.2.2.2.2.1, o15.2.2.2.2.2.2.2.2.2.2)).bind fun o17 => ((Abp k) (o17.1, o17.2.1, o17.2.2.1, o17.2.2.2.1, o17.2.2.2.2.1, o17.2.2.2.2.2.1, o17.2.2.2.2.2.2.1, o17.2.2.2.2.2.2.2.1, o17.2.2.2.2.2.2.2.2)).bind fun o18 => ((Bp k) (([59] : List Int), o18.1)).bind fun o19 => ((Bp k) (([125] : List Int), o19.1)).bind fun o20 => ((Ua k) (o20.1, o14.2, o15.2.2.2.2.2.2.2.2.1, o15.2.2.2.2.2.2.2.2.2.1, o16.2, o19.2, o20.2, o18.2.1, o18.2.2.1, o18.2.2.2.1, o18.2.2.2.2.1, o18.2.2.2.2.2.1, o18.2.2.2.2.2.2.1, o18.2.2.2.2.2.2.2.1, o18.2.2.2.2.2.2.2.2)).bind fun o21 => J 5 [] (Rs (o21.1, o21.2.1, o21.2.2.1, o21.2.2.2.1, o21.2.2.2.2.2.2.2.2.2.2.1, o21.2.2.2.2.2.2.2.2.2.2.2.1, o21.2.2.2.2.2.2.2.2.2.2.2.2.1, o21.2.2.2.2.2.2.2.2.2.2.2.2.2.1, o21.2.2.2.2.2.2.2.2.2.2.2.2.2.2.1, o21.2.2.2.2.2.2.2.2.2.2.2.2.2.2.2.1, o21.2.2.2.2.2.2.2.2.2.2.2.2.2.2.2.2.1, o21.2.2.2.2.2.2.2.2.2.2.2.2.2.2.2.2.2.1, o21.2.2.2.2.2.2.2.2.2.2.2.2.2.2.2.2.2.2))) else (J 5 [] (Rs (o13.1, o13.2.1, o13.2.2.1, o13.2.2.2.1, o13.2.2.2.2.2.2.2.2.2.2.2.2.2.1, o13.2.2.2.2.2.2.2.2.2.2.2.2.2.2.1, o13.2.2.2.2.2.2.2.2.2.2.2.2.2.2.2.1, o13.2.2.2.2.2.2.2.2.2.2.2.2.2.2.2.2.1, o13.2.2.2.2.2.2.2.2.2.2.2.2.2.2.2.2.2.1, o13.2.2.2.2.2.2.2.2.2.2.2.2.2.2.2.2.2.2.1, o13.2.2.2.2.2.2.2.2.2.2.2.2.2.2.2.2.2.2.2.1, o13.2.2.2.2.2.2.2.2.2.2.2.2.2.2.2.2.2.2.2.2.2, [])))) else (J 5 [] (Rs (o13.1, o13.2.1, o13.2.2.1, o13.2.2.2.1, o13.2.2.2.2.2.2.2.2.2.2.2.2.2.1, o13.2.2.2.2.2.2.2.2.2.2.2.2.2.2.1, o13.2.2.2.2.2.2.2.2.2.2.2.2.2.2.2.1, o13.2.2.2.2.2.2.2.2.2.2.2.2.2.2.2.2.1, o13.2.2.2.2.2.2.2.2.2.2.2.2.2.2.2.2.2.1, o13.2.2.2.2.2.2.2.2.2.2.2.2.2.2.2.2.2.2.1, o13.2.2.2.2.2.2.2.2.2.2.2.2.2.2.2.2.2.2.2.1, o13.2.2.2.2.2.2.2.2.2.2.2.2.2.2.2.2.2.2.2.2.2, [])))
theorem fpnet_e (k : Nat) (x : (List (YT8))) : cpnet k x = Ahe k (fpnet k).J (fpnet k).L x := by
 refine (Af _ _).trans ?_; apply cutX (fpnet k) [] [] (st0 (fpnet k).C Tryz.f47 fpneti x) [(5, [])] [] (Ahe k · · x) <;> intros <;> kernel_rfl
noncomputable def Nc (k : Nat) (J : JF H180) (L : LF H180) : Ahd → Option H180
 | (a0, a1, a2, a3, a4, a5, a6, a7, a8, a9, a10, a11, a12) => bif a0 then (((Ub k) (a3)).bind fun o1 => some (a4, a5, a6, a7, a8, a9, a10, o1.1, o1.2.1, o1.2.2.1, o1.2.2.2, a11, a12)) else (some (a4, a5, a6, a7, a8, a9, a10, a0, a1, a2, a3, a11, a12))
theorem W0 (k : Nat) (x : Ahd) : (fpnet k).J 5 [] (Rs x) = Nc k (fpnet k).J (fpnet k).L x := by
 apply cutX (fpnet k) [.r, .r, .r, .r] [] (Rs x) [(5, [])] [] (Nc k · · x) <;> intros <;> kernel_rfl
theorem Bst (k : Nat) : Aa Tryz.prog 47 (sgpnet k) := Ae (fpnet k).C k rfl ⟨⟨Bul k, Fu k, trivial⟩, ⟨Bt0 k, Bs5 k, Bs7 k, Bs2 k, Bs3 k, trivial⟩, ⟨Brx k, trivial⟩, ⟨Bq1 k, trivial⟩, ⟨Br3 k, trivial⟩, ⟨Brq k, Brg k, Bri k, trivial⟩, ⟨Bq9 k, trivial⟩, trivial⟩ Ad Tryz.func47 (by kernel_rfl)
def Bx5 : Sk := ⟨[.lf (.erp 88 [(.int .i64), (.int .i64)]), .lf (.ifp 90 0 0)], [[.nil .ptr]], []⟩
def Bx6 : Sk := ⟨[.lf (.pv .bool)], [[.orp [(.int .i64), (.int .i64)]]], []⟩
def Zy (k : Nat) : ((Bool) × (Int) × (Int)) → Option ((Bool) × (Bool) × (Int) × (Int)) := asF
def Bit (k : Nat) : Sig := Ab Bx5 Bx6 (Zy k)
theorem Bp5 (k : Nat) : Aa Tryz.prog 48 (Bit k) := asF_ok
def Bx7 : Sk := ⟨[.lf (.erp 88 [(.int .i64), (.int .i64)]), .lf (.ifc 30 [(.int .i64)] false)], [], []⟩
def Bx8 : Sk := ⟨[.lf (.pv .bool)], [], []⟩
def Zz (k : Nat) : ((Bool) × (Int) × (Int) × (Int)) → Option (Bool) := isF
def Biu (k : Nat) : Sig := Ab Bx7 Bx8 (Zz k)
theorem Bp6 (k : Nat) : Aa Tryz.prog 106 (Biu k) := isF_ok
abbrev H181 : Type := (Bool) × (Int) × (Int) × (Int) × (Int) × (List (Int))
def fnetnumberi : Sk := ⟨[.lf (.erp 88 [(.int .i64), (.int .i64)])], [], []⟩
def fnetnumbero : Sk := ⟨[.lf (.pv (.int .i64))], [], []⟩
def Aun : Sk := ⟨sparse 17 [(0, .lf (.erp 88 [(.int .i64), (.int .i64)])), (5, .lf (.own 0)), (6, .lf (.pv (.int .i64))), (7, .lf (.pv (.int .i64)))], [], [some (30, (.int .i64))]⟩
abbrev Ae6 := H181
def Ra : Ae6 → St := stOf Aun 65
def B0d (k : Nat) : EnvL := [(106, [Biu k])]
def fnetnumber (k : Nat) : FnX Int := mkX ({ mkC (B0d k) 65 0 0 with hint := fun i => look none [(2, some Aun)] i }) k Tryz.f49 fnetnumbero
def cnetnumber (k : Nat) : ((Bool) × (Int) × (Int)) → Option Int := hid (Ac (fnetnumber k).C k Tryz.f49 fnetnumberi fnetnumbero)
def sgnetnumber (k : Nat) : Sig := Ab fnetnumberi fnetnumbero (cnetnumber k)
noncomputable def Ae7 (k : Nat) (J : JF Int) (L : LF Int) : ((Bool) × (Int) × (Int)) → Option Int
 | (a0, a1, a2) => L 2 [] k (Ra (a0, a1, a2, ((List.length ([(50 : Int), (4 : Int)] : List (Int)) : Nat) : Int), (0 : Int), ([(50 : Int), (4 : Int)] : List (Int))))
theorem B0e (k : Nat) (x : ((Bool) × (Int) × (Int))) : cnetnumber k x = Ae7 k (fnetnumber k).J (fnetnumber k).L x := by
 refine (Af _ _).trans ?_; apply cutX (fnetnumber k) [] [] (st0 (fnetnumber k).C Tryz.f49 fnetnumberi x) [] [(2, [], k)] (Ae7 k · · x) <;> intros <;> kernel_rfl
noncomputable def Wx (k j2 : Nat) (J : JF Int) (L : LF Int) : Ae6 → Option Int
 | (a0, a1, a2, a3, a4, a5) => bif (decide (a4 < a3)) then (bif (inB a4 (List.length a5)) then ((Zz k) (a0, a1, a2, (rdI a5 (Int.toNat a4)))).bind fun o1 => bif o1 then (some (rdI a5 (Int.toNat a4))) else (L 2 [] j2 (Ra (a0, a1, a2, a3, (IntKind.wrap .i64 (a4 + (1 : Int))), a5))) else none) else (some (1 : Int))
theorem Aum (k j2 : Nat) (x : Ae6) : (fnetnumber k).L 2 [] (j2 + 1) (Ra x) = Wx k j2 (fnetnumber k).J (fnetnumber k).L x := by
 apply cutX (fnetnumber k) [.r, .l, .r, .b, .b] [j2] (Ra x) [] [(2, [], j2)] (Wx k j2 · · x) <;> intros <;> kernel_rfl
theorem Bqt (k : Nat) : Aa Tryz.prog 49 (sgnetnumber k) := Ae (fnetnumber k).C k rfl ⟨⟨Bp6 k, trivial⟩, trivial⟩ Ad Tryz.func49 (by kernel_rfl)
def Auk : Sk := ⟨[.lf (.pv (.slice (.int .u8)))], [], []⟩
def Aul : Sk := ⟨[.agg [.pv (.int .i64), .pv (.int .i64), .pv (.int .i64), .pv (.int .i64), .pv (.int .i64), .own 0, .own 1, .pv (.int .i64), .pv (.int .i64)], .lf (.pv (.int .i64)), .lf (.pv (.int .i64))], [], [some (46, yt6), some (49, yt7)]⟩
def B0b (k : Nat) : EnvL := [(46, [An6 k]), (47, [sgpnet k]), (48, [Bit k]), (49, [sgnetnumber k])]
def Aui (k : Nat) : Cfg := { mkC (B0b k) 91 0 0 with bl := [54, 56], ld := [(35, 58), (37, 9999), (38, 9999)], sr := [(2, 50)] }
def T0 (k : Nat) : (List (Int)) → Option H90 := hid (Ac (Aui k) k Tryz.f14 Auk Aul)
def Bjf (k : Nat) : Sig := Ab Auk Aul (T0 k)
noncomputable def Auj (k : Nat) : (List (Int)) → Option H90
 | a0 => ((Pm k) (a0)).bind fun o1 => bif (o1.1 != (0 : Int)) then (some ((0 : Int), (0 : Int), (0 : Int), (0 : Int), (0 : Int), (0 : Int), (0 : Int), o1.1, o1.2.1, [], [])) else (((cpnet k) (o1.2.2)).bind fun o2 => ((Zy k) (o2.2.2.2.2.2.2.2.1, o2.2.2.2.2.2.2.2.2.1, o2.2.2.2.2.2.2.2.2.2.1)).bind fun o3 => bif o3.1 then (((cnetnumber k) (o2.2.2.2.2.2.2.2.1, o2.2.2.2.2.2.2.2.2.1, o2.2.2.2.2.2.2.2.2.2.1)).bind fun o4 => bif (!o3.2.1) then some ((0 : Int), (0 : Int), (0 : Int), (0 : Int), (0 : Int), (0 : Int), (0 : Int), o4, o3.2.2.2, [], []) else none) else (some (o2.1, o2.2.1, o2.2.2.1, o2.2.2.2.1, o2.2.2.2.2.1, o2.2.2.2.2.2.1, o2.2.2.2.2.2.2.1, (0 : Int), (0 : Int), o2.2.2.2.2.2.2.2.2.2.2.2.1, o2.2.2.2.2.2.2.2.2.2.2.2.2)))
theorem B0c (k : Nat) (x : (List (Int))) : T0 k x = Auj k x := (Af _ _).trans (by kernel_rfl)
theorem Bqs (k : Nat) : Aa Tryz.prog 14 (Bjf k) := Ae (Aui k) k rfl ⟨⟨Ap9 k, trivial⟩, ⟨Bst k, trivial⟩, ⟨Bp5 k, trivial⟩, ⟨Bqt k, trivial⟩, trivial⟩ Ad Tryz.func14 (by kernel_rfl)
abbrev H182 : Type := (List (YT7)) × (List (YT7)) × (Bool) × (Int)
abbrev H183 : Type := (List (YT7)) × (List (YT7)) × (Bool)
def Ale : Sk := ⟨[.lf (.pv (.slice yt7)), .lf (.pv (.slice yt7)), .lf (.pv .bool)], [], []⟩
def Alf : Sk := ⟨[.lf (.pv .bool)], [], []⟩
def A9s : Sk := ⟨sparse 37 [(0, .lf (.pv (.slice yt7))), (1, .lf (.pv (.slice yt7))), (2, .lf (.pv .bool)), (7, .lf (.pv (.int .i64)))], [], []⟩
abbrev Alc := H182
def Nq : Alc → St := stOf A9s 85
def Hx (k : Nat) : FnX Bool := mkX ({ mkC [] 85 0 0 with hint := fun i => look none [(4, some A9s)] i, bl := [54, 56], ld := [(24, 9999), (28, 9999)], sr := [(8, 56), (9, 57)] }) k Tryz.f40 Alf
def V3 (k : Nat) : H183 → Option Bool := hid (Ac (Hx k).C k Tryz.f40 Ale Alf)
def Bm8 (k : Nat) : Sig := Ab Ale Alf (V3 k)
noncomputable def Ald (k : Nat) (J : JF Bool) (L : LF Bool) : H183 → Option Bool
 | (a0, a1, a2) => bif (((List.length a0 : Nat) : Int) != ((List.length a1 : Nat) : Int)) then (some false) else (L 4 [] k (Nq (a0, a1, a2, (0 : Int))))
theorem B75 (k : Nat) (x : H183) : V3 k x = Ald k (Hx k).J (Hx k).L x := by
 refine (Af _ _).trans ?_; apply cutX (Hx k) [] [] (st0 (Hx k).C Tryz.f40 Ale x) [] [(4, [], k)] (Ald k · · x) <;> intros <;> kernel_rfl
noncomputable def Xk (k j4 : Nat) (J : JF Bool) (L : LF Bool) : Alc → Option Bool
 | (a0, a1, a2, a3) => bif (decide (a3 < ((List.length a0 : Nat) : Int))) then (idx zt7 a0 a3 fun o1 => idx zt7 a1 a3 fun o2 => bif (!a2) then (bif (!((eqS o1.1 o2.1) && ((eqS o1.2.1 o2.2.1) && ((eqS o1.2.2.1 o2.2.2.1) && ((eqI o1.2.2.2.1 o2.2.2.2.1) && ((eqI o1.2.2.2.2.1 o2.2.2.2.2.1) && ((eqI o2.2.2.2.2.2.1 o2.2.2.2.2.2.1) && true))))))) then (some false) else (L 4 [] j4 (Nq (a0, a1, a2, (IntKind.wrap .i64 (a3 + (1 : Int))))))) else (bif (!((eqS o1.1 o2.1) && ((eqS o1.2.1 o2.2.1) && ((eqS o1.2.2.1 o2.2.2.1) && ((eqI o1.2.2.2.1 o2.2.2.2.1) && ((eqI o1.2.2.2.2.1 o2.2.2.2.2.1) && ((eqI o1.2.2.2.2.2.1 o2.2.2.2.2.2.1) && true))))))) then (some false) else (L 4 [] j4 (Nq (a0, a1, a2, (IntKind.wrap .i64 (a3 + (1 : Int)))))))) else (some true)
theorem A9r (k j4 : Nat) (x : Alc) : (Hx k).L 4 [] (j4 + 1) (Nq x) = Xk k j4 (Hx k).J (Hx k).L x := by
 apply cutX (Hx k) [.r, .r, .l, .r, .b, .b] [j4] (Nq x) [] [(4, [], j4)] (Xk k j4 · · x) <;> intros <;> kernel_rfl
theorem Bvb (k : Nat) : Aa Tryz.prog 40 (Bm8 k) := Ae (Hx k).C (l := []) k rfl trivial Ad Tryz.func40 (by kernel_rfl)
abbrev H184 : Type := (List (YT1)) × (List (YT1)) × (Bool) × (Int)
abbrev H185 : Type := (List (YT1)) × (List (YT1)) × (Bool)
def Ajm : Sk := ⟨[.lf (.pv (.slice yt1)), .lf (.pv (.slice yt1)), .lf (.pv .bool)], [], []⟩
def Ajn : Sk := ⟨[.lf (.pv .bool)], [], []⟩
def A75 : Sk := ⟨sparse 37 [(0, .lf (.pv (.slice yt1))), (1, .lf (.pv (.slice yt1))), (2, .lf (.pv .bool)), (7, .lf (.pv (.int .i64)))], [], []⟩
abbrev Ajk := H184
def Ni : Ajk → St := stOf A75 85
def Hr (k : Nat) : FnX Bool := mkX ({ mkC [] 85 0 0 with hint := fun i => look none [(4, some A75)] i, bl := [54, 56], ld := [(24, 9999), (28, 9999)], sr := [(8, 56), (9, 57)] }) k Tryz.f41 Ajn
def P0 (k : Nat) : H185 → Option Bool := hid (Ac (Hr k).C k Tryz.f41 Ajm Ajn)
def Bmv (k : Nat) : Sig := Ab Ajm Ajn (P0 k)
noncomputable def Ajl (k : Nat) (J : JF Bool) (L : LF Bool) : H185 → Option Bool
 | (a0, a1, a2) => bif (((List.length a0 : Nat) : Int) != ((List.length a1 : Nat) : Int)) then (some false) else (L 4 [] k (Ni (a0, a1, a2, (0 : Int))))
theorem B6r (k : Nat) (x : H185) : P0 k x = Ajl k (Hr k).J (Hr k).L x := by
 refine (Af _ _).trans ?_; apply cutX (Hr k) [] [] (st0 (Hr k).C Tryz.f41 Ajm x) [] [(4, [], k)] (Ajl k · · x) <;> intros <;> kernel_rfl
noncomputable def Xa (k j4 : Nat) (J : JF Bool) (L : LF Bool) : Ajk → Option Bool
 | (a0, a1, a2, a3) => bif (decide (a3 < ((List.length a0 : Nat) : Int))) then (idx zt1 a0 a3 fun o1 => idx zt1 a1 a3 fun o2 => bif (!a2) then (bif (!((eqS o1.1 o2.1) && ((eqI o1.2.1 o2.2.1) && ((eqI o1.2.2.1 o2.2.2.1) && (((eqI o1.2.2.2.1.1 o2.2.2.2.1.1) && ((eqI o1.2.2.2.1.2.1 o2.2.2.2.1.2.1) && true)) && ((eqI o1.2.2.2.2.1 o2.2.2.2.2.1) && ((eqI o1.2.2.2.2.2.1 o2.2.2.2.2.2.1) && ((eqI o1.2.2.2.2.2.2.1 o2.2.2.2.2.2.2.1) && ((eqI o1.2.2.2.2.2.2.2.1 o2.2.2.2.2.2.2.2.1) && ((eqI o1.2.2.2.2.2.2.2.2.1 o2.2.2.2.2.2.2.2.2.1) && ((eqI o2.2.2.2.2.2.2.2.2.2.1 o2.2.2.2.2.2.2.2.2.2.1) && true))))))))))) then (some false) else (L 4 [] j4 (Ni (a0, a1, a2, (IntKind.wrap .i64 (a3 + (1 : Int))))))) else (bif (!((eqS o1.1 o2.1) && ((eqI o1.2.1 o2.2.1) && ((eqI o1.2.2.1 o2.2.2.1) && (((eqI o1.2.2.2.1.1 o2.2.2.2.1.1) && ((eqI o1.2.2.2.1.2.1 o2.2.2.2.1.2.1) && true)) && ((eqI o1.2.2.2.2.1 o2.2.2.2.2.1) && ((eqI o1.2.2.2.2.2.1 o2.2.2.2.2.2.1) && ((eqI o1.2.2.2.2.2.2.1 o2.2.2.2.2.2.2.1) && ((eqI o1.2.2.2.2.2.2.2.1 o2.2.2.2.2.2.2.2.1) && ((eqI o1.2.2.2.2.2.2.2.2.1 o2.2.2.2.2.2.2.2.2.1) && ((eqI o1.2.2.2.2.2.2.2.2.2.1 o2.2.2.2.2.2.2.2.2.2.1) && true))))))))))) then (some false) else (L 4 [] j4 (Ni (a0, a1, a2, (IntKind.wrap .i64 (a3 + (1 : Int)))))))) else (some true)
theorem A74 (k j4 : Nat) (x : Ajk) : (Hr k).L 4 [] (j4 + 1) (Ni x) = Xa k j4 (Hr k).J (Hr k).L x := by
 apply cutX (Hr k) [.r, .r, .l, .r, .b, .b] [j4] (Ni x) [] [(4, [], j4)] (Xa k j4 · · x) <;> intros <;> kernel_rfl
theorem Buy (k : Nat) : Aa Tryz.prog 41 (Bmv k) := Ae (Hr k).C (l := []) k rfl trivial Ad Tryz.func41 (by kernel_rfl)
abbrev H186 : Type := (List (YT2)) × (List (YT2)) × (Bool) × (Int)
abbrev H187 : Type := (List (YT2)) × (List (YT2)) × (Bool)
def Ajq : Sk := ⟨[.lf (.pv (.slice yt2)), .lf (.pv (.slice yt2)), .lf (.pv .bool)], [], []⟩
def Ajr : Sk := ⟨[.lf (.pv .bool)], [], []⟩
def A77 : Sk := ⟨sparse 37 [(0, .lf (.pv (.slice yt2))), (1, .lf (.pv (.slice yt2))), (2, .lf (.pv .bool)), (7, .lf (.pv (.int .i64)))], [], []⟩
abbrev Ajo := H186
def Nj : Ajo → St := stOf A77 85
def Hs (k : Nat) : FnX Bool := mkX ({ mkC [] 85 0 0 with hint := fun i => look none [(4, some A77)] i, bl := [54, 56], ld := [(24, 9999), (28, 9999)], sr := [(8, 56), (9, 57)] }) k Tryz.f42 Ajr
def P1 (k : Nat) : H187 → Option Bool := hid (Ac (Hs k).C k Tryz.f42 Ajq Ajr)
def Bmw (k : Nat) : Sig := Ab Ajq Ajr (P1 k)
noncomputable def Ajp (k : Nat) (J : JF Bool) (L : LF Bool) : H187 → Option Bool
 | (a0, a1, a2) => bif (((List.length a0 : Nat) : Int) != ((List.length a1 : Nat) : Int)) then (some false) else (L 4 [] k (Nj (a0, a1, a2, (0 : Int))))
theorem B6s (k : Nat) (x : H187) : P1 k x = Ajp k (Hs k).J (Hs k).L x := by
 refine (Af _ _).trans ?_; apply cutX (Hs k) [] [] (st0 (Hs k).C Tryz.f42 Ajq x) [] [(4, [], k)] (Ajp k · · x) <;> intros <;> kernel_rfl
noncomputable def Xb (k j4 : Nat) (J : JF Bool) (L : LF Bool) : Ajo → Option Bool
 | (a0, a1, a2, a3) => bif (decide (a3 < ((List.length a0 : Nat) : Int))) then (idx zt2 a0 a3 fun o1 => idx zt2 a1 a3 fun o2 => bif (!a2) then (bif (!((eqS o1.1 o2.1) && ((eqS o1.2.1 o2.2.1) && ((eqI o1.2.2.1 o2.2.2.1) && ((eqI o1.2.2.2.1 o2.2.2.2.1) && ((eqI o1.2.2.2.2.1 o2.2.2.2.2.1) && ((eqI o2.2.2.2.2.2.1 o2.2.2.2.2.2.1) && true))))))) then (some false) else (L 4 [] j4 (Nj (a0, a1, a2, (IntKind.wrap .i64 (a3 + (1 : Int))))))) else (bif (!((eqS o1.1 o2.1) && ((eqS o1.2.1 o2.2.1) && ((eqI o1.2.2.1 o2.2.2.1) && ((eqI o1.2.2.2.1 o2.2.2.2.1) && ((eqI o1.2.2.2.2.1 o2.2.2.2.2.1) && ((eqI o1.2.2.2.2.2.1 o2.2.2.2.2.2.1) && true))))))) then (some false) else (L 4 [] j4 (Nj (a0, a1, a2, (IntKind.wrap .i64 (a3 + (1 : Int)))))))) else (some true)
theorem A76 (k j4 : Nat) (x : Ajo) : (Hs k).L 4 [] (j4 + 1) (Nj x) = Xb k j4 (Hs k).J (Hs k).L x := by
 apply cutX (Hs k) [.r, .r, .l, .r, .b, .b] [j4] (Nj x) [] [(4, [], j4)] (Xb k j4 · · x) <;> intros <;> kernel_rfl
theorem Buz (k : Nat) : Aa Tryz.prog 42 (Bmw k) := Ae (Hs k).C (l := []) k rfl trivial Ad Tryz.func42 (by kernel_rfl)
abbrev H188 : Type := (List (List Int)) × (List (List Int)) × (Int)
abbrev H189 : Type := (List (List Int)) × (List (List Int))
def Ai2 : Sk := ⟨[.lf (.pv (.slice .str)), .lf (.pv (.slice .str))], [], []⟩
def Ai3 : Sk := ⟨[.lf (.pv .bool)], [], []⟩
def A7v : Sk := ⟨sparse 26 [(0, .lf (.pv (.slice .str))), (1, .lf (.pv (.slice .str))), (5, .lf (.pv (.int .i64)))], [], []⟩
abbrev Ai0 := H188
def Ng : Ai0 → St := stOf A7v 74
def F0 (k : Nat) : FnX Bool := mkX ({ mkC [] 74 0 0 with hint := fun i => look none [(4, some A7v)] i }) k Tryz.f89 Ai3
def Py (k : Nat) : H189 → Option Bool := hid (Ac (F0 k).C k Tryz.f89 Ai2 Ai3)
def Aof (k : Nat) : Sig := Ab Ai2 Ai3 (Py k)
noncomputable def Ai1 (k : Nat) (J : JF Bool) (L : LF Bool) : H189 → Option Bool
 | (a0, a1) => bif (((List.length a0 : Nat) : Int) != ((List.length a1 : Nat) : Int)) then (some false) else (L 4 [] k (Ng (a0, a1, (0 : Int))))
theorem B6j (k : Nat) (x : H189) : Py k x = Ai1 k (F0 k).J (F0 k).L x := by
 refine (Af _ _).trans ?_; apply cutX (F0 k) [] [] (st0 (F0 k).C Tryz.f89 Ai2 x) [] [(4, [], k)] (Ai1 k · · x) <;> intros <;> kernel_rfl
noncomputable def W5 (k j4 : Nat) (J : JF Bool) (L : LF Bool) : Ai0 → Option Bool
 | (a0, a1, a2) => bif (decide (a2 < ((List.length a0 : Nat) : Int))) then (idx [] a0 a2 fun o1 => idx [] a1 a2 fun o2 => bif (!(o1 == o2)) then (some false) else (L 4 [] j4 (Ng (a0, a1, (IntKind.wrap .i64 (a2 + (1 : Int))))))) else (some true)
theorem A7u (k j4 : Nat) (x : Ai0) : (F0 k).L 4 [] (j4 + 1) (Ng x) = W5 k j4 (F0 k).J (F0 k).L x := by
 apply cutX (F0 k) [.r, .r, .l, .r, .b, .b] [j4] (Ng x) [] [(4, [], j4)] (W5 k j4 · · x) <;> intros <;> kernel_rfl
theorem Aqo (k : Nat) : Aa Tryz.prog 89 (Aof k) := Ae (F0 k).C (l := []) k rfl trivial Ad Tryz.func89 (by kernel_rfl)
abbrev H190 : Type := (List (YT3)) × (List (YT3)) × (Bool) × (Int)
abbrev H191 : Type := (List (YT3)) × (List (YT3)) × (Bool)
def Aju : Sk := ⟨[.lf (.pv (.slice yt3)), .lf (.pv (.slice yt3)), .lf (.pv .bool)], [], []⟩
def Ajv : Sk := ⟨[.lf (.pv .bool)], [], []⟩
def A79 : Sk := ⟨sparse 60 [(0, .lf (.pv (.slice yt3))), (1, .lf (.pv (.slice yt3))), (2, .lf (.pv .bool)), (7, .lf (.pv (.int .i64)))], [], []⟩
abbrev Ajs := H190
def Nk : Ajs → St := stOf A79 108
def B6t (k : Nat) : EnvL := [(89, [Aof k])]
def Ht (k : Nat) : FnX Bool := mkX ({ mkC (B6t k) 108 0 0 with hint := fun i => look none [(4, some A79)] i }) k Tryz.f43 Ajv
def P2 (k : Nat) : H191 → Option Bool := hid (Ac (Ht k).C k Tryz.f43 Aju Ajv)
def Bmx (k : Nat) : Sig := Ab Aju Ajv (P2 k)
noncomputable def Ajt (k : Nat) (J : JF Bool) (L : LF Bool) : H191 → Option Bool
 | (a0, a1, a2) => bif (((List.length a0 : Nat) : Int) != ((List.length a1 : Nat) : Int)) then (some false) else (L 4 [] k (Nk (a0, a1, a2, (0 : Int))))
theorem B6u (k : Nat) (x : H191) : P2 k x = Ajt k (Ht k).J (Ht k).L x := by
 refine (Af _ _).trans ?_; apply cutX (Ht k) [] [] (st0 (Ht k).C Tryz.f43 Aju x) [] [(4, [], k)] (Ajt k · · x) <;> intros <;> kernel_rfl
noncomputable def Xc (k j4 : Nat) (J : JF Bool) (L : LF Bool) : Ajs → Option Bool
 | (a0, a1, a2, a3) => bif (decide (a3 < ((List.length a0 : Nat) : Int))) then (idx zt3 a0 a3 fun o1 => idx zt3 a1 a3 fun o2 => bif (!(o1.1 == o2.1)) then (some false) else (idx zt3 a0 a3 fun o3 => idx zt3 a1 a3 fun o4 => ((Py k) (o3.2.1, o4.2.1)).bind fun o5 => bif (!o5) then (some false) else (bif a2 then (idx zt3 a0 a3 fun o6 => idx zt3 a1 a3 fun o7 => bif (o6.2.2.1 != o7.2.2.1) then (some false) else (L 4 [] j4 (Nk (a0, a1, a2, (IntKind.wrap .i64 (a3 + (1 : Int))))))) else (L 4 [] j4 (Nk (a0, a1, a2, (IntKind.wrap .i64 (a3 + (1 : Int))))))))) else (some true)
theorem A78 (k j4 : Nat) (x : Ajs) : (Ht k).L 4 [] (j4 + 1) (Nk x) = Xc k j4 (Ht k).J (Ht k).L x := by
 apply cutX (Ht k) [.r, .r, .l, .r, .b, .b] [j4] (Nk x) [] [(4, [], j4)] (Xc k j4 · · x) <;> intros <;> kernel_rfl
theorem Bu0 (k : Nat) : Aa Tryz.prog 43 (Bmx k) := Ae (Ht k).C k rfl ⟨⟨Aqo k, trivial⟩, trivial⟩ Ad Tryz.func43 (by kernel_rfl)
end
noncomputable section
abbrev H192 : Type := (List ((List (YT4)) × (Unit))) × (List ((List (YT4)) × (Unit))) × (Int)
abbrev H193 : Type := (List ((List (YT4)) × (Unit))) × (List ((List (YT4)) × (Unit))) × (Int) × (Int)
abbrev H194 : Type := (List ((List (YT4)) × (Unit))) × (List ((List (YT4)) × (Unit)))
def Aiy : Sk := ⟨[.lf (.pv (.slice (.cons (.slice yt4) .nil))), .lf (.pv (.slice (.cons (.slice yt4) .nil)))], [], []⟩
def Aiz : Sk := ⟨[.lf (.pv .bool)], [], []⟩
def A7s : Sk := ⟨sparse 82 [(0, .lf (.pv (.slice (.cons (.slice yt4) .nil)))), (1, .lf (.pv (.slice (.cons (.slice yt4) .nil)))), (5, .lf (.pv (.int .i64)))], [], []⟩
abbrev Aiv := H192
def Lr : Aiv → St := stOf A7s 130
def A7t : Sk := ⟨sparse 82 [(0, .lf (.pv (.slice (.cons (.slice yt4) .nil)))), (1, .lf (.pv (.slice (.cons (.slice yt4) .nil)))), (5, .lf (.pv (.int .i64))), (6, .lf (.pv (.int .i64)))], [], []⟩
abbrev Aiw := H193
def Nf : Aiw → St := stOf A7t 130
def B6h (k : Nat) : EnvL := [(89, [Aof k])]
def Dj (k : Nat) : FnX Bool := mkX ({ mkC (B6h k) 130 0 0 with hint := fun i => look none [(4, some A7s), (9, some A7t)] i }) k Tryz.f44 Aiz
def Px (k : Nat) : H194 → Option Bool := hid (Ac (Dj k).C k Tryz.f44 Aiy Aiz)
def Bmr (k : Nat) : Sig := Ab Aiy Aiz (Px k)
noncomputable def Aix (k : Nat) (J : JF Bool) (L : LF Bool) : H194 → Option Bool
 | (a0, a1) => bif (((List.length a0 : Nat) : Int) != ((List.length a1 : Nat) : Int)) then (some false) else (L 4 [] k (Lr (a0, a1, (0 : Int))))
theorem B6i (k : Nat) (x : H194) : Px k x = Aix k (Dj k).J (Dj k).L x := by
 refine (Af _ _).trans ?_; apply cutX (Dj k) [] [] (st0 (Dj k).C Tryz.f44 Aiy x) [] [(4, [], k)] (Aix k · · x) <;> intros <;> kernel_rfl
noncomputable def W3 (k j4 : Nat) (J : JF Bool) (L : LF Bool) : Aiv → Option Bool
 | (a0, a1, a2) => bif (decide (a2 < ((List.length a0 : Nat) : Int))) then (idx ([], ()) a0 a2 fun o1 => idx ([], ()) a1 a2 fun o2 => bif (((List.length o1.1 : Nat) : Int) != ((List.length o2.1 : Nat) : Int)) then (some false) else (L 9 [j4] k (Nf (a0, a1, a2, (0 : Int))))) else (some true)
theorem A7q (k j4 : Nat) (x : Aiv) : (Dj k).L 4 [] (j4 + 1) (Lr x) = W3 k j4 (Dj k).J (Dj k).L x := by
 apply cutX (Dj k) [.r, .r, .l, .r, .b, .b] [j4] (Lr x) [] [(4, [], j4), (9, [j4], k)] (W3 k j4 · · x) <;> intros <;> kernel_rfl
noncomputable def W4 (k j4 j9 : Nat) (J : JF Bool) (L : LF Bool) : Aiw → Option Bool
 | (a0, a1, a2, a3) => idx ([], ()) a0 a2 fun o1 => bif (decide (a3 < ((List.length o1.1 : Nat) : Int))) then (idx ([], ()) a0 a2 fun o2 => idx zt4 o2.1 a3 fun o3 => idx ([], ()) a1 a2 fun o4 => idx zt4 o4.1 a3 fun o5 => bif (!(o3.1 == o5.1)) then (some false) else (idx ([], ()) a0 a2 fun o6 => idx zt4 o6.1 a3 fun o7 => idx ([], ()) a1 a2 fun o8 => idx zt4 o8.1 a3 fun o9 => ((Py k) (o7.2.1, o9.2.1)).bind fun o10 => bif (!o10) then (some false) else (L 9 [j4] j9 (Nf (a0, a1, a2, (IntKind.wrap .i64 (a3 + (1 : Int)))))))) else (L 4 [] j4 (Lr (a0, a1, (IntKind.wrap .i64 (a2 + (1 : Int))))))
theorem A7r (k j4 j9 : Nat) (x : Aiw) : (Dj k).L 9 [j4] (j9 + 1) (Nf x) = W4 k j4 j9 (Dj k).J (Dj k).L x := by
 apply cutX (Dj k) [.r, .r, .l, .r, .b, .b, .r, .l, .b, .r, .r, .b, .b] [j4, j9] (Nf x) [] [(4, [], j4), (9, [j4], j9)] (W4 k j4 j9 · · x) <;> intros <;> kernel_rfl
theorem Buu (k : Nat) : Aa Tryz.prog 44 (Bmr k) := Ae (Dj k).C k rfl ⟨⟨Aqo k, trivial⟩, trivial⟩ Ad Tryz.func44 (by kernel_rfl)
abbrev H195 : Type := (List (YT5)) × (List (YT5)) × (Bool) × (Int)
abbrev H196 : Type := (List (YT5)) × (List (YT5)) × (Bool)
def Aji : Sk := ⟨[.lf (.pv (.slice yt5)), .lf (.pv (.slice yt5)), .lf (.pv .bool)], [], []⟩
def Ajj : Sk := ⟨[.lf (.pv .bool)], [], []⟩
def A73 : Sk := ⟨sparse 37 [(0, .lf (.pv (.slice yt5))), (1, .lf (.pv (.slice yt5))), (2, .lf (.pv .bool)), (7, .lf (.pv (.int .i64)))], [], []⟩
abbrev Ajg := H195
def Nh : Ajg → St := stOf A73 85
def Hq (k : Nat) : FnX Bool := mkX ({ mkC [] 85 0 0 with hint := fun i => look none [(4, some A73)] i, bl := [54, 56], ld := [(24, 9999), (28, 9999)], sr := [(8, 56), (9, 57)] }) k Tryz.f45 Ajj
def Pz (k : Nat) : H196 → Option Bool := hid (Ac (Hq k).C k Tryz.f45 Aji Ajj)
def Bmu (k : Nat) : Sig := Ab Aji Ajj (Pz k)
noncomputable def Ajh (k : Nat) (J : JF Bool) (L : LF Bool) : H196 → Option Bool
 | (a0, a1, a2) => bif (((List.length a0 : Nat) : Int) != ((List.length a1 : Nat) : Int)) then (some false) else (L 4 [] k (Nh (a0, a1, a2, (0 : Int))))
theorem B6q (k : Nat) (x : H196) : Pz k x = Ajh k (Hq k).J (Hq k).L x := by
 refine (Af _ _).trans ?_; apply cutX (Hq k) [] [] (st0 (Hq k).C Tryz.f45 Aji x) [] [(4, [], k)] (Ajh k · · x) <;> intros <;> kernel_rfl
noncomputable def W9 (k j4 : Nat) (J : JF Bool) (L : LF Bool) : Ajg → Option Bool
 | (a0, a1, a2, a3) => bif (decide (a3 < ((List.length a0 : Nat) : Int))) then (idx zt5 a0 a3 fun o1 => idx zt5 a1 a3 fun o2 => bif (!a2) then (bif (!((eqS o1.1 o2.1) && ((eqS o1.2.1 o2.2.1) && ((eqI o2.2.2.1 o2.2.2.1) && true)))) then (some false) else (L 4 [] j4 (Nh (a0, a1, a2, (IntKind.wrap .i64 (a3 + (1 : Int))))))) else (bif (!((eqS o1.1 o2.1) && ((eqS o1.2.1 o2.2.1) && ((eqI o1.2.2.1 o2.2.2.1) && true)))) then (some false) else (L 4 [] j4 (Nh (a0, a1, a2, (IntKind.wrap .i64 (a3 + (1 : Int)))))))) else (some true)
theorem A72 (k j4 : Nat) (x : Ajg) : (Hq k).L 4 [] (j4 + 1) (Nh x) = W9 k j4 (Hq k).J (Hq k).L x := by
 apply cutX (Hq k) [.r, .r, .l, .r, .b, .b] [j4] (Nh x) [] [(4, [], j4)] (W9 k j4 · · x) <;> intros <;> kernel_rfl
theorem Bux (k : Nat) : Aa Tryz.prog 45 (Bmu k) := Ae (Hq k).C (l := []) k rfl trivial Ad Tryz.func45 (by kernel_rfl)
abbrev H197 : Type := (Bool) × (Int) × (Int) × (Int) × (Int) × (Int) × (Int) × (List (YT6)) × (List (YT7)) × (Int) × (Int) × (Int) × (Int) × (Int) × (Int) × (Int) × (List (YT6)) × (List (YT7)) × (Int) × (Int)
abbrev H198 : Type := (Int) × (Int) × (Int) × (Int) × (Int) × (List (YT6)) × (List (YT7)) × (Int) × (Int) × (Int) × (Int) × (Int) × (Int) × (Int) × (List (YT6)) × (List (YT7)) × (Int) × (Int) × (Bool)
def Aje : Sk := ⟨[.agg [.pv (.int .i64), .pv (.int .i64), .pv (.int .i64), .pv (.int .i64), .pv (.int .i64), .pv (.slice yt6), .pv (.slice yt7), .pv (.int .i64), .pv (.int .i64)], .agg [.pv (.int .i64), .pv (.int .i64), .pv (.int .i64), .pv (.int .i64), .pv (.int .i64), .pv (.slice yt6), .pv (.slice yt7), .pv (.int .i64), .pv (.int .i64)], .lf (.pv .bool)], [], []⟩
def Ajf : Sk := ⟨[.lf (.pv .bool)], [], []⟩
def A71 : Sk := ⟨sparse 144 [(2, .lf (.pv .bool)), (3, .lf (.ptr 0 0)), (4, .lf (.ptr 1 0)), (7, .lf (.pv (.int .i64)))], [q1, q1], []⟩
abbrev Ajc := H197
def Ls : Ajc → St := stOf A71 192
def B6o (k : Nat) : EnvL := [(40, [Bm8 k]), (41, [Bmv k]), (42, [Bmw k]), (43, [Bmx k]), (44, [Bmr k]), (45, [Bmu k])]
def F3 (k : Nat) : FnX Bool := mkX ({ mkC (B6o k) 192 0 0 with hint := fun i => look none [(4, some A71)] i, bl := [54, 56], ld := [(75, 9999), (76, 0), (79, 9999), (80, 9999), (81, 1), (84, 9999)], sr := [(8, 56), (9, 57)] }) k Tryz.f13 Ajf
def Vr (k : Nat) : H198 → Option Bool := hid (Ac (F3 k).C k Tryz.f13 Aje Ajf)
def Bmt (k : Nat) : Sig := Ab Aje Ajf (Vr k)
noncomputable def Ajd (k : Nat) (J : JF Bool) (L : LF Bool) : H198 → Option Bool
 | (a0, a1, a2, a3, a4, a5, a6, a7, a8, a9, a10, a11, a12, a13, a14, a15, a16, a17, a18) => bif (a0 != a9) then (some false) else (bif (a1 != a10) then (some false) else (bif (a2 != a11) then (some false) else (bif (!((eqI a3 a12) && ((eqI a4 a13) && true))) then (some false) else (bif (a7 != a16) then (some false) else (bif (a8 != a17) then (some false) else (bif (((List.length a5 : Nat) : Int) != ((List.length a14 : Nat) : Int)) then (some false) else (((V3 k) (a6, a15, a18)).bind fun o1 => bif (!o1) then (some false) else (L 4 [] k (Ls (a18, (0 : Int), a0, a1, a2, a3, a4, a5, a6, a7, a8, a9, a10, a11, a12, a13, a14, a15, a16, a17))))))))))
theorem B6p (k : Nat) (x : H198) : Vr k x = Ajd k (F3 k).J (F3 k).L x := by
 refine (Af _ _).trans ?_; apply cutX (F3 k) [] [] (st0 (F3 k).C Tryz.f13 Aje x) [] [(4, [], k)] (Ajd k · · x) <;> intros <;> kernel_rfl
noncomputable def W8 (k j4 : Nat) (J : JF Bool) (L : LF Bool) : Ajc → Option Bool
 | (a0, a1, a2, a3, a4, a5, a6, a7, a8, a9, a10, a11, a12, a13, a14, a15, a16, a17, a18, a19) => bif (decide (a1 < ((List.length a7 : Nat) : Int))) then (idx zt6 a7 a1 fun o1 => idx zt6 a16 a1 fun o2 => bif (!(o1.1 == o2.1)) then (some false) else (bif a0 then (bif (o1.2.2.2.2.2.2.1 != o2.2.2.2.2.2.2.1) then (some false) else (((P0 k) (o1.2.1, o2.2.1, a0)).bind fun o3 => bif (!o3) then (some false) else (((P1 k) (o1.2.2.1, o2.2.2.1, a0)).bind fun o4 => bif (!o4) then (some false) else (((P2 k) (o1.2.2.2.1, o2.2.2.2.1, a0)).bind fun o5 => bif (!o5) then (some false) else (((Px k) (o1.2.2.2.2.1, o2.2.2.2.2.1)).bind fun o6 => bif (!o6) then (some false) else (((Pz k) (o1.2.2.2.2.2.1, o2.2.2.2.2.2.1, a0)).bind fun o7 => bif (!o7) then (some false) else (L 4 [] j4 (Ls (a0, (IntKind.wrap .i64 (a1 + (1 : Int))), a2, a3, a4, a5, a6, a7, a8, a9, a10, a11, a12, a13, a14, a15, a16, a17, a18, a19))))))))) else (((P0 k) (o1.2.1, o2.2.1, a0)).bind fun o8 => bif (!o8) then (some false) else (((P1 k) (o1.2.2.1, o2.2.2.1, a0)).bind fun o9 => bif (!o9) then (some false) else (((P2 k) (o1.2.2.2.1, o2.2.2.2.1, a0)).bind fun o10 => bif (!o10) then (some false) else (((Px k) (o1.2.2.2.2.1, o2.2.2.2.2.1)).bind fun o11 => bif (!o11) then (some false) else (((Pz k) (o1.2.2.2.2.2.1, o2.2.2.2.2.2.1, a0)).bind fun o12 => bif (!o12) then (some false) else (L 4 [] j4 (Ls (a0, (IntKind.wrap .i64 (a1 + (1 : Int))), a2, a3, a4, a5, a6, a7, a8, a9, a10, a11, a12, a13, a14, a15, a16, a17, a18, a19)))))))))) else (some true)
theorem A70 (k j4 : Nat) (x : Ajc) : (F3 k).L 4 [] (j4 + 1) (Ls x) = W8 k j4 (F3 k).J (F3 k).L x := by
 apply cutX (F3 k) [.r, .r, .l, .r, .b, .b] [j4] (Ls x) [] [(4, [], j4)] (W8 k j4 · · x) <;> intros <;> kernel_rfl
theorem Buw (k : Nat) : Aa Tryz.prog 13 (Bmt k) := Ae (F3 k).C k rfl ⟨⟨Bvb k, trivial⟩, ⟨Buy k, trivial⟩, ⟨Buz k, trivial⟩, ⟨Bu0 k, trivial⟩, ⟨Buu k, trivial⟩, ⟨Bux k, trivial⟩, trivial⟩ Ad Tryz.func13 (by kernel_rfl)
def Ben : Sk := ⟨[.agg [.pv (.int .i64), .pv (.int .i64), .pv (.int .i64), .pv (.int .i64), .pv (.int .i64), .pv (.slice yt6), .pv (.slice yt7), .pv (.int .i64), .pv (.int .i64)]], [], []⟩
def Beo : Sk := ⟨[.lf (.pv .bool)], [], []⟩
abbrev Cau := H6
def Cat (k : Nat) : EnvL := [(7, [Bn5 k]), (8, [Aoi k]), (10, [Y1 k]), (12, [Bn6 k]), (14, [Bjf k]), (13, [Bmt k])]
def Bel (k : Nat) : Cfg := { mkC (Cat k) 107 0 0 with bl := [54, 56] }
def Acg (k : Nat) : H6 → Option Bool := hid (Ac (Bel k) k Tryz.f5 Ben Beo)
def Cf6 (k : Nat) : Sig := Ab Ben Beo (Acg k)
noncomputable def Bem (k : Nat) : H6 → Option Bool
 | (a0, a1, a2, a3, a4, a5, a6, a7, a8) => ((Wk k) (a0, a1, a2, a3, a4, a5, a6, a7, a8)).bind fun o1 => bif (!o1) then (some true) else (((My k) (a0, a1, a2, a3, a4, a5, a6, a7, a8)).bind fun o2 => bif (o2.2 != (0 : Int)) then (bif (o2.2 == (1 : Int)) then (bif (((List.length o2.1 : Nat) : Int) == (0 : Int)) then (((Lb k) (a0, a1, a2, a3, a4, a5, a6, a7, a8)).bind fun o3 => bif (!o3) then (((Mz k) (())).bind fun o4 => some o4) else (some false)) else (some false)) else (some false)) else (((T0 k) (o2.1)).bind fun o5 => bif (decide (((List.length o2.1 : Nat) : Int) > (65536 : Int))) then (bif (o5.2.2.2.2.2.2.2.1 == (4 : Int)) then (((Mz k) (())).bind fun o6 => some o6) else (some false)) else (bif (o5.2.2.2.2.2.2.2.1 == (0 : Int)) then (((Vr k) (a0, a1, a2, a3, a4, a5, a6, a7, a8, o5.1, o5.2.1, o5.2.2.1, o5.2.2.2.1, o5.2.2.2.2.1, o5.2.2.2.2.2.2.2.2.2.1, o5.2.2.2.2.2.2.2.2.2.2, o5.2.2.2.2.2.1, o5.2.2.2.2.2.2.1, false)).bind fun o7 => bif o7 then (((Mz k) (())).bind fun o8 => some o8) else (some false)) else (some false))))
theorem Cav (k : Nat) (x : H6) : Acg k x = Bem k x := (Af _ _).trans (by kernel_rfl)
theorem Bwh (k : Nat) : Aa Tryz.prog 5 (Cf6 k) := Ae (Bel k) k rfl ⟨⟨Bwg k, trivial⟩, ⟨Aqr k, trivial⟩, ⟨Ab6 k, trivial⟩, ⟨Bwi k, trivial⟩, ⟨Bqs k, trivial⟩, ⟨Buw k, trivial⟩, trivial⟩ Ad Tryz.func5 (by kernel_rfl)
end
section
variable {α β R : Type} {d : α} {l : List α} {i : Nat} {x : α}
theorem Jc (h : l[i]? = some x) : i < l.length := (List.getElem?_eq_some_iff.1 h).1
theorem Ei (h : l[i]? = some x) : x ∈ l := List.mem_of_getElem? h
theorem Mm (h : l[i]? = some x) : l.drop i = x :: l.drop (i + 1) := by
 obtain ⟨h1, h2⟩ := List.getElem?_eq_some_iff.1 h
 rw [List.drop_eq_getElem_cons h1, h2]
theorem A5 {K : α → Option R} (h : l[i]? = some x) : idx d l (i : Int) K = K x := by
 have := Jc h
 unfold idx
 rw [cinB, if_pos (by omega), Bhr, List.getD_eq_getElem?_getD, h]
 rfl
theorem B9 {a b : β} (h : l[i]? = some x) : (bif decide ((i : Int) < ((l.length : Nat) : Int)) then a else b) = a := by
 have := Jc h
 rw [cd, if_pos (by omega)]
theorem Ca {a b : β} : (bif decide (((l.length : Nat) : Int) < ((l.length : Nat) : Int)) then a else b) = b := by
 rw [cd, if_neg (by omega)]
theorem Cd (h : l[i]? = some x) (hl : l.length < 1000000) : IntKind.wrap .i64 ((i : Int) + 1) = ((i + 1 : Nat) : Int) := by
 have := Jc h
 rw [w64 (by omega)]
 rfl
theorem Zx {a b : List Int} {K : List Int → Option R} (h : a.length + b.length ≤ 9223372036854775807) : cat a b K = K (a ++ b) := by
 unfold cat
 rw [cd]
 exact if_pos h
theorem Ce {n : Nat} {a b : List α} {K : List α → Option R} (h : (a.length + b.length) * n ≤ 140737488355328) (h2 : a.length + b.length ≤ 9223372036854775807) : app n a b K = K (a ++ b) := by
 unfold app
 rw [Pa, if_pos ⟨h, h2⟩]
theorem Sf (hz : i ≤ l.length) : i = l.length ∨ ∃ x, l[i]? = some x := by
 by_cases h : i < l.length
 ·exact .inr ⟨l[i], List.getElem?_eq_getElem h⟩
 ·exact .inl (by omega)
theorem Apy (l : List α) (p : α → Bool) (g : α → Option Bool) (F : Nat → Int → Option Int) (hl : l.length < 1000000)
  (hF : ∀ j i, F (j + 1) i = bif decide (i < ((l.length : Nat) : Int)) then (idx d l i fun o => (g o).bind fun o2 => bif o2 then some i else F j (IntKind.wrap .i64 (i + 1))) else some (-1))
  (hg : ∀ x ∈ l, g x = some (p x)) : ∀ (j i : Nat), l.length < i + j → i ≤ l.length → ∃ r, F j (i : Int) = some r ∧ decide (r ≥ 0) = (l.drop i).any p
 | 0, i, h, hi => by omega
 | j + 1, i, h, hi => by
  rw [hF]
  rcases Sf hi with rfl | ⟨x, hx⟩
  ·rw [Ca, List.drop_length]
   exact ⟨_, rfl, rfl⟩
  ·rw [B9 hx, A5 hx, hg x (Ei hx), Option.bind_some, Cd hx hl, Mm hx, List.any_cons]
   cases p x with
   | true => exact ⟨_, rfl, by simp⟩
   | false => exact Apy l p g F hl hF hg j (i + 1) (by omega) (by have := Jc hx; omega)
theorem any_all (l : List α) (p : α → Bool) : l.any (fun x => !p x) = !(l.all p) := by
 induction l with
 | nil => rfl
 | cons x r ih => rw [List.any_cons, List.all_cons, ih, Bool.not_and]
theorem Apo (l : List α) (p : α → Bool) (F : Nat → Int → Option R) (e r : Option R)
  (h1 : ∀ j i x, l[i]? = some x → F (j + 1) ((i : Nat) : Int) = if p x then F j ((i + 1 : Nat) : Int) else e) (h0 : ∀ j, F (j + 1) ((l.length : Nat) : Int) = r) :
  ∀ (j i : Nat), l.length < i + j → i ≤ l.length → F j (i : Int) = if (l.drop i).all p then r else e
 | 0, i, h, hi => by omega
 | j + 1, i, h, hi => by
  rcases Sf hi with rfl | ⟨x, hx⟩
  ·rw [h0, List.drop_length]
   rfl
  ·rw [h1 j i x hx, Mm hx, List.all_cons]
   cases p x with
   | true => exact Apo l p F e r h1 h0 j (i + 1) (by omega) (by have := Jc hx; omega)
   | false => rfl
theorem Bo3 (l : List α) (p : α → Bool) (F : Nat → Int → Option R) (e r : Option R)
  (h1 : ∀ j i x, l[i]? = some x → F (j + 1) ((i : Nat) : Int) = if p x then F j ((i + 1 : Nat) : Int) else e) (h0 : ∀ j, F (j + 1) ((l.length : Nat) : Int) = r) (j : Nat) (h : l.length < j) :
  F j 0 = if l.all p then r else e := Apo l p F e r h1 h0 j 0 (by omega) (by omega)
theorem Arj (l : List α) (P : α → Prop) (Q : Prop) (F : Nat → Int → Option Bool)
  (h1 : ∀ j i x, l[i]? = some x → ∃ b : Bool, F (j + 1) ((i : Nat) : Int) = (if b then F j ((i + 1 : Nat) : Int) else some false) ∧ (b = true → P x))
  (h0 : ∀ j, ∃ b : Bool, F (j + 1) ((l.length : Nat) : Int) = some b ∧ (b = true → Q)) :
  ∀ (j i : Nat), l.length < i + j → i ≤ l.length → ∃ b : Bool, F j (i : Int) = some b ∧ (b = true → (∀ x ∈ l.drop i, P x) ∧ Q)
 | 0, i, h, hi => by omega
 | j + 1, i, h, hi => by
  rcases Sf hi with rfl | ⟨x, hx⟩
  ·obtain ⟨b, e, hb⟩ := h0 j
   exact ⟨b, e, fun h => ⟨by simp, hb h⟩⟩
  ·obtain ⟨b, e, hb⟩ := h1 j i x hx
   rw [e]
   cases b with
   | false => exact ⟨false, rfl, fun h => by cases h⟩
   | true =>
    obtain ⟨c, e2, hc⟩ := Arj l P Q F h1 h0 j (i + 1) (by omega) (by have := Jc hx; omega)
    refine ⟨c, e2, fun h => ?_⟩
    rw [Mm hx]
    exact ⟨fun y hy => by rcases List.mem_cons.1 hy with rfl | hy; exact hb rfl; exact (hc h).1 y hy, (hc h).2⟩
theorem Lk (l : List α) (P : α → Prop) (Q : Prop) (F : Nat → Int → Option Bool)
  (h1 : ∀ j i x, l[i]? = some x → ∃ b : Bool, F (j + 1) ((i : Nat) : Int) = (if b then F j ((i + 1 : Nat) : Int) else some false) ∧ (b = true → P x))
  (h0 : ∀ j, ∃ b : Bool, F (j + 1) ((l.length : Nat) : Int) = some b ∧ (b = true → Q)) (j : Nat) (h : l.length < j) :
  ∃ b : Bool, F j 0 = some b ∧ (b = true → (∀ x ∈ l, P x) ∧ Q) := Arj l P Q F h1 h0 j 0 (by omega) (by omega)
theorem Ap0 (M : Nat) (l : List α) (f : α → List β) (F : Nat → Int → List β → Option R) (r : List β → Option R)
  (h1 : ∀ j i x b, l[i]? = some x → b.length + (f x).length ≤ M → F (j + 1) ((i : Nat) : Int) b = F j ((i + 1 : Nat) : Int) (b ++ f x)) (h0 : ∀ j b, b.length ≤ M → F (j + 1) ((l.length : Nat) : Int) b = r b) :
  ∀ (j i : Nat) (b : List β), l.length < i + j → i ≤ l.length → b.length + ((l.drop i).flatMap f).length ≤ M → F j (i : Int) b = r (b ++ (l.drop i).flatMap f)
 | 0, i, b, h, hi, hb => by omega
 | j + 1, i, b, h, hi, hb => by
  rcases Sf hi with rfl | ⟨x, hx⟩
  ·rw [h0 _ _ (by omega), List.drop_length]
   simp
  ·rw [Mm hx, List.flatMap_cons, List.length_append] at hb
   rw [h1 j i x b hx (by omega), Ap0 M l f F r h1 h0 j (i + 1) (b ++ f x) (by omega) (by have := Jc hx; omega) (by rw [List.length_append]; omega), Mm hx, List.flatMap_cons, List.append_assoc]
theorem Jb (M : Nat) (l : List α) (f : α → List β) (F : Nat → Int → List β → Option R) (r : List β → Option R)
  (h1 : ∀ j i x b, l[i]? = some x → b.length + (f x).length ≤ M → F (j + 1) ((i : Nat) : Int) b = F j ((i + 1 : Nat) : Int) (b ++ f x)) (h0 : ∀ j b, b.length ≤ M → F (j + 1) ((l.length : Nat) : Int) b = r b)
  (j : Nat) (b : List β) (h : l.length < j) (hb : b.length + (l.flatMap f).length ≤ M) : F j 0 b = r (b ++ l.flatMap f) :=
 Ap0 M l f F r h1 h0 j 0 b (by omega) (by omega) hb
theorem Ws (f : α → List β) (m : Nat) : ∀ (l : List α), (∀ x ∈ l, (f x).length ≤ m) → (l.flatMap f).length ≤ l.length * m
 | [], _ => by simp
 | x :: r, h => by
  have := h x (by simp)
  have IH := Ws f m r fun y hy => h y (by simp [hy])
  rw [List.flatMap_cons, List.length_append, List.length_cons, Nat.add_mul]
  omega
end
abbrev Tk := (Int) × ((List Int) × ((Int) × ((Int) × (Unit))))
def B7 (x : Int) : Bool := decide (97 ≤ x) && decide (x ≤ 122)
def A0 (x : Int) : Bool := decide (48 ≤ x) && decide (x ≤ 57)
def Ck (x : Int) : Bool := decide (x = 32 ∨ x = 9 ∨ x = 10 ∨ x = 13)
def D7 (x : Int) : Bool := decide (x = 123 ∨ x = 125 ∨ x = 44 ∨ x = 59 ∨ x = 58 ∨ x = 47 ∨ x = 45)
def Bh (x : Int) : Bool := B7 x || (A0 x || decide (x = 95))
def drp : Bool → List Int → List Int
 | _, [] => []
 | true, x :: r => if x = 10 then drp false r else drp true r
 | false, x :: r => if x = 35 then drp true r else if Ck x then drp false r else x :: r
def valD (l : List Int) : Int := l.foldl (fun v c => 10 * v + (c - 48)) 0
def tok1 : List Int → Int × Int × List Int × Int × List Int
 | [] => (40, 0, [], 0, [])
 | x :: r =>
  if B7 x then (if 24 < ((x :: r).takeWhile Bh).length then (4, 0, [], 0, []) else (0, 1, (x :: r).takeWhile Bh, 0, (x :: r).dropWhile Bh))
  else if A0 x then (if 18 < ((x :: r).takeWhile A0).length then (4, 0, [], 0, []) else (0, 2, (x :: r).takeWhile A0, valD ((x :: r).takeWhile A0), (x :: r).dropWhile A0))
  else if D7 x then (0, 3, [x], 0, r)
  else (40, 0, [], 0, [])
def lx (n : Nat) : Nat → List Int → Int × Int × List Tk
 | 0, _ => (0, 0, [])
 | f + 1, s => match drp false s with
  | [] => (0, 0, [(0, [], 0, (n : Int), ())])
  | x :: r => if (tok1 (x :: r)).1 = 0 then
    (if (lx n f (tok1 (x :: r)).2.2.2.2).1 = 0 then
     (0, 0, ((tok1 (x :: r)).2.1, (tok1 (x :: r)).2.2.1, (tok1 (x :: r)).2.2.2.1, ((n - (x :: r).length : Nat) : Int), ()) :: (lx n f (tok1 (x :: r)).2.2.2.2).2.2)
    else ((lx n f (tok1 (x :: r)).2.2.2.2).1, (lx n f (tok1 (x :: r)).2.2.2.2).2.1, []))
   else ((tok1 (x :: r)).1, ((n - (x :: r).length : Nat) : Int), [])
def toks (b : List Int) : Int × Int × List Tk := if 65536 < b.length then (4, 65536, []) else lx b.length (b.length + 1) b
theorem Ke : ∀ (m : Bool) (s : List Int), drp m s <:+ s
 | _, [] => by cases ‹Bool› <;> simp [drp]
 | true, x :: r => by
  rw [drp]; split
  ·exact (Ke false r).trans (List.suffix_cons x r)
  ·exact (Ke true r).trans (List.suffix_cons x r)
 | false, x :: r => by
  rw [drp]; split
  ·exact (Ke true r).trans (List.suffix_cons x r)
  ·split
   ·exact (Ke false r).trans (List.suffix_cons x r)
   ·exact List.suffix_refl _
theorem M1 (m : Bool) (s : List Int) : (drp m s).length ≤ s.length := (Ke m s).length_le
theorem M0 : ∀ (m : Bool) (s : List Int) {x : Int} {r : List Int}, drp m s = x :: r → x ≠ 35 ∧ Ck x = false
 | _, [], x, r, h => by cases ‹Bool› <;> simp [drp] at h
 | true, y :: q, x, r, h => by
  rw [drp] at h; split at h
  ·exact M0 false q h
  ·exact M0 true q h
 | false, y :: q, x, r, h => by
  rw [drp] at h; split at h
  ·exact M0 true q h
  ·split at h
   ·exact M0 false q h
   ·rename_i h1 h2
    cases h
    exact ⟨h1, by simpa using h2⟩
theorem Aq8 (s : List Int) (m : Bool) : drp false (drp m s) = drp m s := by
 cases h : drp m s with
 | nil => rfl
 | cons x r =>
  obtain ⟨h1, h2⟩ := M0 m s h
  rw [drp, if_neg h1, h2]
  rfl
theorem Cg4 {c : Int} (h : Bh c = false) : A0 c = false := by
 unfold Bh at h
 simp only [Bool.or_eq_false_iff] at h
 exact h.2.1
theorem Mi {x : Int} {r : List Int} (h : (tok1 (x :: r)).1 = 0) :
  (tok1 (x :: r)).2.2.1 ++ (tok1 (x :: r)).2.2.2.2 = x :: r ∧ (tok1 (x :: r)).2.2.1 ≠ [] ∧ (tok1 (x :: r)).2.1 ≠ 0 ∧ (tok1 (x :: r)).2.2.1.length ≤ 24 := by
 simp only [tok1] at h ⊢
 split at h
 ·rename_i h1
  simp only [h1, if_true]
  split at h
  ·simp at h
  ·rename_i h2
   rw [if_neg h2]
   refine ⟨List.takeWhile_append_dropWhile, ?_, by simp, by simp only []; omega⟩
   have : Bh x = true := by simp [Bh, h1]
   simp [List.takeWhile_cons, this]
 ·rename_i h1
  simp only [h1, Bool.false_eq_true, if_false]
  split at h
  ·rename_i h2
   simp only [h2, if_true]
   split at h
   ·simp at h
   ·rename_i h3
    rw [if_neg h3]
    refine ⟨List.takeWhile_append_dropWhile, ?_, by simp, by simp only []; omega⟩
    simp [List.takeWhile_cons, h2]
  ·rename_i h2
   simp only [h2, Bool.false_eq_true, if_false]
   split at h
   ·rename_i h3; simp [h3]
   ·simp at h
theorem Ov {x : Int} {r : List Int} (h : (tok1 (x :: r)).1 = 0) : (tok1 (x :: r)).2.2.2.2.length ≤ r.length := by
 obtain ⟨h1, h2, _⟩ := Mi h
 have e := congrArg List.length h1
 rw [List.length_append, List.length_cons] at e
 have : (tok1 (x :: r)).2.2.1.length ≠ 0 := fun h => h2 (List.length_eq_zero_iff.1 h)
 omega
theorem Anb (n : Nat) : ∀ (f f' : Nat) (s : List Int), s.length < f → s.length < f' → lx n f s = lx n f' s
 | 0, _, _, h, _ => by omega
 | _ + 1, 0, _, _, h => by omega
 | f + 1, f' + 1, s, h, h' => by
  have hl := M1 false s
  rw [lx, lx]
  cases hd : drp false s with
  | nil => rfl
  | cons x r =>
   rw [hd, List.length_cons] at hl
   simp only []
   by_cases h0 : (tok1 (x :: r)).1 = 0
   ·have := Ov h0
    rw [if_pos h0, if_pos h0, Anb n f f' _ (by omega) (by omega)]
   ·rw [if_neg h0, if_neg h0]
theorem Bga (n : Nat) : ∀ (f : Nat) (s : List Int), (lx n f s).1 = 0 → (lx n f s).2.1 = 0
 | 0, s, _ => rfl
 | f + 1, s, h => by
  rw [lx] at h ⊢
  cases hd : drp false s with
  | nil => rfl
  | cons x r =>
   rw [hd] at h
   simp only [] at h ⊢
   split at h
   ·rename_i h0
    rw [if_pos h0]
    split at h
    ·rename_i h1; rw [if_pos h1]
    ·rename_i h1; exact absurd h h1
   ·rename_i h0; exact absurd h h0
end Go.Proofs.YtipcabmhdokfjaaGreatDoorV
