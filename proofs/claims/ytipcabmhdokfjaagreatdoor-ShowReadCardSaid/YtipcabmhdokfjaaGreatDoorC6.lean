import Derived.Test.YtipcabmhdokfjaaGreatDoorC5
/-! Joined, names shortened: G2, G3. -/
set_option linter.unusedVariables false
set_option linter.unusedSimpArgs false
set_option maxHeartbeats 4000000
set_option maxRecDepth 100000
namespace Go.Proofs.YtipcabmhdokfjaaGreatDoorV
open Go Go.RowKit
noncomputable section
abbrev H52 : Type := (List (YT7)) × (Int) × (Int) × (Bool) × (Int) × (Int) × (Int) × (Int) × (Int) × (Int) × (List (YT6)) × (List (YT7)) × (Int) × (Int) × (List (Int))
abbrev H53 : Type := (Int) × (Int) × (Int) × (Int) × (Int) × (List (YT6)) × (List (YT7)) × (Int) × (Int) × (Bool) × (Int) × (List (Int))
def Alt : Sk := ⟨[.lf (.ptr 0 0), .agg [.pv (.int .i64), .pv (.int .i64), .pv (.int .i64), .pv (.int .i64), .pv (.int .i64), .pv (.slice yt6), .pv (.slice yt7), .pv (.int .i64), .pv (.int .i64)]], [[.bld 0 56, .own 0, .pv (.int .i64)]], [some (5, (.int .u8))]⟩
def Alu : Sk := ⟨[], [[.bld 0 56, .own 1, .pv (.int .i64)]], [none, some (5, (.int .u8))]⟩
def Bcv : Sk := ⟨sparse 38 [(0, .lf (.ptr 0 0)), (3, .lf (.ptr 1 0)), (7, .lf (.pv (.slice yt7))), (8, .lf (.pv (.int .i64))), (9, .lf (.pv (.int .i64)))], [[.bld 0 56, .own 1, .pv (.int .i64)], q1], [none, some (5, (.int .u8))]⟩
abbrev Alr := H52
def R8 : Alr → St := stOf Bcv 124
def B9n (k : Nat) : EnvL := [(18, [sgshownum k]), (17, [Ju k])]
def Hy (k : Nat) : FnX H35 := mkX ({ mkC (B9n k) 124 1 1 with hint := fun i => look none [(2, some Bcv)] i, bl := [54, 56], ef := [(27, (([0], [0, 1]), ([], [75]))), (37, (([0], [0, 1]), ([], [85])))], ld := [(14, 9999), (15, 53), (16, 9999), (17, 53), (18, 9999), (19, 53), (20, 9999), (21, 53), (23, 9999), (24, 53), (30, 9999), (31, 1), (33, 9999), (34, 1)] }) k Tryz.f24 Alu
def Qj (k : Nat) : H53 → Option H35 := hid (Ac (Hy k).C k Tryz.f24 Alt Alu)
def Bns (k : Nat) : Sig := Ab Alt Alu (Qj k)
noncomputable def Als (k : Nat) (J : JF H35) (L : LF H35) : H53 → Option H35
 | (a0, a1, a2, a3, a4, a5, a6, a7, a8, a9, a10, a11) => L 2 [] k (R8 (a6, ((List.length a6 : Nat) : Int), (0 : Int), a9, a10, a0, a1, a2, a3, a4, a5, a6, a7, a8, a11))
theorem B9o (k : Nat) (x : H53) : Qj k x = Als k (Hy k).J (Hy k).L x := by
 refine (Af _ _).trans ?_; apply cutX (Hy k) [] [] (st0 (Hy k).C Tryz.f24 Alt x) [] [(2, [], k)] (Als k · · x) <;> intros <;> kernel_rfl
noncomputable def Xr (k j2 : Nat) (J : JF H35) (L : LF H35) : Alr → Option H35
 | (a0, a1, a2, a3, a4, a5, a6, a7, a8, a9, a10, a11, a12, a13, a14) => bif (decide (a2 < a1)) then (idx zt7 a0 a2 fun o1 => ((cshownum k) (o1.2.2.2.1)).bind fun o2 => ((cshownum k) (o1.2.2.2.2.1)).bind fun o3 => ((B0 k) (([59] : List Int), ([([115, 116, 111, 112] : List Int), o1.1, ([111, 117, 116] : List Int), o1.2.1, ([105, 110] : List Int), o1.2.2.1, ([97, 104, 101, 97, 100] : List Int), o2, ([98, 97, 99, 107] : List Int), o3] : List (List Int)), a3, a4, a14)).bind fun o4 => L 2 [] j2 (R8 (a0, a1, (IntKind.wrap .i64 (a2 + (1 : Int))), o4.1, o4.2.1, a5, a6, a7, a8, a9, a10, a11, a12, a13, o4.2.2))) else (((cshownum k) (a12)).bind fun o5 => ((cshownum k) (a13)).bind fun o6 => ((B0 k) (([59] : List Int), ([([119, 101, 105, 103, 104, 116, 115] : List Int), o5, o6] : List (List Int)), a3, a4, a14)).bind fun o7 => some (o7.1, o7.2.1, o7.2.2))
theorem Bcu (k j2 : Nat) (x : Alr) : (Hy k).L 2 [] (j2 + 1) (R8 x) = Xr k j2 (Hy k).J (Hy k).L x := by
 apply cutX (Hy k) [.r, .l, .r, .b, .b] [j2] (R8 x) [] [(2, [], j2)] (Xr k j2 · · x) <;> intros <;> kernel_rfl
theorem Bvw (k : Nat) : Aa Tryz.prog 24 (Bns k) := Ae (Hy k).C k rfl ⟨⟨Qh k, trivial⟩, ⟨Kc k, trivial⟩, trivial⟩ Ad Tryz.func24 (by kernel_rfl)
def Baf : Sk := ⟨[.lf (.ptr 0 0), .lf (.ptr 1 0)], [[.ptr 2 0], q1, [.bld 2 56, .own 0, .pv (.int .i64)]], [some (5, (.int .u8))]⟩
def Bag : Sk := ⟨[], [[.ptr 2 0], q1, [.bld 2 56, .own 1, .pv (.int .i64)]], [none, some (5, (.int .u8))]⟩
def B8c (k : Nat) : EnvL := [(24, [Bns k])]
def Bad (k : Nat) : Cfg := mkC (B8c k) 54 3 1
def Ab8 (k : Nat) : H53 → Option H53 := hid (Ac (Bad k) k Tryz.f23 Baf Bag)
def Bna (k : Nat) : Sig := Ab Baf Bag (Ab8 k)
noncomputable def Bae (k : Nat) : H53 → Option H53
 | (a0, a1, a2, a3, a4, a5, a6, a7, a8, a9, a10, a11) => ((Qj k) (a0, a1, a2, a3, a4, a5, a6, a7, a8, a9, a10, a11)).bind fun o1 => some (a0, a1, a2, a3, a4, a5, a6, a7, a8, o1.1, o1.2.1, o1.2.2)
theorem B8d (k : Nat) (x : H53) : Ab8 k x = Bae k x := (Af _ _).trans (by kernel_rfl)
theorem Bvd (k : Nat) : Aa Tryz.prog 23 (Bna k) := Ae (Bad k) k rfl ⟨⟨Bvw k, trivial⟩, trivial⟩ Ad Tryz.func23 (by kernel_rfl)
abbrev H54 : Type := (List (List Int)) × (Bool) × (Int) × (Int) × (Int) × (Int) × (Int) × (Int) × (List (YT6)) × (List (YT7)) × (Int) × (Int) × (List (Int))
abbrev H55 : Type := (Bool) × (Int) × (Int) × (Int) × (Int) × (Int) × (Int) × (List (YT6)) × (List (YT7)) × (Int) × (Int) × (List (Int))
def Bc2 : Sk := ⟨[.lf (.ptr 0 0), .lf (.fn 23 [] [(1, 0), (2, 0)]), .lf (.pv (.slice .str))], [[.bld 0 56, .own 0, .pv (.int .i64)], [.ptr 0 0], q1], [some (5, (.int .u8))]⟩
def Bc3 : Sk := ⟨[], [[.bld 0 56, .own 1, .pv (.int .i64)], [.ptr 0 0], q1], [none, some (5, (.int .u8))]⟩
def B9r (k : Nat) : EnvL := [(17, [Ju k]), (23, [Bna k])]
def Bc0 (k : Nat) : Cfg := mkC (B9r k) 77 3 1
def Le (k : Nat) : H54 → Option H55 := hid (Ac (Bc0 k) k Tryz.f20 Bc2 Bc3)
def Bnv (k : Nat) : Sig := Ab Bc2 Bc3 (Le k)
noncomputable def Bc1 (k : Nat) : H54 → Option H55
 | (a0, a1, a2, a3, a4, a5, a6, a7, a8, a9, a10, a11, a12) => ((B0 k) (([32, 123] : List Int), a0, a1, a2, a12)).bind fun o1 => ((Ab8 k) (a3, a4, a5, a6, a7, a8, a9, a10, a11, o1.1, (IntKind.wrap .i64 (o1.2.1 + (1 : Int))), o1.2.2)).bind fun o2 => ((B0 k) (([125] : List Int), [], o2.2.2.2.2.2.2.2.2.2.1, (IntKind.wrap .i64 (o2.2.2.2.2.2.2.2.2.2.2.1 - (1 : Int))), o2.2.2.2.2.2.2.2.2.2.2.2)).bind fun o3 => some (o3.1, o3.2.1, o2.1, o2.2.1, o2.2.2.1, o2.2.2.2.1, o2.2.2.2.2.1, o2.2.2.2.2.2.1, o2.2.2.2.2.2.2.1, o2.2.2.2.2.2.2.2.1, o2.2.2.2.2.2.2.2.2.1, o3.2.2)
theorem B9s (k : Nat) (x : H54) : Le k x = Bc1 k x := (Af _ _).trans (by kernel_rfl)
theorem Bvy (k : Nat) : Aa Tryz.prog 20 (Bnv k) := Ae (Bc0 k) k rfl ⟨⟨Kc k, trivial⟩, ⟨Bvd k, trivial⟩, trivial⟩ Ad Tryz.func20 (by kernel_rfl)
def Cae : Sk := ⟨[.lf (.ptr 0 0)], [[.bld 0 56, .own 0, .pv (.int .i64)]], [some (5, (.int .u8))]⟩
def Caf : Sk := ⟨[.lf (.pv .str)], [[.bld 0 56, .dead, .pv (.int .i64)]], [none]⟩
def Acc (k : Nat) : ((Bool) × (Int) × (List (Int))) → Option ((List Int) × (Bool) × (Int)) := strC
def Bn3 (k : Nat) : Sig := Ab Cae Caf (Acc k)
theorem Bv7 (k : Nat) : Aa Tryz.prog 25 (Bn3 k) := strC_ok
abbrev H56 : Type := (List (YT6)) × (Int) × (Int) × (Int) × (Int) × (Int) × (Int) × (Int) × (List (YT6)) × (List (YT7)) × (Int) × (Int) × (Bool) × (Int) × (List (Int))
def Alp : Sk := ⟨[.agg [.pv (.int .i64), .pv (.int .i64), .pv (.int .i64), .pv (.int .i64), .pv (.int .i64), .pv (.slice yt6), .pv (.slice yt7), .pv (.int .i64), .pv (.int .i64)]], [], []⟩
def Alq : Sk := ⟨[.lf (.pv (.slice (.int .u8))), .lf (.pv (.int .i64))], [], []⟩
def Bak : Sk := ⟨sparse 67 [(1, .lf (.ptr 0 0)), (4, .lf (.ptr 1 0)), (31, .lf (.pv (.slice yt6))), (32, .lf (.pv (.int .i64))), (33, .lf (.pv (.int .i64)))], [q1, [.ptr 2 0], [.bld 2 56, .own 0, .pv (.int .i64)]], [some (5, (.int .u8))]⟩
abbrev Aln := H56
def Nt : Aln → St := stOf Bak 182
def Baj : Sk := ⟨sparse 67 [(4, .lf (.ptr 0 0))], [[.ptr 1 0], [.bld 1 56, .own 0, .pv (.int .i64)]], [some (5, (.int .u8))]⟩
abbrev Alm := H35
def Ir : Alm → St := stOf Baj 182
def B79 (k : Nat) : EnvL := [(10, [Y1 k]), (18, [sgshownum k]), (17, [Bny k, Ju k]), (19, [sgshowfrac k]), (20, [Bnt k, Bnv k]), (25, [Bn3 k])]
def Db (k : Nat) : FnX ((List (Int)) × (Int)) := mkX ({ mkC (B79 k) 182 0 0 with hint := fun i => look none [(7, some Bak), (13, some Baj)] i, bl := [54, 56], ef := [(23, (([59], []), ([], [71]))), (29, (([59], [71]), ([], [77])))], ld := [(12, 52), (13, 9999), (14, 49), (16, 9999), (17, 49), (19, 9999), (20, 49), (24, 52), (25, 9999), (26, 49)] }) k Tryz.f8 Alq
def My (k : Nat) : H6 → Option ((List (Int)) × (Int)) := hid (Ac (Db k).C k Tryz.f8 Alp Alq)
def Aoi (k : Nat) : Sig := Ab Alp Alq (My k)
noncomputable def Xp (k : Nat) (J : JF ((List (Int)) × (Int))) (L : LF ((List (Int)) × (Int))) : H6 → Option ((List (Int)) × (Int))
 | (a0, a1, a2, a3, a4, a5, a6, a7, a8) => ((Lb k) (a0, a1, a2, a3, a4, a5, a6, a7, a8)).bind fun o1 => bif (!o1) then (some ([], (1 : Int))) else (((cshownum k) (a0)).bind fun o2 => ((cshownum k) (a1)).bind fun o3 => ((cshownum k) (a2)).bind fun o4 => ((Ql k) (([59] : List Int), ([([99, 121, 99, 108, 101] : List Int), o2, ([116, 111] : List Int), o3, ([98, 121] : List Int), o4] : List (List Int)), true, (0 : Int))).bind fun o5 => ((cshowfrac k) (a3, a4)).bind fun o6 => ((B0 k) (([59] : List Int), ([([112, 101, 97, 107] : List Int), o6] : List (List Int)), o5.1, o5.2.1, o5.2.2)).bind fun o7 => L 7 [] k (Nt (a5, ((List.length a5 : Nat) : Int), (0 : Int), a0, a1, a2, a3, a4, a5, a6, a7, a8, o7.1, o7.2.1, o7.2.2)))
theorem Bah (k : Nat) (x : H6) : My k x = Xp k (Db k).J (Db k).L x := by
 refine (Af _ _).trans ?_; apply cutX (Db k) [] [] (st0 (Db k).C Tryz.f8 Alp x) [(13, [])] [(7, [], k)] (Xp k · · x) <;> intros <;> kernel_rfl
noncomputable def Xq (k j7 : Nat) (J : JF ((List (Int)) × (Int))) (L : LF ((List (Int)) × (Int))) : Aln → Option ((List (Int)) × (Int))
 | (a0, a1, a2, a3, a4, a5, a6, a7, a8, a9, a10, a11, a12, a13, a14) => bif (decide (a2 < a1)) then (idx zt6 a0 a2 fun o1 => ((Wc k) (([([110, 111, 100, 101] : List Int), o1.1] : List (List Int)), a12, a13, o1.1, o1.2.1, o1.2.2.1, o1.2.2.2.1, o1.2.2.2.2.1, o1.2.2.2.2.2.1, o1.2.2.2.2.2.2.1, a14)).bind fun o2 => L 7 [] j7 (Nt (a0, a1, (IntKind.wrap .i64 (a2 + (1 : Int))), a3, a4, a5, a6, a7, a8, a9, a10, a11, o2.1, o2.2.1, o2.2.2.2.2.2.2.2.2.2))) else (bif (decide (((List.length a9 : Nat) : Int) > (0 : Int))) then (((Le k) (([([97, 114, 116, 101, 114, 121] : List Int)] : List (List Int)), a12, a13, a3, a4, a5, a6, a7, a8, a9, a10, a11, a14)).bind fun o3 => J 13 [] (Ir (o3.1, o3.2.1, o3.2.2.2.2.2.2.2.2.2.2.2))) else (bif (a10 != (0 : Int)) then (((Le k) (([([97, 114, 116, 101, 114, 121] : List Int)] : List (List Int)), a12, a13, a3, a4, a5, a6, a7, a8, a9, a10, a11, a14)).bind fun o4 => J 13 [] (Ir (o4.1, o4.2.1, o4.2.2.2.2.2.2.2.2.2.2.2))) else (bif (a11 != (0 : Int)) then (((Le k) (([([97, 114, 116, 101, 114, 121] : List Int)] : List (List Int)), a12, a13, a3, a4, a5, a6, a7, a8, a9, a10, a11, a14)).bind fun o5 => J 13 [] (Ir (o5.1, o5.2.1, o5.2.2.2.2.2.2.2.2.2.2.2))) else (J 13 [] (Ir (a12, a13, a14))))))
theorem Bai (k j7 : Nat) (x : Aln) : (Db k).L 7 [] (j7 + 1) (Nt x) = Xq k j7 (Db k).J (Db k).L x := by
 apply cutX (Db k) [.r, .r, .r, .r, .r, .l, .r, .b, .b] [j7] (Nt x) [(13, [])] [(7, [], j7)] (Xq k j7 · · x) <;> intros <;> kernel_rfl
noncomputable def Alo (k : Nat) (J : JF ((List (Int)) × (Int))) (L : LF ((List (Int)) × (Int))) : Alm → Option ((List (Int)) × (Int))
 | (a0, a1, a2) => ((Acc k) (a0, a1, a2)).bind fun o1 => some (o1.1, (0 : Int))
theorem B8e (k : Nat) (x : Alm) : (Db k).J 13 [] (Ir x) = Alo k (Db k).J (Db k).L x := by
 apply cutX (Db k) [.r, .r, .r, .r, .r, .r, .r] [] (Ir x) [(13, [])] [(7, [], k)] (Alo k · · x) <;> intros <;> kernel_rfl
theorem Aqr (k : Nat) : Aa Tryz.prog 8 (Aoi k) := Ae (Db k).C k rfl ⟨⟨Ab6 k, trivial⟩, ⟨Qh k, trivial⟩, ⟨Bv2 k, Kc k, trivial⟩, ⟨Aqs k, trivial⟩, ⟨Bvz k, Bvy k, trivial⟩, ⟨Bv7 k, trivial⟩, trivial⟩ Ad Tryz.func8 (by kernel_rfl)
def Be5 : Sk := ⟨[], [], []⟩
def Be6 : Sk := ⟨[.lf (.pv .str)], [], []⟩
def Be4 (k : Nat) : Cfg := mkC [] 49 0 0
def Qo (k : Nat) : Unit → Option (List Int) := hid (Ac (Be4 k) k Tryz.f39 Be5 Be6)
def Bn8 (k : Nat) : Sig := Ab Be5 Be6 (Qo k)
noncomputable def Ca2 (k : Nat) : Unit → Option (List Int)
 | _ => some ([99, 121, 99, 108, 101, 32, 54, 48, 48, 32, 116, 111, 32, 57, 48, 48, 32, 98, 121, 32, 49, 48, 59, 10, 112, 101, 97, 107, 32, 49, 47, 49, 59, 10, 110, 111, 100, 101, 32, 97, 32, 123, 10, 32, 32, 104, 101, 97, 100, 32, 110, 32, 118, 111, 108, 117, 109, 101, 32, 52, 48, 48, 32, 102, 108, 111, 119, 32, 49, 56, 48, 48, 32, 117, 115, 101, 32, 49, 47, 49, 32, 115, 112, 101, 101, 100, 32, 49, 53, 48, 48, 32, 103, 114, 97, 100, 101, 32, 45, 50, 48, 32, 119, 105, 100, 116, 104, 32, 49, 56, 48, 48, 32, 108, 101, 110, 103, 116, 104, 32, 54, 48, 48, 32, 103, 114, 101, 101, 110, 32, 55, 48, 59, 10, 32, 32, 119, 97, 108, 107, 32, 119, 32, 119, 105, 116, 104, 32, 112, 32, 108, 111, 110, 103, 32, 49, 53, 48, 48, 32, 112, 97, 99, 101, 32, 49, 50, 48, 32, 108, 101, 97, 115, 116, 32, 55, 48, 59, 10, 32, 32, 112, 104, 97, 115, 101, 32, 112, 58, 32, 110, 44, 32, 101, 59, 10, 32, 32, 103, 114, 111, 117, 112, 32, 123, 10, 32, 32, 32, 32, 114, 105, 110, 103, 32, 102, 114, 101, 101, 32, 112, 44, 32, 113, 59, 10, 32, 32, 125, 10, 32, 32, 102, 111, 101, 32, 110, 32, 101, 59, 10, 125, 10, 97, 114, 116, 101, 114, 121, 32, 123, 10, 32, 32, 115, 116, 111, 112, 32, 97, 32, 111, 117, 116, 32, 110, 32, 105, 110, 32, 101, 32, 97, 104, 101, 97, 100, 32, 48, 32, 98, 97, 99, 107, 32, 48, 59, 10, 32, 32, 119, 101, 105, 103, 104, 116, 115, 32, 50, 32, 49, 59, 10, 125, 10] : List Int)
theorem Ca1 (k : Nat) (x : Unit) : Qo k x = Ca2 k x := (Af _ _).trans (by kernel_rfl)
theorem Bwk (k : Nat) : Aa Tryz.prog 39 (Bn8 k) := Ae (Be4 k) (l := []) k rfl trivial Ad Tryz.func39 (by kernel_rfl)
def Ait : Sk := ⟨[.lf (.pv (.slice (.int .u8))), .lf (.pv (.int .i64))], [], []⟩
def Aiu : Sk := ⟨[.lf (.pv (.int .i64))], [], []⟩
def A7k : Sk := ⟨sparse 57 [(0, .lf (.pv (.slice (.int .u8)))), (1, .lf (.pv (.int .i64)))], [], []⟩
abbrev Aip := ((List (Int)) × (Int))
def Hp : Aip → St := stOf A7k 105
def A7l : Sk := ⟨sparse 57 [(0, .lf (.pv (.slice (.int .u8)))), (1, .lf (.pv (.int .i64)))], [], []⟩
abbrev Aiq := ((List (Int)) × (Int))
def Rv : Aiq → St := stOf A7l 105
def D3 (k : Nat) : FnX Int := mkX ({ mkC [] 105 0 0 with hint := fun i => look none [(1, some A7k), (3, some A7l)] i }) k Tryz.f131 Aiu
def Pv (k : Nat) : ((List (Int)) × (Int)) → Option Int := hid (Ac (D3 k).C k Tryz.f131 Ait Aiu)
def Bmp (k : Nat) : Sig := Ab Ait Aiu (Pv k)
noncomputable def Air (k : Nat) (J : JF Int) (L : LF Int) : ((List (Int)) × (Int)) → Option Int
 | (a0, a1) => L 1 [] k (Hp (a0, a1))
theorem B6e (k : Nat) (x : ((List (Int)) × (Int))) : Pv k x = Air k (D3 k).J (D3 k).L x := by
 refine (Af _ _).trans ?_; apply cutX (D3 k) [] [] (st0 (D3 k).C Tryz.f131 Ait x) [] [(1, [], k)] (Air k · · x) <;> intros <;> kernel_rfl
noncomputable def Ais (k j1 : Nat) (J : JF Int) (L : LF Int) : Aip → Option Int
 | (a0, a1) => bif (decide (a1 < ((List.length a0 : Nat) : Int))) then (bif (inB a1 (List.length a0)) then bif ((rdI a0 (Int.toNat a1)) == (35 : Int)) then (L 3 [j1] k (Rv (a0, a1))) else (bif (inB a1 (List.length a0)) then bif ((rdI a0 (Int.toNat a1)) == (32 : Int)) then (L 1 [] j1 (Hp (a0, (IntKind.wrap .i64 (a1 + (1 : Int)))))) else (bif (inB a1 (List.length a0)) then bif ((rdI a0 (Int.toNat a1)) == (9 : Int)) then (L 1 [] j1 (Hp (a0, (IntKind.wrap .i64 (a1 + (1 : Int)))))) else (bif (inB a1 (List.length a0)) then bif ((rdI a0 (Int.toNat a1)) == (10 : Int)) then (L 1 [] j1 (Hp (a0, (IntKind.wrap .i64 (a1 + (1 : Int)))))) else (bif (inB a1 (List.length a0)) then bif ((rdI a0 (Int.toNat a1)) == (13 : Int)) then (L 1 [] j1 (Hp (a0, (IntKind.wrap .i64 (a1 + (1 : Int)))))) else (some a1) else none) else none) else none) else none) else none) else (some a1)
theorem B6f (k j1 : Nat) (x : Aip) : (D3 k).L 1 [] (j1 + 1) (Hp x) = Ais k j1 (D3 k).J (D3 k).L x := by
 apply cutX (D3 k) [.r, .l, .b, .b] [j1] (Hp x) [] [(1, [], j1), (3, [j1], k)] (Ais k j1 · · x) <;> intros <;> kernel_rfl
noncomputable def W2 (k j1 j3 : Nat) (J : JF Int) (L : LF Int) : Aiq → Option Int
 | (a0, a1) => bif (decide (a1 < ((List.length a0 : Nat) : Int))) then (bif (inB a1 (List.length a0)) then bif ((rdI a0 (Int.toNat a1)) != (10 : Int)) then (L 3 [j1] j3 (Rv (a0, (IntKind.wrap .i64 (a1 + (1 : Int)))))) else (L 1 [] j1 (Hp (a0, a1))) else none) else (L 1 [] j1 (Hp (a0, a1)))
theorem A7j (k j1 j3 : Nat) (x : Aiq) : (D3 k).L 3 [j1] (j3 + 1) (Rv x) = W2 k j1 j3 (D3 k).J (D3 k).L x := by
 apply cutX (D3 k) [.r, .l, .b, .b, .r, .b, .r, .t, .b, .b] [j1, j3] (Rv x) [] [(1, [], j1), (3, [j1], j3)] (W2 k j1 j3 · · x) <;> intros <;> kernel_rfl
theorem Bus (k : Nat) : Aa Tryz.prog 131 (Bmp k) := Ae (D3 k).C (l := []) k rfl trivial Ad Tryz.func131 (by kernel_rfl)
def A7o : Sk := ⟨[.lf (.pv (.int .u8))], [], []⟩
def A7p : Sk := ⟨[.lf (.pv .bool)], [], []⟩
def A7m (k : Nat) : Cfg := mkC [] 57 0 0
def Pw (k : Nat) : Int → Option Bool := hid (Ac (A7m k) k Tryz.f183 A7o A7p)
def Bmq (k : Nat) : Sig := Ab A7o A7p (Pw k)
noncomputable def A7n (k : Nat) : Int → Option Bool
 | a0 => bif (decide (a0 ≥ (97 : Int))) then (some (decide (a0 ≤ (122 : Int)))) else (some false)
theorem B6g (k : Nat) (x : Int) : Pw k x = A7n k x := (Af _ _).trans (by kernel_rfl)
theorem But (k : Nat) : Aa Tryz.prog 183 (Bmq k) := Ae (A7m k) (l := []) k rfl trivial Ad Tryz.func183 (by kernel_rfl)
def A7b : Sk := ⟨[.lf (.pv (.int .u8))], [], []⟩
def A7c : Sk := ⟨[.lf (.pv .bool)], [], []⟩
def A69 (k : Nat) : Cfg := mkC [] 57 0 0
def Mw (k : Nat) : Int → Option Bool := hid (Ac (A69 k) k Tryz.f184 A7b A7c)
def Bmm (k : Nat) : Sig := Ab A7b A7c (Mw k)
noncomputable def A7a (k : Nat) : Int → Option Bool
 | a0 => bif (decide (a0 ≥ (48 : Int))) then (some (decide (a0 ≤ (57 : Int)))) else (some false)
theorem B58 (k : Nat) (x : Int) : Mw k x = A7a k x := (Af _ _).trans (by kernel_rfl)
theorem Bup (k : Nat) : Aa Tryz.prog 184 (Bmm k) := Ae (A69 k) (l := []) k rfl trivial Ad Tryz.func184 (by kernel_rfl)
def A7h : Sk := ⟨[.lf (.pv (.int .u8))], [], []⟩
def A7i : Sk := ⟨[.lf (.pv .bool)], [], []⟩
def A7f (k : Nat) : Cfg := mkC [] 77 0 0
def Vp (k : Nat) : Int → Option Bool := hid (Ac (A7f k) k Tryz.f185 A7h A7i)
def Bmo (k : Nat) : Sig := Ab A7h A7i (Vp k)
noncomputable def A7g (k : Nat) : Int → Option Bool
 | a0 => bif (a0 == (123 : Int)) then (some true) else (bif (a0 == (125 : Int)) then (some true) else (bif (a0 == (44 : Int)) then (some true) else (bif (a0 == (59 : Int)) then (some true) else (bif (a0 == (58 : Int)) then (some true) else (bif (a0 == (47 : Int)) then (some true) else (some (a0 == (45 : Int))))))))
theorem B6d (k : Nat) (x : Int) : Vp k x = A7g k x := (Af _ _).trans (by kernel_rfl)
theorem Bur (k : Nat) : Aa Tryz.prog 185 (Bmo k) := Ae (A7f k) (l := []) k rfl trivial Ad Tryz.func185 (by kernel_rfl)
def q30 : List SL := [.pv (.int .i64), .pv .str, .pv (.int .i64), .pv (.int .i64)]
abbrev H57 : Type := (List (Int)) × (Int) × (Int) × (Int) × (List Int) × (Int) × (Int)
abbrev H58 : Type := (List (Int)) × (Int) × (Int) × (Int) × (Int) × (List Int) × (Int) × (Int)
abbrev H59 : Type := (Int) × (List Int) × (Int) × (Int) × (Int)
def Ain : Sk := ⟨[.lf (.pv (.slice (.int .u8))), .lf (.pv (.int .i64))], [], []⟩
def Aio : Sk := ⟨[.agg [.pv (.int .i64), .pv .str, .pv (.int .i64), .pv (.int .i64)], .lf (.pv (.int .i64))], [], []⟩
def A7e : Sk := ⟨sparse 114 [(0, .lf (.pv (.slice (.int .u8)))), (1, .lf (.pv (.int .i64))), (4, .lf (.ptr 0 0)), (6, .lf (.pv (.int .i64)))], [q30], []⟩
abbrev Aij := H57
def Lq : Aij → St := stOf A7e 162
def A7d : Sk := ⟨sparse 114 [(0, .lf (.pv (.slice (.int .u8)))), (1, .lf (.pv (.int .i64))), (4, .lf (.ptr 0 0)), (6, .lf (.pv (.int .i64))), (7, .lf (.pv (.int .i64)))], [q30], []⟩
abbrev Aii := H58
def Nd : Aii → St := stOf A7d 162
def B59 (k : Nat) : EnvL := [(183, [Bmq k]), (184, [Bmm k]), (185, [Bmo k])]
def Eb (k : Nat) : FnX H59 := mkX ({ mkC (B59 k) 162 0 0 with hint := fun i => look none [(3, some A7e), (10, some A7d)] i, bl := [54, 56] }) k Tryz.f132 Aio
def Vo (k : Nat) : ((List (Int)) × (Int)) → Option H59 := hid (Ac (Eb k).C k Tryz.f132 Ain Aio)
def Bmn (k : Nat) : Sig := Ab Ain Aio (Vo k)
noncomputable def Aik (k : Nat) (J : JF H59) (L : LF H59) : ((List (Int)) × (Int)) → Option H59
 | (a0, a1) => bif (inB a1 (List.length a0)) then ((Pw k) ((rdI a0 (Int.toNat a1)))).bind fun o1 => bif o1 then (L 3 [] k (Lq (a0, a1, a1, (0 : Int), ([] : List Int), (0 : Int), (0 : Int)))) else (bif (inB a1 (List.length a0)) then ((Mw k) ((rdI a0 (Int.toNat a1)))).bind fun o2 => bif o2 then (L 10 [] k (Nd (a0, a1, a1, (0 : Int), (0 : Int), ([] : List Int), (0 : Int), (0 : Int)))) else (bif (inB a1 (List.length a0)) then ((Vp k) ((rdI a0 (Int.toNat a1)))).bind fun o3 => bif o3 then (bif (cutB a1 (IntKind.wrap .i64 (a1 + (1 : Int))) (List.length a0)) then some ((3 : Int), (cutL a0 a1 (IntKind.wrap .i64 (a1 + (1 : Int)))), (0 : Int), a1, (0 : Int)) else none) else (some ((0 : Int), ([] : List Int), (0 : Int), (0 : Int), (40 : Int))) else none) else none) else none
theorem B6a (k : Nat) (x : ((List (Int)) × (Int))) : Vo k x = Aik k (Eb k).J (Eb k).L x := by
 refine (Af _ _).trans ?_; apply cutX (Eb k) [] [] (st0 (Eb k).C Tryz.f132 Ain x) [] [(3, [], k), (10, [], k)] (Aik k · · x) <;> intros <;> kernel_rfl
noncomputable def Aim (k j3 : Nat) (J : JF H59) (L : LF H59) : Aij → Option H59
 | (a0, a1, a2, a3, a4, a5, a6) => bif (decide (a2 < ((List.length a0 : Nat) : Int))) then (bif (inB a2 (List.length a0)) then ((Pw k) ((rdI a0 (Int.toNat a2)))).bind fun o1 => bif o1 then (L 3 [] j3 (Lq (a0, a1, (IntKind.wrap .i64 (a2 + (1 : Int))), a3, a4, a5, a6))) else (bif (inB a2 (List.length a0)) then ((Mw k) ((rdI a0 (Int.toNat a2)))).bind fun o2 => bif o2 then (L 3 [] j3 (Lq (a0, a1, (IntKind.wrap .i64 (a2 + (1 : Int))), a3, a4, a5, a6))) else (bif (inB a2 (List.length a0)) then bif ((rdI a0 (Int.toNat a2)) == (95 : Int)) then (L 3 [] j3 (Lq (a0, a1, (IntKind.wrap .i64 (a2 + (1 : Int))), a3, a4, a5, a6))) else (bif (decide ((IntKind.wrap .i64 (a2 - a1)) > (24 : Int))) then (some ((0 : Int), ([] : List Int), (0 : Int), (0 : Int), (4 : Int))) else (bif (cutB a1 a2 (List.length a0)) then some ((1 : Int), (cutL a0 a1 a2), (0 : Int), a1, (0 : Int)) else none)) else none) else none) else none) else (bif (decide ((IntKind.wrap .i64 (a2 - a1)) > (24 : Int))) then (some ((0 : Int), ([] : List Int), (0 : Int), (0 : Int), (4 : Int))) else (bif (cutB a1 a2 (List.length a0)) then some ((1 : Int), (cutL a0 a1 a2), (0 : Int), a1, (0 : Int)) else none))
theorem B6c (k j3 : Nat) (x : Aij) : (Eb k).L 3 [] (j3 + 1) (Lq x) = Aim k j3 (Eb k).J (Eb k).L x := by
 apply cutX (Eb k) [.r, .r, .l, .b, .r, .t, .l, .b, .b] [j3] (Lq x) [] [(3, [], j3), (10, [], k)] (Aim k j3 · · x) <;> intros <;> kernel_rfl
noncomputable def Ail (k j10 : Nat) (J : JF H59) (L : LF H59) : Aii → Option H59
 | (a0, a1, a2, a3, a4, a5, a6, a7) => bif (decide (a2 < ((List.length a0 : Nat) : Int))) then (bif (inB a2 (List.length a0)) then ((Mw k) ((rdI a0 (Int.toNat a2)))).bind fun o1 => bif o1 then (bif (decide ((IntKind.wrap .i64 (a2 - a1)) < (18 : Int))) then (bif (inB a2 (List.length a0)) then L 10 [] j10 (Nd (a0, a1, (IntKind.wrap .i64 (a2 + (1 : Int))), (IntKind.wrap .i64 ((IntKind.wrap .i64 ((10 : Int) * a3)) + (IntKind.wrap .i64 (IntKind.wrap .u8 ((rdI a0 (Int.toNat a2)) - (48 : Int)))))), a4, a5, a6, a7)) else none) else (L 10 [] j10 (Nd (a0, a1, (IntKind.wrap .i64 (a2 + (1 : Int))), a3, a4, a5, a6, a7)))) else (bif (decide ((IntKind.wrap .i64 (a2 - a1)) > (18 : Int))) then (some ((0 : Int), ([] : List Int), (0 : Int), (0 : Int), (4 : Int))) else (bif (cutB a1 a2 (List.length a0)) then some ((2 : Int), (cutL a0 a1 a2), a3, a1, (0 : Int)) else none)) else none) else (bif (decide ((IntKind.wrap .i64 (a2 - a1)) > (18 : Int))) then (some ((0 : Int), ([] : List Int), (0 : Int), (0 : Int), (4 : Int))) else (bif (cutB a1 a2 (List.length a0)) then some ((2 : Int), (cutL a0 a1 a2), a3, a1, (0 : Int)) else none))
theorem B6b (k j10 : Nat) (x : Aii) : (Eb k).L 10 [] (j10 + 1) (Nd x) = Ail k j10 (Eb k).J (Eb k).L x := by
 apply cutX (Eb k) [.r, .r, .l, .b, .r, .e, .r, .t, .r, .l, .b, .b] [j10] (Nd x) [] [(3, [], k), (10, [], j10)] (Ail k j10 · · x) <;> intros <;> kernel_rfl
theorem Buq (k : Nat) : Aa Tryz.prog 132 (Bmn k) := Ae (Eb k).C k rfl ⟨⟨But k, trivial⟩, ⟨Bup k, trivial⟩, ⟨Bur k, trivial⟩, trivial⟩ Ad Tryz.func132 (by kernel_rfl)
abbrev H60 : Type := (List (Int)) × (Int) × (List (YT8))
def Aig : Sk := ⟨[.lf (.pv (.slice (.int .u8)))], [], []⟩
def Aih : Sk := ⟨[.lf (.own 0), .lf (.pv (.int .i64)), .lf (.pv (.int .i64))], [], [some (135, yt8)]⟩
def A64 : Sk := ⟨sparse 44 [(0, .lf (.pv (.slice (.int .u8)))), (5, .lf (.own 0)), (6, .lf (.pv (.int .i64)))], [], [some (135, yt8)]⟩
abbrev Aid := H60
def Ru : Aid → St := stOf A64 92
def B54 (k : Nat) : EnvL := [(131, [Bmp k]), (132, [Bmn k])]
def Ho (k : Nat) : FnX H13 := mkX ({ mkC (B54 k) 92 0 0 with hint := fun i => look none [(5, some A64)] i, bl := [54, 56] }) k Tryz.f79 Aih
def Vm (k : Nat) : (List (Int)) → Option H13 := hid (Ac (Ho k).C k Tryz.f79 Aig Aih)
def Bmk (k : Nat) : Sig := Ab Aig Aih (Vm k)
noncomputable def Aie (k : Nat) (J : JF H13) (L : LF H13) : (List (Int)) → Option H13
 | a0 => bif (decide (((List.length a0 : Nat) : Int) > (65536 : Int))) then (some ((4 : Int), (65536 : Int), [])) else (((Pv k) (a0, (0 : Int))).bind fun o1 => L 5 [] k (Ru (a0, o1, [])))
theorem B55 (k : Nat) (x : (List (Int))) : Vm k x = Aie k (Ho k).J (Ho k).L x := by
 refine (Af _ _).trans ?_; apply cutX (Ho k) [] [] (st0 (Ho k).C Tryz.f79 Aig x) [] [(5, [], k)] (Aie k · · x) <;> intros <;> kernel_rfl
noncomputable def Aif (k j5 : Nat) (J : JF H13) (L : LF H13) : Aid → Option H13
 | (a0, a1, a2) => bif (decide (a1 < ((List.length a0 : Nat) : Int))) then (((Vo k) (a0, a1)).bind fun o1 => bif (o1.2.2.2.2 != (0 : Int)) then (some (o1.2.2.2.2, a1, [])) else (bif (appB 40 (List.length a2) (List.length ([(o1.1, (o1.2.1, (o1.2.2.1, (o1.2.2.2.1, ()))))] : List (YT8)))) then ((Pv k) (a0, (IntKind.wrap .i64 (a1 + ((List.length o1.2.1 : Nat) : Int))))).bind fun o2 => L 5 [] j5 (Ru (a0, o2, (a2 ++ ([(o1.1, (o1.2.1, (o1.2.2.1, (o1.2.2.2.1, ()))))] : List (YT8))))) else none)) else (bif (appB 40 (List.length a2) (List.length ([((0 : Int), (([] : List Int), ((0 : Int), (a1, ()))))] : List (YT8)))) then some ((0 : Int), (0 : Int), (a2 ++ ([((0 : Int), (([] : List Int), ((0 : Int), (a1, ()))))] : List (YT8)))) else none)
theorem B56 (k j5 : Nat) (x : Aid) : (Ho k).L 5 [] (j5 + 1) (Ru x) = Aif k j5 (Ho k).J (Ho k).L x := by
 apply cutX (Ho k) [.r, .r, .r, .r, .l, .b, .b] [j5] (Ru x) [] [(5, [], j5)] (Aif k j5 · · x) <;> intros <;> kernel_rfl
theorem Bun (k : Nat) : Aa Tryz.prog 79 (Bmk k) := Ae (Ho k).C k rfl ⟨⟨Bus k, trivial⟩, ⟨Buq k, trivial⟩, trivial⟩ Ad Tryz.func79 (by kernel_rfl)
abbrev H61 : Type := (List Int) × (Int) × (Int) × (List (YT8))
abbrev H62 : Type := (Bool) × (Int) × (Int) × (List (YT8))
def Akg : Sk := ⟨[.lf (.ptr 0 0), .lf (.pv .str)], [[.own 0, .pv (.int .i64), .pv (.int .i64)]], [some (135, yt8)]⟩
def A8x : Sk := ⟨[.lf (.pv .bool)], Akg.boxes, [some (135, yt8)]⟩
def A8v (k : Nat) : Cfg := mkC [] 89 1 1
def Vy (k : Nat) : H61 → Option H62 := hid (Ac (A8v k) k Tryz.f85 Akg A8x)
def Bm2 (k : Nat) : Sig := Ab Akg A8x (Vy k)
noncomputable def A8w (k : Nat) : H61 → Option H62
 | (a0, a1, a2, a3) => bif (a1 == (0 : Int)) then (bif (inB (0 : Int) (List.length a3)) then bif ((rdA zt8 a3 (Int.toNat (0 : Int))).1 != (2 : Int)) then (bif (inB (0 : Int) (List.length a3)) then bif ((rdA zt8 a3 (Int.toNat (0 : Int))).1 != (0 : Int)) then (bif (inB (0 : Int) (List.length a3)) then some (((rdA zt8 a3 (Int.toNat (0 : Int))).2.1 == a0), a1, a2, a3) else none) else (some (false, a1, a2, a3)) else none) else (some (false, a1, a2, a3)) else none) else (some (false, a1, a2, a3))
theorem B7d (k : Nat) (x : H61) : Vy k x = A8w k x := (Af _ _).trans (by kernel_rfl)
theorem Bu5 (k : Nat) : Aa Tryz.prog 85 (Bm2 k) := Ae (A8v k) (l := []) k rfl trivial Ad Tryz.func85 (by kernel_rfl)
abbrev H63 : Type := (Int) × (Int) × (Int) × (List (YT8))
def Aj2 : Sk := ⟨[.lf (.ptr 0 0), .lf (.pv (.int .i64))], [[.own 0, .pv (.int .i64), .pv (.int .i64)]], [some (135, yt8)]⟩
def A8j : Sk := ⟨[], Aj2.boxes, [some (135, yt8)]⟩
def A8h (k : Nat) : Cfg := mkC [] 71 1 1
def Vu (k : Nat) : H63 → Option H13 := hid (Ac (A8h k) k Tryz.f88 Aj2 A8j)
def Bmz (k : Nat) : Sig := Ab Aj2 A8j (Vu k)
noncomputable def A8i (k : Nat) : H63 → Option H13
 | (a0, a1, a2, a3) => bif (a1 == (0 : Int)) then (bif (inB (0 : Int) (List.length a3)) then some (a0, (rdA zt8 a3 (Int.toNat (0 : Int))).2.2.2.1, a3) else none) else (some (a1, a2, a3))
theorem B61 (k : Nat) (x : H63) : Vu k x = A8i k x := (Af _ _).trans (by kernel_rfl)
theorem Bu2 (k : Nat) : Aa Tryz.prog 88 (Bmz k) := Ae (A8h k) (l := []) k rfl trivial Ad Tryz.func88 (by kernel_rfl)
abbrev H64 : Type := (Int) × (List Int) × (Int) × (Int) × (List (YT8)) × (Int) × (Int)
def A88 : Sk := ⟨[.lf (.ptr 0 0)], [[.own 0, .pv (.int .i64), .pv (.int .i64)]], [some (135, yt8)]⟩
def A89 : Sk := ⟨[.agg [.pv (.int .i64), .pv .str, .pv (.int .i64), .pv (.int .i64)]], [q2], [none]⟩
def A86 (k : Nat) : Cfg := { mkC [] 77 1 1 with bl := [54, 56] }
def P6 (k : Nat) : H13 → Option H64 := hid (Ac (A86 k) k Tryz.f86 A88 A89)
def Bm3 (k : Nat) : Sig := Ab A88 A89 (P6 k)
noncomputable def A87 (k : Nat) : H13 → Option H64
 | (a0, a1, a2) => bif (inB (0 : Int) (List.length a2)) then bif (a0 == (0 : Int)) then (bif ((rdA zt8 a2 (Int.toNat (0 : Int))).1 != (0 : Int)) then (bif (cutB (1 : Int) (((List.length a2) : Nat) : Int) (List.length a2)) then some ((rdA zt8 a2 (Int.toNat (0 : Int))).1, (rdA zt8 a2 (Int.toNat (0 : Int))).2.1, (rdA zt8 a2 (Int.toNat (0 : Int))).2.2.1, (rdA zt8 a2 (Int.toNat (0 : Int))).2.2.2.1, (cutL a2 (1 : Int) (((List.length a2) : Nat) : Int)), a0, a1) else none) else (some ((rdA zt8 a2 (Int.toNat (0 : Int))).1, (rdA zt8 a2 (Int.toNat (0 : Int))).2.1, (rdA zt8 a2 (Int.toNat (0 : Int))).2.2.1, (rdA zt8 a2 (Int.toNat (0 : Int))).2.2.2.1, a2, a0, a1))) else (some ((rdA zt8 a2 (Int.toNat (0 : Int))).1, (rdA zt8 a2 (Int.toNat (0 : Int))).2.1, (rdA zt8 a2 (Int.toNat (0 : Int))).2.2.1, (rdA zt8 a2 (Int.toNat (0 : Int))).2.2.2.1, a2, a0, a1)) else none
theorem B7l (k : Nat) (x : H13) : P6 k x = A87 k x := (Af _ _).trans (by kernel_rfl)
theorem Bu6 (k : Nat) : Aa Tryz.prog 86 (Bm3 k) := Ae (A86 k) (l := []) k rfl trivial Ad Tryz.func86 (by kernel_rfl)
abbrev H65 : Type := (List (YT8)) × (Int) × (Int)
def A9p : Sk := ⟨[.lf (.ptr 0 0), .lf (.pv .str)], [[.own 0, .pv (.int .i64), .pv (.int .i64)]], [some (135, yt8)]⟩
def A9q : Sk := ⟨[], [q2], [none]⟩
def B73 (k : Nat) : EnvL := [(85, [Bm2 k]), (88, [Bmz k]), (86, [Bm3 k])]
def A9n (k : Nat) : Cfg := mkC (B73 k) 60 1 1
def V2 (k : Nat) : H61 → Option H65 := hid (Ac (A9n k) k Tryz.f81 A9p A9q)
def Bm7 (k : Nat) : Sig := Ab A9p A9q (V2 k)
noncomputable def A9o (k : Nat) : H61 → Option H65
 | (a0, a1, a2, a3) => ((Vy k) (a0, a1, a2, a3)).bind fun o1 => bif (!o1.1) then (((Vu k) ((50 : Int), o1.2.1, o1.2.2.1, o1.2.2.2)).bind fun o2 => ((P6 k) (o2.1, o2.2.1, o2.2.2)).bind fun o3 => some (o3.2.2.2.2.1, o3.2.2.2.2.2.1, o3.2.2.2.2.2.2)) else (((P6 k) (o1.2.1, o1.2.2.1, o1.2.2.2)).bind fun o4 => some (o4.2.2.2.2.1, o4.2.2.2.2.2.1, o4.2.2.2.2.2.2))
theorem B74 (k : Nat) (x : H61) : V2 k x = A9o k x := (Af _ _).trans (by kernel_rfl)
theorem Bva (k : Nat) : Aa Tryz.prog 81 (Bm7 k) := Ae (A9n k) k rfl ⟨⟨Bu5 k, trivial⟩, ⟨Bu2 k, trivial⟩, ⟨Bu6 k, trivial⟩, trivial⟩ Ad Tryz.func81 (by kernel_rfl)
abbrev H66 : Type := (Int) × (List (YT8)) × (Int) × (Int)
def Aj1 : Sk := ⟨[.lf (.ptr 0 0), .lf (.pv (.int .i64))], [q2], []⟩
def A8g : Sk := ⟨[], Aj1.boxes, []⟩
def A8e (k : Nat) : Cfg := mkC [] 71 1 0
def Fw (k : Nat) : H66 → Option H65 := hid (Ac (A8e k) k Tryz.f88 Aj1 A8g)
def Jr (k : Nat) : Sig := Ab Aj1 A8g (Fw k)
noncomputable def A8f (k : Nat) : H66 → Option H65
 | (a0, a1, a2, a3) => bif (a2 == (0 : Int)) then (idx zt8 a1 (0 : Int) fun o1 => some (a1, a0, o1.2.2.2.1)) else (some (a1, a2, a3))
theorem B60 (k : Nat) (x : H66) : Fw k x = A8f k x := (Af _ _).trans (by kernel_rfl)
theorem Ka (k : Nat) : Aa Tryz.prog 88 (Jr k) := Ae (A8e k) (l := []) k rfl trivial Ad Tryz.func88 (by kernel_rfl)
def Ako : Sk := ⟨[.lf (.ptr 0 0)], [q2], []⟩
def A85 : Sk := ⟨[.agg [.pv (.int .i64), .pv .str, .pv (.int .i64), .pv (.int .i64)]], Ako.boxes, []⟩
def A83 (k : Nat) : Cfg := { mkC [] 77 1 0 with bl := [54, 56] }
def Fd (k : Nat) : H65 → Option H64 := hid (Ac (A83 k) k Tryz.f86 Ako A85)
def I4 (k : Nat) : Sig := Ab Ako A85 (Fd k)
noncomputable def A84 (k : Nat) : H65 → Option H64
 | (a0, a1, a2) => idx zt8 a0 (0 : Int) fun o1 => bif (a1 == (0 : Int)) then (bif (o1.1 != (0 : Int)) then (cut a0 (1 : Int) (((List.length a0) : Nat) : Int) fun o2 => some (o1.1, o1.2.1, o1.2.2.1, o1.2.2.2.1, o2, a1, a2)) else (some (o1.1, o1.2.1, o1.2.2.1, o1.2.2.2.1, a0, a1, a2))) else (some (o1.1, o1.2.1, o1.2.2.1, o1.2.2.2.1, a0, a1, a2))
theorem B7k (k : Nat) (x : H65) : Fd k x = A84 k x := (Af _ _).trans (by kernel_rfl)
theorem Jg (k : Nat) : Aa Tryz.prog 86 (I4 k) := Ae (A83 k) (l := []) k rfl trivial Ad Tryz.func86 (by kernel_rfl)
def Ak8 : Sk := ⟨[.lf (.ptr 0 0), .lf (.pv .str)], [[.own 0, .pv (.int .i64), .pv (.int .i64)]], [some (135, yt8)]⟩
def Ak9 : Sk := ⟨[.lf (.pv (.int .i64))], [q2], [none]⟩
def A9g : Sk := ⟨sparse 23 [(0, .lf (.ptr 0 0))], [q2], [none]⟩
abbrev Ak5 := H65
def R5 : Ak5 → St := stOf A9g 71
def B7w (k : Nat) : EnvL := [(81, [Bm7 k]), (88, [Jr k]), (86, [I4 k])]
def Hv (k : Nat) : FnX H66 := mkX ({ mkC (B7w k) 71 1 1 with hint := fun i => look none [(3, some A9g)] i }) k Tryz.f80 Ak9
def V0 (k : Nat) : H61 → Option H66 := hid (Ac (Hv k).C k Tryz.f80 Ak8 Ak9)
def Bm5 (k : Nat) : Sig := Ab Ak8 Ak9 (V0 k)
noncomputable def Ak6 (k : Nat) (J : JF H66) (L : LF H66) : H61 → Option H66
 | (a0, a1, a2, a3) => bif (!(a0 == ([] : List Int))) then (((V2 k) (a0, a1, a2, a3)).bind fun o1 => J 3 [] (R5 (o1.1, o1.2.1, o1.2.2))) else (J 3 [] (R5 (a3, a1, a2)))
theorem B7x (k : Nat) (x : H61) : V0 k x = Ak6 k (Hv k).J (Hv k).L x := by
 refine (Af _ _).trans ?_; apply cutX (Hv k) [] [] (st0 (Hv k).C Tryz.f80 Ak8 x) [(3, [])] [] (Ak6 k · · x) <;> intros <;> kernel_rfl
noncomputable def Ak7 (k : Nat) (J : JF H66) (L : LF H66) : Ak5 → Option H66
 | (a0, a1, a2) => idx zt8 a0 (0 : Int) fun o1 => bif (o1.1 != (2 : Int)) then (((Fw k) ((50 : Int), a0, a1, a2)).bind fun o2 => some ((0 : Int), o2.1, o2.2.1, o2.2.2)) else (((Fd k) (a0, a1, a2)).bind fun o3 => some (o3.2.2.1, o3.2.2.2.2.1, o3.2.2.2.2.2.1, o3.2.2.2.2.2.2))
theorem B7y (k : Nat) (x : Ak5) : (Hv k).J 3 [] (R5 x) = Ak7 k (Hv k).J (Hv k).L x := by
 apply cutX (Hv k) [.r, .r] [] (R5 x) [(3, [])] [] (Ak7 k · · x) <;> intros <;> kernel_rfl
theorem Bu8 (k : Nat) : Aa Tryz.prog 80 (Bm5 k) := Ae (Hv k).C k rfl ⟨⟨Bva k, trivial⟩, ⟨Ka k, trivial⟩, ⟨Jg k, trivial⟩, trivial⟩ Ad Tryz.func80 (by kernel_rfl)
abbrev H67 : Type := (List Int) × (List (YT8)) × (Int) × (Int)
abbrev H68 : Type := (Bool) × (List (YT8)) × (Int) × (Int)
def Akf : Sk := ⟨[.lf (.ptr 0 0), .lf (.pv .str)], [q2], []⟩
def A8u : Sk := ⟨[.lf (.pv .bool)], Akf.boxes, []⟩
def A8s (k : Nat) : Cfg := mkC [] 89 1 0
def Il (k : Nat) : H67 → Option H68 := hid (Ac (A8s k) k Tryz.f85 Akf A8u)
def Mf (k : Nat) : Sig := Ab Akf A8u (Il k)
noncomputable def A8t (k : Nat) : H67 → Option H68
 | (a0, a1, a2, a3) => bif (a2 == (0 : Int)) then (idx zt8 a1 (0 : Int) fun o1 => bif (o1.1 != (2 : Int)) then (idx zt8 a1 (0 : Int) fun o2 => bif (o2.1 != (0 : Int)) then (idx zt8 a1 (0 : Int) fun o3 => some ((o3.2.1 == a0), a1, a2, a3)) else (some (false, a1, a2, a3))) else (some (false, a1, a2, a3))) else (some (false, a1, a2, a3))
theorem B7c (k : Nat) (x : H67) : Il k x = A8t k x := (Af _ _).trans (by kernel_rfl)
theorem Mx (k : Nat) : Aa Tryz.prog 85 (Mf k) := Ae (A8s k) (l := []) k rfl trivial Ad Tryz.func85 (by kernel_rfl)
def Alb : Sk := ⟨[.lf (.ptr 0 0), .lf (.pv .str)], [q2], []⟩
def A9m : Sk := ⟨[], Alb.boxes, []⟩
def B71 (k : Nat) : EnvL := [(85, [Mf k]), (88, [Jr k]), (86, [I4 k])]
def A9k (k : Nat) : Cfg := mkC (B71 k) 60 1 0
def Cm (k : Nat) : H67 → Option H65 := hid (Ac (A9k k) k Tryz.f81 Alb A9m)
def Js (k : Nat) : Sig := Ab Alb A9m (Cm k)
noncomputable def A9l (k : Nat) : H67 → Option H65
 | (a0, a1, a2, a3) => ((Il k) (a0, a1, a2, a3)).bind fun o1 => bif (!o1.1) then (((Fw k) ((50 : Int), o1.2.1, o1.2.2.1, o1.2.2.2)).bind fun o2 => ((Fd k) (o2.1, o2.2.1, o2.2.2)).bind fun o3 => some (o3.2.2.2.2.1, o3.2.2.2.2.2.1, o3.2.2.2.2.2.2)) else (((Fd k) (o1.2.1, o1.2.2.1, o1.2.2.2)).bind fun o4 => some (o4.2.2.2.2.1, o4.2.2.2.2.2.1, o4.2.2.2.2.2.2))
theorem B72 (k : Nat) (x : H67) : Cm k x = A9l k x := (Af _ _).trans (by kernel_rfl)
theorem Kb (k : Nat) : Aa Tryz.prog 81 (Js k) := Ae (A9k k) k rfl ⟨⟨Mx k, trivial⟩, ⟨Ka k, trivial⟩, ⟨Jg k, trivial⟩, trivial⟩ Ad Tryz.func81 (by kernel_rfl)
def Xj : Sk := ⟨[.lf (.ptr 0 0), .lf (.pv .str)], [q2], []⟩
def Ak4 : Sk := ⟨[.lf (.pv (.int .i64))], Xj.boxes, []⟩
def A9f : Sk := ⟨sparse 23 [(0, .lf (.ptr 0 0))], [q2], []⟩
abbrev Ak1 := H65
def R4 : Ak1 → St := stOf A9f 71
def B7t (k : Nat) : EnvL := [(81, [Js k]), (88, [Jr k]), (86, [I4 k])]
def Hw (k : Nat) : FnX H66 := mkX ({ mkC (B7t k) 71 1 0 with hint := fun i => look none [(3, some A9f)] i }) k Tryz.f80 Ak4
def C0 (k : Nat) : H67 → Option H66 := hid (Ac (Hw k).C k Tryz.f80 Xj Ak4)
def Ot (k : Nat) : Sig := Ab Xj Ak4 (C0 k)
noncomputable def Ak2 (k : Nat) (J : JF H66) (L : LF H66) : H67 → Option H66
 | (a0, a1, a2, a3) => bif (!(a0 == ([] : List Int))) then (((Cm k) (a0, a1, a2, a3)).bind fun o1 => J 3 [] (R4 (o1.1, o1.2.1, o1.2.2))) else (J 3 [] (R4 (a1, a2, a3)))
theorem B7u (k : Nat) (x : H67) : C0 k x = Ak2 k (Hw k).J (Hw k).L x := by
 refine (Af _ _).trans ?_; apply cutX (Hw k) [] [] (st0 (Hw k).C Tryz.f80 Xj x) [(3, [])] [] (Ak2 k · · x) <;> intros <;> kernel_rfl
noncomputable def Ak3 (k : Nat) (J : JF H66) (L : LF H66) : Ak1 → Option H66
 | (a0, a1, a2) => idx zt8 a0 (0 : Int) fun o1 => bif (o1.1 != (2 : Int)) then (((Fw k) ((50 : Int), a0, a1, a2)).bind fun o2 => some ((0 : Int), o2.1, o2.2.1, o2.2.2)) else (((Fd k) (a0, a1, a2)).bind fun o3 => some (o3.2.2.1, o3.2.2.2.2.1, o3.2.2.2.2.2.1, o3.2.2.2.2.2.2))
theorem B7v (k : Nat) (x : Ak1) : (Hw k).J 3 [] (R4 x) = Ak3 k (Hw k).J (Hw k).L x := by
 apply cutX (Hw k) [.r, .r] [] (R4 x) [(3, [])] [] (Ak3 k · · x) <;> intros <;> kernel_rfl
theorem P7 (k : Nat) : Aa Tryz.prog 80 (Ot k) := Ae (Hw k).C k rfl ⟨⟨Kb k, trivial⟩, ⟨Ka k, trivial⟩, ⟨Jg k, trivial⟩, trivial⟩ Ad Tryz.func80 (by kernel_rfl)
abbrev H69 : Type := (Int) × (Int) × (List (YT8)) × (Int) × (Int)
def Aj3 : Sk := ⟨[.lf (.ptr 0 0), .lf (.pv .str)], [q2], []⟩
def A8m : Sk := ⟨[.agg [.pv (.int .i64), .pv (.int .i64)]], Aj3.boxes, []⟩
def B62 (k : Nat) : EnvL := [(80, [Ot k])]
def A8k (k : Nat) : Cfg := { mkC (B62 k) 61 1 0 with bl := [54, 56] }
def P3 (k : Nat) : H67 → Option H69 := hid (Ac (A8k k) k Tryz.f82 Aj3 A8m)
def Aog (k : Nat) : Sig := Ab Aj3 A8m (P3 k)
noncomputable def A8l (k : Nat) : H67 → Option H69
 | (a0, a1, a2, a3) => ((C0 k) (a0, a1, a2, a3)).bind fun o1 => ((C0 k) (([47] : List Int), o1.2.1, o1.2.2.1, o1.2.2.2)).bind fun o2 => some (o1.1, o2.1, o2.2.1, o2.2.2.1, o2.2.2.2)
theorem B63 (k : Nat) (x : H67) : P3 k x = A8l k x := (Af _ _).trans (by kernel_rfl)
theorem Aqp (k : Nat) : Aa Tryz.prog 82 (Aog k) := Ae (A8k k) k rfl ⟨⟨P7 k, trivial⟩, trivial⟩ Ad Tryz.func82 (by kernel_rfl)
abbrev H70 : Type := (List Int) × (Int) × (Int) × (List (YT8)) × (Int) × (Int)
def Aj0 : Sk := ⟨[.lf (.ptr 0 0), .lf (.pv .str), .lf (.pv (.int .i64)), .lf (.pv (.int .i64))], [q2], []⟩
def A8d : Sk := ⟨[.lf (.pv .bool)], Aj0.boxes, []⟩
def B6y (k : Nat) : EnvL := [(85, [Mf k]), (88, [Jr k]), (86, [I4 k])]
def A8b (k : Nat) : Cfg := mkC (B6y k) 68 1 0
def Gq (k : Nat) : H70 → Option H68 := hid (Ac (A8b k) k Tryz.f83 Aj0 A8d)
def Su (k : Nat) : Sig := Ab Aj0 A8d (Gq k)
noncomputable def A8c (k : Nat) : H70 → Option H68
 | (a0, a1, a2, a3, a4, a5) => ((Il k) (a0, a3, a4, a5)).bind fun o1 => bif (!o1.1) then (some (false, o1.2.1, o1.2.2.1, o1.2.2.2)) else (bif (a1 == a2) then (((Fw k) ((4 : Int), o1.2.1, o1.2.2.1, o1.2.2.2)).bind fun o2 => some (false, o2.1, o2.2.1, o2.2.2)) else (((Fd k) (o1.2.1, o1.2.2.1, o1.2.2.2)).bind fun o3 => some (true, o3.2.2.2.2.1, o3.2.2.2.2.2.1, o3.2.2.2.2.2.2)))
theorem B6z (k : Nat) (x : H70) : Gq k x = A8c k x := (Af _ _).trans (by kernel_rfl)
theorem Vt (k : Nat) : Aa Tryz.prog 83 (Su k) := Ae (A8b k) k rfl ⟨⟨Mx k, trivial⟩, ⟨Ka k, trivial⟩, ⟨Jg k, trivial⟩, trivial⟩ Ad Tryz.func83 (by kernel_rfl)
def A67 : Sk := ⟨[], [], []⟩
def A68 : Sk := ⟨[.lf (.own 0)], [], [some (9, .str)]⟩
def A65 (k : Nat) : Cfg := mkC [] 50 0 0
def Vn (k : Nat) : Unit → Option (List (List Int)) := hid (Ac (A65 k) k Tryz.f130 A67 A68)
def Bml (k : Nat) : Sig := Ab A67 A68 (Vn k)
noncomputable def A66 (k : Nat) : Unit → Option (List (List Int))
 | _ => some ([([99, 121, 99, 108, 101] : List Int), ([116, 111] : List Int), ([98, 121] : List Int), ([112, 101, 97, 107] : List Int), ([110, 111, 100, 101] : List Int), ([104, 101, 97, 100] : List Int), ([118, 111, 108, 117, 109, 101] : List Int), ([102, 108, 111, 119] : List Int), ([117, 115, 101] : List Int), ([115, 112, 101, 101, 100] : List Int), ([103, 114, 97, 100, 101] : List Int), ([119, 105, 100, 116, 104] : List Int), ([108, 101, 110, 103, 116, 104] : List Int), ([103, 114, 101, 101, 110] : List Int), ([119, 97, 108, 107] : List Int), ([119, 105, 116, 104] : List Int), ([108, 111, 110, 103] : List Int), ([112, 97, 99, 101] : List Int), ([108, 101, 97, 115, 116] : List Int), ([112, 104, 97, 115, 101] : List Int), ([103, 114, 111, 117, 112] : List Int), ([114, 105, 110, 103] : List Int), ([102, 114, 101, 101] : List Int), ([102, 111, 101] : List Int), ([97, 114, 116, 101, 114, 121] : List Int), ([115, 116, 111, 112] : List Int), ([111, 117, 116] : List Int), ([105, 110] : List Int), ([97, 104, 101, 97, 100] : List Int), ([98, 97, 99, 107] : List Int), ([119, 101, 105, 103, 104, 116, 115] : List Int), ([112, 108, 97, 110] : List Int), ([111, 102, 102, 115, 101, 116] : List Int), ([115, 117, 109] : List Int), ([115, 112, 108, 105, 116] : List Int), ([121, 101, 108, 108, 111, 119] : List Int), ([114, 101, 100] : List Int), ([102, 108, 97, 115, 104] : List Int), ([98, 101, 115, 116] : List Int), ([121, 101, 115] : List Int), ([110, 111] : List Int), ([115, 112, 101, 110, 116] : List Int)] : List (List Int))
theorem B57 (k : Nat) (x : Unit) : Vn k x = A66 k x := (Af _ _).trans (by kernel_rfl)
theorem Buo (k : Nat) : Aa Tryz.prog 130 (Bml k) := Ae (A65 k) (l := []) k rfl trivial Ad Tryz.func130 (by kernel_rfl)
abbrev H71 : Type := (List Int) × (List (List Int))
def Aib : Sk := ⟨[.lf (.pv .str), .lf (.pv (.slice .str))], [], []⟩
def Aic : Sk := ⟨[.lf (.pv .bool)], [], []⟩
def A6z : Sk := ⟨sparse 18 [(0, .lf (.pv .str)), (1, .lf (.pv (.slice .str))), (5, .lf (.pv (.int .i64)))], [], []⟩
abbrev Ah9 := H20
def Rt : Ah9 → St := stOf A6z 66
def Hn (k : Nat) : FnX Bool := mkX ({ mkC [] 66 0 0 with hint := fun i => look none [(2, some A6z)] i }) k Tryz.f129 Aic
def Ab5 (k : Nat) : H71 → Option Bool := hid (Ac (Hn k).C k Tryz.f129 Aib Aic)
def Bmj (k : Nat) : Sig := Ab Aib Aic (Ab5 k)
noncomputable def Aia (k : Nat) (J : JF Bool) (L : LF Bool) : H71 → Option Bool
 | (a0, a1) => L 2 [] k (Rt (a0, a1, (0 : Int)))
theorem B51 (k : Nat) (x : H71) : Ab5 k x = Aia k (Hn k).J (Hn k).L x := by
 refine (Af _ _).trans ?_; apply cutX (Hn k) [] [] (st0 (Hn k).C Tryz.f129 Aib x) [] [(2, [], k)] (Aia k · · x) <;> intros <;> kernel_rfl
noncomputable def W1 (k j2 : Nat) (J : JF Bool) (L : LF Bool) : Ah9 → Option Bool
 | (a0, a1, a2) => bif (decide (a2 < ((List.length a1 : Nat) : Int))) then (bif (inB a2 (List.length a1)) then bif ((rdA [] a1 (Int.toNat a2)) == a0) then (some true) else (L 2 [] j2 (Rt (a0, a1, (IntKind.wrap .i64 (a2 + (1 : Int)))))) else none) else (some false)
theorem A6y (k j2 : Nat) (x : Ah9) : (Hn k).L 2 [] (j2 + 1) (Rt x) = W1 k j2 (Hn k).J (Hn k).L x := by
 apply cutX (Hn k) [.r, .l, .r, .b, .b] [j2] (Rt x) [] [(2, [], j2)] (W1 k j2 · · x) <;> intros <;> kernel_rfl
theorem Bum (k : Nat) : Aa Tryz.prog 129 (Bmj k) := Ae (Hn k).C (l := []) k rfl trivial Ad Tryz.func129 (by kernel_rfl)
def A62 : Sk := ⟨[.lf (.pv .str)], [], []⟩
def A63 : Sk := ⟨[.lf (.pv .bool)], [], []⟩
def B52 (k : Nat) : EnvL := [(130, [Bml k]), (129, [Bmj k])]
def A60 (k : Nat) : Cfg := mkC (B52 k) 55 0 0
def Pu (k : Nat) : (List Int) → Option Bool := hid (Ac (A60 k) k Tryz.f78 A62 A63)
def Aoe (k : Nat) : Sig := Ab A62 A63 (Pu k)
noncomputable def A61 (k : Nat) : (List Int) → Option Bool
 | a0 => ((Vn k) (())).bind fun o1 => ((Ab5 k) (a0, o1)).bind fun o2 => some o2
theorem B53 (k : Nat) (x : (List Int)) : Pu k x = A61 k x := (Af _ _).trans (by kernel_rfl)
theorem Aqn (k : Nat) : Aa Tryz.prog 78 (Aoe k) := Ae (A60 k) k rfl ⟨⟨Buo k, trivial⟩, ⟨Bum k, trivial⟩, trivial⟩ Ad Tryz.func78 (by kernel_rfl)
def Akh : Sk := ⟨[.lf (.ptr 0 0)], [q2], []⟩
def A80 : Sk := ⟨[.lf (.pv .str)], Akh.boxes, []⟩
def B7e (k : Nat) : EnvL := [(88, [Jr k]), (78, [Aoe k]), (86, [I4 k])]
def A8y (k : Nat) : Cfg := mkC (B7e k) 74 1 0
def Ek (k : Nat) : H65 → Option H67 := hid (Ac (A8y k) k Tryz.f133 Akh A80)
def Oq (k : Nat) : Sig := Ab Akh A80 (Ek k)
noncomputable def A8z (k : Nat) : H65 → Option H67
 | (a0, a1, a2) => idx zt8 a0 (0 : Int) fun o1 => bif (o1.1 != (1 : Int)) then (((Fw k) ((50 : Int), a0, a1, a2)).bind fun o2 => some (([] : List Int), o2.1, o2.2.1, o2.2.2)) else (idx zt8 a0 (0 : Int) fun o3 => ((Pu k) (o3.2.1)).bind fun o4 => bif o4 then (((Fw k) ((50 : Int), a0, a1, a2)).bind fun o5 => some (([] : List Int), o5.1, o5.2.1, o5.2.2)) else (((Fd k) (a0, a1, a2)).bind fun o6 => some (o6.2.1, o6.2.2.2.2.1, o6.2.2.2.2.2.1, o6.2.2.2.2.2.2)))
theorem B7f (k : Nat) (x : H65) : Ek k x = A8z k x := (Af _ _).trans (by kernel_rfl)
theorem P4 (k : Nat) : Aa Tryz.prog 133 (Oq k) := Ae (A8y k) k rfl ⟨⟨Ka k, trivial⟩, ⟨Aqn k, trivial⟩, ⟨Jg k, trivial⟩, trivial⟩ Ad Tryz.func133 (by kernel_rfl)
abbrev H72 : Type := (Bool) × (List (YT8)) × (Int) × (Int) × (List Int) × (Int) × (Int) × (Int) × (Int) × (Int) × (Int) × (Int) × (Int) × (Int) × (Int) × (List Int) × (Int) × (Int) × (Int) × (Int) × (Int) × (Int) × (Int) × (Int) × (Int) × (Int)
abbrev H73 : Type := (List (YT8)) × (Int) × (Int) × (List Int) × (Int) × (Int) × (Int) × (Int) × (Int) × (Int) × (Int) × (Int) × (Int) × (Int) × (List Int) × (Int) × (Int) × (Int) × (Int) × (Int) × (Int) × (Int) × (Int) × (Int) × (Int)
abbrev H74 : Type := (List Int) × (Int) × (Int) × (Int) × (Int) × (Int) × (Int) × (Int) × (Int) × (Int) × (Int) × (List (YT8)) × (Int) × (Int)
def Xg : Sk := ⟨[.lf (.ptr 0 0)], [q2], []⟩
def Ake : Sk := ⟨[.agg [.pv .str, .pv (.int .i64), .pv (.int .i64), .pv (.int .i64), .pv (.int .i64), .pv (.int .i64), .pv (.int .i64), .pv (.int .i64), .pv (.int .i64), .pv (.int .i64), .pv (.int .i64)]], Xg.boxes, []⟩
def A8q : Sk := ⟨sparse 55 [(0, .lf (.ptr 0 0)), (2, .lf (.ptr 1 0)), (3, .lf (.ptr 2 0)), (4, .lf (.pv .bool))], [q2, q9, q9], []⟩
abbrev Aj9 := H72
def R1 : Aj9 → St := stOf A8q 103
def A8r : Sk := ⟨sparse 55 [(0, .lf (.ptr 0 0)), (2, .lf (.ptr 1 0)), (3, .lf (.ptr 2 0))], [q2, q9, q9], []⟩
abbrev Aka := H73
def Nl : Aka → St := stOf A8r 103
def B68 (k : Nat) : EnvL := [(133, [Oq k]), (80, [Ot k]), (82, [Aog k]), (81, [Js k]), (85, [Mf k]), (86, [I4 k])]
def D4 (k : Nat) : FnX H74 := mkX ({ mkC (B68 k) 103 1 0 with hint := fun i => look none [(11, some A8q), (14, some A8r)] i, bl := [54, 56] }) k Tryz.f134 Ake
def Vx (k : Nat) : H65 → Option H74 := hid (Ac (D4 k).C k Tryz.f134 Xg Ake)
def Bm1 (k : Nat) : Sig := Ab Xg Ake (Vx k)
noncomputable def Akb (k : Nat) (J : JF H74) (L : LF H74) : H65 → Option H74
 | (a0, a1, a2) => idx zt8 a0 (0 : Int) fun o1 => ((Ek k) (a0, a1, a2)).bind fun o2 => ((C0 k) (([118, 111, 108, 117, 109, 101] : List Int), o2.2.1, o2.2.2.1, o2.2.2.2)).bind fun o3 => ((C0 k) (([102, 108, 111, 119] : List Int), o3.2.1, o3.2.2.1, o3.2.2.2)).bind fun o4 => ((P3 k) (([117, 115, 101] : List Int), o4.2.1, o4.2.2.1, o4.2.2.2)).bind fun o5 => ((C0 k) (([115, 112, 101, 101, 100] : List Int), o5.2.2.1, o5.2.2.2.1, o5.2.2.2.2)).bind fun o6 => ((Cm k) (([103, 114, 97, 100, 101] : List Int), o6.2.1, o6.2.2.1, o6.2.2.2)).bind fun o7 => ((Il k) (([45] : List Int), o7.1, o7.2.1, o7.2.2)).bind fun o8 => bif o8.1 then (((Fd k) (o8.2.1, o8.2.2.1, o8.2.2.2)).bind fun o9 => J 11 [] (R1 (o8.1, o9.2.2.2.2.1, o9.2.2.2.2.2.1, o9.2.2.2.2.2.2, ([] : List Int), (0 : Int), (0 : Int), (0 : Int), (0 : Int), (0 : Int), (0 : Int), (0 : Int), (0 : Int), (0 : Int), (0 : Int), o2.1, o3.1, o4.1, o5.1, o5.2.1, o6.1, (0 : Int), (0 : Int), (0 : Int), (0 : Int), o1.2.2.2.1))) else (J 11 [] (R1 (o8.1, o8.2.1, o8.2.2.1, o8.2.2.2, ([] : List Int), (0 : Int), (0 : Int), (0 : Int), (0 : Int), (0 : Int), (0 : Int), (0 : Int), (0 : Int), (0 : Int), (0 : Int), o2.1, o3.1, o4.1, o5.1, o5.2.1, o6.1, (0 : Int), (0 : Int), (0 : Int), (0 : Int), o1.2.2.2.1)))
theorem B69 (k : Nat) (x : H65) : Vx k x = Akb k (D4 k).J (D4 k).L x := by
 refine (Af _ _).trans ?_; apply cutX (D4 k) [] [] (st0 (D4 k).C Tryz.f134 Xg x) [(11, []), (14, [])] [] (Akb k · · x) <;> intros <;> kernel_rfl
noncomputable def Akc (k : Nat) (J : JF H74) (L : LF H74) : Aj9 → Option H74
 | (a0, a1, a2, a3, a4, a5, a6, a7, a8, a9, a10, a11, a12, a13, a14, a15, a16, a17, a18, a19, a20, a21, a22, a23, a24, a25) => ((C0 k) (([] : List Int), a1, a2, a3)).bind fun o1 => bif a0 then (J 14 [] (Nl (o1.2.1, o1.2.2.1, o1.2.2.2, a4, a5, a6, a7, a8, a9, a10, a11, a12, a13, a14, a15, a16, a17, a18, a19, a20, (negI .i64 o1.1), a22, a23, a24, a25))) else (J 14 [] (Nl (o1.2.1, o1.2.2.1, o1.2.2.2, a4, a5, a6, a7, a8, a9, a10, a11, a12, a13, a14, a15, a16, a17, a18, a19, a20, o1.1, a22, a23, a24, a25)))
theorem B7a (k : Nat) (x : Aj9) : (D4 k).J 11 [] (R1 x) = Akc k (D4 k).J (D4 k).L x := by
 apply cutX (D4 k) [.r, .r, .r, .r, .r, .r, .r, .r, .r, .r] [] (R1 x) [(11, []), (14, [])] [] (Akc k · · x) <;> intros <;> kernel_rfl
noncomputable def Akd (k : Nat) (J : JF H74) (L : LF H74) : Aka → Option H74
 | (a0, a1, a2, a3, a4, a5, a6, a7, a8, a9, a10, a11, a12, a13, a14, a15, a16, a17, a18, a19, a20, a21, a22, a23, a24) => ((C0 k) (([119, 105, 100, 116, 104] : List Int), a0, a1, a2)).bind fun o1 => ((C0 k) (([108, 101, 110, 103, 116, 104] : List Int), o1.2.1, o1.2.2.1, o1.2.2.2)).bind fun o2 => ((C0 k) (([103, 114, 101, 101, 110] : List Int), o2.2.1, o2.2.2.1, o2.2.2.2)).bind fun o3 => ((Cm k) (([59] : List Int), o3.2.1, o3.2.2.1, o3.2.2.2)).bind fun o4 => some (a14, a15, a16, a17, a18, a19, a20, o1.1, o2.1, o3.1, a24, o4.1, o4.2.1, o4.2.2)
theorem B7b (k : Nat) (x : Aka) : (D4 k).J 14 [] (Nl x) = Akd k (D4 k).J (D4 k).L x := by
 apply cutX (D4 k) [.r, .r, .r, .r, .r, .r, .r, .r, .r, .r, .r, .r] [] (Nl x) [(11, []), (14, [])] [] (Akd k · · x) <;> intros <;> kernel_rfl
theorem Bu4 (k : Nat) : Aa Tryz.prog 134 (Bm1 k) := Ae (D4 k).C k rfl ⟨⟨P4 k, trivial⟩, ⟨P7 k, trivial⟩, ⟨Aqp k, trivial⟩, ⟨Kb k, trivial⟩, ⟨Mx k, trivial⟩, ⟨Jg k, trivial⟩, trivial⟩ Ad Tryz.func134 (by kernel_rfl)
abbrev H75 : Type := (List Int) × (List Int) × (Int) × (Int) × (Int) × (Int) × (List (YT8)) × (Int) × (Int)
def Ala : Sk := ⟨[.lf (.ptr 0 0)], [q2], []⟩
def A9j : Sk := ⟨[.agg [.pv .str, .pv .str, .pv (.int .i64), .pv (.int .i64), .pv (.int .i64), .pv (.int .i64)]], Ala.boxes, []⟩
def B7z (k : Nat) : EnvL := [(133, [Oq k]), (81, [Js k]), (80, [Ot k])]
def A9h (k : Nat) : Cfg := { mkC (B7z k) 80 1 0 with bl := [54, 56] }
def V1 (k : Nat) : H65 → Option H75 := hid (Ac (A9h k) k Tryz.f135 Ala A9j)
def Bm6 (k : Nat) : Sig := Ab Ala A9j (V1 k)
noncomputable def A9i (k : Nat) : H65 → Option H75
 | (a0, a1, a2) => idx zt8 a0 (0 : Int) fun o1 => ((Ek k) (a0, a1, a2)).bind fun o2 => ((Cm k) (([119, 105, 116, 104] : List Int), o2.2.1, o2.2.2.1, o2.2.2.2)).bind fun o3 => ((Ek k) (o3.1, o3.2.1, o3.2.2)).bind fun o4 => ((C0 k) (([108, 111, 110, 103] : List Int), o4.2.1, o4.2.2.1, o4.2.2.2)).bind fun o5 => ((C0 k) (([112, 97, 99, 101] : List Int), o5.2.1, o5.2.2.1, o5.2.2.2)).bind fun o6 => ((C0 k) (([108, 101, 97, 115, 116] : List Int), o6.2.1, o6.2.2.1, o6.2.2.2)).bind fun o7 => ((Cm k) (([59] : List Int), o7.2.1, o7.2.2.1, o7.2.2.2)).bind fun o8 => some (o2.1, o4.1, o5.1, o6.1, o7.1, o1.2.2.2.1, o8.1, o8.2.1, o8.2.2)
theorem B70 (k : Nat) (x : H65) : V1 k x = A9i k x := (Af _ _).trans (by kernel_rfl)
theorem Bu9 (k : Nat) : Aa Tryz.prog 135 (Bm6 k) := Ae (A9h k) k rfl ⟨⟨P4 k, trivial⟩, ⟨Kb k, trivial⟩, ⟨P7 k, trivial⟩, trivial⟩ Ad Tryz.func135 (by kernel_rfl)
abbrev H76 : Type := (Int) × (List (YT8)) × (Int) × (Int) × (List (List Int))
abbrev H77 : Type := (List (YT8)) × (Int) × (Int) × (List (List Int))
def Xh : Sk := ⟨[.lf (.ptr 0 0), .lf (.pv (.int .i64))], [q2], []⟩
def Akn : Sk := ⟨[.lf (.own 0)], Xh.boxes, [some (9, .str)]⟩
def A81 : Sk := ⟨sparse 48 [(0, .lf (.ptr 0 0)), (1, .lf (.pv (.int .i64))), (5, .lf (.own 0))], [q2], [some (9, .str)]⟩
abbrev Aki := H76
def R2 : Aki → St := stOf A81 96
def A82 : Sk := ⟨sparse 48 [(0, .lf (.ptr 0 0)), (1, .lf (.pv (.int .i64))), (5, .lf (.own 0))], [q2], [some (9, .str)]⟩
abbrev Akj := H76
def Lt : Akj → St := stOf A82 96
def B7g (k : Nat) : EnvL := [(133, [Oq k]), (85, [Mf k]), (86, [I4 k]), (78, [Aoe k]), (88, [Jr k]), (81, [Js k])]
def Ec (k : Nat) : FnX H77 := mkX ({ mkC (B7g k) 96 1 0 with hint := fun i => look none [(2, some A81), (6, some A82)] i }) k Tryz.f136 Akn
def P5 (k : Nat) : H66 → Option H77 := hid (Ac (Ec k).C k Tryz.f136 Xh Akn)
def Aoh (k : Nat) : Sig := Ab Xh Akn (P5 k)
noncomputable def Akk (k : Nat) (J : JF H77) (L : LF H77) : H66 → Option H77
 | (a0, a1, a2, a3) => ((Ek k) (a1, a2, a3)).bind fun o1 => L 2 [] k (R2 (a0, o1.2.1, o1.2.2.1, o1.2.2.2, ([o1.1] : List (List Int))))
theorem B7h (k : Nat) (x : H66) : P5 k x = Akk k (Ec k).J (Ec k).L x := by
 refine (Af _ _).trans ?_; apply cutX (Ec k) [] [] (st0 (Ec k).C Tryz.f136 Xh x) [] [(2, [], k)] (Akk k · · x) <;> intros <;> kernel_rfl
noncomputable def Akm (k j2 : Nat) (J : JF H77) (L : LF H77) : Aki → Option H77
 | (a0, a1, a2, a3, a4) => ((Il k) (([44] : List Int), a1, a2, a3)).bind fun o1 => bif o1.1 then (((Fd k) (o1.2.1, o1.2.2.1, o1.2.2.2)).bind fun o2 => bif (((List.length a4 : Nat) : Int) == a0) then (idx zt8 o2.2.2.2.2.1 (0 : Int) fun o3 => bif (o3.1 == (1 : Int)) then (idx zt8 o2.2.2.2.2.1 (0 : Int) fun o4 => ((Pu k) (o4.2.1)).bind fun o5 => bif (!o5) then (((Fw k) ((4 : Int), o2.2.2.2.2.1, o2.2.2.2.2.2.1, o2.2.2.2.2.2.2)).bind fun o6 => J 6 [j2] (Lt (a0, o6.1, o6.2.1, o6.2.2, a4))) else (J 6 [j2] (Lt (a0, o2.2.2.2.2.1, o2.2.2.2.2.2.1, o2.2.2.2.2.2.2, a4)))) else (J 6 [j2] (Lt (a0, o2.2.2.2.2.1, o2.2.2.2.2.2.1, o2.2.2.2.2.2.2, a4)))) else (J 6 [j2] (Lt (a0, o2.2.2.2.2.1, o2.2.2.2.2.2.1, o2.2.2.2.2.2.2, a4)))) else (((Cm k) (([59] : List Int), o1.2.1, o1.2.2.1, o1.2.2.2)).bind fun o7 => some (o7.1, o7.2.1, o7.2.2, a4))
theorem B7j (k j2 : Nat) (x : Aki) : (Ec k).L 2 [] (j2 + 1) (R2 x) = Akm k j2 (Ec k).J (Ec k).L x := by
 apply cutX (Ec k) [.r, .r, .l, .b, .b] [j2] (R2 x) [(6, [j2])] [(2, [], j2)] (Akm k j2 · · x) <;> intros <;> kernel_rfl
noncomputable def Akl (k j2 : Nat) (J : JF H77) (L : LF H77) : Akj → Option H77
 | (a0, a1, a2, a3, a4) => ((Ek k) (a1, a2, a3)).bind fun o1 => app 16 a4 ([o1.1] : List (List Int)) fun o2 => L 2 [] j2 (R2 (a0, o1.2.1, o1.2.2.1, o1.2.2.2, o2))
theorem B7i (k j2 : Nat) (x : Akj) : (Ec k).J 6 [j2] (Lt x) = Akl k j2 (Ec k).J (Ec k).L x := by
 apply cutX (Ec k) [.r, .r, .l, .b, .b, .r, .b, .r, .r] [j2] (Lt x) [(6, [j2])] [(2, [], j2)] (Akl k j2 · · x) <;> intros <;> kernel_rfl
theorem Aqq (k : Nat) : Aa Tryz.prog 136 (Aoh k) := Ae (Ec k).C k rfl ⟨⟨P4 k, trivial⟩, ⟨Mx k, trivial⟩, ⟨Jg k, trivial⟩, ⟨Aqn k, trivial⟩, ⟨Ka k, trivial⟩, ⟨Kb k, trivial⟩, trivial⟩ Ad Tryz.func136 (by kernel_rfl)
abbrev H78 : Type := (List (YT8)) × (Int) × (Int) × (List (YT4))
abbrev H79 : Type := (List (YT8)) × (Int) × (Int) × (Bool) × (List (YT4))
def Xf : Sk := ⟨[.lf (.ptr 0 0)], [q2], []⟩
def Aj8 : Sk := ⟨[.agg [.own 0]], Xf.boxes, [some (104, yt4)]⟩
def A8p : Sk := ⟨sparse 36 [(0, .lf (.ptr 0 0)), (2, .lf (.ptr 1 0)), (3, .lf (.ptr 2 0))], [q2, [.nil .sl], [.own 0]], [some (104, yt4)]⟩
abbrev Rz := H78
def Ip : Rz → St := stOf A8p 85
def A8o : Sk := ⟨sparse 36 [(0, .lf (.ptr 0 0)), (2, .lf (.ptr 1 0)), (3, .lf (.ptr 2 0)), (4, .lf (.ptr 3 0))], [q2, [.nil .sl], [.own 0], [.pv .bool, .nil .sl]], [some (104, yt4)]⟩
abbrev Aj4 := H79
def R0 : Aj4 → St := stOf A8o 85
def B64 (k : Nat) : EnvL := [(81, [Js k]), (85, [Mf k]), (88, [Jr k]), (83, [Su k]), (86, [I4 k]), (136, [Aoh k])]
def C1 (k : Nat) : FnX H78 := mkX ({ mkC (B64 k) 85 1 0 with hint := fun i => look none [(5, some A8p), (10, some A8o)] i, bl := [54, 56] }) k Tryz.f137 Aj8
def Vw (k : Nat) : H65 → Option H78 := hid (Ac (C1 k).C k Tryz.f137 Xf Aj8)
def Bm0 (k : Nat) : Sig := Ab Xf Aj8 (Vw k)
noncomputable def Aj5 (k : Nat) (J : JF H78) (L : LF H78) : H65 → Option H78
 | (a0, a1, a2) => ((Cm k) (([123] : List Int), a0, a1, a2)).bind fun o1 => ((Il k) (([114, 105, 110, 103] : List Int), o1.1, o1.2.1, o1.2.2)).bind fun o2 => bif (!o2.1) then (((Fw k) ((50 : Int), o2.2.1, o2.2.2.1, o2.2.2.2)).bind fun o3 => J 5 [] (Ip (o3.1, o3.2.1, o3.2.2, []))) else (J 5 [] (Ip (o2.2.1, o2.2.2.1, o2.2.2.2, [])))
theorem B65 (k : Nat) (x : H65) : Vw k x = Aj5 k (C1 k).J (C1 k).L x := by
 refine (Af _ _).trans ?_; apply cutX (C1 k) [] [] (st0 (C1 k).C Tryz.f137 Xf x) [(5, [])] [(5, [], k)] (Aj5 k · · x) <;> intros <;> kernel_rfl
noncomputable def Xe (k : Nat) (J : JF H78) (L : LF H78) : Rz → Option H78
 | (a0, a1, a2, a3) => L 5 [] k (Ip (a0, a1, a2, a3))
theorem A8n (k : Nat) (x : Rz) : (C1 k).J 5 [] (Ip x) = Xe k (C1 k).J (C1 k).L x := by
 apply cutX (C1 k) [.r, .r, .r, .r] [] (Ip x) [(5, [])] [(5, [], k)] (Xe k · · x) <;> intros <;> kernel_rfl
noncomputable def Aj7 (k j5 : Nat) (J : JF H78) (L : LF H78) : Rz → Option H78
 | (a0, a1, a2, a3) => ((Gq k) (([114, 105, 110, 103] : List Int), ((List.length a3 : Nat) : Int), (2 : Int), a0, a1, a2)).bind fun o1 => bif o1.1 then (((Il k) (([102, 114, 101, 101] : List Int), o1.2.1, o1.2.2.1, o1.2.2.2)).bind fun o2 => bif o2.1 then (((Fd k) (o2.2.1, o2.2.2.1, o2.2.2.2)).bind fun o3 => J 10 [j5] (R0 (o3.2.2.2.2.1, o3.2.2.2.2.2.1, o3.2.2.2.2.2.2, o2.1, a3))) else (J 10 [j5] (R0 (o2.2.1, o2.2.2.1, o2.2.2.2, o2.1, a3)))) else (((Cm k) (([125] : List Int), o1.2.1, o1.2.2.1, o1.2.2.2)).bind fun o4 => some (o4.1, o4.2.1, o4.2.2, a3))
theorem B67 (k j5 : Nat) (x : Rz) : (C1 k).L 5 [] (j5 + 1) (Ip x) = Aj7 k j5 (C1 k).J (C1 k).L x := by
 apply cutX (C1 k) [.r, .r, .r, .r, .l, .b, .b] [j5] (Ip x) [(5, []), (10, [j5])] [(5, [], j5)] (Aj7 k j5 · · x) <;> intros <;> kernel_rfl
noncomputable def Aj6 (k j5 : Nat) (J : JF H78) (L : LF H78) : Aj4 → Option H78
 | (a0, a1, a2, a3, a4) => ((P5 k) ((4 : Int), a0, a1, a2)).bind fun o1 => app 32 a4 ([(a3, (o1.2.2.2, ()))] : List (YT4)) fun o2 => L 5 [] j5 (Ip (o1.1, o1.2.1, o1.2.2.1, o2))
theorem B66 (k j5 : Nat) (x : Aj4) : (C1 k).J 10 [j5] (R0 x) = Aj6 k j5 (C1 k).J (C1 k).L x := by
 apply cutX (C1 k) [.r, .r, .r, .r, .l, .b, .b, .r, .b, .r, .r, .r] [j5] (R0 x) [(5, []), (10, [j5])] [(5, [], j5)] (Aj6 k j5 · · x) <;> intros <;> kernel_rfl
theorem Bu3 (k : Nat) : Aa Tryz.prog 137 (Bm0 k) := Ae (C1 k).C k rfl ⟨⟨Kb k, trivial⟩, ⟨Mx k, trivial⟩, ⟨Ka k, trivial⟩, ⟨Vt k, trivial⟩, ⟨Jg k, trivial⟩, ⟨Aqq k, trivial⟩, trivial⟩ Ad Tryz.func137 (by kernel_rfl)
end
noncomputable section
abbrev H80 : Type := (List (YT8)) × (Int) × (Int) × (List Int) × (Int) × (List Int) × (Int) × (List (YT1))
abbrev H81 : Type := (List (YT8)) × (Int) × (Int) × (List Int) × (Int) × (List Int) × (Int) × (List (YT1)) × (List (YT2))
abbrev H82 : Type := (List (YT8)) × (Int) × (Int) × (List Int) × (Int) × (List Int) × (Int) × (List (YT1)) × (List (YT2)) × (List (YT3))
abbrev H83 : Type := (List (YT8)) × (Int) × (Int) × (List Int) × (Int) × (List Int) × (Int) × (List (YT1)) × (List (YT2)) × (List (YT3)) × (List ((List (YT4)) × (Unit)))
abbrev H84 : Type := (List (YT8)) × (Int) × (Int) × (List Int) × (Int) × (List Int) × (Int) × (List (YT1)) × (List (YT2)) × (List (YT3)) × (List ((List (YT4)) × (Unit))) × (List (YT5))
abbrev H85 : Type := (List Int) × (Int) × (List (YT8)) × (Int) × (Int) × (List (YT1)) × (List (YT2)) × (List (YT3)) × (List ((List (YT4)) × (Unit))) × (List (YT5))
def Xi : Sk := ⟨[.lf (.ptr 0 0)], [q2], []⟩
def Ak0 : Sk := ⟨[.agg [.pv .str, .own 0, .own 1, .own 2, .own 3, .own 4, .pv (.int .i64)]], Xi.boxes, [some (95, yt1), some (97, yt2), some (99, yt3), some (102, (.cons (.slice yt4) .nil)), some (106, yt5)]⟩
def A9c : Sk := ⟨sparse 112 [(0, .lf (.ptr 0 0)), (2, .lf (.ptr 1 0)), (3, .lf (.ptr 2 0))], [q2, q7, q13], [some (95, yt1)]⟩
abbrev Akr := H80
def R3 : Akr → St := stOf A9c 161
def A9d : Sk := ⟨sparse 112 [(0, .lf (.ptr 0 0)), (2, .lf (.ptr 1 0)), (3, .lf (.ptr 2 0))], [q2, q7, q16], [some (95, yt1), some (97, yt2)]⟩
abbrev Aks := H81
def No : Aks → St := stOf A9d 161
def A9e : Sk := ⟨sparse 112 [(0, .lf (.ptr 0 0)), (2, .lf (.ptr 1 0)), (3, .lf (.ptr 2 0))], [q2, q7, q18], [some (95, yt1), some (97, yt2), some (99, yt3)]⟩
abbrev Akt := H82
def Np : Akt → St := stOf A9e 161
def A9a : Sk := ⟨sparse 112 [(0, .lf (.ptr 0 0)), (2, .lf (.ptr 1 0)), (3, .lf (.ptr 2 0))], [q2, q7, q21], [some (95, yt1), some (97, yt2), some (99, yt3), some (102, (.cons (.slice yt4) .nil))]⟩
abbrev Akp := H83
def Nm : Akp → St := stOf A9a 161
def A9b : Sk := ⟨sparse 112 [(0, .lf (.ptr 0 0)), (2, .lf (.ptr 1 0)), (3, .lf (.ptr 2 0))], [q2, q7, q23], [some (95, yt1), some (97, yt2), some (99, yt3), some (102, (.cons (.slice yt4) .nil)), some (106, yt5)]⟩
abbrev Akq := H84
def Nn : Akq → St := stOf A9b 161
def B7m (k : Nat) : EnvL := [(133, [Oq k]), (81, [Js k]), (83, [Su k]), (134, [Bm1 k]), (135, [Bm6 k]), (136, [Aoh k]), (137, [Bm0 k])]
def Br (k : Nat) : FnX H85 := mkX ({ mkC (B7m k) 161 1 0 with hint := fun i => look none [(4, some A9c), (6, some A9d), (8, some A9e), (14, some A9a), (16, some A9b)] i, bl := [54, 56], ef := [(27, (([0], []), ([], []))), (39, (([0], []), ([], []))), (78, (([0], []), ([], [126])))], ld := [(24, 9999), (25, 2), (30, 9999), (36, 9999), (37, 2), (42, 9999), (75, 9999), (76, 2), (81, 9999)], sr := [(30, 2), (42, 2), (81, 2)] }) k Tryz.f84 Ak0
def Vz (k : Nat) : H65 → Option H85 := hid (Ac (Br k).C k Tryz.f84 Xi Ak0)
def Bm4 (k : Nat) : Sig := Ab Xi Ak0 (Vz k)
noncomputable def Aku (k : Nat) (J : JF H85) (L : LF H85) : H65 → Option H85
 | (a0, a1, a2) => idx zt8 a0 (0 : Int) fun o1 => ((Ek k) (a0, a1, a2)).bind fun o2 => ((Cm k) (([123] : List Int), o2.2.1, o2.2.2.1, o2.2.2.2)).bind fun o3 => L 4 [] k (R3 (o3.1, o3.2.1, o3.2.2, ([] : List Int), (0 : Int), o2.1, o1.2.2.2.1, []))
theorem B7n (k : Nat) (x : H65) : Vz k x = Aku k (Br k).J (Br k).L x := by
 refine (Af _ _).trans ?_; apply cutX (Br k) [] [] (st0 (Br k).C Tryz.f84 Xi x) [] [(4, [], k), (6, [], k), (8, [], k), (14, [], k), (16, [], k)] (Aku k · · x) <;> intros <;> kernel_rfl
noncomputable def Akx (k j4 : Nat) (J : JF H85) (L : LF H85) : Akr → Option H85
 | (a0, a1, a2, a3, a4, a5, a6, a7) => ((Gq k) (([104, 101, 97, 100] : List Int), ((List.length a7 : Nat) : Int), (16 : Int), a0, a1, a2)).bind fun o1 => bif o1.1 then (((Vx k) (o1.2.1, o1.2.2.1, o1.2.2.2)).bind fun o2 => app 96 a7 ([(o2.1, (o2.2.1, (o2.2.2.1, ((o2.2.2.2.1, (o2.2.2.2.2.1, ())), (o2.2.2.2.2.2.1, (o2.2.2.2.2.2.2.1, (o2.2.2.2.2.2.2.2.1, (o2.2.2.2.2.2.2.2.2.1, (o2.2.2.2.2.2.2.2.2.2.1, (o2.2.2.2.2.2.2.2.2.2.2.1, ()))))))))))] : List (YT1)) fun o3 => L 4 [] j4 (R3 (o2.2.2.2.2.2.2.2.2.2.2.2.1, o2.2.2.2.2.2.2.2.2.2.2.2.2.1, o2.2.2.2.2.2.2.2.2.2.2.2.2.2, a3, a4, a5, a6, o3))) else (L 6 [] k (No (o1.2.1, o1.2.2.1, o1.2.2.2, a3, a4, a5, a6, a7, [])))
theorem B7q (k j4 : Nat) (x : Akr) : (Br k).L 4 [] (j4 + 1) (R3 x) = Akx k j4 (Br k).J (Br k).L x := by
 apply cutX (Br k) [.r, .r, .r, .r, .l, .b, .b] [j4] (R3 x) [] [(4, [], j4), (6, [], k), (8, [], k), (14, [], k), (16, [], k)] (Akx k j4 · · x) <;> intros <;> kernel_rfl
noncomputable def Aky (k j6 : Nat) (J : JF H85) (L : LF H85) : Aks → Option H85
 | (a0, a1, a2, a3, a4, a5, a6, a7, a8) => ((Gq k) (([119, 97, 108, 107] : List Int), ((List.length a8 : Nat) : Int), (8 : Int), a0, a1, a2)).bind fun o1 => bif o1.1 then (((V1 k) (o1.2.1, o1.2.2.1, o1.2.2.2)).bind fun o2 => app 64 a8 ([(o2.1, (o2.2.1, (o2.2.2.1, (o2.2.2.2.1, (o2.2.2.2.2.1, (o2.2.2.2.2.2.1, ()))))))] : List (YT2)) fun o3 => L 6 [] j6 (No (o2.2.2.2.2.2.2.1, o2.2.2.2.2.2.2.2.1, o2.2.2.2.2.2.2.2.2, a3, a4, a5, a6, a7, o3))) else (L 8 [] k (Np (o1.2.1, o1.2.2.1, o1.2.2.2, a3, a4, a5, a6, a7, a8, [])))
theorem B7r (k j6 : Nat) (x : Aks) : (Br k).L 6 [] (j6 + 1) (No x) = Aky k j6 (Br k).J (Br k).L x := by
 apply cutX (Br k) [.r, .r, .r, .r, .r, .l, .b, .b] [j6] (No x) [] [(4, [], k), (6, [], j6), (8, [], k), (14, [], k), (16, [], k)] (Aky k j6 · · x) <;> intros <;> kernel_rfl
noncomputable def Akz (k j8 : Nat) (J : JF H85) (L : LF H85) : Akt → Option H85
 | (a0, a1, a2, a3, a4, a5, a6, a7, a8, a9) => ((Gq k) (([112, 104, 97, 115, 101] : List Int), ((List.length a9 : Nat) : Int), (16 : Int), a0, a1, a2)).bind fun o1 => bif o1.1 then (idx zt8 o1.2.1 (0 : Int) fun o2 => ((Ek k) (o1.2.1, o1.2.2.1, o1.2.2.2)).bind fun o3 => ((Cm k) (([58] : List Int), o3.2.1, o3.2.2.1, o3.2.2.2)).bind fun o4 => ((P5 k) ((16 : Int), o4.1, o4.2.1, o4.2.2)).bind fun o5 => app 48 a9 ([(o3.1, (o5.2.2.2, (o2.2.2.2.1, ())))] : List (YT3)) fun o6 => L 8 [] j8 (Np (o5.1, o5.2.1, o5.2.2.1, a3, a4, a5, a6, a7, a8, o6))) else (L 14 [] k (Nm (o1.2.1, o1.2.2.1, o1.2.2.2, a3, a4, a5, a6, a7, a8, a9, [])))
theorem B7s (k j8 : Nat) (x : Akt) : (Br k).L 8 [] (j8 + 1) (Np x) = Akz k j8 (Br k).J (Br k).L x := by
 apply cutX (Br k) [.r, .r, .r, .r, .r, .r, .l, .b, .b] [j8] (Np x) [] [(4, [], k), (6, [], k), (8, [], j8), (14, [], k), (16, [], k)] (Akz k j8 · · x) <;> intros <;> kernel_rfl
noncomputable def Akv (k j14 : Nat) (J : JF H85) (L : LF H85) : Akp → Option H85
 | (a0, a1, a2, a3, a4, a5, a6, a7, a8, a9, a10) => ((Gq k) (([103, 114, 111, 117, 112] : List Int), ((List.length a10 : Nat) : Int), (4 : Int), a0, a1, a2)).bind fun o1 => bif o1.1 then (((Vw k) (o1.2.1, o1.2.2.1, o1.2.2.2)).bind fun o2 => app 24 a10 ([(o2.2.2.2, ())] : List ((List (YT4)) × (Unit))) fun o3 => L 14 [] j14 (Nm (o2.1, o2.2.1, o2.2.2.1, a3, a4, a5, a6, a7, a8, a9, o3))) else (L 16 [] k (Nn (o1.2.1, o1.2.2.1, o1.2.2.2, a3, a4, a5, a6, a7, a8, a9, a10, [])))
theorem B7o (k j14 : Nat) (x : Akp) : (Br k).L 14 [] (j14 + 1) (Nm x) = Akv k j14 (Br k).J (Br k).L x := by
 apply cutX (Br k) [.r, .r, .r, .r, .r, .r, .r, .l, .b, .b] [j14] (Nm x) [] [(4, [], k), (6, [], k), (8, [], k), (14, [], j14), (16, [], k)] (Akv k j14 · · x) <;> intros <;> kernel_rfl
noncomputable def Akw (k j16 : Nat) (J : JF H85) (L : LF H85) : Akq → Option H85
 | (a0, a1, a2, a3, a4, a5, a6, a7, a8, a9, a10, a11) => ((Gq k) (([102, 111, 101] : List Int), ((List.length a11 : Nat) : Int), (64 : Int), a0, a1, a2)).bind fun o1 => bif o1.1 then (idx zt8 o1.2.1 (0 : Int) fun o2 => ((Ek k) (o1.2.1, o1.2.2.1, o1.2.2.2)).bind fun o3 => ((Ek k) (o3.2.1, o3.2.2.1, o3.2.2.2)).bind fun o4 => ((Cm k) (([59] : List Int), o4.2.1, o4.2.2.1, o4.2.2.2)).bind fun o5 => app 40 a11 ([(o3.1, (o4.1, (o2.2.2.2.1, ())))] : List (YT5)) fun o6 => L 16 [] j16 (Nn (o5.1, o5.2.1, o5.2.2, a3, a4, a5, a6, a7, a8, a9, a10, o6))) else (((Cm k) (([125] : List Int), o1.2.1, o1.2.2.1, o1.2.2.2)).bind fun o7 => some (a5, a6, o7.1, o7.2.1, o7.2.2, a7, a8, a9, a10, a11))
theorem B7p (k j16 : Nat) (x : Akq) : (Br k).L 16 [] (j16 + 1) (Nn x) = Akw k j16 (Br k).J (Br k).L x := by
 apply cutX (Br k) [.r, .r, .r, .r, .r, .r, .r, .r, .l, .b, .b] [j16] (Nn x) [] [(4, [], k), (6, [], k), (8, [], k), (14, [], k), (16, [], j16)] (Akw k j16 · · x) <;> intros <;> kernel_rfl
theorem Bu7 (k : Nat) : Aa Tryz.prog 84 (Bm4 k) := Ae (Br k).C k rfl ⟨⟨P4 k, trivial⟩, ⟨Kb k, trivial⟩, ⟨Vt k, trivial⟩, ⟨Bu4 k, trivial⟩, ⟨Bu9 k, trivial⟩, ⟨Aqq k, trivial⟩, ⟨Bu3 k, trivial⟩, trivial⟩ Ad Tryz.func84 (by kernel_rfl)
abbrev H86 : Type := (List (YT8)) × (Int) × (Int) × (List (YT7))
abbrev H87 : Type := (Int) × (Int) × (List (YT8)) × (Int) × (Int) × (List (YT7))
def Xd : Sk := ⟨[.lf (.ptr 0 0)], [q2], []⟩
def Ajz : Sk := ⟨[.lf (.own 0), .lf (.pv (.int .i64)), .lf (.pv (.int .i64))], Xd.boxes, [some (49, yt7)]⟩
def A8a : Sk := ⟨sparse 59 [(0, .lf (.ptr 0 0)), (5, .lf (.own 0))], [q2], [some (49, yt7)]⟩
abbrev Ajw := H86
def Ry : Ajw → St := stOf A8a 107
def B6v (k : Nat) : EnvL := [(81, [Js k]), (83, [Su k]), (133, [Oq k]), (80, [Ot k])]
def Hu (k : Nat) : FnX H87 := mkX ({ mkC (B6v k) 107 1 0 with hint := fun i => look none [(3, some A8a)] i, bl := [54, 56] }) k Tryz.f87 Ajz
def Vs (k : Nat) : H65 → Option H87 := hid (Ac (Hu k).C k Tryz.f87 Xd Ajz)
def Bmy (k : Nat) : Sig := Ab Xd Ajz (Vs k)
noncomputable def Ajx (k : Nat) (J : JF H87) (L : LF H87) : H65 → Option H87
 | (a0, a1, a2) => ((Cm k) (([123] : List Int), a0, a1, a2)).bind fun o1 => L 3 [] k (Ry (o1.1, o1.2.1, o1.2.2, []))
theorem B6w (k : Nat) (x : H65) : Vs k x = Ajx k (Hu k).J (Hu k).L x := by
 refine (Af _ _).trans ?_; apply cutX (Hu k) [] [] (st0 (Hu k).C Tryz.f87 Xd x) [] [(3, [], k)] (Ajx k · · x) <;> intros <;> kernel_rfl
noncomputable def Ajy (k j3 : Nat) (J : JF H87) (L : LF H87) : Ajw → Option H87
 | (a0, a1, a2, a3) => ((Gq k) (([115, 116, 111, 112] : List Int), ((List.length a3 : Nat) : Int), (12 : Int), a0, a1, a2)).bind fun o1 => bif o1.1 then (idx zt8 o1.2.1 (0 : Int) fun o2 => ((Ek k) (o1.2.1, o1.2.2.1, o1.2.2.2)).bind fun o3 => ((Cm k) (([111, 117, 116] : List Int), o3.2.1, o3.2.2.1, o3.2.2.2)).bind fun o4 => ((Ek k) (o4.1, o4.2.1, o4.2.2)).bind fun o5 => ((Cm k) (([105, 110] : List Int), o5.2.1, o5.2.2.1, o5.2.2.2)).bind fun o6 => ((Ek k) (o6.1, o6.2.1, o6.2.2)).bind fun o7 => ((C0 k) (([97, 104, 101, 97, 100] : List Int), o7.2.1, o7.2.2.1, o7.2.2.2)).bind fun o8 => ((C0 k) (([98, 97, 99, 107] : List Int), o8.2.1, o8.2.2.1, o8.2.2.2)).bind fun o9 => ((Cm k) (([59] : List Int), o9.2.1, o9.2.2.1, o9.2.2.2)).bind fun o10 => app 72 a3 ([(o3.1, (o5.1, (o7.1, (o8.1, (o9.1, (o2.2.2.2.1, ()))))))] : List (YT7)) fun o11 => L 3 [] j3 (Ry (o10.1, o10.2.1, o10.2.2, o11))) else (((C0 k) (([119, 101, 105, 103, 104, 116, 115] : List Int), o1.2.1, o1.2.2.1, o1.2.2.2)).bind fun o12 => ((C0 k) (([] : List Int), o12.2.1, o12.2.2.1, o12.2.2.2)).bind fun o13 => ((Cm k) (([59] : List Int), o13.2.1, o13.2.2.1, o13.2.2.2)).bind fun o14 => ((Cm k) (([125] : List Int), o14.1, o14.2.1, o14.2.2)).bind fun o15 => some (o12.1, o13.1, o15.1, o15.2.1, o15.2.2, a3))
theorem B6x (k j3 : Nat) (x : Ajw) : (Hu k).L 3 [] (j3 + 1) (Ry x) = Ajy k j3 (Hu k).J (Hu k).L x := by
 apply cutX (Hu k) [.r, .r, .r, .l, .b, .b] [j3] (Ry x) [] [(3, [], j3)] (Ajy k j3 · · x) <;> intros <;> kernel_rfl
theorem Bu1 (k : Nat) : Aa Tryz.prog 87 (Bmy k) := Ae (Hu k).C k rfl ⟨⟨Kb k, trivial⟩, ⟨Vt k, trivial⟩, ⟨P4 k, trivial⟩, ⟨P7 k, trivial⟩, trivial⟩ Ad Tryz.func87 (by kernel_rfl)
abbrev H88 : Type := (Int) × (Int) × (Int) × (Int) × (Int) × (Int) × (Int) × (List (YT8)) × (Int) × (Int) × (Int) × (Int) × (Int) × (Int) × (Int) × (Int) × (Int) × (List (YT6))
abbrev H89 : Type := (Int) × (Int) × (Int) × (Int) × (Int) × (Int) × (Int) × (List (YT8)) × (Int) × (Int) × (Int) × (Int) × (Int) × (Int) × (Int) × (Int) × (Int) × (List (YT6)) × (List (YT7))
abbrev H90 : Type := (Int) × (Int) × (Int) × (Int) × (Int) × (Int) × (Int) × (Int) × (Int) × (List (YT6)) × (List (YT7))
def Aja : Sk := ⟨[.lf (.pv (.slice (.int .u8)))], [], []⟩
def Ajb : Sk := ⟨[.agg [.pv (.int .i64), .pv (.int .i64), .pv (.int .i64), .pv (.int .i64), .pv (.int .i64), .own 0, .own 1, .pv (.int .i64), .pv (.int .i64)], .lf (.pv (.int .i64)), .lf (.pv (.int .i64))], [], [some (46, yt6), some (49, yt7)]⟩
def A7x : Sk := ⟨sparse 96 [(2, .lf (.ptr 0 0)), (8, .lf (.ptr 1 0)), (9, .lf (.ptr 2 0))], [q3, q2, q24], [some (46, yt6)]⟩
abbrev Ai4 := H88
def Rw : Ai4 → St := stOf A7x 528
def A7y : Sk := ⟨sparse 96 [(2, .lf (.ptr 0 0)), (8, .lf (.ptr 1 0)), (9, .lf (.ptr 2 0))], [q3, q2, q29], [some (46, yt6), some (49, yt7)]⟩
abbrev Ai5 := H89
def Rx : Ai5 → St := stOf A7y 528
def A7z : Sk := ⟨sparse 96 [(2, .lf (.ptr 0 0)), (8, .lf (.ptr 1 0)), (9, .lf (.ptr 2 0))], [q3, q2, q29], [some (46, yt6), some (49, yt7)]⟩
abbrev Ai6 := H89
def W6 : Ai6 → St := stOf A7z 528
def B6k (k : Nat) : EnvL := [(79, [Bmk k]), (80, [Bm5 k, Ot k]), (81, [Js k]), (82, [Aog k]), (83, [Su k]), (84, [Bm4 k]), (85, [Mf k]), (86, [I4 k]), (87, [Bmy k]), (88, [Jr k])]
def Da (k : Nat) : FnX H90 := mkX ({ mkC (B6k k) 528 0 0 with hint := fun i => look none [(12, some A7x), (20, some A7y), (22, some A7z)] i, bl := [54, 56], ef := [(51, (([1], []), ([], [99, 195, 291, 387, 483])))], ld := [(48, 9999), (49, 2), (54, 9999), (88, 9999), (89, 9999), (90, 1), (92, 9999), (93, 9999), (94, 1)], sr := [(2, 0), (54, 2)] }) k Tryz.f38 Ajb
def Vq (k : Nat) : (List (Int)) → Option H90 := hid (Ac (Da k).C k Tryz.f38 Aja Ajb)
def Bms (k : Nat) : Sig := Ab Aja Ajb (Vq k)
noncomputable def Ai7 (k : Nat) (J : JF H90) (L : LF H90) : (List (Int)) → Option H90
 | a0 => ((Vm k) (a0)).bind fun o1 => bif (o1.1 != (0 : Int)) then (some ((0 : Int), (0 : Int), (0 : Int), (0 : Int), (0 : Int), (0 : Int), (0 : Int), o1.1, o1.2.1, [], [])) else (((V0 k) (([99, 121, 99, 108, 101] : List Int), (0 : Int), (0 : Int), o1.2.2)).bind fun o2 => ((C0 k) (([116, 111] : List Int), o2.2.1, o2.2.2.1, o2.2.2.2)).bind fun o3 => ((C0 k) (([98, 121] : List Int), o3.2.1, o3.2.2.1, o3.2.2.2)).bind fun o4 => ((Cm k) (([59] : List Int), o4.2.1, o4.2.2.1, o4.2.2.2)).bind fun o5 => ((P3 k) (([112, 101, 97, 107] : List Int), o5.1, o5.2.1, o5.2.2)).bind fun o6 => ((Cm k) (([59] : List Int), o6.2.2.1, o6.2.2.2.1, o6.2.2.2.2)).bind fun o7 => L 12 [] k (Rw ((0 : Int), (0 : Int), (0 : Int), (0 : Int), (0 : Int), (0 : Int), (0 : Int), o7.1, o7.2.1, o7.2.2, o2.1, o3.1, o4.1, o6.1, o6.2.1, (0 : Int), (0 : Int), [])))
theorem B6l (k : Nat) (x : (List (Int))) : Vq k x = Ai7 k (Da k).J (Da k).L x := by
 refine (Af _ _).trans ?_; apply cutX (Da k) [] [] (st0 (Da k).C Tryz.f38 Aja x) [(20, []), (22, [])] [(12, [], k)] (Ai7 k · · x) <;> intros <;> kernel_rfl
noncomputable def Ai9 (k j12 : Nat) (J : JF H90) (L : LF H90) : Ai4 → Option H90
 | (a0, a1, a2, a3, a4, a5, a6, a7, a8, a9, a10, a11, a12, a13, a14, a15, a16, a17) => ((Gq k) (([110, 111, 100, 101] : List Int), ((List.length a17 : Nat) : Int), (12 : Int), a7, a8, a9)).bind fun o1 => bif o1.1 then (((Vz k) (o1.2.1, o1.2.2.1, o1.2.2.2)).bind fun o2 => app 144 a17 ([(o2.1, (o2.2.2.2.2.2.1, (o2.2.2.2.2.2.2.1, (o2.2.2.2.2.2.2.2.1, (o2.2.2.2.2.2.2.2.2.1, (o2.2.2.2.2.2.2.2.2.2, (o2.2.1, ())))))))] : List (YT6)) fun o3 => L 12 [] j12 (Rw (a0, a1, a2, a3, a4, a5, a6, o2.2.2.1, o2.2.2.2.1, o2.2.2.2.2.1, a10, a11, a12, a13, a14, a15, a16, o3))) else (((Il k) (([97, 114, 116, 101, 114, 121] : List Int), o1.2.1, o1.2.2.1, o1.2.2.2)).bind fun o4 => bif o4.1 then (((Fd k) (o4.2.1, o4.2.2.1, o4.2.2.2)).bind fun o5 => ((Vs k) (o5.2.2.2.2.1, o5.2.2.2.2.2.1, o5.2.2.2.2.2.2)).bind fun o6 => J 20 [] (Rx (a0, a1, a2, a3, a4, a5, a6, o6.2.2.1, o6.2.2.2.1, o6.2.2.2.2.1, a10, a11, a12, a13, a14, o6.1, o6.2.1, a17, o6.2.2.2.2.2))) else (J 20 [] (Rx (a0, a1, a2, a3, a4, a5, a6, o4.2.1, o4.2.2.1, o4.2.2.2, a10, a11, a12, a13, a14, a15, a16, a17, []))))
theorem B6n (k j12 : Nat) (x : Ai4) : (Da k).L 12 [] (j12 + 1) (Rw x) = Ai9 k j12 (Da k).J (Da k).L x := by
 apply cutX (Da k) [.r, .r, .r, .r, .r, .r, .r, .r, .r, .r, .r, .l, .b, .b] [j12] (Rw x) [(20, []), (22, [])] [(12, [], j12)] (Ai9 k j12 · · x) <;> intros <;> kernel_rfl
noncomputable def Ai8 (k : Nat) (J : JF H90) (L : LF H90) : Ai5 → Option H90
 | (a0, a1, a2, a3, a4, a5, a6, a7, a8, a9, a10, a11, a12, a13, a14, a15, a16, a17, a18) => idx zt8 a7 (0 : Int) fun o1 => bif (o1.1 != (0 : Int)) then (((Fw k) ((50 : Int), a7, a8, a9)).bind fun o2 => J 22 [] (W6 (a0, a1, a2, a3, a4, a5, a6, o2.1, o2.2.1, o2.2.2, a10, a11, a12, a13, a14, a15, a16, a17, a18))) else (J 22 [] (W6 (a0, a1, a2, a3, a4, a5, a6, a7, a8, a9, a10, a11, a12, a13, a14, a15, a16, a17, a18)))
theorem B6m (k : Nat) (x : Ai5) : (Da k).J 20 [] (Rx x) = Ai8 k (Da k).J (Da k).L x := by
 apply cutX (Da k) [.r, .r, .r, .r, .r, .r, .r, .r, .r, .r, .r, .r, .r] [] (Rx x) [(20, []), (22, [])] [(12, [], k)] (Ai8 k · · x) <;> intros <;> kernel_rfl
noncomputable def W7 (k : Nat) (J : JF H90) (L : LF H90) : Ai6 → Option H90
 | (a0, a1, a2, a3, a4, a5, a6, a7, a8, a9, a10, a11, a12, a13, a14, a15, a16, a17, a18) => bif (a8 != (0 : Int)) then (some ((0 : Int), (0 : Int), (0 : Int), (0 : Int), (0 : Int), (0 : Int), (0 : Int), a8, a9, [], [])) else (some (a10, a11, a12, a13, a14, a15, a16, (0 : Int), (0 : Int), a17, a18))
theorem A7w (k : Nat) (x : Ai6) : (Da k).J 22 [] (W6 x) = W7 k (Da k).J (Da k).L x := by
 apply cutX (Da k) [.r, .r, .r, .r, .r, .r, .r, .r, .r, .r, .r, .r, .r, .r] [] (W6 x) [(20, []), (22, [])] [(12, [], k)] (W7 k · · x) <;> intros <;> kernel_rfl
theorem Buv (k : Nat) : Aa Tryz.prog 38 (Bms k) := Ae (Da k).C k rfl ⟨⟨Bun k, trivial⟩, ⟨Bu8 k, P7 k, trivial⟩, ⟨Kb k, trivial⟩, ⟨Aqp k, trivial⟩, ⟨Vt k, trivial⟩, ⟨Bu7 k, trivial⟩, ⟨Mx k, trivial⟩, ⟨Jg k, trivial⟩, ⟨Bu1 k, trivial⟩, ⟨Ka k, trivial⟩, trivial⟩ Ad Tryz.func38 (by kernel_rfl)
def Ber : Sk := ⟨[], [], []⟩
def Bes : Sk := ⟨[.lf (.pv .bool)], [], []⟩
def Caw (k : Nat) : EnvL := [(39, [Bn8 k]), (38, [Bms k]), (8, [Aoi k]), (10, [Y1 k])]
def Bep (k : Nat) : Cfg := { mkC (Caw k) 89 0 0 with bl := [54, 56] }
def Mz (k : Nat) : Unit → Option Bool := hid (Ac (Bep k) k Tryz.f12 Ber Bes)
def Bn6 (k : Nat) : Sig := Ab Ber Bes (Mz k)
noncomputable def Beq (k : Nat) : Unit → Option Bool
 | _ => ((Qo k) (())).bind fun o1 => ((Vq k) (o1)).bind fun o2 => ((My k) (o2.1, o2.2.1, o2.2.2.1, o2.2.2.2.1, o2.2.2.2.2.1, o2.2.2.2.2.2.2.2.2.2.1, o2.2.2.2.2.2.2.2.2.2.2, o2.2.2.2.2.2.1, o2.2.2.2.2.2.2.1)).bind fun o3 => bif (o2.2.2.2.2.2.2.2.1 == (0 : Int)) then (bif (o3.2 == (0 : Int)) then (((Lb k) (o2.1, o2.2.1, o2.2.2.1, o2.2.2.2.1, o2.2.2.2.2.1, o2.2.2.2.2.2.2.2.2.2.1, o2.2.2.2.2.2.2.2.2.2.2, o2.2.2.2.2.2.1, o2.2.2.2.2.2.2.1)).bind fun o4 => bif o4 then (((Qo k) (())).bind fun o5 => bif (o3.1 == o5) then (((Lb k) ((-1 : Int), (0 : Int), (0 : Int), (0 : Int), (0 : Int), [], [], (0 : Int), (0 : Int))).bind fun o6 => some (!o6)) else (some false)) else (some false)) else (some false)) else (some false)
theorem Cax (k : Nat) (x : Unit) : Mz k x = Beq k x := (Af _ _).trans (by kernel_rfl)
theorem Bwi (k : Nat) : Aa Tryz.prog 12 (Bn6 k) := Ae (Bep k) k rfl ⟨⟨Bwk k, trivial⟩, ⟨Buv k, trivial⟩, ⟨Aqr k, trivial⟩, ⟨Ab6 k, trivial⟩, trivial⟩ Ad Tryz.func12 (by kernel_rfl)
abbrev H91 : Type := (List Int) × (List (YT8))
def fpwordi : Sk := ⟨[.lf (.ptr 0 0), .lf (.pv .str)], [[.own 0]], [some (135, yt8)]⟩
def fpwordo : Sk := ⟨[.lf (.fn 142 [] [(1, 0), (2, 0)])], [[.own 0], [.ptr 0 0], [.pv .str]], [some (135, yt8)]⟩
def A6u (k : Nat) : Cfg := { mkC [] 54 1 1 with bl := [54, 56] }
def cpword (k : Nat) : H91 → Option H91 := hid (Ac (A6u k) k Tryz.f93 fpwordi fpwordo)
def sgpword (k : Nat) : Sig := Ab fpwordi fpwordo (cpword k)
noncomputable def A6x (k : Nat) : H91 → Option H91
 | (a0, a1) => some (a0, a1)
theorem B50 (k : Nat) (x : H91) : cpword k x = A6x k x := (Af _ _).trans (by kernel_rfl)
theorem Bul (k : Nat) : Aa Tryz.prog 93 (sgpword k) := Ae (A6u k) (l := []) k rfl trivial Ad Tryz.func93 (by kernel_rfl)
abbrev H92 : Type := (Int) × (Int) × (Int) × (Int) × (Int) × (Int) × (Int) × (List (YT8))
def fpnumi : Sk := ⟨[.lf (.ptr 0 0), .lf (.ptr 1 0)], [[.own 0], q3], [some (135, yt8)]⟩
def fpnumo : Sk := ⟨[.lf (.fn 146 [] [(2, 0), (3, 0)])], [[.own 0], q3, [.ptr 0 0], [.ptr 1 0]], [some (135, yt8)]⟩
def A4x (k : Nat) : Cfg := { mkC [] 54 2 1 with bl := [54, 56] }
def cpnum (k : Nat) : H92 → Option H92 := hid (Ac (A4x k) k Tryz.f94 fpnumi fpnumo)
def sgpnum (k : Nat) : Sig := Ab fpnumi fpnumo (cpnum k)
noncomputable def A4z (k : Nat) : H92 → Option H92
 | (a0, a1, a2, a3, a4, a5, a6, a7) => some (a0, a1, a2, a3, a4, a5, a6, a7)
theorem fpnum_e (k : Nat) (x : H92) : cpnum k x = A4z k x := (Af _ _).trans (by kernel_rfl)
theorem Bt0 (k : Nat) : Aa Tryz.prog 94 (sgpnum k) := Ae (A4x k) (l := []) k rfl trivial Ad Tryz.func94 (by kernel_rfl)
def A15 : Sk := ⟨[.lf (.ptr 0 0), .lf (.ptr 1 1)], [[.own 0], q3], [some (135, yt8)]⟩
def A16 : Sk := ⟨[.lf (.fn 146 [] [(2, 0), (3, 0)])], [[.own 0], q3, [.ptr 0 0], [.ptr 1 1]], [some (135, yt8)]⟩
def A13 (k : Nat) : Cfg := { mkC [] 54 2 1 with bl := [54, 56] }
def Abg (k : Nat) : H92 → Option H92 := hid (Ac (A13 k) k Tryz.f94 A15 A16)
def Bk1 (k : Nat) : Sig := Ab A15 A16 (Abg k)
noncomputable def A14 (k : Nat) : H92 → Option H92
 | (a0, a1, a2, a3, a4, a5, a6, a7) => some (a0, a1, a2, a3, a4, a5, a6, a7)
theorem B3v (k : Nat) (x : H92) : Abg k x = A14 k x := (Af _ _).trans (by kernel_rfl)
theorem Bs5 (k : Nat) : Aa Tryz.prog 94 (Bk1 k) := Ae (A13 k) (l := []) k rfl trivial Ad Tryz.func94 (by kernel_rfl)
def A2d : Sk := ⟨[.lf (.ptr 0 0), .lf (.ptr 1 2)], [[.own 0], q3], [some (135, yt8)]⟩
def A2e : Sk := ⟨[.lf (.fn 146 [] [(2, 0), (3, 0)])], [[.own 0], q3, [.ptr 0 0], [.ptr 1 2]], [some (135, yt8)]⟩
def A2b (k : Nat) : Cfg := { mkC [] 54 2 1 with bl := [54, 56] }
def Abr (k : Nat) : H92 → Option H92 := hid (Ac (A2b k) k Tryz.f94 A2d A2e)
def Blc (k : Nat) : Sig := Ab A2d A2e (Abr k)
noncomputable def A2c (k : Nat) : H92 → Option H92
 | (a0, a1, a2, a3, a4, a5, a6, a7) => some (a0, a1, a2, a3, a4, a5, a6, a7)
theorem B3x (k : Nat) (x : H92) : Abr k x = A2c k x := (Af _ _).trans (by kernel_rfl)
theorem Bs7 (k : Nat) : Aa Tryz.prog 94 (Blc k) := Ae (A2b k) (l := []) k rfl trivial Ad Tryz.func94 (by kernel_rfl)
def fpfraci : Sk := ⟨[.lf (.ptr 0 0), .lf (.ptr 1 3)], [[.own 0], q3], [some (135, yt8)]⟩
def fpfraco : Sk := ⟨[.lf (.fn 147 [] [(2, 0), (3, 0)])], [[.own 0], q3, [.ptr 0 0], [.ptr 1 3]], [some (135, yt8)]⟩
def Axo (k : Nat) : Cfg := { mkC [] 54 2 1 with bl := [54, 56] }
def cpfrac (k : Nat) : H92 → Option H92 := hid (Ac (Axo k) k Tryz.f95 fpfraci fpfraco)
def sgpfrac (k : Nat) : Sig := Ab fpfraci fpfraco (cpfrac k)
noncomputable def Axq (k : Nat) : H92 → Option H92
 | (a0, a1, a2, a3, a4, a5, a6, a7) => some (a0, a1, a2, a3, a4, a5, a6, a7)
theorem B12 (k : Nat) (x : H92) : cpfrac k x = Axq k x := (Af _ _).trans (by kernel_rfl)
theorem Brx (k : Nat) : Aa Tryz.prog 95 (sgpfrac k) := Ae (Axo k) (l := []) k rfl trivial Ad Tryz.func95 (by kernel_rfl)
abbrev H93 : Type := (List Int) × (Int) × (Int) × (Int) × (Int) × (Int) × (Int) × (Int) × (Int) × (List (YT8))
abbrev H94 : Type := (Int) × (Int) × (Int) × (Int) × (Int) × (Int) × (Int) × (List Int) × (Int) × (List (YT8))
def Au6 : Sk := ⟨[.lf (.ptr 0 0), .lf (.pv .str), .lf (.pv (.int .i64)), .lf (.ptr 1 5), .lf (.fn 97 [(0, 0)] [])], [[.own 0], q3], [some (135, yt8)]⟩
def Au7 : Sk := ⟨[.lf (.fn 148 [] [(2, 0), (3, 0), (4, 0), (5, 0), (6, 0)])], [[.own 0], q3, [.ptr 0 0], [.pv .str], [.ptr 1 5], [.pv (.int .i64)], [.fn 97 [(0, 0)] []]], [some (135, yt8)]⟩
def Au3 (k : Nat) : Cfg := { mkC [] 60 2 1 with bl := [54, 56] }
def Aan (k : Nat) : H93 → Option H94 := hid (Ac (Au3 k) k Tryz.f96 Au6 Au7)
def Bjm (k : Nat) : Sig := Ab Au6 Au7 (Aan k)
noncomputable def Au5 (k : Nat) : H93 → Option H94
 | (a0, a1, a2, a3, a4, a5, a6, a7, a8, a9) => some (a2, a3, a4, a5, a6, a7, a8, a0, a1, a9)
theorem B0q (k : Nat) (x : H93) : Aan k x = Au5 k x := (Af _ _).trans (by kernel_rfl)
theorem Bq1 (k : Nat) : Aa Tryz.prog 96 (Bjm k) := Ae (Au3 k) (l := []) k rfl trivial Ad Tryz.func96 (by kernel_rfl)
abbrev H95 : Type := (List Int) × (Bool) × (List (YT8))
abbrev H96 : Type := (Bool) × (List Int) × (List (YT8))
def fpmaybei : Sk := ⟨[.lf (.ptr 0 0), .lf (.pv .str), .lf (.ptr 1 0)], [[.own 0], [.pv .bool]], [some (135, yt8)]⟩
def fpmaybeo : Sk := ⟨[.lf (.fn 161 [] [(2, 0), (3, 0), (4, 0)])], [[.own 0], [.pv .bool], [.ptr 0 0], [.pv .str], [.ptr 1 0]], [some (135, yt8)]⟩
def Ayd (k : Nat) : Cfg := { mkC [] 56 2 1 with bl := [54, 56] }
def cpmaybe (k : Nat) : H95 → Option H96 := hid (Ac (Ayd k) k Tryz.f98 fpmaybei fpmaybeo)
def sgpmaybe (k : Nat) : Sig := Ab fpmaybei fpmaybeo (cpmaybe k)
noncomputable def Ayf (k : Nat) : H95 → Option H96
 | (a0, a1, a2) => some (a1, a0, a2)
theorem B2d (k : Nat) (x : H95) : cpmaybe k x = Ayf k x := (Af _ _).trans (by kernel_rfl)
theorem Br3 (k : Nat) : Aa Tryz.prog 98 (sgpmaybe k) := Ae (Ayd k) (l := []) k rfl trivial Ad Tryz.func98 (by kernel_rfl)
def fpisi : Sk := ⟨[.lf (.ptr 0 0), .lf (.pv .str)], [[.own 0]], [some (135, yt8)]⟩
def fpiso : Sk := ⟨[.lf (.pv .bool)], fpisi.boxes, [some (135, yt8)]⟩
def Axy (k : Nat) : Cfg := mkC [] 62 1 1
def cpis (k : Nat) : H91 → Option ((Bool) × (List (YT8))) := hid (Ac (Axy k) k Tryz.f143 fpisi fpiso)
def sgpis (k : Nat) : Sig := Ab fpisi fpiso (cpis k)
noncomputable def Axz (k : Nat) : H91 → Option ((Bool) × (List (YT8)))
 | (a0, a1) => bif (inB (0 : Int) (List.length a1)) then some (((rdA zt8 a1 (Int.toNat (0 : Int))).2.1 == a0), a1) else none
theorem fpis_e (k : Nat) (x : H91) : cpis k x = Axz k x := (Af _ _).trans (by kernel_rfl)
theorem cpis_ok (k : Nat) : Aa Tryz.prog 143 (sgpis k) := Ae (Axy k) (l := []) k rfl trivial Ad Tryz.func143 (by kernel_rfl)
def fpfaili : Sk := ⟨[.lf (.ptr 0 0), .lf (.pv (.int .i64))], [[.own 0]], [some (135, yt8)]⟩
def fpfailo : Sk := ⟨[.lf (.erp 88 [(.int .i64), (.int .i64)])], fpfaili.boxes, [some (135, yt8)]⟩
def Axb (k : Nat) : Cfg := { mkC [] 64 1 1 with bl := [54, 56] }
def cpfail (k : Nat) : ((Int) × (List (YT8))) → Option H62 := hid (Ac (Axb k) k Tryz.f144 fpfaili fpfailo)
def sgpfail (k : Nat) : Sig := Ab fpfaili fpfailo (cpfail k)
noncomputable def Axc (k : Nat) : ((Int) × (List (YT8))) → Option H62
 | (a0, a1) => bif (inB (0 : Int) (List.length a1)) then some (false, a0, (rdA zt8 a1 (Int.toNat (0 : Int))).2.2.2.1, a1) else none
theorem B1w (k : Nat) (x : ((Int) × (List (YT8)))) : cpfail k x = Axc k x := (Af _ _).trans (by kernel_rfl)
theorem Brs (k : Nat) : Aa Tryz.prog 144 (sgpfail k) := Ae (Axb k) (l := []) k rfl trivial Ad Tryz.func144 (by kernel_rfl)
abbrev H97 : Type := (Int) × (List Int) × (Int) × (Int) × (List (YT8))
def fptakei : Sk := ⟨[.lf (.ptr 0 0)], [[.own 0]], [some (135, yt8)]⟩
def fptakeo : Sk := ⟨[.agg [.pv (.int .i64), .pv .str, .pv (.int .i64), .pv (.int .i64)]], [[.pv (.slice yt8)]], [none]⟩
def A6i (k : Nat) : Cfg := { mkC [] 70 1 1 with bl := [54, 56] }
def cptake (k : Nat) : (List (YT8)) → Option H97 := hid (Ac (A6i k) k Tryz.f145 fptakei fptakeo)
def sgptake (k : Nat) : Sig := Ab fptakei fptakeo (cptake k)
noncomputable def A6j (k : Nat) : (List (YT8)) → Option H97
 | a0 => bif (inB (0 : Int) (List.length a0)) then bif ((rdA zt8 a0 (Int.toNat (0 : Int))).1 != (0 : Int)) then (bif (cutB (1 : Int) (((List.length a0) : Nat) : Int) (List.length a0)) then some ((rdA zt8 a0 (Int.toNat (0 : Int))).1, (rdA zt8 a0 (Int.toNat (0 : Int))).2.1, (rdA zt8 a0 (Int.toNat (0 : Int))).2.2.1, (rdA zt8 a0 (Int.toNat (0 : Int))).2.2.2.1, (cutL a0 (1 : Int) (((List.length a0) : Nat) : Int))) else none) else (some ((rdA zt8 a0 (Int.toNat (0 : Int))).1, (rdA zt8 a0 (Int.toNat (0 : Int))).2.1, (rdA zt8 a0 (Int.toNat (0 : Int))).2.2.1, (rdA zt8 a0 (Int.toNat (0 : Int))).2.2.2.1, a0)) else none
theorem B5u (k : Nat) (x : (List (YT8))) : cptake k x = A6j k x := (Af _ _).trans (by kernel_rfl)
theorem Bui (k : Nat) : Aa Tryz.prog 145 (sgptake k) := Ae (A6i k) (l := []) k rfl trivial Ad Tryz.func145 (by kernel_rfl)
abbrev H98 : Type := (Bool) × (Int) × (Int) × (List Int) × (List (YT8))
def A6v : Sk := ⟨[.lf (.ptr 0 0), .lf (.ptr 1 0)], [[.ptr 2 0], [.pv .str], [.own 0]], [some (135, yt8)]⟩
def A6w : Sk := ⟨[.lf (.erp 88 [(.int .i64), (.int .i64)])], [[.ptr 2 0], [.pv .str], [.pv (.slice yt8)]], [none]⟩
def B5y (k : Nat) : EnvL := [(143, [sgpis k]), (144, [sgpfail k]), (145, [sgptake k])]
def A6s (k : Nat) : Cfg := mkC (B5y k) 59 3 1
def Vl (k : Nat) : H91 → Option H98 := hid (Ac (A6s k) k Tryz.f142 A6v A6w)
def Bmi (k : Nat) : Sig := Ab A6v A6w (Vl k)
noncomputable def A6t (k : Nat) : H91 → Option H98
 | (a0, a1) => ((cpis k) (a0, a1)).bind fun o1 => bif (!o1.1) then (((cpfail k) ((50 : Int), o1.2)).bind fun o2 => some (o2.1, o2.2.1, o2.2.2.1, a0, o2.2.2.2)) else (((cptake k) (o1.2)).bind fun o3 => some (true, (0 : Int), (0 : Int), a0, o3.2.2.2.2))
theorem B5z (k : Nat) (x : H91) : Vl k x = A6t k x := (Af _ _).trans (by kernel_rfl)
theorem Buk (k : Nat) : Aa Tryz.prog 142 (Bmi k) := Ae (A6s k) k rfl ⟨⟨cpis_ok k, trivial⟩, ⟨Brs k, trivial⟩, ⟨Bui k, trivial⟩, trivial⟩ Ad Tryz.func142 (by kernel_rfl)
def Ago : Sk := ⟨[.lf (.ptr 0 0), .lf (.pv (.int .i64))], [[.pv (.slice yt8)]], []⟩
def Axa : Sk := ⟨[.lf (.erp 88 [(.int .i64), (.int .i64)])], Ago.boxes, []⟩
def Aw8 (k : Nat) : Cfg := { mkC [] 64 1 0 with bl := [54, 56] }
def A7 (k : Nat) : ((Int) × (List (YT8))) → Option H62 := hid (Ac (Aw8 k) k Tryz.f144 Ago Axa)
def A9 (k : Nat) : Sig := Ab Ago Axa (A7 k)
noncomputable def Aw9 (k : Nat) : ((Int) × (List (YT8))) → Option H62
 | (a0, a1) => idx zt8 a1 (0 : Int) fun o1 => some (false, a0, o1.2.2.2.1, a1)
theorem B1v (k : Nat) (x : ((Int) × (List (YT8)))) : A7 k x = Aw9 k x := (Af _ _).trans (by kernel_rfl)
theorem Bb (k : Nat) : Aa Tryz.prog 144 (A9 k) := Ae (Aw8 k) (l := []) k rfl trivial Ad Tryz.func144 (by kernel_rfl)
def Ah7 : Sk := ⟨[.lf (.ptr 0 0)], [[.pv (.slice yt8)]], []⟩
def A6h : Sk := ⟨[.agg [.pv (.int .i64), .pv .str, .pv (.int .i64), .pv (.int .i64)]], Ah7.boxes, []⟩
def A6f (k : Nat) : Cfg := { mkC [] 70 1 0 with bl := [54, 56] }
def A4 (k : Nat) : (List (YT8)) → Option H97 := hid (Ac (A6f k) k Tryz.f145 Ah7 A6h)
def Ba (k : Nat) : Sig := Ab Ah7 A6h (A4 k)
noncomputable def A6g (k : Nat) : (List (YT8)) → Option H97
 | a0 => idx zt8 a0 (0 : Int) fun o1 => bif (o1.1 != (0 : Int)) then (cut a0 (1 : Int) (((List.length a0) : Nat) : Int) fun o2 => some (o1.1, o1.2.1, o1.2.2.1, o1.2.2.2.1, o2)) else (some (o1.1, o1.2.1, o1.2.2.1, o1.2.2.2.1, a0))
theorem B5t (k : Nat) (x : (List (YT8))) : A4 k x = A6g k x := (Af _ _).trans (by kernel_rfl)
theorem Bc (k : Nat) : Aa Tryz.prog 145 (Ba k) := Ae (A6f k) (l := []) k rfl trivial Ad Tryz.func145 (by kernel_rfl)
abbrev H99 : Type := (List (YT8)) × (Int) × (Int) × (Int) × (Int) × (Int) × (Int) × (Int)
abbrev H100 : Type := (Bool) × (Int) × (Int) × (List (YT8)) × (Int) × (Int) × (Int) × (Int) × (Int) × (Int) × (Int)
def Ahz : Sk := ⟨[.lf (.ptr 0 0), .lf (.ptr 1 0)], [[.ptr 2 0], [.ptr 3 0], [.pv (.slice yt8)], q3], []⟩
def A4y : Sk := ⟨[.lf (.erp 88 [(.int .i64), (.int .i64)])], Ahz.boxes, []⟩
def fpnumCE (k : Nat) : EnvL := [(144, [A9 k]), (145, [Ba k])]
def A4v (k : Nat) : Cfg := { mkC (fpnumCE k) 66 4 0 with ef := [(15, (([2], []), ([], [])))], ld := [(13, 1), (14, 0), (17, 9999)], sr := [(17, 3)] }
def Us (k : Nat) : H99 → Option H100 := hid (Ac (A4v k) k Tryz.f146 Ahz A4y)
def Bll (k : Nat) : Sig := Ab Ahz A4y (Us k)
noncomputable def A4w (k : Nat) : H99 → Option H100
 | (a0, a1, a2, a3, a4, a5, a6, a7) => idx zt8 a0 (0 : Int) fun o1 => bif (o1.1 != (2 : Int)) then (((A7 k) ((50 : Int), a0)).bind fun o2 => some (o2.1, o2.2.1, o2.2.2.1, o2.2.2.2, a1, a2, a3, a4, a5, a6, a7)) else (((A4 k) (a0)).bind fun o3 => some (true, (0 : Int), (0 : Int), o3.2.2.2.2, o3.2.2.1, a2, a3, a4, a5, a6, a7))
theorem B49 (k : Nat) (x : H99) : Us k x = A4w k x := (Af _ _).trans (by kernel_rfl)
theorem Btz (k : Nat) : Aa Tryz.prog 146 (Bll k) := Ae (A4v k) k rfl ⟨⟨Bb k, trivial⟩, ⟨Bc k, trivial⟩, trivial⟩ Ad Tryz.func146 (by kernel_rfl)
def Agr : Sk := ⟨[.lf (.ptr 0 0), .lf (.pv .str)], [[.pv (.slice yt8)]], []⟩
def Axx : Sk := ⟨[.lf (.pv .bool)], Agr.boxes, []⟩
def Axv (k : Nat) : Cfg := mkC [] 62 1 0
def Dh (k : Nat) : H91 → Option ((Bool) × (List (YT8))) := hid (Ac (Axv k) k Tryz.f143 Agr Axx)
def Ep (k : Nat) : Sig := Ab Agr Axx (Dh k)
noncomputable def Axw (k : Nat) : H91 → Option ((Bool) × (List (YT8)))
 | (a0, a1) => idx zt8 a1 (0 : Int) fun o1 => some ((o1.2.1 == a0), a1)
theorem B16 (k : Nat) (x : H91) : Dh k x = Axw k x := (Af _ _).trans (by kernel_rfl)
theorem Et (k : Nat) : Aa Tryz.prog 143 (Ep k) := Ae (Axv k) (l := []) k rfl trivial Ad Tryz.func143 (by kernel_rfl)
def Ah8 : Sk := ⟨[.lf (.ptr 0 0), .lf (.ptr 1 0)], [[.ptr 2 0], [.pv .str], [.pv (.slice yt8)]], []⟩
def A6r : Sk := ⟨[.lf (.erp 88 [(.int .i64), (.int .i64)])], Ah8.boxes, []⟩
def B5w (k : Nat) : EnvL := [(143, [Ep k]), (144, [A9 k]), (145, [Ba k])]
def A6p (k : Nat) : Cfg := mkC (B5w k) 59 3 0
def Bj (k : Nat) : H91 → Option H98 := hid (Ac (A6p k) k Tryz.f142 Ah8 A6r)
def Fm (k : Nat) : Sig := Ab Ah8 A6r (Bj k)
noncomputable def A6q (k : Nat) : H91 → Option H98
 | (a0, a1) => ((Dh k) (a0, a1)).bind fun o1 => bif (!o1.1) then (((A7 k) ((50 : Int), o1.2)).bind fun o2 => some (o2.1, o2.2.1, o2.2.2.1, a0, o2.2.2.2)) else (((A4 k) (o1.2)).bind fun o3 => some (true, (0 : Int), (0 : Int), a0, o3.2.2.2.2))
theorem B5x (k : Nat) (x : H91) : Bj k x = A6q k x := (Af _ _).trans (by kernel_rfl)
theorem Fv (k : Nat) : Aa Tryz.prog 142 (Fm k) := Ae (A6p k) k rfl ⟨⟨Et k, trivial⟩, ⟨Bb k, trivial⟩, ⟨Bc k, trivial⟩, trivial⟩ Ad Tryz.func142 (by kernel_rfl)
def Ahp : Sk := ⟨[.lf (.ptr 0 0), .lf (.ptr 1 0)], [[.ptr 2 0], [.ptr 3 1], [.pv (.slice yt8)], q3], []⟩
def A33 : Sk := ⟨[.lf (.erp 88 [(.int .i64), (.int .i64)])], Ahp.boxes, []⟩
def B4p (k : Nat) : EnvL := [(144, [A9 k]), (145, [Ba k])]
def A31 (k : Nat) : Cfg := { mkC (B4p k) 66 4 0 with ef := [(15, (([2], []), ([], [])))], ld := [(13, 1), (14, 0), (17, 9999)], sr := [(17, 3)] }
def Ut (k : Nat) : H99 → Option H100 := hid (Ac (A31 k) k Tryz.f146 Ahp A33)
def Blm (k : Nat) : Sig := Ab Ahp A33 (Ut k)
noncomputable def A32 (k : Nat) : H99 → Option H100
 | (a0, a1, a2, a3, a4, a5, a6, a7) => idx zt8 a0 (0 : Int) fun o1 => bif (o1.1 != (2 : Int)) then (((A7 k) ((50 : Int), a0)).bind fun o2 => some (o2.1, o2.2.1, o2.2.2.1, o2.2.2.2, a1, a2, a3, a4, a5, a6, a7)) else (((A4 k) (a0)).bind fun o3 => some (true, (0 : Int), (0 : Int), o3.2.2.2.2, a1, o3.2.2.1, a3, a4, a5, a6, a7))
theorem B4q (k : Nat) (x : H99) : Ut k x = A32 k x := (Af _ _).trans (by kernel_rfl)
theorem Btp (k : Nat) : Aa Tryz.prog 146 (Blm k) := Ae (A31 k) k rfl ⟨⟨Bb k, trivial⟩, ⟨Bc k, trivial⟩, trivial⟩ Ad Tryz.func146 (by kernel_rfl)
def Ahr : Sk := ⟨[.lf (.ptr 0 0), .lf (.ptr 1 0)], [[.ptr 2 0], [.ptr 3 2], [.pv (.slice yt8)], q3], []⟩
def A39 : Sk := ⟨[.lf (.erp 88 [(.int .i64), (.int .i64)])], Ahr.boxes, []⟩
def B4t (k : Nat) : EnvL := [(144, [A9 k]), (145, [Ba k])]
def A37 (k : Nat) : Cfg := { mkC (B4t k) 66 4 0 with ef := [(15, (([2], []), ([], [])))], ld := [(13, 1), (14, 0), (17, 9999)], sr := [(17, 3)] }
def U4 (k : Nat) : H99 → Option H100 := hid (Ac (A37 k) k Tryz.f146 Ahr A39)
def Blx (k : Nat) : Sig := Ab Ahr A39 (U4 k)
noncomputable def A38 (k : Nat) : H99 → Option H100
 | (a0, a1, a2, a3, a4, a5, a6, a7) => idx zt8 a0 (0 : Int) fun o1 => bif (o1.1 != (2 : Int)) then (((A7 k) ((50 : Int), a0)).bind fun o2 => some (o2.1, o2.2.1, o2.2.2.1, o2.2.2.2, a1, a2, a3, a4, a5, a6, a7)) else (((A4 k) (a0)).bind fun o3 => some (true, (0 : Int), (0 : Int), o3.2.2.2.2, a1, a2, o3.2.2.1, a4, a5, a6, a7))
theorem B4u (k : Nat) (x : H99) : U4 k x = A38 k x := (Af _ _).trans (by kernel_rfl)
theorem Btr (k : Nat) : Aa Tryz.prog 146 (Blx k) := Ae (A37 k) k rfl ⟨⟨Bb k, trivial⟩, ⟨Bc k, trivial⟩, trivial⟩ Ad Tryz.func146 (by kernel_rfl)
def A2h : Sk := ⟨[.lf (.ptr 0 0), .lf (.ptr 1 3)], [[.pv (.slice yt8)], q3], []⟩
def A2i : Sk := ⟨[.lf (.fn 146 [] [(2, 0), (3, 0)])], [[.pv (.slice yt8)], q3, [.ptr 0 0], [.ptr 1 3]], []⟩
def A2f (k : Nat) : Cfg := { mkC [] 54 2 0 with bl := [54, 56] }
def Abt (k : Nat) : H99 → Option H99 := hid (Ac (A2f k) k Tryz.f94 A2h A2i)
def Ble (k : Nat) : Sig := Ab A2h A2i (Abt k)
noncomputable def A2g (k : Nat) : H99 → Option H99
 | (a0, a1, a2, a3, a4, a5, a6, a7) => some (a0, a1, a2, a3, a4, a5, a6, a7)
theorem B3y (k : Nat) (x : H99) : Abt k x = A2g k x := (Af _ _).trans (by kernel_rfl)
theorem Bs8 (k : Nat) : Aa Tryz.prog 94 (Ble k) := Ae (A2f k) (l := []) k rfl trivial Ad Tryz.func94 (by kernel_rfl)
abbrev H101 : Type := (List (YT8)) × (List Int)
def A6n : Sk := ⟨[.lf (.ptr 0 0), .lf (.pv .str)], [[.pv (.slice yt8)]], []⟩
def A6o : Sk := ⟨[.lf (.fn 142 [] [(1, 0), (2, 0)])], [[.pv (.slice yt8)], [.ptr 0 0], [.pv .str]], []⟩
def A6m (k : Nat) : Cfg := { mkC [] 54 1 0 with bl := [54, 56] }
def Bp (k : Nat) : H91 → Option H101 := hid (Ac (A6m k) k Tryz.f93 A6n A6o)
def Fl (k : Nat) : Sig := Ab A6n A6o (Bp k)
noncomputable def Fh (k : Nat) : H91 → Option H101
 | (a0, a1) => some (a1, a0)
theorem Fz (k : Nat) (x : H91) : Bp k x = Fh k x := (Af _ _).trans (by kernel_rfl)
theorem Fu (k : Nat) : Aa Tryz.prog 93 (Fl k) := Ae (A6m k) (l := []) k rfl trivial Ad Tryz.func93 (by kernel_rfl)
def A2l : Sk := ⟨[.lf (.ptr 0 0), .lf (.ptr 1 4)], [[.pv (.slice yt8)], q3], []⟩
def A2m : Sk := ⟨[.lf (.fn 146 [] [(2, 0), (3, 0)])], [[.pv (.slice yt8)], q3, [.ptr 0 0], [.ptr 1 4]], []⟩
def A2j (k : Nat) : Cfg := { mkC [] 54 2 0 with bl := [54, 56] }
def Abu (k : Nat) : H99 → Option H99 := hid (Ac (A2j k) k Tryz.f94 A2l A2m)
def Blf (k : Nat) : Sig := Ab A2l A2m (Abu k)
noncomputable def A2k (k : Nat) : H99 → Option H99
 | (a0, a1, a2, a3, a4, a5, a6, a7) => some (a0, a1, a2, a3, a4, a5, a6, a7)
theorem B3z (k : Nat) (x : H99) : Abu k x = A2k k x := (Af _ _).trans (by kernel_rfl)
theorem Bs9 (k : Nat) : Aa Tryz.prog 94 (Blf k) := Ae (A2j k) (l := []) k rfl trivial Ad Tryz.func94 (by kernel_rfl)
def Ahs : Sk := ⟨[.lf (.ptr 0 0), .lf (.ptr 1 0)], [[.ptr 2 0], [.ptr 3 3], [.pv (.slice yt8)], q3], []⟩
def A4c : Sk := ⟨[.lf (.erp 88 [(.int .i64), (.int .i64)])], Ahs.boxes, []⟩
def B4v (k : Nat) : EnvL := [(144, [A9 k]), (145, [Ba k])]
def A4a (k : Nat) : Cfg := { mkC (B4v k) 66 4 0 with ef := [(15, (([2], []), ([], [])))], ld := [(13, 1), (14, 0), (17, 9999)], sr := [(17, 3)] }
def U6 (k : Nat) : H99 → Option H100 := hid (Ac (A4a k) k Tryz.f146 Ahs A4c)
def Blz (k : Nat) : Sig := Ab Ahs A4c (U6 k)
noncomputable def A4b (k : Nat) : H99 → Option H100
 | (a0, a1, a2, a3, a4, a5, a6, a7) => idx zt8 a0 (0 : Int) fun o1 => bif (o1.1 != (2 : Int)) then (((A7 k) ((50 : Int), a0)).bind fun o2 => some (o2.1, o2.2.1, o2.2.2.1, o2.2.2.2, a1, a2, a3, a4, a5, a6, a7)) else (((A4 k) (a0)).bind fun o3 => some (true, (0 : Int), (0 : Int), o3.2.2.2.2, a1, a2, a3, o3.2.2.1, a5, a6, a7))
theorem B4w (k : Nat) (x : H99) : U6 k x = A4b k x := (Af _ _).trans (by kernel_rfl)
theorem Bts (k : Nat) : Aa Tryz.prog 146 (Blz k) := Ae (A4a k) k rfl ⟨⟨Bb k, trivial⟩, ⟨Bc k, trivial⟩, trivial⟩ Ad Tryz.func146 (by kernel_rfl)
def Aht : Sk := ⟨[.lf (.ptr 0 0), .lf (.ptr 1 0)], [[.ptr 2 0], [.ptr 3 4], [.pv (.slice yt8)], q3], []⟩
def A4f : Sk := ⟨[.lf (.erp 88 [(.int .i64), (.int .i64)])], Aht.boxes, []⟩
def B4x (k : Nat) : EnvL := [(144, [A9 k]), (145, [Ba k])]
def A4d (k : Nat) : Cfg := { mkC (B4x k) 66 4 0 with ef := [(15, (([2], []), ([], [])))], ld := [(13, 1), (14, 0), (17, 9999)], sr := [(17, 3)] }
def U7 (k : Nat) : H99 → Option H100 := hid (Ac (A4d k) k Tryz.f146 Aht A4f)
def Bl0 (k : Nat) : Sig := Ab Aht A4f (U7 k)
noncomputable def A4e (k : Nat) : H99 → Option H100
 | (a0, a1, a2, a3, a4, a5, a6, a7) => idx zt8 a0 (0 : Int) fun o1 => bif (o1.1 != (2 : Int)) then (((A7 k) ((50 : Int), a0)).bind fun o2 => some (o2.1, o2.2.1, o2.2.2.1, o2.2.2.2, a1, a2, a3, a4, a5, a6, a7)) else (((A4 k) (a0)).bind fun o3 => some (true, (0 : Int), (0 : Int), o3.2.2.2.2, a1, a2, a3, a4, o3.2.2.1, a6, a7))
theorem B4y (k : Nat) (x : H99) : U7 k x = A4e k x := (Af _ _).trans (by kernel_rfl)
theorem Btt (k : Nat) : Aa Tryz.prog 146 (Bl0 k) := Ae (A4d k) k rfl ⟨⟨Bb k, trivial⟩, ⟨Bc k, trivial⟩, trivial⟩ Ad Tryz.func146 (by kernel_rfl)
abbrev H102 : Type := (List (YT8)) × (List Int) × (Int) × (Int) × (Int) × (Int) × (Int) × (Int) × (Int)
abbrev H103 : Type := (Bool) × (Int) × (Int) × (List (YT8)) × (List Int) × (Int) × (Int) × (Int) × (Int) × (Int) × (Int) × (Int)
def Agh : Sk := ⟨[.lf (.ptr 0 0), .lf (.sb 1 3)], [[.pv (.slice yt8)], q6, [.ptr 0 0], [.ptr 8 3], [.ptr 0 0], [.pv .str], [.ptr 0 0], [.ptr 8 4], q3], []⟩
def Awd : Sk := ⟨[.lf (.erp 88 [(.int .i64), (.int .i64)])], Agh.boxes, []⟩
def B1f (k : Nat) : EnvL := [(146, [Blz k, Bl0 k]), (142, [Fm k])]
def Awb (k : Nat) : Cfg := mkC (B1f k) 68 9 0
def Aat (k : Nat) : H102 → Option H103 := hid (Ac (Awb k) (k + 32) Tryz.f92 Agh Awd)
def Bjw (k : Nat) : Sig := Ab Agh Awd (Aat k)
noncomputable def Awc (k : Nat) : H102 → Option H103
 | (a0, a1, a2, a3, a4, a5, a6, a7, a8) => ((U6 k) (a0, a2, a3, a4, a5, a6, a7, a8)).bind fun o1 => bif (!o1.1) then (some (o1.1, o1.2.1, o1.2.2.1, o1.2.2.2.1, a1, o1.2.2.2.2.1, o1.2.2.2.2.2.1, o1.2.2.2.2.2.2.1, o1.2.2.2.2.2.2.2.1, o1.2.2.2.2.2.2.2.2.1, o1.2.2.2.2.2.2.2.2.2.1, o1.2.2.2.2.2.2.2.2.2.2)) else (((Bj k) (a1, o1.2.2.2.1)).bind fun o2 => bif (!o2.1) then (some (o2.1, o2.2.1, o2.2.2.1, o2.2.2.2.2, o2.2.2.2.1, o1.2.2.2.2.1, o1.2.2.2.2.2.1, o1.2.2.2.2.2.2.1, o1.2.2.2.2.2.2.2.1, o1.2.2.2.2.2.2.2.2.1, o1.2.2.2.2.2.2.2.2.2.1, o1.2.2.2.2.2.2.2.2.2.2)) else (((U7 k) (o2.2.2.2.2, o1.2.2.2.2.1, o1.2.2.2.2.2.1, o1.2.2.2.2.2.2.1, o1.2.2.2.2.2.2.2.1, o1.2.2.2.2.2.2.2.2.1, o1.2.2.2.2.2.2.2.2.2.1, o1.2.2.2.2.2.2.2.2.2.2)).bind fun o3 => bif (!o3.1) then (some (o3.1, o3.2.1, o3.2.2.1, o3.2.2.2.1, o2.2.2.2.1, o3.2.2.2.2.1, o3.2.2.2.2.2.1, o3.2.2.2.2.2.2.1, o3.2.2.2.2.2.2.2.1, o3.2.2.2.2.2.2.2.2.1, o3.2.2.2.2.2.2.2.2.2.1, o3.2.2.2.2.2.2.2.2.2.2)) else (some (true, (0 : Int), (0 : Int), o3.2.2.2.1, o2.2.2.2.1, o3.2.2.2.2.1, o3.2.2.2.2.2.1, o3.2.2.2.2.2.2.1, o3.2.2.2.2.2.2.2.1, o3.2.2.2.2.2.2.2.2.1, o3.2.2.2.2.2.2.2.2.2.1, o3.2.2.2.2.2.2.2.2.2.2))))
theorem B1g (k : Nat) (x : H102) : Aat k x = Awc k x := (Af _ _).trans (by kernel_rfl)
theorem Brj (k : Nat) : Aa Tryz.prog 92 (Bjw k) := Ae (Awb k) (k + 32) rfl ⟨⟨Bts k, Btt k, trivial⟩, ⟨Fv k, trivial⟩, trivial⟩ Ad Tryz.func92 (by kernel_rfl)
def Agq : Sk := ⟨[.lf (.ptr 0 0), .lf (.ptr 1 0)], [[.ptr 2 0], [.ptr 3 3], [.pv (.slice yt8)], q3], []⟩
def Axp : Sk := ⟨[.lf (.erp 88 [(.int .i64), (.int .i64)])], Agq.boxes, []⟩
def B10 (k : Nat) : EnvL := [(94, [Ble k, Blf k]), (93, [Fl k]), (92, [Bjw k])]
def Axm (k : Nat) : Cfg := { mkC (B10 k) 84 4 0 with ef := [(8, (([2, 3], []), ([56, 74], []))), (10, (([2], []), ([58, 76], []))), (15, (([2, 3], []), ([63, 81], []))), (17, (([2, 3, 56, 58, 63, 64, 74, 76, 81], []), ([], [])))], ld := [(3, 0), (4, 0), (5, 1), (6, 9999), (7, 9999), (9, 0), (11, 0), (12, 1), (13, 9999), (14, 9999)], rb := [16] }
def Uc (k : Nat) : H99 → Option H100 := hid (Ac (Axm k) k Tryz.f147 Agq Axp)
def Bj9 (k : Nat) : Sig := Ab Agq Axp (Uc k)
noncomputable def Axn (k : Nat) : H99 → Option H100
 | (a0, a1, a2, a3, a4, a5, a6, a7) => ((Abt k) (a0, a1, a2, a3, a4, a5, a6, a7)).bind fun o1 => ((Bp k) (([47] : List Int), o1.1)).bind fun o2 => ((Abu k) (o2.1, o1.2.1, o1.2.2.1, o1.2.2.2.1, o1.2.2.2.2.1, o1.2.2.2.2.2.1, o1.2.2.2.2.2.2.1, o1.2.2.2.2.2.2.2)).bind fun o3 => ((Aat k) (o3.1, o2.2, o3.2.1, o3.2.2.1, o3.2.2.2.1, o3.2.2.2.2.1, o3.2.2.2.2.2.1, o3.2.2.2.2.2.2.1, o3.2.2.2.2.2.2.2)).bind fun o4 => some (o4.1, o4.2.1, o4.2.2.1, o4.2.2.2.1, o4.2.2.2.2.2.1, o4.2.2.2.2.2.2.1, o4.2.2.2.2.2.2.2.1, o4.2.2.2.2.2.2.2.2.1, o4.2.2.2.2.2.2.2.2.2.1, o4.2.2.2.2.2.2.2.2.2.2.1, o4.2.2.2.2.2.2.2.2.2.2.2)
theorem B11 (k : Nat) (x : H99) : Uc k x = Axn k x := (Af _ _).trans (by kernel_rfl)
theorem Brw (k : Nat) : Aa Tryz.prog 147 (Bj9 k) := Ae (Axm k) k rfl ⟨⟨Bs8 k, Bs9 k, trivial⟩, ⟨Fu k, trivial⟩, ⟨Brj k, trivial⟩, trivial⟩ Ad Tryz.func147 (by kernel_rfl)
abbrev H104 : Type := (List (YT8)) × (List Int) × (Int)
def fpplacei : Sk := ⟨[.lf (.ptr 0 0), .lf (.ptr 1 6)], [[.pv (.slice yt8)], q7], []⟩
def fpplaceo : Sk := ⟨[.lf (.fn 191 [] [(2, 0), (3, 0)])], [[.pv (.slice yt8)], q7, [.ptr 0 0], [.ptr 1 6]], []⟩
def A53 (k : Nat) : Cfg := { mkC [] 54 2 0 with bl := [54, 56] }
def cpplace (k : Nat) : H104 → Option H104 := hid (Ac (A53 k) k Tryz.f149 fpplacei fpplaceo)
def sgpplace (k : Nat) : Sig := Ab fpplacei fpplaceo (cpplace k)
noncomputable def A55 (k : Nat) : H104 → Option H104
 | (a0, a1, a2) => some (a0, a1, a2)
theorem B5n (k : Nat) (x : H104) : cpplace k x = A55 k x := (Af _ _).trans (by kernel_rfl)
theorem Bud (k : Nat) : Aa Tryz.prog 149 (sgpplace k) := Ae (A53 k) (l := []) k rfl trivial Ad Tryz.func149 (by kernel_rfl)
def fpnamei : Sk := ⟨[.lf (.ptr 0 0), .lf (.ptr 1 0)], [[.pv (.slice yt8)], q7], []⟩
def fpnameo : Sk := ⟨[.lf (.fn 192 [] [(2, 0), (3, 0)])], [[.pv (.slice yt8)], q7, [.ptr 0 0], [.ptr 1 0]], []⟩
def A0f (k : Nat) : Cfg := { mkC [] 54 2 0 with bl := [54, 56] }
def cpname (k : Nat) : H104 → Option H104 := hid (Ac (A0f k) k Tryz.f150 fpnamei fpnameo)
def sgpname (k : Nat) : Sig := Ab fpnamei fpnameo (cpname k)
noncomputable def A0h (k : Nat) : H104 → Option H104
 | (a0, a1, a2) => some (a0, a1, a2)
theorem B29 (k : Nat) (x : H104) : cpname k x = A0h k x := (Af _ _).trans (by kernel_rfl)
theorem Bso (k : Nat) : Aa Tryz.prog 150 (sgpname k) := Ae (A0f k) (l := []) k rfl trivial Ad Tryz.func150 (by kernel_rfl)
abbrev H105 : Type := (List Int) × (Int) × (List (YT8)) × (List Int) × (Int)
abbrev H106 : Type := (List (YT8)) × (List Int) × (Int) × (List Int) × (Int)
def Au1 : Sk := ⟨[.lf (.ptr 0 0), .lf (.pv .str), .lf (.pv (.int .i64)), .lf (.ptr 1 1), .lf (.fn 152 [(0, 0)] [])], [[.pv (.slice yt8)], q7], []⟩
def Au2 : Sk := ⟨[.lf (.fn 194 [] [(2, 0), (3, 0), (4, 0), (5, 0), (6, 0)])], [[.pv (.slice yt8)], q7, [.ptr 0 0], [.pv .str], [.ptr 1 1], [.pv (.int .i64)], [.fn 152 [(0, 0)] []]], []⟩
def Auy (k : Nat) : Cfg := { mkC [] 60 2 0 with bl := [54, 56] }
def Aam (k : Nat) : H105 → Option H106 := hid (Ac (Auy k) k Tryz.f151 Au1 Au2)
def Bjk (k : Nat) : Sig := Ab Au1 Au2 (Aam k)
noncomputable def Au0 (k : Nat) : H105 → Option H106
 | (a0, a1, a2, a3, a4) => some (a2, a3, a4, a0, a1)
theorem B0n (k : Nat) (x : H105) : Aam k x = Au0 k x := (Af _ _).trans (by kernel_rfl)
theorem Bqz (k : Nat) : Aa Tryz.prog 151 (Bjk k) := Ae (Auy k) (l := []) k rfl trivial Ad Tryz.func151 (by kernel_rfl)
def Avb : Sk := ⟨[.lf (.ptr 0 0), .lf (.pv .str), .lf (.pv (.int .i64)), .lf (.ptr 1 2), .lf (.fn 154 [(0, 0)] [])], [[.pv (.slice yt8)], q7], []⟩
def Avc : Sk := ⟨[.lf (.fn 195 [] [(2, 0), (3, 0), (4, 0), (5, 0), (6, 0)])], [[.pv (.slice yt8)], q7, [.ptr 0 0], [.pv .str], [.ptr 1 2], [.pv (.int .i64)], [.fn 154 [(0, 0)] []]], []⟩
def Au8 (k : Nat) : Cfg := { mkC [] 60 2 0 with bl := [54, 56] }
def Aao (k : Nat) : H105 → Option H106 := hid (Ac (Au8 k) k Tryz.f153 Avb Avc)
def Bjo (k : Nat) : Sig := Ab Avb Avc (Aao k)
noncomputable def Ava (k : Nat) : H105 → Option H106
 | (a0, a1, a2, a3, a4) => some (a2, a3, a4, a0, a1)
theorem B0t (k : Nat) (x : H105) : Aao k x = Ava k x := (Af _ _).trans (by kernel_rfl)
theorem Bq3 (k : Nat) : Aa Tryz.prog 153 (Bjo k) := Ae (Au8 k) (l := []) k rfl trivial Ad Tryz.func153 (by kernel_rfl)
def Avg : Sk := ⟨[.lf (.ptr 0 0), .lf (.pv .str), .lf (.pv (.int .i64)), .lf (.ptr 1 3), .lf (.fn 156 [(0, 0)] [])], [[.pv (.slice yt8)], q7], []⟩
def Avh : Sk := ⟨[.lf (.fn 196 [] [(2, 0), (3, 0), (4, 0), (5, 0), (6, 0)])], [[.pv (.slice yt8)], q7, [.ptr 0 0], [.pv .str], [.ptr 1 3], [.pv (.int .i64)], [.fn 156 [(0, 0)] []]], []⟩
def Avd (k : Nat) : Cfg := { mkC [] 60 2 0 with bl := [54, 56] }
def Aap (k : Nat) : H105 → Option H106 := hid (Ac (Avd k) k Tryz.f155 Avg Avh)
def Bjq (k : Nat) : Sig := Ab Avg Avh (Aap k)
noncomputable def Avf (k : Nat) : H105 → Option H106
 | (a0, a1, a2, a3, a4) => some (a2, a3, a4, a0, a1)
theorem B0w (k : Nat) (x : H105) : Aap k x = Avf k x := (Af _ _).trans (by kernel_rfl)
theorem Bq5 (k : Nat) : Aa Tryz.prog 155 (Bjq k) := Ae (Avd k) (l := []) k rfl trivial Ad Tryz.func155 (by kernel_rfl)
def Auw : Sk := ⟨[.lf (.ptr 0 0), .lf (.pv .str), .lf (.pv (.int .i64)), .lf (.ptr 1 4), .lf (.fn 158 [(0, 0)] [])], [[.pv (.slice yt8)], q7], []⟩
def Aux : Sk := ⟨[.lf (.fn 198 [] [(2, 0), (3, 0), (4, 0), (5, 0), (6, 0)])], [[.pv (.slice yt8)], q7, [.ptr 0 0], [.pv .str], [.ptr 1 4], [.pv (.int .i64)], [.fn 158 [(0, 0)] []]], []⟩
def Aut (k : Nat) : Cfg := { mkC [] 60 2 0 with bl := [54, 56] }
def Aal (k : Nat) : H105 → Option H106 := hid (Ac (Aut k) k Tryz.f157 Auw Aux)
def Bji (k : Nat) : Sig := Ab Auw Aux (Aal k)
noncomputable def Auv (k : Nat) : H105 → Option H106
 | (a0, a1, a2, a3, a4) => some (a2, a3, a4, a0, a1)
theorem B0k (k : Nat) (x : H105) : Aal k x = Auv k x := (Af _ _).trans (by kernel_rfl)
theorem Bqx (k : Nat) : Aa Tryz.prog 157 (Bji k) := Ae (Aut k) (l := []) k rfl trivial Ad Tryz.func157 (by kernel_rfl)
def Aur : Sk := ⟨[.lf (.ptr 0 0), .lf (.pv .str), .lf (.pv (.int .i64)), .lf (.ptr 1 5), .lf (.fn 160 [(0, 0)] [])], [[.pv (.slice yt8)], q7], []⟩
def Aus : Sk := ⟨[.lf (.fn 202 [] [(2, 0), (3, 0), (4, 0), (5, 0), (6, 0)])], [[.pv (.slice yt8)], q7, [.ptr 0 0], [.pv .str], [.ptr 1 5], [.pv (.int .i64)], [.fn 160 [(0, 0)] []]], []⟩
def Auo (k : Nat) : Cfg := { mkC [] 60 2 0 with bl := [54, 56] }
def Aak (k : Nat) : H105 → Option H106 := hid (Ac (Auo k) k Tryz.f159 Aur Aus)
def Bjg (k : Nat) : Sig := Ab Aur Aus (Aak k)
noncomputable def Auq (k : Nat) : H105 → Option H106
 | (a0, a1, a2, a3, a4) => some (a2, a3, a4, a0, a1)
theorem B0h (k : Nat) (x : H105) : Aak k x = Auq k x := (Af _ _).trans (by kernel_rfl)
theorem Bqv (k : Nat) : Aa Tryz.prog 159 (Bjg k) := Ae (Auo k) (l := []) k rfl trivial Ad Tryz.func159 (by kernel_rfl)
def Ah5 : Sk := ⟨[.lf (.ptr 0 0), .lf (.ptr 1 0)], [[.ptr 2 0], [.ptr 3 6], [.pv (.slice yt8)], q7], []⟩
def A54 : Sk := ⟨[.lf (.nil .ifc)], Ah5.boxes, []⟩
def A51 (k : Nat) : Cfg := { mkC [] 60 4 0 with ld := [(3, 1), (4, 0), (5, 9999), (6, 9999), (7, 2), (9, 9999), (10, 9999), (11, 9999)], sr := [(11, 3)] }
def Vd (k : Nat) : H104 → Option H104 := hid (Ac (A51 k) k Tryz.f191 Ah5 A54)
def Bmb (k : Nat) : Sig := Ab Ah5 A54 (Vd k)
noncomputable def A52 (k : Nat) : H104 → Option H104
 | (a0, a1, a2) => idx zt8 a0 (0 : Int) fun o1 => some (a0, a1, o1.2.2.2.1)
theorem B5m (k : Nat) (x : H104) : Vd k x = A52 k x := (Af _ _).trans (by kernel_rfl)
theorem Buc (k : Nat) : Aa Tryz.prog 191 (Bmb k) := Ae (A51 k) (l := []) k rfl trivial Ad Tryz.func191 (by kernel_rfl)
def fpnamedi : Sk := ⟨[.lf (.ptr 0 0)], [[.pv (.slice yt8)]], []⟩
def fpnamedo : Sk := ⟨[.lf (.pv .bool)], fpnamedi.boxes, []⟩
def B3c (k : Nat) : EnvL := [(119, [Y0 k])]
def A0m (k : Nat) : Cfg := mkC (B3c k) 70 1 0
def cpnamed (k : Nat) : (List (YT8)) → Option ((Bool) × (List (YT8))) := hid (Ac (A0m k) k Tryz.f193 fpnamedi fpnamedo)
def sgpnamed (k : Nat) : Sig := Ab fpnamedi fpnamedo (cpnamed k)
noncomputable def A0n (k : Nat) : (List (YT8)) → Option ((Bool) × (List (YT8)))
 | a0 => idx zt8 a0 (0 : Int) fun o1 => bif (o1.1 == (1 : Int)) then (idx zt8 a0 (0 : Int) fun o2 => ((Mp k) (o2.2.1)).bind fun o3 => some ((!o3), a0)) else (some (false, a0))
theorem B3d (k : Nat) (x : (List (YT8))) : cpnamed k x = A0n k x := (Af _ _).trans (by kernel_rfl)
theorem Gp (k : Nat) : Aa Tryz.prog 193 (sgpnamed k) := Ae (A0m k) k rfl ⟨⟨Aag k, trivial⟩, trivial⟩ Ad Tryz.func193 (by kernel_rfl)
abbrev H107 : Type := (Bool) × (Int) × (Int) × (List (YT8)) × (List Int) × (Int)
def Ag4 : Sk := ⟨[.lf (.ptr 0 0), .lf (.ptr 1 0)], [[.ptr 2 0], [.ptr 3 0], [.pv (.slice yt8)], q7], []⟩
def A0g : Sk := ⟨[.lf (.erp 88 [(.int .i64), (.int .i64)])], Ag4.boxes, []⟩
def B27 (k : Nat) : EnvL := [(193, [sgpnamed k]), (144, [A9 k]), (145, [Ba k])]
def A0d (k : Nat) : Cfg := { mkC (B27 k) 61 4 0 with ef := [(10, (([2], []), ([], [])))], ld := [(8, 1), (9, 0), (12, 9999)], sr := [(12, 3)] }
def Uf (k : Nat) : H104 → Option H107 := hid (Ac (A0d k) k Tryz.f192 Ag4 A0g)
def Bkn (k : Nat) : Sig := Ab Ag4 A0g (Uf k)
noncomputable def A0e (k : Nat) : H104 → Option H107
 | (a0, a1, a2) => ((cpnamed k) (a0)).bind fun o1 => bif (!o1.1) then (((A7 k) ((50 : Int), o1.2)).bind fun o2 => some (o2.1, o2.2.1, o2.2.2.1, o2.2.2.2, a1, a2)) else (((A4 k) (o1.2)).bind fun o3 => some (true, (0 : Int), (0 : Int), o3.2.2.2.2, o3.2.1, a2))
theorem B28 (k : Nat) (x : H104) : Uf k x = A0e k x := (Af _ _).trans (by kernel_rfl)
theorem Bsn (k : Nat) : Aa Tryz.prog 192 (Bkn k) := Ae (A0d k) k rfl ⟨⟨Gp k, trivial⟩, ⟨Bb k, trivial⟩, ⟨Bc k, trivial⟩, trivial⟩ Ad Tryz.func192 (by kernel_rfl)
abbrev H108 : Type := (List (YT8)) × (List Int) × (Int) × (Int) × (Int) × (Int) × (Int) × (Int) × (Int) × (Int) × (Int) × (Int)
def A44 : Sk := ⟨[.lf (.ptr 0 0), .lf (.ptr 1 10)], [[.pv (.slice yt8)], q9], []⟩
def A45 : Sk := ⟨[.lf (.fn 191 [] [(2, 0), (3, 0)])], [[.pv (.slice yt8)], q9, [.ptr 0 0], [.ptr 1 10]], []⟩
def A42 (k : Nat) : Cfg := { mkC [] 54 2 0 with bl := [54, 56] }
def Ab0 (k : Nat) : H108 → Option H108 := hid (Ac (A42 k) k Tryz.f149 A44 A45)
def Bl6 (k : Nat) : Sig := Ab A44 A45 (Ab0 k)
noncomputable def A43 (k : Nat) : H108 → Option H108
 | (a0, a1, a2, a3, a4, a5, a6, a7, a8, a9, a10, a11) => some (a0, a1, a2, a3, a4, a5, a6, a7, a8, a9, a10, a11)
theorem B5c (k : Nat) (x : H108) : Ab0 k x = A43 k x := (Af _ _).trans (by kernel_rfl)
theorem Bt2 (k : Nat) : Aa Tryz.prog 149 (Bl6 k) := Ae (A42 k) (l := []) k rfl trivial Ad Tryz.func149 (by kernel_rfl)
def Aym : Sk := ⟨[.lf (.ptr 0 0), .lf (.ptr 1 0)], [[.pv (.slice yt8)], q9], []⟩
def Ayn : Sk := ⟨[.lf (.fn 192 [] [(2, 0), (3, 0)])], [[.pv (.slice yt8)], q9, [.ptr 0 0], [.ptr 1 0]], []⟩
def Ayk (k : Nat) : Cfg := { mkC [] 54 2 0 with bl := [54, 56] }
def Aa6 (k : Nat) : H108 → Option H108 := hid (Ac (Ayk k) k Tryz.f150 Aym Ayn)
def Bke (k : Nat) : Sig := Ab Aym Ayn (Aa6 k)
noncomputable def Ayl (k : Nat) : H108 → Option H108
 | (a0, a1, a2, a3, a4, a5, a6, a7, a8, a9, a10, a11) => some (a0, a1, a2, a3, a4, a5, a6, a7, a8, a9, a10, a11)
theorem B2f (k : Nat) (x : H108) : Aa6 k x = Ayl k x := (Af _ _).trans (by kernel_rfl)
theorem Br5 (k : Nat) : Aa Tryz.prog 150 (Bke k) := Ae (Ayk k) (l := []) k rfl trivial Ad Tryz.func150 (by kernel_rfl)
def A2p : Sk := ⟨[.lf (.ptr 0 0), .lf (.ptr 1 1)], [[.pv (.slice yt8)], q9], []⟩
def A2q : Sk := ⟨[.lf (.fn 146 [] [(2, 0), (3, 0)])], [[.pv (.slice yt8)], q9, [.ptr 0 0], [.ptr 1 1]], []⟩
def A2n (k : Nat) : Cfg := { mkC [] 54 2 0 with bl := [54, 56] }
def Abv (k : Nat) : H108 → Option H108 := hid (Ac (A2n k) k Tryz.f94 A2p A2q)
def Blg (k : Nat) : Sig := Ab A2p A2q (Abv k)
noncomputable def A2o (k : Nat) : H108 → Option H108
 | (a0, a1, a2, a3, a4, a5, a6, a7, a8, a9, a10, a11) => some (a0, a1, a2, a3, a4, a5, a6, a7, a8, a9, a10, a11)
theorem B30 (k : Nat) (x : H108) : Abv k x = A2o k x := (Af _ _).trans (by kernel_rfl)
theorem Bta (k : Nat) : Aa Tryz.prog 94 (Blg k) := Ae (A2n k) (l := []) k rfl trivial Ad Tryz.func94 (by kernel_rfl)
def A2t : Sk := ⟨[.lf (.ptr 0 0), .lf (.ptr 1 2)], [[.pv (.slice yt8)], q9], []⟩
def A2u : Sk := ⟨[.lf (.fn 146 [] [(2, 0), (3, 0)])], [[.pv (.slice yt8)], q9, [.ptr 0 0], [.ptr 1 2]], []⟩
def A2r (k : Nat) : Cfg := { mkC [] 54 2 0 with bl := [54, 56] }
def Abw (k : Nat) : H108 → Option H108 := hid (Ac (A2r k) k Tryz.f94 A2t A2u)
def Blh (k : Nat) : Sig := Ab A2t A2u (Abw k)
noncomputable def A2s (k : Nat) : H108 → Option H108
 | (a0, a1, a2, a3, a4, a5, a6, a7, a8, a9, a10, a11) => some (a0, a1, a2, a3, a4, a5, a6, a7, a8, a9, a10, a11)
theorem B31 (k : Nat) (x : H108) : Abw k x = A2s k x := (Af _ _).trans (by kernel_rfl)
theorem Btb (k : Nat) : Aa Tryz.prog 94 (Blh k) := Ae (A2r k) (l := []) k rfl trivial Ad Tryz.func94 (by kernel_rfl)
def Axh : Sk := ⟨[.lf (.ptr 0 0), .lf (.ptr 1 3)], [[.pv (.slice yt8)], q9], []⟩
def Axi : Sk := ⟨[.lf (.fn 147 [] [(2, 0), (3, 0)])], [[.pv (.slice yt8)], q9, [.ptr 0 0], [.ptr 1 3]], []⟩
def Axf (k : Nat) : Cfg := { mkC [] 54 2 0 with bl := [54, 56] }
def Aa3 (k : Nat) : H108 → Option H108 := hid (Ac (Axf k) k Tryz.f95 Axh Axi)
def Bj8 (k : Nat) : Sig := Ab Axh Axi (Aa3 k)
noncomputable def Axg (k : Nat) : H108 → Option H108
 | (a0, a1, a2, a3, a4, a5, a6, a7, a8, a9, a10, a11) => some (a0, a1, a2, a3, a4, a5, a6, a7, a8, a9, a10, a11)
theorem B1x (k : Nat) (x : H108) : Aa3 k x = Axg k x := (Af _ _).trans (by kernel_rfl)
theorem Bru (k : Nat) : Aa Tryz.prog 95 (Bj8 k) := Ae (Axf k) (l := []) k rfl trivial Ad Tryz.func95 (by kernel_rfl)
def A2x : Sk := ⟨[.lf (.ptr 0 0), .lf (.ptr 1 5)], [[.pv (.slice yt8)], q9], []⟩
def A2y : Sk := ⟨[.lf (.fn 146 [] [(2, 0), (3, 0)])], [[.pv (.slice yt8)], q9, [.ptr 0 0], [.ptr 1 5]], []⟩
def A2v (k : Nat) : Cfg := { mkC [] 54 2 0 with bl := [54, 56] }
def Abx (k : Nat) : H108 → Option H108 := hid (Ac (A2v k) k Tryz.f94 A2x A2y)
def Bli (k : Nat) : Sig := Ab A2x A2y (Abx k)
noncomputable def A2w (k : Nat) : H108 → Option H108
 | (a0, a1, a2, a3, a4, a5, a6, a7, a8, a9, a10, a11) => some (a0, a1, a2, a3, a4, a5, a6, a7, a8, a9, a10, a11)
theorem B32 (k : Nat) (x : H108) : Abx k x = A2w k x := (Af _ _).trans (by kernel_rfl)
theorem Btc (k : Nat) : Aa Tryz.prog 94 (Bli k) := Ae (A2v k) (l := []) k rfl trivial Ad Tryz.func94 (by kernel_rfl)
abbrev H109 : Type := (List Int) × (List (YT8)) × (Bool)
abbrev H110 : Type := (List (YT8)) × (Bool) × (List Int)
def Ax2 : Sk := ⟨[.lf (.ptr 0 0), .lf (.pv .str), .lf (.ptr 1 0)], [[.pv (.slice yt8)], [.pv .bool]], []⟩
def Ax3 : Sk := ⟨[.lf (.fn 161 [] [(2, 0), (3, 0), (4, 0)])], [[.pv (.slice yt8)], [.pv .bool], [.ptr 0 0], [.pv .str], [.ptr 1 0]], []⟩
def Ax0 (k : Nat) : Cfg := { mkC [] 56 2 0 with bl := [54, 56] }
def Aa4 (k : Nat) : H109 → Option H110 := hid (Ac (Ax0 k) k Tryz.f98 Ax2 Ax3)
def Bkb (k : Nat) : Sig := Ab Ax2 Ax3 (Aa4 k)
noncomputable def Ax1 (k : Nat) : H109 → Option H110
 | (a0, a1, a2) => some (a1, a2, a0)
theorem B17 (k : Nat) (x : H109) : Aa4 k x = Ax1 k x := (Af _ _).trans (by kernel_rfl)
theorem Br0 (k : Nat) : Aa Tryz.prog 98 (Bkb k) := Ae (Ax0 k) (l := []) k rfl trivial Ad Tryz.func98 (by kernel_rfl)
def A21 : Sk := ⟨[.lf (.ptr 0 0), .lf (.ptr 1 6)], [[.pv (.slice yt8)], q9], []⟩
def A22 : Sk := ⟨[.lf (.fn 146 [] [(2, 0), (3, 0)])], [[.pv (.slice yt8)], q9, [.ptr 0 0], [.ptr 1 6]], []⟩
def A2z (k : Nat) : Cfg := { mkC [] 54 2 0 with bl := [54, 56] }
def Aby (k : Nat) : H108 → Option H108 := hid (Ac (A2z k) k Tryz.f94 A21 A22)
def Blj (k : Nat) : Sig := Ab A21 A22 (Aby k)
noncomputable def A20 (k : Nat) : H108 → Option H108
 | (a0, a1, a2, a3, a4, a5, a6, a7, a8, a9, a10, a11) => some (a0, a1, a2, a3, a4, a5, a6, a7, a8, a9, a10, a11)
theorem B33 (k : Nat) (x : H108) : Aby k x = A20 k x := (Af _ _).trans (by kernel_rfl)
theorem Btd (k : Nat) : Aa Tryz.prog 94 (Blj k) := Ae (A2z k) (l := []) k rfl trivial Ad Tryz.func94 (by kernel_rfl)
def A25 : Sk := ⟨[.lf (.ptr 0 0), .lf (.ptr 1 7)], [[.pv (.slice yt8)], q9], []⟩
def A26 : Sk := ⟨[.lf (.fn 146 [] [(2, 0), (3, 0)])], [[.pv (.slice yt8)], q9, [.ptr 0 0], [.ptr 1 7]], []⟩
def A23 (k : Nat) : Cfg := { mkC [] 54 2 0 with bl := [54, 56] }
def Abz (k : Nat) : H108 → Option H108 := hid (Ac (A23 k) k Tryz.f94 A25 A26)
def Blk (k : Nat) : Sig := Ab A25 A26 (Abz k)
noncomputable def A24 (k : Nat) : H108 → Option H108
 | (a0, a1, a2, a3, a4, a5, a6, a7, a8, a9, a10, a11) => some (a0, a1, a2, a3, a4, a5, a6, a7, a8, a9, a10, a11)
theorem B34 (k : Nat) (x : H108) : Abz k x = A24 k x := (Af _ _).trans (by kernel_rfl)
theorem Bte (k : Nat) : Aa Tryz.prog 94 (Blk k) := Ae (A23 k) (l := []) k rfl trivial Ad Tryz.func94 (by kernel_rfl)
def A01 : Sk := ⟨[.lf (.ptr 0 0), .lf (.ptr 1 8)], [[.pv (.slice yt8)], q9], []⟩
def A02 : Sk := ⟨[.lf (.fn 146 [] [(2, 0), (3, 0)])], [[.pv (.slice yt8)], q9, [.ptr 0 0], [.ptr 1 8]], []⟩
def A0z (k : Nat) : Cfg := { mkC [] 54 2 0 with bl := [54, 56] }
def Abh (k : Nat) : H108 → Option H108 := hid (Ac (A0z k) k Tryz.f94 A01 A02)
def Bk2 (k : Nat) : Sig := Ab A01 A02 (Abh k)
noncomputable def A00 (k : Nat) : H108 → Option H108
 | (a0, a1, a2, a3, a4, a5, a6, a7, a8, a9, a10, a11) => some (a0, a1, a2, a3, a4, a5, a6, a7, a8, a9, a10, a11)
theorem B3l (k : Nat) (x : H108) : Abh k x = A00 k x := (Af _ _).trans (by kernel_rfl)
theorem Bsv (k : Nat) : Aa Tryz.prog 94 (Bk2 k) := Ae (A0z k) (l := []) k rfl trivial Ad Tryz.func94 (by kernel_rfl)
def A05 : Sk := ⟨[.lf (.ptr 0 0), .lf (.ptr 1 9)], [[.pv (.slice yt8)], q9], []⟩
def A06 : Sk := ⟨[.lf (.fn 146 [] [(2, 0), (3, 0)])], [[.pv (.slice yt8)], q9, [.ptr 0 0], [.ptr 1 9]], []⟩
def A03 (k : Nat) : Cfg := { mkC [] 54 2 0 with bl := [54, 56] }
def Abi (k : Nat) : H108 → Option H108 := hid (Ac (A03 k) k Tryz.f94 A05 A06)
def Bk3 (k : Nat) : Sig := Ab A05 A06 (Abi k)
noncomputable def A04 (k : Nat) : H108 → Option H108
 | (a0, a1, a2, a3, a4, a5, a6, a7, a8, a9, a10, a11) => some (a0, a1, a2, a3, a4, a5, a6, a7, a8, a9, a10, a11)
theorem B3m (k : Nat) (x : H108) : Abi k x = A04 k x := (Af _ _).trans (by kernel_rfl)
theorem Bsw (k : Nat) : Aa Tryz.prog 94 (Bk3 k) := Ae (A03 k) (l := []) k rfl trivial Ad Tryz.func94 (by kernel_rfl)
def Ah0 : Sk := ⟨[.lf (.ptr 0 0), .lf (.ptr 1 0)], [[.ptr 2 0], [.ptr 3 10], [.pv (.slice yt8)], q9], []⟩
def A5o : Sk := ⟨[.lf (.nil .ifc)], Ah0.boxes, []⟩
def A5m (k : Nat) : Cfg := { mkC [] 60 4 0 with ld := [(3, 1), (4, 0), (5, 9999), (6, 9999), (7, 2), (9, 9999), (10, 9999), (11, 9999)], sr := [(11, 3)] }
def Ve (k : Nat) : H108 → Option H108 := hid (Ac (A5m k) k Tryz.f191 Ah0 A5o)
def Bmc (k : Nat) : Sig := Ab Ah0 A5o (Ve k)
noncomputable def A5n (k : Nat) : H108 → Option H108
 | (a0, a1, a2, a3, a4, a5, a6, a7, a8, a9, a10, a11) => idx zt8 a0 (0 : Int) fun o1 => some (a0, a1, a2, a3, a4, a5, a6, a7, a8, a9, a10, o1.2.2.2.1)
theorem B5h (k : Nat) (x : H108) : Ve k x = A5n k x := (Af _ _).trans (by kernel_rfl)
theorem Bt7 (k : Nat) : Aa Tryz.prog 191 (Bmc k) := Ae (A5m k) (l := []) k rfl trivial Ad Tryz.func191 (by kernel_rfl)
end
end Go.Proofs.YtipcabmhdokfjaaGreatDoorV
