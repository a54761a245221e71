import Derived.Test.YtipcdjgcomclkaaGreatDoorF6
import Derived.Test.YtipcdjgcomclkaaGreatDoorF3
/-! Joined, names shortened: G4, VM, LxS, LxP, LxR, LxQ, SR, SR2, NR, NS, QA, QB, QR. -/
set_option linter.unusedVariables false
set_option linter.unusedSimpArgs false
set_option maxHeartbeats 4000000
set_option maxRecDepth 100000
namespace Go.Proofs.YtipcdjgcomclkaaGreatDoorV
open Go Go.RowKit
noncomputable section
def q28 : List SL := [.pv (.int .i64), .pv (.int .i64), .pv (.int .i64), .pv (.int .i64), .pv (.int .i64), .own 1, .own 2, .pv (.int .i64), .pv (.int .i64)]
abbrev H100 : Type := (Int) × (Int) × (Int) × (Int) × (Int) × (Int) × (Int) × (Bool) × (Int) × (Int) × (List (YT8)) × (List (YT6)) × (List (YT7))
def fpneti : Sk := ⟨[.lf (.ptr 0 0)], [[.own 0]], [some (56, yt8)]⟩
def fpneto : Sk := ⟨[.agg [.pv (.int .i64), .pv (.int .i64), .pv (.int .i64), .pv (.int .i64), .pv (.int .i64), .own 1, .own 2, .pv (.int .i64), .pv (.int .i64)], .lf (.erp 68 [(.int .i64), (.int .i64)])], [[.pv (.slice yt8)]], [none, some (45, yt6), some (102, yt7)]⟩
def Amp : Sk := ⟨sparse 75 [(0, .lf (.ptr 0 0)), (2, .lf (.ptr 1 0)), (3, .lf (.erp 68 [(.int .i64), (.int .i64)]))], [[.pv (.slice yt8)], q28], [none, some (45, yt6), some (102, yt7)]⟩
abbrev Ys := H97
def Mw : Ys → St := stOf Amp 168
def fpnetE (k : Nat) : EnvL := [(33, [sgpword k, D5 k]), (34, [sgpnum k, Aza k, Azl k, Azi k, Azj k]), (35, [sgpfrac k]), (36, [Axv k]), (38, [sgpmaybe k]), (32, [sgpall k, Ax8 k, Aya k]), (39, [Ax3 k])]
def fpnet (k : Nat) : FnX H100 := mkX ({ mkC (fpnetE k) 168 1 1 with hint := fun i => look none [(5, some Amp)] i }) k Tryz.f16 fpneto
def cpnet (k : Nat) : (List (YT8)) → Option H100 := hid (Ab (fpnet k).C k Tryz.f16 fpneti fpneto)
def sgpnet (k : Nat) : Sig := Ac fpneti fpneto (cpnet k)
noncomputable def Yt (k : Nat) (J : JF H100) (L : LF H100) : (List (YT8)) → Option H100
 | a0 => ((cpword k) (([99, 121, 99, 108, 101] : List Int), a0)).bind fun o1 => ((cpnum k) ((0 : Int), (0 : Int), (0 : Int), (0 : Int), (0 : Int), (0 : Int), (0 : Int), o1.2)).bind fun o2 => ((cpword k) (([116, 111] : List Int), o2.2.2.2.2.2.2.2)).bind fun o3 => ((Ua k) (o2.1, o2.2.1, o2.2.2.1, o2.2.2.2.1, o2.2.2.2.2.1, o2.2.2.2.2.2.1, o2.2.2.2.2.2.2.1, o3.2)).bind fun o4 => ((cpword k) (([98, 121] : List Int), o4.2.2.2.2.2.2.2)).bind fun o5 => ((Ul k) (o4.1, o4.2.1, o4.2.2.1, o4.2.2.2.1, o4.2.2.2.2.1, o4.2.2.2.2.2.1, o4.2.2.2.2.2.2.1, o5.2)).bind fun o6 => ((cpword k) (([59] : List Int), o6.2.2.2.2.2.2.2)).bind fun o7 => ((cpword k) (([112, 101, 97, 107] : List Int), o7.2)).bind fun o8 => ((cpfrac k) (o6.1, o6.2.1, o6.2.2.1, o6.2.2.2.1, o6.2.2.2.2.1, o6.2.2.2.2.2.1, o6.2.2.2.2.2.2.1, o8.2)).bind fun o9 => ((cpword k) (([59] : List Int), o9.2.2.2.2.2.2.2)).bind fun o10 => ((Te k) (([110, 111, 100, 101] : List Int), (12 : Int), o9.1, o9.2.1, o9.2.2.1, o9.2.2.2.1, o9.2.2.2.2.1, o9.2.2.2.2.2.1, o9.2.2.2.2.2.2.1, o10.2)).bind fun o11 => ((cpmaybe k) (([97, 114, 116, 101, 114, 121] : List Int), false, o11.2.2.2.2.2.2.2.2.2)).bind fun o12 => ((cpall k) (o1.1, o3.1, o5.1, o7.1, o8.1, o10.1, o11.2.2.2.2.2.2.2.1, o11.2.2.2.2.2.2.2.2.1, o12.2.1, o11.1, o11.2.1, o11.2.2.1, o11.2.2.2.1, o11.2.2.2.2.1, o11.2.2.2.2.2.1, o11.2.2.2.2.2.2.1, o12.1, o12.2.2)).bind fun o13 => bif o13.1 then (bif o13.2.2.2.2.2.2.2.2.2.2.2.2.2.2.2.2.2.2.2.2.1 then (((Bk k) (([123] : List Int), o13.2.2.2.1)).bind fun o14 => ((Ti k) (([115, 116, 111, 112] : List Int), (12 : Int), o14.1, o13.2.2.2.2.2.2.2.2.2.2.2.2.2.1, o13.2.2.2.2.2.2.2.2.2.2.2.2.2.2.1, o13.2.2.2.2.2.2.2.2.2.2.2.2.2.2.2.1, o13.2.2.2.2.2.2.2.2.2.2.2.2.2.2.2.2.1, o13.2.2.2.2.2.2.2.2.2.2.2.2.2.2.2.2.2.1, o13.2.2.2.2.2.2.2.2.2.2.2.2.2.2.2.2.2.2.1, o13.2.2.2.2.2.2.2.2.2.2.2.2.2.2.2.2.2.2.2.1, o13.2.2.2.2.2.2.2.2.2.2.2.2.2.2.2.2.2.2.2.2.2)).bind fun o15 => ((Bk k) (([119, 101, 105, 103, 104, 116, 115] : List Int), o15.1)).bind fun o16 => ((Ui k) (o16.1, o15.2.1, o15.2.2.1, o15.2.2.2.1, o15.2.2.2.2.1, o15.2.2.2.2.2.1, o15.2.2.2.2.2.2.1, o15.2.2.2.2.2.2.2.1, o15.2.2.2.2.2.2.2.2.2.2)).bind fun o17 => ((Uj k) (o17.1, o17.2.1, o17.2.2.1, o17.2.2.2.1, o17.2.2.2.2.1, o17.2.2.2.2.2.1, o17.2.2.2.2.2.2.1, o17.2.2.2.2.2.2.2.1, o17.2.2.2.2.2.2.2.2)).bind fun o18 => ((Bk k) (([59] : List Int), o18.1)).bind fun o19 => ((Bk k) (([125] : List Int), o19.1)).bind fun o20 => ((Oo k) (o20.1, o14.2, o15.2.2.2.2.2.2.2.2.1, o15.2.2.2.2.2.2.2.2.2.1, o16.2, o19.2, o20.2, o18.2.1, o18.2.2.1, o18.2.2.2.1, o18.2.2.2.2.1, o18.2.2.2.2.2.1, o18.2.2.2.2.2.2.1, o18.2.2.2.2.2.2.2.1, o18.2.2.2.2.2.2.2.2)).bind fun o21 => J 5 [] (Mw (o21.1, o21.2.1, o21.2.2.1, o21.2.2.2.1, o21.2.2.2.2.2.2.2.2.2.2.1, o21.2.2.2.2.2.2.2.2.2.2.2.1, o21.2.2.2.2.2.2.2.2.2.2.2.2.1, o21.2.2.2.2.2.2.2.2.2.2.2.2.2.1, o21.2.2.2.2.2.2.2.2.2.2.2.2.2.2.1, o21.2.2.2.2.2.2.2.2.2.2.2.2.2.2.2.1, o21.2.2.2.2.2.2.2.2.2.2.2.2.2.2.2.2.1, o21.2.2.2.2.2.2.2.2.2.2.2.2.2.2.2.2.2.1, o21.2.2.2.2.2.2.2.2.2.2.2.2.2.2.2.2.2.2))) else (J 5 [] (Mw (o13.1, o13.2.1, o13.2.2.1, o13.2.2.2.1, o13.2.2.2.2.2.2.2.2.2.2.2.2.2.1, o13.2.2.2.2.2.2.2.2.2.2.2.2.2.2.1, o13.2.2.2.2.2.2.2.2.2.2.2.2.2.2.2.1, o13.2.2.2.2.2.2.2.2.2.2.2.2.2.2.2.2.1, o13.2.2.2.2.2.2.2.2.2.2.2.2.2.2.2.2.2.1, o13.2.2.2.2.2.2.2.2.2.2.2.2.2.2.2.2.2.2.1, o13.2.2.2.2.2.2.2.2.2.2.2.2.2.2.2.2.2.2.2.1, o13.2.2.2.2.2.2.2.2.2.2.2.2.2.2.2.2.2.2.2.2.2, [])))) else (J 5 [] (Mw (o13.1, o13.2.1, o13.2.2.1, o13.2.2.2.1, o13.2.2.2.2.2.2.2.2.2.2.2.2.2.1, o13.2.2.2.2.2.2.2.2.2.2.2.2.2.2.1, o13.2.2.2.2.2.2.2.2.2.2.2.2.2.2.2.1, o13.2.2.2.2.2.2.2.2.2.2.2.2.2.2.2.2.1, o13.2.2.2.2.2.2.2.2.2.2.2.2.2.2.2.2.2.1, o13.2.2.2.2.2.2.2.2.2.2.2.2.2.2.2.2.2.2.1, o13.2.2.2.2.2.2.2.2.2.2.2.2.2.2.2.2.2.2.2.1, o13.2.2.2.2.2.2.2.2.2.2.2.2.2.2.2.2.2.2.2.2.2, [])))
theorem fpnet_e (k : Nat) (x : (List (YT8))) : cpnet k x = Yt k (fpnet k).J (fpnet k).L x := by
 refine (Ad _ _).trans ?_; apply cutX (fpnet k) [] [] (st0 (fpnet k).C Tryz.f16 fpneti x) [(5, [])] [] (Yt k · · x) <;> intros <;> kernel_rfl
noncomputable def Kg (k : Nat) (J : JF H100) (L : LF H100) : Ys → Option H100
 | (a0, a1, a2, a3, a4, a5, a6, a7, a8, a9, a10, a11, a12) => bif a0 then (((Oq k) (a3)).bind fun o1 => some (a4, a5, a6, a7, a8, a9, a10, o1.1, o1.2.1, o1.2.2.1, o1.2.2.2, a11, a12)) else (some (a4, a5, a6, a7, a8, a9, a10, a0, a1, a2, a3, a11, a12))
theorem Qm (k : Nat) (x : Ys) : (fpnet k).J 5 [] (Mw x) = Kg k (fpnet k).J (fpnet k).L x := by
 apply cutX (fpnet k) [.r, .r, .r, .r] [] (Mw x) [(5, [])] [] (Kg k · · x) <;> intros <;> kernel_rfl
theorem A4i (k : Nat) : Aa Tryz.prog 16 (sgpnet k) := Af (fpnet k).C k rfl ⟨⟨A6a k, Ed k, trivial⟩, ⟨A5p k, A4u k, A4w k, A4r k, A4s k, trivial⟩, ⟨A3m k, trivial⟩, ⟨A2t k, trivial⟩, ⟨A3s k, trivial⟩, ⟨A3f k, A25 k, A27 k, trivial⟩, ⟨A21 k, trivial⟩, trivial⟩ Ae Tryz.func16 (by kernel_rfl)
def A7k : Sk := ⟨[.lf (.erp 68 [(.int .i64), (.int .i64)]), .lf (.ifp 70 0 0)], [[.nil .ptr]], []⟩
def A7l : Sk := ⟨[.lf (.pv .bool)], [[.orp [(.int .i64), (.int .i64)]]], []⟩
def S0 (k : Nat) : ((Bool) × (Int) × (Int)) → Option ((Bool) × (Bool) × (Int) × (Int)) := asF
def Axd (k : Nat) : Sig := Ac A7k A7l (S0 k)
theorem A18 (k : Nat) : Aa Tryz.prog 17 (Axd k) := asF_ok
def A7m : Sk := ⟨[.lf (.erp 68 [(.int .i64), (.int .i64)]), .lf (.ifc 24 [(.int .i64)] false)], [], []⟩
def A7n : Sk := ⟨[.lf (.pv .bool)], [], []⟩
def S1 (k : Nat) : ((Bool) × (Int) × (Int) × (Int)) → Option (Bool) := isF
def Axe (k : Nat) : Sig := Ac A7m A7n (S1 k)
theorem A19 (k : Nat) : Aa Tryz.prog 46 (Axe k) := isF_ok
abbrev H101 : Type := (Bool) × (Int) × (Int) × (Int) × (Int) × (List (Int))
def fnetnumberi : Sk := ⟨[.lf (.erp 68 [(.int .i64), (.int .i64)])], [], []⟩
def fnetnumbero : Sk := ⟨[.lf (.pv (.int .i64))], [], []⟩
def Agg : Sk := ⟨sparse 17 [(0, .lf (.erp 68 [(.int .i64), (.int .i64)])), (5, .lf (.own 0)), (6, .lf (.pv (.int .i64))), (7, .lf (.pv (.int .i64)))], [], [some (24, (.int .i64))]⟩
abbrev Wl := H101
def Me : Wl → St := stOf Agg 65
def A8v (k : Nat) : EnvL := [(46, [Axe k])]
def fnetnumber (k : Nat) : FnX Int := mkX ({ mkC (A8v k) 65 0 0 with hint := fun i => look none [(2, some Agg)] i }) k Tryz.f18 fnetnumbero
def cnetnumber (k : Nat) : ((Bool) × (Int) × (Int)) → Option Int := hid (Ab (fnetnumber k).C k Tryz.f18 fnetnumberi fnetnumbero)
def sgnetnumber (k : Nat) : Sig := Ac fnetnumberi fnetnumbero (cnetnumber k)
noncomputable def Wm (k : Nat) (J : JF Int) (L : LF Int) : ((Bool) × (Int) × (Int)) → Option Int
 | (a0, a1, a2) => L 2 [] k (Me (a0, a1, a2, ((List.length ([(50 : Int), (4 : Int)] : List (Int)) : Nat) : Int), (0 : Int), ([(50 : Int), (4 : Int)] : List (Int))))
theorem A8w (k : Nat) (x : ((Bool) × (Int) × (Int))) : cnetnumber k x = Wm k (fnetnumber k).J (fnetnumber k).L x := by
 refine (Ad _ _).trans ?_; apply cutX (fnetnumber k) [] [] (st0 (fnetnumber k).C Tryz.f18 fnetnumberi x) [] [(2, [], k)] (Wm k · · x) <;> intros <;> kernel_rfl
noncomputable def Qj (k j2 : Nat) (J : JF Int) (L : LF Int) : Wl → Option Int
 | (a0, a1, a2, a3, a4, a5) => bif (decide (a4 < a3)) then (bif (inB a4 (List.length a5)) then ((S1 k) (a0, a1, a2, (rdI a5 (Int.toNat a4)))).bind fun o1 => bif o1 then (some (rdI a5 (Int.toNat a4))) else (L 2 [] j2 (Me (a0, a1, a2, a3, (IntKind.wrap .i64 (a4 + (1 : Int))), a5))) else none) else (some (1 : Int))
theorem Agf (k j2 : Nat) (x : Wl) : (fnetnumber k).L 2 [] (j2 + 1) (Me x) = Qj k j2 (fnetnumber k).J (fnetnumber k).L x := by
 apply cutX (fnetnumber k) [.r, .l, .r, .b, .b] [j2] (Me x) [] [(2, [], j2)] (Qj k j2 · · x) <;> intros <;> kernel_rfl
theorem A2l (k : Nat) : Aa Tryz.prog 18 (sgnetnumber k) := Af (fnetnumber k).C k rfl ⟨⟨A19 k, trivial⟩, trivial⟩ Ae Tryz.func18 (by kernel_rfl)
abbrev H102 : Type := (Int) × (Int) × (Int) × (Int) × (Int) × (Int) × (Int) × (Int) × (Int) × (List (YT6)) × (List (YT7))
def Agd : Sk := ⟨[.lf (.pv (.slice (.int .u8)))], [], []⟩
def Age : Sk := ⟨[.agg [.pv (.int .i64), .pv (.int .i64), .pv (.int .i64), .pv (.int .i64), .pv (.int .i64), .own 0, .own 1, .pv (.int .i64), .pv (.int .i64)], .lf (.pv (.int .i64)), .lf (.pv (.int .i64))], [], [some (45, yt6), some (102, yt7)]⟩
def A8t (k : Nat) : EnvL := [(15, [Axg k]), (16, [sgpnet k]), (17, [Axd k]), (18, [sgnetnumber k])]
def Agb (k : Nat) : Cfg := { mkC (A8t k) 91 0 0 with ld := [(35, 58), (37, 9999), (38, 9999)], sr := [(2, 50)] }
def Ir (k : Nat) : (List (Int)) → Option H102 := hid (Ab (Agb k) k Tryz.f9 Agd Age)
def Ab9 (k : Nat) : Sig := Ac Agd Age (Ir k)
noncomputable def Agc (k : Nat) : (List (Int)) → Option H102
 | a0 => ((N6 k) (a0)).bind fun o1 => bif (o1.1 != (0 : Int)) then (some ((0 : Int), (0 : Int), (0 : Int), (0 : Int), (0 : Int), (0 : Int), (0 : Int), o1.1, o1.2.1, [], [])) else (((cpnet k) (o1.2.2)).bind fun o2 => ((S0 k) (o2.2.2.2.2.2.2.2.1, o2.2.2.2.2.2.2.2.2.1, o2.2.2.2.2.2.2.2.2.2.1)).bind fun o3 => bif o3.1 then (((cnetnumber k) (o2.2.2.2.2.2.2.2.1, o2.2.2.2.2.2.2.2.2.1, o2.2.2.2.2.2.2.2.2.2.1)).bind fun o4 => bif (!o3.2.1) then some ((0 : Int), (0 : Int), (0 : Int), (0 : Int), (0 : Int), (0 : Int), (0 : Int), o4, o3.2.2.2, [], []) else none) else (some (o2.1, o2.2.1, o2.2.2.1, o2.2.2.2.1, o2.2.2.2.2.1, o2.2.2.2.2.2.1, o2.2.2.2.2.2.2.1, (0 : Int), (0 : Int), o2.2.2.2.2.2.2.2.2.2.2.2.1, o2.2.2.2.2.2.2.2.2.2.2.2.2)))
theorem A8u (k : Nat) (x : (List (Int))) : Ir k x = Agc k x := (Ad _ _).trans (by kernel_rfl)
theorem Ad6 (k : Nat) : Aa Tryz.prog 9 (Ab9 k) := Af (Agb k) k rfl ⟨⟨A2c k, trivial⟩, ⟨A4i k, trivial⟩, ⟨A18 k, trivial⟩, ⟨A2l k, trivial⟩, trivial⟩ Ae Tryz.func9 (by kernel_rfl)
def At5 : Sk := ⟨[], [], []⟩
def At6 : Sk := ⟨[.lf (.pv .bool)], [], []⟩
def Be3 (k : Nat) : EnvL := [(9, [Ab9 k])]
def At3 (k : Nat) : Cfg := mkC (Be3 k) 130 0 0
def L1 (k : Nat) : Unit → Option Bool := hid (Ab (At3 k) k Tryz.f7 At5 At6)
def A0x (k : Nat) : Sig := Ac At5 At6 (L1 k)
noncomputable def At4 (k : Nat) : Unit → Option Bool
 | _ => bif (decide (0 < List.length ([(99 : Int), (121 : Int), (99 : Int), (108 : Int), (101 : Int), (32 : Int), (54 : Int), (48 : Int), (48 : Int), (32 : Int), (116 : Int), (111 : Int), (32 : Int), (57 : Int), (48 : Int), (48 : Int), (32 : Int), (98 : Int), (121 : Int), (32 : Int), (49 : Int), (48 : Int), (59 : Int), (32 : Int), (112 : Int), (101 : Int), (97 : Int), (107 : Int), (32 : Int), (49 : Int), (47 : Int), (49 : Int), (59 : Int)] : List (Int)))) then ((Ir k) (([(99 : Int), (121 : Int), (99 : Int), (108 : Int), (101 : Int), (32 : Int), (54 : Int), (48 : Int), (48 : Int), (32 : Int), (116 : Int), (111 : Int), (32 : Int), (57 : Int), (48 : Int), (48 : Int), (32 : Int), (98 : Int), (121 : Int), (32 : Int), (49 : Int), (48 : Int), (59 : Int), (32 : Int), (112 : Int), (101 : Int), (97 : Int), (107 : Int), (32 : Int), (49 : Int), (47 : Int), (49 : Int), (59 : Int)] : List (Int)))).bind fun o1 => bif (decide (0 < List.length ([(99 : Int), (121 : Int), (99 : Int), (108 : Int), (101 : Int), (32 : Int), (54 : Int), (48 : Int), (48 : Int), (59 : Int)] : List (Int)))) then ((Ir k) (([(99 : Int), (121 : Int), (99 : Int), (108 : Int), (101 : Int), (32 : Int), (54 : Int), (48 : Int), (48 : Int), (59 : Int)] : List (Int)))).bind fun o2 => bif (decide (0 < List.length ([(99 : Int), (121 : Int), (99 : Int), (108 : Int), (101 : Int), (32 : Int), (49 : Int), (32 : Int), (116 : Int), (111 : Int), (32 : Int), (50 : Int), (32 : Int), (98 : Int), (121 : Int), (32 : Int), (51 : Int), (59 : Int), (32 : Int), (112 : Int), (101 : Int), (97 : Int), (107 : Int), (32 : Int), (52 : Int), (47 : Int), (53 : Int), (59 : Int), (32 : Int), (110 : Int), (111 : Int), (100 : Int), (101 : Int), (32 : Int), (97 : Int), (32 : Int), (123 : Int), (32 : Int), (104 : Int), (101 : Int), (97 : Int), (100 : Int), (32 : Int), (104 : Int), (32 : Int), (118 : Int), (111 : Int), (108 : Int), (117 : Int), (109 : Int), (101 : Int), (32 : Int), (54 : Int), (32 : Int), (102 : Int), (108 : Int), (111 : Int), (119 : Int), (32 : Int), (55 : Int), (32 : Int), (117 : Int), (115 : Int), (101 : Int), (32 : Int), (56 : Int), (47 : Int), (57 : Int), (32 : Int), (115 : Int), (112 : Int), (101 : Int), (101 : Int), (100 : Int), (32 : Int), (49 : Int), (48 : Int), (32 : Int), (103 : Int), (114 : Int), (97 : Int), (100 : Int), (101 : Int), (32 : Int), (45 : Int), (49 : Int), (49 : Int), (32 : Int), (119 : Int), (105 : Int), (100 : Int), (116 : Int), (104 : Int), (32 : Int), (49 : Int), (50 : Int), (32 : Int), (108 : Int), (101 : Int), (110 : Int), (103 : Int), (116 : Int), (104 : Int), (32 : Int), (49 : Int), (51 : Int), (32 : Int), (103 : Int), (114 : Int), (101 : Int), (101 : Int), (110 : Int), (32 : Int), (49 : Int), (52 : Int), (59 : Int), (32 : Int), (112 : Int), (104 : Int), (97 : Int), (115 : Int), (101 : Int), (32 : Int), (112 : Int), (58 : Int), (32 : Int), (104 : Int), (59 : Int), (32 : Int), (103 : Int), (114 : Int), (111 : Int), (117 : Int), (112 : Int), (32 : Int), (123 : Int), (32 : Int), (114 : Int), (105 : Int), (110 : Int), (103 : Int), (32 : Int), (112 : Int), (59 : Int), (32 : Int), (125 : Int), (32 : Int), (125 : Int)] : List (Int)))) then ((Ir k) (([(99 : Int), (121 : Int), (99 : Int), (108 : Int), (101 : Int), (32 : Int), (49 : Int), (32 : Int), (116 : Int), (111 : Int), (32 : Int), (50 : Int), (32 : Int), (98 : Int), (121 : Int), (32 : Int), (51 : Int), (59 : Int), (32 : Int), (112 : Int), (101 : Int), (97 : Int), (107 : Int), (32 : Int), (52 : Int), (47 : Int), (53 : Int), (59 : Int), (32 : Int), (110 : Int), (111 : Int), (100 : Int), (101 : Int), (32 : Int), (97 : Int), (32 : Int), (123 : Int), (32 : Int), (104 : Int), (101 : Int), (97 : Int), (100 : Int), (32 : Int), (104 : Int), (32 : Int), (118 : Int), (111 : Int), (108 : Int), (117 : Int), (109 : Int), (101 : Int), (32 : Int), (54 : Int), (32 : Int), (102 : Int), (108 : Int), (111 : Int), (119 : Int), (32 : Int), (55 : Int), (32 : Int), (117 : Int), (115 : Int), (101 : Int), (32 : Int), (56 : Int), (47 : Int), (57 : Int), (32 : Int), (115 : Int), (112 : Int), (101 : Int), (101 : Int), (100 : Int), (32 : Int), (49 : Int), (48 : Int), (32 : Int), (103 : Int), (114 : Int), (97 : Int), (100 : Int), (101 : Int), (32 : Int), (45 : Int), (49 : Int), (49 : Int), (32 : Int), (119 : Int), (105 : Int), (100 : Int), (116 : Int), (104 : Int), (32 : Int), (49 : Int), (50 : Int), (32 : Int), (108 : Int), (101 : Int), (110 : Int), (103 : Int), (116 : Int), (104 : Int), (32 : Int), (49 : Int), (51 : Int), (32 : Int), (103 : Int), (114 : Int), (101 : Int), (101 : Int), (110 : Int), (32 : Int), (49 : Int), (52 : Int), (59 : Int), (32 : Int), (112 : Int), (104 : Int), (97 : Int), (115 : Int), (101 : Int), (32 : Int), (112 : Int), (58 : Int), (32 : Int), (104 : Int), (59 : Int), (32 : Int), (103 : Int), (114 : Int), (111 : Int), (117 : Int), (112 : Int), (32 : Int), (123 : Int), (32 : Int), (114 : Int), (105 : Int), (110 : Int), (103 : Int), (32 : Int), (112 : Int), (59 : Int), (32 : Int), (125 : Int), (32 : Int), (125 : Int)] : List (Int)))).bind fun o3 => bif (o1.2.2.2.2.2.2.2.1 == (0 : Int)) then (bif (o1.2.1 == (900 : Int)) then (bif (o2.2.2.2.2.2.2.2.1 == (50 : Int)) then (bif (o2.2.2.2.2.2.2.2.2.1 == (9 : Int)) then (bif (o3.2.2.2.2.2.2.2.1 == (0 : Int)) then (bif (((List.length o3.2.2.2.2.2.2.2.2.2.1 : Nat) : Int) == (1 : Int)) then (bif (inB (0 : Int) (List.length o3.2.2.2.2.2.2.2.2.2.1)) then bif (((List.length (rdA zt6 o3.2.2.2.2.2.2.2.2.2.1 (Int.toNat (0 : Int))).2.1 : Nat) : Int) == (1 : Int)) then (bif (inB (0 : Int) (List.length o3.2.2.2.2.2.2.2.2.2.1)) then idx zt1 (rdA zt6 o3.2.2.2.2.2.2.2.2.2.1 (Int.toNat (0 : Int))).2.1 (0 : Int) fun o4 => some (o4.2.2.2.2.2.1 == (-11 : Int)) else none) else (some false) else none) else (some false)) else (some false)) else (some false)) else (some false)) else (some false)) else (some false) else none else none else none
theorem Be4 (k : Nat) (x : Unit) : L1 k x = At4 k x := (Ad _ _).trans (by kernel_rfl)
theorem A6g (k : Nat) : Aa Tryz.prog 7 (A0x k) := Af (At3 k) k rfl ⟨⟨Ad6 k, trivial⟩, trivial⟩ Ae Tryz.func7 (by kernel_rfl)
abbrev H104 : Type := (List (YT7)) × (List (YT7)) × (Bool) × (Int)
abbrev H105 : Type := (List (YT7)) × (List (YT7)) × (Bool)
def Aam : Sk := ⟨[.lf (.pv (.slice yt7)), .lf (.pv (.slice yt7)), .lf (.pv .bool)], [], []⟩
def Aan : Sk := ⟨[.lf (.pv .bool)], [], []⟩
def Atm : Sk := ⟨sparse 37 [(0, .lf (.pv (.slice yt7))), (1, .lf (.pv (.slice yt7))), (2, .lf (.pv .bool)), (7, .lf (.pv (.int .i64)))], [], []⟩
abbrev Aak := H104
def Kn : Aak → St := stOf Atm 85
def F3 (k : Nat) : FnX Bool := mkX ({ mkC [] 85 0 0 with hint := fun i => look none [(4, some Atm)] i, ld := [(24, 9999), (28, 9999)], sr := [(8, 56), (9, 57)] }) k Tryz.f19 Aan
def P5 (k : Nat) : H105 → Option Bool := hid (Ab (F3 k).C k Tryz.f19 Aam Aan)
def Bjt (k : Nat) : Sig := Ac Aam Aan (P5 k)
noncomputable def Aal (k : Nat) (J : JF Bool) (L : LF Bool) : H105 → Option Bool
 | (a0, a1, a2) => bif (((List.length a0 : Nat) : Int) != ((List.length a1 : Nat) : Int)) then (some false) else (L 4 [] k (Kn (a0, a1, a2, (0 : Int))))
theorem Bew (k : Nat) (x : H105) : P5 k x = Aal k (F3 k).J (F3 k).L x := by
 refine (Ad _ _).trans ?_; apply cutX (F3 k) [] [] (st0 (F3 k).C Tryz.f19 Aam x) [] [(4, [], k)] (Aal k · · x) <;> intros <;> kernel_rfl
noncomputable def Qw (k j4 : Nat) (J : JF Bool) (L : LF Bool) : Aak → Option Bool
 | (a0, a1, a2, a3) => bif (decide (a3 < ((List.length a0 : Nat) : Int))) then (idx zt7 a0 a3 fun o1 => idx zt7 a1 a3 fun o2 => bif (!a2) then (bif (!((eqS o1.1 o2.1) && ((eqS o1.2.1 o2.2.1) && ((eqS o1.2.2.1 o2.2.2.1) && ((eqI o1.2.2.2.1 o2.2.2.2.1) && ((eqI o1.2.2.2.2.1 o2.2.2.2.2.1) && ((eqI o2.2.2.2.2.2.1 o2.2.2.2.2.2.1) && true))))))) then (some false) else (L 4 [] j4 (Kn (a0, a1, a2, (IntKind.wrap .i64 (a3 + (1 : Int))))))) else (bif (!((eqS o1.1 o2.1) && ((eqS o1.2.1 o2.2.1) && ((eqS o1.2.2.1 o2.2.2.1) && ((eqI o1.2.2.2.1 o2.2.2.2.1) && ((eqI o1.2.2.2.2.1 o2.2.2.2.2.1) && ((eqI o1.2.2.2.2.2.1 o2.2.2.2.2.2.1) && true))))))) then (some false) else (L 4 [] j4 (Kn (a0, a1, a2, (IntKind.wrap .i64 (a3 + (1 : Int)))))))) else (some true)
theorem Atl (k j4 : Nat) (x : Aak) : (F3 k).L 4 [] (j4 + 1) (Kn x) = Qw k j4 (F3 k).J (F3 k).L x := by
 apply cutX (F3 k) [.r, .r, .l, .r, .b, .b] [j4] (Kn x) [] [(4, [], j4)] (Qw k j4 · · x) <;> intros <;> kernel_rfl
abbrev H106 : Type := (List (YT1)) × (List (YT1)) × (Bool) × (Int)
abbrev H107 : Type := (List (YT1)) × (List (YT1)) × (Bool)
def Aaa : Sk := ⟨[.lf (.pv (.slice yt1)), .lf (.pv (.slice yt1)), .lf (.pv .bool)], [], []⟩
def Aab : Sk := ⟨[.lf (.pv .bool)], [], []⟩
def Atg : Sk := ⟨sparse 37 [(0, .lf (.pv (.slice yt1))), (1, .lf (.pv (.slice yt1))), (2, .lf (.pv .bool)), (7, .lf (.pv (.int .i64)))], [], []⟩
abbrev Z8 := H106
def Kk : Z8 → St := stOf Atg 85
def Fz (k : Nat) : FnX Bool := mkX ({ mkC [] 85 0 0 with hint := fun i => look none [(4, some Atg)] i, ld := [(24, 9999), (28, 9999)], sr := [(8, 56), (9, 57)] }) k Tryz.f20 Aab
def Ly (k : Nat) : H107 → Option Bool := hid (Ab (Fz k).C k Tryz.f20 Aaa Aab)
def Bjq (k : Nat) : Sig := Ac Aaa Aab (Ly k)
noncomputable def Z9 (k : Nat) (J : JF Bool) (L : LF Bool) : H107 → Option Bool
 | (a0, a1, a2) => bif (((List.length a0 : Nat) : Int) != ((List.length a1 : Nat) : Int)) then (some false) else (L 4 [] k (Kk (a0, a1, a2, (0 : Int))))
theorem Bes (k : Nat) (x : H107) : Ly k x = Z9 k (Fz k).J (Fz k).L x := by
 refine (Ad _ _).trans ?_; apply cutX (Fz k) [] [] (st0 (Fz k).C Tryz.f20 Aaa x) [] [(4, [], k)] (Z9 k · · x) <;> intros <;> kernel_rfl
noncomputable def Qt (k j4 : Nat) (J : JF Bool) (L : LF Bool) : Z8 → Option Bool
 | (a0, a1, a2, a3) => bif (decide (a3 < ((List.length a0 : Nat) : Int))) then (idx zt1 a0 a3 fun o1 => idx zt1 a1 a3 fun o2 => bif (!a2) then (bif (!((eqS o1.1 o2.1) && ((eqI o1.2.1 o2.2.1) && ((eqI o1.2.2.1 o2.2.2.1) && (((eqI o1.2.2.2.1.1 o2.2.2.2.1.1) && ((eqI o1.2.2.2.1.2.1 o2.2.2.2.1.2.1) && true)) && ((eqI o1.2.2.2.2.1 o2.2.2.2.2.1) && ((eqI o1.2.2.2.2.2.1 o2.2.2.2.2.2.1) && ((eqI o1.2.2.2.2.2.2.1 o2.2.2.2.2.2.2.1) && ((eqI o1.2.2.2.2.2.2.2.1 o2.2.2.2.2.2.2.2.1) && ((eqI o1.2.2.2.2.2.2.2.2.1 o2.2.2.2.2.2.2.2.2.1) && ((eqI o2.2.2.2.2.2.2.2.2.2.1 o2.2.2.2.2.2.2.2.2.2.1) && true))))))))))) then (some false) else (L 4 [] j4 (Kk (a0, a1, a2, (IntKind.wrap .i64 (a3 + (1 : Int))))))) else (bif (!((eqS o1.1 o2.1) && ((eqI o1.2.1 o2.2.1) && ((eqI o1.2.2.1 o2.2.2.1) && (((eqI o1.2.2.2.1.1 o2.2.2.2.1.1) && ((eqI o1.2.2.2.1.2.1 o2.2.2.2.1.2.1) && true)) && ((eqI o1.2.2.2.2.1 o2.2.2.2.2.1) && ((eqI o1.2.2.2.2.2.1 o2.2.2.2.2.2.1) && ((eqI o1.2.2.2.2.2.2.1 o2.2.2.2.2.2.2.1) && ((eqI o1.2.2.2.2.2.2.2.1 o2.2.2.2.2.2.2.2.1) && ((eqI o1.2.2.2.2.2.2.2.2.1 o2.2.2.2.2.2.2.2.2.1) && ((eqI o1.2.2.2.2.2.2.2.2.2.1 o2.2.2.2.2.2.2.2.2.2.1) && true))))))))))) then (some false) else (L 4 [] j4 (Kk (a0, a1, a2, (IntKind.wrap .i64 (a3 + (1 : Int)))))))) else (some true)
theorem Atf (k j4 : Nat) (x : Z8) : (Fz k).L 4 [] (j4 + 1) (Kk x) = Qt k j4 (Fz k).J (Fz k).L x := by
 apply cutX (Fz k) [.r, .r, .l, .r, .b, .b] [j4] (Kk x) [] [(4, [], j4)] (Qt k j4 · · x) <;> intros <;> kernel_rfl
abbrev H108 : Type := (List (YT2)) × (List (YT2)) × (Bool) × (Int)
abbrev H109 : Type := (List (YT2)) × (List (YT2)) × (Bool)
def Aae : Sk := ⟨[.lf (.pv (.slice yt2)), .lf (.pv (.slice yt2)), .lf (.pv .bool)], [], []⟩
def Aaf : Sk := ⟨[.lf (.pv .bool)], [], []⟩
def Ati : Sk := ⟨sparse 37 [(0, .lf (.pv (.slice yt2))), (1, .lf (.pv (.slice yt2))), (2, .lf (.pv .bool)), (7, .lf (.pv (.int .i64)))], [], []⟩
abbrev Aac := H108
def Kl : Aac → St := stOf Ati 85
def F0 (k : Nat) : FnX Bool := mkX ({ mkC [] 85 0 0 with hint := fun i => look none [(4, some Ati)] i, ld := [(24, 9999), (28, 9999)], sr := [(8, 56), (9, 57)] }) k Tryz.f21 Aaf
def Lz (k : Nat) : H109 → Option Bool := hid (Ab (F0 k).C k Tryz.f21 Aae Aaf)
def Bjr (k : Nat) : Sig := Ac Aae Aaf (Lz k)
noncomputable def Aad (k : Nat) (J : JF Bool) (L : LF Bool) : H109 → Option Bool
 | (a0, a1, a2) => bif (((List.length a0 : Nat) : Int) != ((List.length a1 : Nat) : Int)) then (some false) else (L 4 [] k (Kl (a0, a1, a2, (0 : Int))))
theorem Bet (k : Nat) (x : H109) : Lz k x = Aad k (F0 k).J (F0 k).L x := by
 refine (Ad _ _).trans ?_; apply cutX (F0 k) [] [] (st0 (F0 k).C Tryz.f21 Aae x) [] [(4, [], k)] (Aad k · · x) <;> intros <;> kernel_rfl
noncomputable def Qu (k j4 : Nat) (J : JF Bool) (L : LF Bool) : Aac → Option Bool
 | (a0, a1, a2, a3) => bif (decide (a3 < ((List.length a0 : Nat) : Int))) then (idx zt2 a0 a3 fun o1 => idx zt2 a1 a3 fun o2 => bif (!a2) then (bif (!((eqS o1.1 o2.1) && ((eqS o1.2.1 o2.2.1) && ((eqI o1.2.2.1 o2.2.2.1) && ((eqI o1.2.2.2.1 o2.2.2.2.1) && ((eqI o1.2.2.2.2.1 o2.2.2.2.2.1) && ((eqI o2.2.2.2.2.2.1 o2.2.2.2.2.2.1) && true))))))) then (some false) else (L 4 [] j4 (Kl (a0, a1, a2, (IntKind.wrap .i64 (a3 + (1 : Int))))))) else (bif (!((eqS o1.1 o2.1) && ((eqS o1.2.1 o2.2.1) && ((eqI o1.2.2.1 o2.2.2.1) && ((eqI o1.2.2.2.1 o2.2.2.2.1) && ((eqI o1.2.2.2.2.1 o2.2.2.2.2.1) && ((eqI o1.2.2.2.2.2.1 o2.2.2.2.2.2.1) && true))))))) then (some false) else (L 4 [] j4 (Kl (a0, a1, a2, (IntKind.wrap .i64 (a3 + (1 : Int)))))))) else (some true)
theorem Ath (k j4 : Nat) (x : Aac) : (F0 k).L 4 [] (j4 + 1) (Kl x) = Qu k j4 (F0 k).J (F0 k).L x := by
 apply cutX (F0 k) [.r, .r, .l, .r, .b, .b] [j4] (Kl x) [] [(4, [], j4)] (Qu k j4 · · x) <;> intros <;> kernel_rfl
abbrev H110 : Type := (List (List Int)) × (List (List Int)) × (Int)
abbrev H111 : Type := (List (List Int)) × (List (List Int))
def Z0 : Sk := ⟨[.lf (.pv (.slice .str)), .lf (.pv (.slice .str))], [], []⟩
def Z1 : Sk := ⟨[.lf (.pv .bool)], [], []⟩
def As8 : Sk := ⟨sparse 26 [(0, .lf (.pv (.slice .str))), (1, .lf (.pv (.slice .str))), (5, .lf (.pv (.int .i64)))], [], []⟩
abbrev Zy := H110
def Ki : Zy → St := stOf As8 74
def Fn (k : Nat) : FnX Bool := mkX ({ mkC [] 74 0 0 with hint := fun i => look none [(4, some As8)] i }) k Tryz.f47 Z1
def Lw (k : Nat) : H111 → Option Bool := hid (Ab (Fn k).C k Tryz.f47 Z0 Z1)
def A0v (k : Nat) : Sig := Ac Z0 Z1 (Lw k)
noncomputable def Zz (k : Nat) (J : JF Bool) (L : LF Bool) : H111 → Option Bool
 | (a0, a1) => bif (((List.length a0 : Nat) : Int) != ((List.length a1 : Nat) : Int)) then (some false) else (L 4 [] k (Ki (a0, a1, (0 : Int))))
theorem Beo (k : Nat) (x : H111) : Lw k x = Zz k (Fn k).J (Fn k).L x := by
 refine (Ad _ _).trans ?_; apply cutX (Fn k) [] [] (st0 (Fn k).C Tryz.f47 Z0 x) [] [(4, [], k)] (Zz k · · x) <;> intros <;> kernel_rfl
noncomputable def Qq (k j4 : Nat) (J : JF Bool) (L : LF Bool) : Zy → Option Bool
 | (a0, a1, a2) => bif (decide (a2 < ((List.length a0 : Nat) : Int))) then (idx [] a0 a2 fun o1 => idx [] a1 a2 fun o2 => bif (!(o1 == o2)) then (some false) else (L 4 [] j4 (Ki (a0, a1, (IntKind.wrap .i64 (a2 + (1 : Int))))))) else (some true)
theorem As7 (k j4 : Nat) (x : Zy) : (Fn k).L 4 [] (j4 + 1) (Ki x) = Qq k j4 (Fn k).J (Fn k).L x := by
 apply cutX (Fn k) [.r, .r, .l, .r, .b, .b] [j4] (Ki x) [] [(4, [], j4)] (Qq k j4 · · x) <;> intros <;> kernel_rfl
abbrev H112 : Type := (List (YT3)) × (List (YT3)) × (Bool) × (Int)
abbrev H113 : Type := (List (YT3)) × (List (YT3)) × (Bool)
def Aai : Sk := ⟨[.lf (.pv (.slice yt3)), .lf (.pv (.slice yt3)), .lf (.pv .bool)], [], []⟩
def Aaj : Sk := ⟨[.lf (.pv .bool)], [], []⟩
def Atk : Sk := ⟨sparse 60 [(0, .lf (.pv (.slice yt3))), (1, .lf (.pv (.slice yt3))), (2, .lf (.pv .bool)), (7, .lf (.pv (.int .i64)))], [], []⟩
abbrev Aag := H112
def Km : Aag → St := stOf Atk 108
def Beu (k : Nat) : EnvL := [(47, [A0v k])]
def F2 (k : Nat) : FnX Bool := mkX ({ mkC (Beu k) 108 0 0 with hint := fun i => look none [(4, some Atk)] i }) k Tryz.f22 Aaj
def L0 (k : Nat) : H113 → Option Bool := hid (Ab (F2 k).C k Tryz.f22 Aai Aaj)
def Bjs (k : Nat) : Sig := Ac Aai Aaj (L0 k)
noncomputable def Aah (k : Nat) (J : JF Bool) (L : LF Bool) : H113 → Option Bool
 | (a0, a1, a2) => bif (((List.length a0 : Nat) : Int) != ((List.length a1 : Nat) : Int)) then (some false) else (L 4 [] k (Km (a0, a1, a2, (0 : Int))))
theorem Bev (k : Nat) (x : H113) : L0 k x = Aah k (F2 k).J (F2 k).L x := by
 refine (Ad _ _).trans ?_; apply cutX (F2 k) [] [] (st0 (F2 k).C Tryz.f22 Aai x) [] [(4, [], k)] (Aah k · · x) <;> intros <;> kernel_rfl
noncomputable def Qv (k j4 : Nat) (J : JF Bool) (L : LF Bool) : Aag → Option Bool
 | (a0, a1, a2, a3) => bif (decide (a3 < ((List.length a0 : Nat) : Int))) then (idx zt3 a0 a3 fun o1 => idx zt3 a1 a3 fun o2 => bif (!(o1.1 == o2.1)) then (some false) else (idx zt3 a0 a3 fun o3 => idx zt3 a1 a3 fun o4 => ((Lw k) (o3.2.1, o4.2.1)).bind fun o5 => bif (!o5) then (some false) else (bif a2 then (idx zt3 a0 a3 fun o6 => idx zt3 a1 a3 fun o7 => bif (o6.2.2.1 != o7.2.2.1) then (some false) else (L 4 [] j4 (Km (a0, a1, a2, (IntKind.wrap .i64 (a3 + (1 : Int))))))) else (L 4 [] j4 (Km (a0, a1, a2, (IntKind.wrap .i64 (a3 + (1 : Int))))))))) else (some true)
theorem Atj (k j4 : Nat) (x : Aag) : (F2 k).L 4 [] (j4 + 1) (Km x) = Qv k j4 (F2 k).J (F2 k).L x := by
 apply cutX (F2 k) [.r, .r, .l, .r, .b, .b] [j4] (Km x) [] [(4, [], j4)] (Qv k j4 · · x) <;> intros <;> kernel_rfl
abbrev H114 : Type := (List ((List (YT4)) × (Unit))) × (List ((List (YT4)) × (Unit))) × (Int)
abbrev H115 : Type := (List ((List (YT4)) × (Unit))) × (List ((List (YT4)) × (Unit))) × (Int) × (Int)
abbrev H116 : Type := (List ((List (YT4)) × (Unit))) × (List ((List (YT4)) × (Unit)))
def Zw : Sk := ⟨[.lf (.pv (.slice (.cons (.slice yt4) .nil))), .lf (.pv (.slice (.cons (.slice yt4) .nil)))], [], []⟩
def Zx : Sk := ⟨[.lf (.pv .bool)], [], []⟩
def As5 : Sk := ⟨sparse 82 [(0, .lf (.pv (.slice (.cons (.slice yt4) .nil)))), (1, .lf (.pv (.slice (.cons (.slice yt4) .nil)))), (5, .lf (.pv (.int .i64)))], [], []⟩
abbrev Zt := H114
def I4 : Zt → St := stOf As5 130
def As6 : Sk := ⟨sparse 82 [(0, .lf (.pv (.slice (.cons (.slice yt4) .nil)))), (1, .lf (.pv (.slice (.cons (.slice yt4) .nil)))), (5, .lf (.pv (.int .i64))), (6, .lf (.pv (.int .i64)))], [], []⟩
abbrev Zu := H115
def Kh : Zu → St := stOf As6 130
def Bem (k : Nat) : EnvL := [(47, [A0v k])]
def C9 (k : Nat) : FnX Bool := mkX ({ mkC (Bem k) 130 0 0 with hint := fun i => look none [(4, some As5), (9, some As6)] i }) k Tryz.f23 Zx
def Lv (k : Nat) : H116 → Option Bool := hid (Ab (C9 k).C k Tryz.f23 Zw Zx)
def Bjo (k : Nat) : Sig := Ac Zw Zx (Lv k)
noncomputable def Zv (k : Nat) (J : JF Bool) (L : LF Bool) : H116 → Option Bool
 | (a0, a1) => bif (((List.length a0 : Nat) : Int) != ((List.length a1 : Nat) : Int)) then (some false) else (L 4 [] k (I4 (a0, a1, (0 : Int))))
theorem Ben (k : Nat) (x : H116) : Lv k x = Zv k (C9 k).J (C9 k).L x := by
 refine (Ad _ _).trans ?_; apply cutX (C9 k) [] [] (st0 (C9 k).C Tryz.f23 Zw x) [] [(4, [], k)] (Zv k · · x) <;> intros <;> kernel_rfl
noncomputable def Qo (k j4 : Nat) (J : JF Bool) (L : LF Bool) : Zt → Option Bool
 | (a0, a1, a2) => bif (decide (a2 < ((List.length a0 : Nat) : Int))) then (idx ([], ()) a0 a2 fun o1 => idx ([], ()) a1 a2 fun o2 => bif (((List.length o1.1 : Nat) : Int) != ((List.length o2.1 : Nat) : Int)) then (some false) else (L 9 [j4] k (Kh (a0, a1, a2, (0 : Int))))) else (some true)
theorem As3 (k j4 : Nat) (x : Zt) : (C9 k).L 4 [] (j4 + 1) (I4 x) = Qo k j4 (C9 k).J (C9 k).L x := by
 apply cutX (C9 k) [.r, .r, .l, .r, .b, .b] [j4] (I4 x) [] [(4, [], j4), (9, [j4], k)] (Qo k j4 · · x) <;> intros <;> kernel_rfl
noncomputable def Qp (k j4 j9 : Nat) (J : JF Bool) (L : LF Bool) : Zu → Option Bool
 | (a0, a1, a2, a3) => idx ([], ()) a0 a2 fun o1 => bif (decide (a3 < ((List.length o1.1 : Nat) : Int))) then (idx ([], ()) a0 a2 fun o2 => idx zt4 o2.1 a3 fun o3 => idx ([], ()) a1 a2 fun o4 => idx zt4 o4.1 a3 fun o5 => bif (!(o3.1 == o5.1)) then (some false) else (idx ([], ()) a0 a2 fun o6 => idx zt4 o6.1 a3 fun o7 => idx ([], ()) a1 a2 fun o8 => idx zt4 o8.1 a3 fun o9 => ((Lw k) (o7.2.1, o9.2.1)).bind fun o10 => bif (!o10) then (some false) else (L 9 [j4] j9 (Kh (a0, a1, a2, (IntKind.wrap .i64 (a3 + (1 : Int)))))))) else (L 4 [] j4 (I4 (a0, a1, (IntKind.wrap .i64 (a2 + (1 : Int))))))
theorem As4 (k j4 j9 : Nat) (x : Zu) : (C9 k).L 9 [j4] (j9 + 1) (Kh x) = Qp k j4 j9 (C9 k).J (C9 k).L x := by
 apply cutX (C9 k) [.r, .r, .l, .r, .b, .b, .r, .l, .b, .r, .r, .b, .b] [j4, j9] (Kh x) [] [(4, [], j4), (9, [j4], j9)] (Qp k j4 j9 · · x) <;> intros <;> kernel_rfl
abbrev H117 : Type := (List (YT5)) × (List (YT5)) × (Bool) × (Int)
abbrev H118 : Type := (List (YT5)) × (List (YT5)) × (Bool)
def Z6 : Sk := ⟨[.lf (.pv (.slice yt5)), .lf (.pv (.slice yt5)), .lf (.pv .bool)], [], []⟩
def Z7 : Sk := ⟨[.lf (.pv .bool)], [], []⟩
def Ate : Sk := ⟨sparse 37 [(0, .lf (.pv (.slice yt5))), (1, .lf (.pv (.slice yt5))), (2, .lf (.pv .bool)), (7, .lf (.pv (.int .i64)))], [], []⟩
abbrev Z4 := H117
def Kj : Z4 → St := stOf Ate 85
def Fy (k : Nat) : FnX Bool := mkX ({ mkC [] 85 0 0 with hint := fun i => look none [(4, some Ate)] i, ld := [(24, 9999), (28, 9999)], sr := [(8, 56), (9, 57)] }) k Tryz.f24 Z7
def Lx (k : Nat) : H118 → Option Bool := hid (Ab (Fy k).C k Tryz.f24 Z6 Z7)
def Bjp (k : Nat) : Sig := Ac Z6 Z7 (Lx k)
noncomputable def Z5 (k : Nat) (J : JF Bool) (L : LF Bool) : H118 → Option Bool
 | (a0, a1, a2) => bif (((List.length a0 : Nat) : Int) != ((List.length a1 : Nat) : Int)) then (some false) else (L 4 [] k (Kj (a0, a1, a2, (0 : Int))))
theorem Ber (k : Nat) (x : H118) : Lx k x = Z5 k (Fy k).J (Fy k).L x := by
 refine (Ad _ _).trans ?_; apply cutX (Fy k) [] [] (st0 (Fy k).C Tryz.f24 Z6 x) [] [(4, [], k)] (Z5 k · · x) <;> intros <;> kernel_rfl
noncomputable def Qs (k j4 : Nat) (J : JF Bool) (L : LF Bool) : Z4 → Option Bool
 | (a0, a1, a2, a3) => bif (decide (a3 < ((List.length a0 : Nat) : Int))) then (idx zt5 a0 a3 fun o1 => idx zt5 a1 a3 fun o2 => bif (!a2) then (bif (!((eqS o1.1 o2.1) && ((eqS o1.2.1 o2.2.1) && ((eqI o2.2.2.1 o2.2.2.1) && true)))) then (some false) else (L 4 [] j4 (Kj (a0, a1, a2, (IntKind.wrap .i64 (a3 + (1 : Int))))))) else (bif (!((eqS o1.1 o2.1) && ((eqS o1.2.1 o2.2.1) && ((eqI o1.2.2.1 o2.2.2.1) && true)))) then (some false) else (L 4 [] j4 (Kj (a0, a1, a2, (IntKind.wrap .i64 (a3 + (1 : Int)))))))) else (some true)
theorem Atd (k j4 : Nat) (x : Z4) : (Fy k).L 4 [] (j4 + 1) (Kj x) = Qs k j4 (Fy k).J (Fy k).L x := by
 apply cutX (Fy k) [.r, .r, .l, .r, .b, .b] [j4] (Kj x) [] [(4, [], j4)] (Qs k j4 · · x) <;> intros <;> kernel_rfl
def q29 : List SL := [.pv (.int .i64), .pv (.int .i64), .pv (.int .i64), .pv (.int .i64), .pv (.int .i64), .pv (.slice yt6), .pv (.slice yt7), .pv (.int .i64), .pv (.int .i64)]
abbrev H119 : Type := (Bool) × (Int) × (Int) × (Int) × (Int) × (Int) × (Int) × (List (YT6)) × (List (YT7)) × (Int) × (Int) × (Int) × (Int) × (Int) × (Int) × (Int) × (List (YT6)) × (List (YT7)) × (Int) × (Int)
abbrev H120 : Type := (Int) × (Int) × (Int) × (Int) × (Int) × (List (YT6)) × (List (YT7)) × (Int) × (Int) × (Int) × (Int) × (Int) × (Int) × (Int) × (List (YT6)) × (List (YT7)) × (Int) × (Int) × (Bool)
def Atb : Sk := ⟨[.agg [.pv (.int .i64), .pv (.int .i64), .pv (.int .i64), .pv (.int .i64), .pv (.int .i64), .pv (.slice yt6), .pv (.slice yt7), .pv (.int .i64), .pv (.int .i64)], .agg [.pv (.int .i64), .pv (.int .i64), .pv (.int .i64), .pv (.int .i64), .pv (.int .i64), .pv (.slice yt6), .pv (.slice yt7), .pv (.int .i64), .pv (.int .i64)], .lf (.pv .bool)], [], []⟩
def Atc : Sk := ⟨[.lf (.pv .bool)], [], []⟩
def Ata : Sk := ⟨sparse 144 [(2, .lf (.pv .bool)), (3, .lf (.ptr 0 0)), (4, .lf (.ptr 1 0)), (7, .lf (.pv (.int .i64)))], [q29, q29], []⟩
abbrev Z2 := H119
def I5 : Z2 → St := stOf Ata 192
def Bep (k : Nat) : EnvL := [(19, [Bjt k]), (20, [Bjq k]), (21, [Bjr k]), (22, [Bjs k]), (23, [Bjo k]), (24, [Bjp k])]
def Fo (k : Nat) : FnX Bool := mkX ({ mkC (Bep k) 192 0 0 with hint := fun i => look none [(4, some Ata)] i, ld := [(75, 9999), (76, 0), (79, 9999), (80, 9999), (81, 1), (84, 9999)], sr := [(8, 56), (9, 57)] }) k Tryz.f10 Atc
def Aeg (k : Nat) : H120 → Option Bool := hid (Ab (Fo k).C k Tryz.f10 Atb Atc)
noncomputable def Z3 (k : Nat) (J : JF Bool) (L : LF Bool) : H120 → Option Bool
 | (a0, a1, a2, a3, a4, a5, a6, a7, a8, a9, a10, a11, a12, a13, a14, a15, a16, a17, a18) => bif (a0 != a9) then (some false) else (bif (a1 != a10) then (some false) else (bif (a2 != a11) then (some false) else (bif (!((eqI a3 a12) && ((eqI a4 a13) && true))) then (some false) else (bif (a7 != a16) then (some false) else (bif (a8 != a17) then (some false) else (bif (((List.length a5 : Nat) : Int) != ((List.length a14 : Nat) : Int)) then (some false) else (((P5 k) (a6, a15, a18)).bind fun o1 => bif (!o1) then (some false) else (L 4 [] k (I5 (a18, (0 : Int), a0, a1, a2, a3, a4, a5, a6, a7, a8, a9, a10, a11, a12, a13, a14, a15, a16, a17))))))))))
theorem Beq (k : Nat) (x : H120) : Aeg k x = Z3 k (Fo k).J (Fo k).L x := by
 refine (Ad _ _).trans ?_; apply cutX (Fo k) [] [] (st0 (Fo k).C Tryz.f10 Atb x) [] [(4, [], k)] (Z3 k · · x) <;> intros <;> kernel_rfl
noncomputable def Qr (k j4 : Nat) (J : JF Bool) (L : LF Bool) : Z2 → Option Bool
 | (a0, a1, a2, a3, a4, a5, a6, a7, a8, a9, a10, a11, a12, a13, a14, a15, a16, a17, a18, a19) => bif (decide (a1 < ((List.length a7 : Nat) : Int))) then (idx zt6 a7 a1 fun o1 => idx zt6 a16 a1 fun o2 => bif (!(o1.1 == o2.1)) then (some false) else (bif a0 then (bif (o1.2.2.2.2.2.2.1 != o2.2.2.2.2.2.2.1) then (some false) else (((Ly k) (o1.2.1, o2.2.1, a0)).bind fun o3 => bif (!o3) then (some false) else (((Lz k) (o1.2.2.1, o2.2.2.1, a0)).bind fun o4 => bif (!o4) then (some false) else (((L0 k) (o1.2.2.2.1, o2.2.2.2.1, a0)).bind fun o5 => bif (!o5) then (some false) else (((Lv k) (o1.2.2.2.2.1, o2.2.2.2.2.1)).bind fun o6 => bif (!o6) then (some false) else (((Lx k) (o1.2.2.2.2.2.1, o2.2.2.2.2.2.1, a0)).bind fun o7 => bif (!o7) then (some false) else (L 4 [] j4 (I5 (a0, (IntKind.wrap .i64 (a1 + (1 : Int))), a2, a3, a4, a5, a6, a7, a8, a9, a10, a11, a12, a13, a14, a15, a16, a17, a18, a19))))))))) else (((Ly k) (o1.2.1, o2.2.1, a0)).bind fun o8 => bif (!o8) then (some false) else (((Lz k) (o1.2.2.1, o2.2.2.1, a0)).bind fun o9 => bif (!o9) then (some false) else (((L0 k) (o1.2.2.2.1, o2.2.2.2.1, a0)).bind fun o10 => bif (!o10) then (some false) else (((Lv k) (o1.2.2.2.2.1, o2.2.2.2.2.1)).bind fun o11 => bif (!o11) then (some false) else (((Lx k) (o1.2.2.2.2.2.1, o2.2.2.2.2.2.1, a0)).bind fun o12 => bif (!o12) then (some false) else (L 4 [] j4 (I5 (a0, (IntKind.wrap .i64 (a1 + (1 : Int))), a2, a3, a4, a5, a6, a7, a8, a9, a10, a11, a12, a13, a14, a15, a16, a17, a18, a19)))))))))) else (some true)
theorem As9 (k j4 : Nat) (x : Z2) : (Fo k).L 4 [] (j4 + 1) (I5 x) = Qr k j4 (Fo k).J (Fo k).L x := by
 apply cutX (Fo k) [.r, .r, .l, .r, .b, .b] [j4] (I5 x) [] [(4, [], j4)] (Qr k j4 · · x) <;> intros <;> kernel_rfl
def Bpe : Sk := ⟨[.lf (.pv (.slice (.int .u8)))], [], []⟩
def Bpf : Sk := ⟨[.lf (.pv .bool)], [], []⟩
def Bpw : Sk := ⟨sparse 25 [(3, .lf (.own 0)), (6, .lf (.pv (.int .i64)))], [], [some (56, yt8)]⟩
abbrev Bpc := ((Int) × (List (YT8)))
def Bo5 : Bpc → St := stOf Bpw 74
def Bqk (k : Nat) : EnvL := [(6, [Bm9 k])]
def Box (k : Nat) : FnX Bool := mkX ({ mkC (Bqk k) 74 0 0 with hint := fun i => look none [(3, some Bpw)] i }) k Tryz.f12 Bpf
def Bo8 (k : Nat) : (List (Int)) → Option Bool := hid (Ab (Box k).C k Tryz.f12 Bpe Bpf)
def Bqa (k : Nat) : Sig := Ac Bpe Bpf (Bo8 k)
noncomputable def Bpd (k : Nat) (J : JF Bool) (L : LF Bool) : (List (Int)) → Option Bool
 | a0 => ((Bld k) (a0)).bind fun o1 => L 3 [] k (Bo5 ((0 : Int), o1.2.2))
theorem Bql (k : Nat) (x : (List (Int))) : Bo8 k x = Bpd k (Box k).J (Box k).L x := by
 refine (Ad _ _).trans ?_; apply cutX (Box k) [] [] (st0 (Box k).C Tryz.f12 Bpe x) [] [(3, [], k)] (Bpd k · · x) <;> intros <;> kernel_rfl
noncomputable def Bo9 (k j3 : Nat) (J : JF Bool) (L : LF Bool) : Bpc → Option Bool
 | (a0, a1) => bif (decide (a0 < ((List.length a1 : Nat) : Int))) then (bif (inB a0 (List.length a1)) then bif ((rdA zt8 a1 (Int.toNat a0)).2.1 == ([97, 114, 116, 101, 114, 121] : List Int)) then (some true) else (L 3 [] j3 (Bo5 ((IntKind.wrap .i64 (a0 + (1 : Int))), a1))) else none) else (some false)
theorem Bpv (k j3 : Nat) (x : Bpc) : (Box k).L 3 [] (j3 + 1) (Bo5 x) = Bo9 k j3 (Box k).J (Box k).L x := by
 apply cutX (Box k) [.r, .r, .l, .r, .b, .b] [j3] (Bo5 x) [] [(3, [], j3)] (Bo9 k j3 · · x) <;> intros <;> kernel_rfl
theorem Bqg (k : Nat) : Aa Tryz.prog 12 (Bqa k) := Af (Box k).C k rfl ⟨⟨Bnl k, trivial⟩, trivial⟩ Ae Tryz.func12 (by kernel_rfl)
abbrev H126 : Type := (List (Int)) × (List (Int))
def Bpt : Sk := ⟨[.lf (.pv (.slice (.int .u8))), .lf (.pv (.slice (.int .u8)))], [], []⟩
def Bpu : Sk := ⟨[.lf (.pv .bool)], [], []⟩
abbrev Bqi := H126
def Bqh (k : Nat) : EnvL := [(9, [Ab9 k]), (7, [A0x k]), (12, [Bqa k])]
def Bpr (k : Nat) : Cfg := mkC (Bqh k) 178 0 0
def Bpb (k : Nat) : H126 → Option Bool := hid (Ab (Bpr k) k Tryz.f5 Bpt Bpu)
def Bqv (k : Nat) : Sig := Ac Bpt Bpu (Bpb k)
noncomputable def Bps (k : Nat) : H126 → Option Bool
 | (a0, a1) => bif (decide (((List.length a0 : Nat) : Int) > (2000 : Int))) then (some true) else (bif (decide (((List.length a1 : Nat) : Int) > (2000 : Int))) then (some true) else (cat ([99, 121, 99, 108, 101, 32, 49, 32, 116, 111, 32, 50, 32, 98, 121, 32, 51, 59, 32, 112, 101, 97, 107, 32, 52, 47, 53, 59, 10] : List Int) a0 fun o1 => ((Ir k) (o1)).bind fun o2 => cat ([99, 121, 99, 108, 101, 32, 49, 32, 116, 111, 32, 50, 32, 98, 121, 32, 51, 59, 32, 112, 101, 97, 107, 32, 52, 47, 53, 59, 10] : List Int) a1 fun o3 => ((Ir k) (o3)).bind fun o4 => bif (o2.2.2.2.2.2.2.2.1 != (0 : Int)) then (((L1 k) (())).bind fun o5 => some o5) else (bif (o4.2.2.2.2.2.2.2.1 != (0 : Int)) then (((L1 k) (())).bind fun o6 => some o6) else (bif (decide (((List.length o2.2.2.2.2.2.2.2.2.2.2 : Nat) : Int) > (0 : Int))) then (((L1 k) (())).bind fun o7 => some o7) else (bif (o2.2.2.2.2.2.1 != (0 : Int)) then (((L1 k) (())).bind fun o8 => some o8) else (bif (o2.2.2.2.2.2.2.1 != (0 : Int)) then (((L1 k) (())).bind fun o9 => some o9) else (((Bo8 k) (a0)).bind fun o10 => bif o10 then (((L1 k) (())).bind fun o11 => some o11) else (cat ([99, 121, 99, 108, 101, 32, 49, 32, 116, 111, 32, 50, 32, 98, 121, 32, 51, 59, 32, 112, 101, 97, 107, 32, 52, 47, 53, 59, 10] : List Int) a0 fun o12 => cat o12 ([10] : List Int) fun o13 => cat o13 a1 fun o14 => ((Ir k) (o14)).bind fun o15 => bif (decide ((IntKind.wrap .i64 (((List.length o2.2.2.2.2.2.2.2.2.2.1 : Nat) : Int) + ((List.length o4.2.2.2.2.2.2.2.2.2.1 : Nat) : Int))) > (12 : Int))) then (bif (o15.2.2.2.2.2.2.2.1 == (4 : Int)) then (((L1 k) (())).bind fun o16 => some o16) else (some false)) else (bif (o15.2.2.2.2.2.2.2.1 == (0 : Int)) then (bif (((List.length o15.2.2.2.2.2.2.2.2.2.1 : Nat) : Int) == (IntKind.wrap .i64 (((List.length o2.2.2.2.2.2.2.2.2.2.1 : Nat) : Int) + ((List.length o4.2.2.2.2.2.2.2.2.2.1 : Nat) : Int)))) then (bif (((List.length o15.2.2.2.2.2.2.2.2.2.2 : Nat) : Int) == ((List.length o4.2.2.2.2.2.2.2.2.2.2 : Nat) : Int)) then (((L1 k) (())).bind fun o17 => some o17) else (some false)) else (some false)) else (some false))))))))))
theorem Bqj (k : Nat) (x : H126) : Bpb k x = Bps k x := (Ad _ _).trans (by kernel_rfl)
theorem Bqf (k : Nat) : Aa Tryz.prog 5 (Bqv k) := Af (Bpr k) k rfl ⟨⟨Ad6 k, trivial⟩, ⟨A6g k, trivial⟩, ⟨Bqg k, trivial⟩, trivial⟩ Ae Tryz.func5 (by kernel_rfl)
end
section
variable {α β R : Type} {d : α} {l : List α} {i : Nat} {x : α}
theorem Nu (h : l[i]? = some x) : i < l.length := (List.getElem?_eq_some_iff.1 h).1
theorem Hj (h : l[i]? = some x) : x ∈ l := List.mem_of_getElem? h
theorem at_drop (h : l[i]? = some x) : l.drop i = x :: l.drop (i + 1) := by
 obtain ⟨h1, h2⟩ := List.getElem?_eq_some_iff.1 h
 rw [List.drop_eq_getElem_cons h1, h2]
theorem Bw {K : α → Option R} (h : l[i]? = some x) : idx d l (i : Int) K = K x := by
 have := Nu h
 unfold idx
 rw [cinB, if_pos (by omega), rdA_nat, List.getD_eq_getElem?_getD, h]
 rfl
theorem Em {a b : β} (h : l[i]? = some x) : (bif decide ((i : Int) < ((l.length : Nat) : Int)) then a else b) = a := by
 have := Nu h
 rw [cd, if_pos (by omega)]
theorem En {a b : β} : (bif decide (((l.length : Nat) : Int) < ((l.length : Nat) : Int)) then a else b) = b := by
 rw [cd, if_neg (by omega)]
theorem Eu (h : l[i]? = some x) (hl : l.length < 1000000) : IntKind.wrap .i64 ((i : Int) + 1) = ((i + 1 : Nat) : Int) := by
 have := Nu h
 rw [w64 (by omega)]
 rfl
theorem Bo3 {a b : List Int} {K : List Int → Option R} (h : a.length + b.length ≤ 9223372036854775807) : cat a b K = K (a ++ b) := by
 unfold cat
 rw [cd]
 exact if_pos h
theorem Ec {n : Nat} {a b : List α} {K : List α → Option R} (h : (a.length + b.length) * n ≤ 140737488355328) (h2 : a.length + b.length ≤ 9223372036854775807) : app n a b K = K (a ++ b) := by
 unfold app
 rw [Bk6, if_pos ⟨h, h2⟩]
theorem Bfi (hz : i ≤ l.length) : i = l.length ∨ ∃ x, l[i]? = some x := by
 by_cases h : i < l.length
 ·exact .inr ⟨l[i], List.getElem?_eq_getElem h⟩
 ·exact .inl (by omega)
theorem Adh (l : List α) (p : α → Bool) (F : Nat → Int → Option R) (e r : Option R)
  (h1 : ∀ j i x, l[i]? = some x → F (j + 1) ((i : Nat) : Int) = if p x then F j ((i + 1 : Nat) : Int) else e) (h0 : ∀ j, F (j + 1) ((l.length : Nat) : Int) = r) :
  ∀ (j i : Nat), l.length < i + j → i ≤ l.length → F j (i : Int) = if (l.drop i).all p then r else e
 | 0, i, h, hi => by omega
 | j + 1, i, h, hi => by
  rcases Bfi hi with rfl | ⟨x, hx⟩
  ·rw [h0, List.drop_length]
   rfl
  ·rw [h1 j i x hx, at_drop hx, List.all_cons]
   cases p x with
   | true => exact Adh l p F e r h1 h0 j (i + 1) (by omega) (by have := Nu hx; omega)
   | false => rfl
theorem Nq (l : List α) (p : α → Bool) (F : Nat → Int → Option R) (e r : Option R)
  (h1 : ∀ j i x, l[i]? = some x → F (j + 1) ((i : Nat) : Int) = if p x then F j ((i + 1 : Nat) : Int) else e) (h0 : ∀ j, F (j + 1) ((l.length : Nat) : Int) = r) (j : Nat) (h : l.length < j) :
  F j 0 = if l.all p then r else e := Adh l p F e r h1 h0 j 0 (by omega) (by omega)
end
abbrev Tk := (Int) × ((List Int) × ((Int) × ((Int) × (Unit))))
def Bot (x : Int) : Bool := decide (97 ≤ x) && decide (x ≤ 122)
def A1 (x : Int) : Bool := decide (48 ≤ x) && decide (x ≤ 57)
def Bz (x : Int) : Bool := decide (x = 32 ∨ x = 9 ∨ x = 10 ∨ x = 13)
def D3 (x : Int) : Bool := decide (x = 123 ∨ x = 125 ∨ x = 44 ∨ x = 59 ∨ x = 58 ∨ x = 47 ∨ x = 45)
def Bd (x : Int) : Bool := Bot x || (A1 x || decide (x = 95))
def drp : Bool → List Int → List Int
 | _, [] => []
 | true, x :: r => if x = 10 then drp false r else drp true r
 | false, x :: r => if x = 35 then drp true r else if Bz x then drp false r else x :: r
def valD (l : List Int) : Int := l.foldl (fun v c => 10 * v + (c - 48)) 0
def tok1 : List Int → Int × Int × List Int × Int × List Int
 | [] => (40, 0, [], 0, [])
 | x :: r =>
  if Bot x then (if 24 < ((x :: r).takeWhile Bd).length then (4, 0, [], 0, []) else (0, 1, (x :: r).takeWhile Bd, 0, (x :: r).dropWhile Bd))
  else if A1 x then (if 18 < ((x :: r).takeWhile A1).length then (4, 0, [], 0, []) else (0, 2, (x :: r).takeWhile A1, valD ((x :: r).takeWhile A1), (x :: r).dropWhile A1))
  else if D3 x then (0, 3, [x], 0, r)
  else (40, 0, [], 0, [])
def lx (n : Nat) : Nat → List Int → Int × Int × List Tk
 | 0, _ => (0, 0, [])
 | f + 1, s => match drp false s with
  | [] => (0, 0, [(0, [], 0, (n : Int), ())])
  | x :: r => if (tok1 (x :: r)).1 = 0 then
    (if (lx n f (tok1 (x :: r)).2.2.2.2).1 = 0 then
     (0, 0, ((tok1 (x :: r)).2.1, (tok1 (x :: r)).2.2.1, (tok1 (x :: r)).2.2.2.1, ((n - (x :: r).length : Nat) : Int), ()) :: (lx n f (tok1 (x :: r)).2.2.2.2).2.2)
    else ((lx n f (tok1 (x :: r)).2.2.2.2).1, (lx n f (tok1 (x :: r)).2.2.2.2).2.1, []))
   else ((tok1 (x :: r)).1, ((n - (x :: r).length : Nat) : Int), [])
def toks (b : List Int) : Int × Int × List Tk := if 65536 < b.length then (4, 65536, []) else lx b.length (b.length + 1) b
theorem J4 : ∀ (m : Bool) (s : List Int), drp m s <:+ s
 | _, [] => by cases ‹Bool› <;> simp [drp]
 | true, x :: r => by
  rw [drp]; split
  ·exact (J4 false r).trans (List.suffix_cons x r)
  ·exact (J4 true r).trans (List.suffix_cons x r)
 | false, x :: r => by
  rw [drp]; split
  ·exact (J4 true r).trans (List.suffix_cons x r)
  ·split
   ·exact (J4 false r).trans (List.suffix_cons x r)
   ·exact List.suffix_refl _
theorem J3 (m : Bool) (s : List Int) : (drp m s).length ≤ s.length := (J4 m s).length_le
theorem J2 : ∀ (m : Bool) (s : List Int) {x : Int} {r : List Int}, drp m s = x :: r → x ≠ 35 ∧ Bz x = false
 | _, [], x, r, h => by cases ‹Bool› <;> simp [drp] at h
 | true, y :: q, x, r, h => by
  rw [drp] at h; split at h
  ·exact J2 false q h
  ·exact J2 true q h
 | false, y :: q, x, r, h => by
  rw [drp] at h; split at h
  ·exact J2 true q h
  ·split at h
   ·exact J2 false q h
   ·rename_i h1 h2
    cases h
    exact ⟨h1, by simpa using h2⟩
theorem Bma (s : List Int) (m : Bool) : drp false (drp m s) = drp m s := by
 cases h : drp m s with
 | nil => rfl
 | cons x r =>
  obtain ⟨h1, h2⟩ := J2 m s h
  rw [drp, if_neg h1, h2]
  rfl
theorem Acq {p : Int → Bool} {c : Int} (h : p c = false) : ∀ (l b : List Int), (l ++ c :: b).takeWhile p = l.takeWhile p
 | [], b => by simp [h]
 | x :: l, b => by
  rw [List.cons_append, List.takeWhile_cons, List.takeWhile_cons, Acq h l b]
theorem U5 {p : Int → Bool} {c : Int} (h : p c = false) : ∀ (l b : List Int), (l ++ c :: b).dropWhile p = l.dropWhile p ++ c :: b
 | [], b => by simp [h]
 | x :: l, b => by
  rw [List.cons_append, List.dropWhile_cons, List.dropWhile_cons]
  split
  ·exact U5 h l b
  ·rfl
theorem Acr {c : Int} (h : Bd c = false) : A1 c = false := by
 unfold Bd at h
 simp only [Bool.or_eq_false_iff] at h
 exact h.2.1
theorem A03 {c : Int} (hc : Bd c = false) {x : Int} {r b : List Int} (h : (tok1 (x :: r)).1 = 0) :
  tok1 (x :: r ++ c :: b) = (0, (tok1 (x :: r)).2.1, (tok1 (x :: r)).2.2.1, (tok1 (x :: r)).2.2.2.1, (tok1 (x :: r)).2.2.2.2 ++ c :: b) := by
 have e1 := Acq hc (x :: r) b
 have e2 := U5 hc (x :: r) b
 have e3 := Acq (Acr hc) (x :: r) b
 have e4 := U5 (Acr hc) (x :: r) b
 rw [List.cons_append] at e1 e2 e3 e4 ⊢
 simp only [tok1] at h ⊢
 rw [e1, e2, e3, e4]
 split at h
 ·rename_i h1
  simp only [h1, if_true]
  split at h
  ·simp at h
  ·rename_i h2; simp only [if_neg h2]
 ·rename_i h1
  simp only [h1, Bool.false_eq_true, if_false]
  split at h
  ·rename_i h2
   simp only [h2, if_true]
   split at h
   ·simp at h
   ·rename_i h3; simp only [if_neg h3]
  ·rename_i h2
   simp only [h2, Bool.false_eq_true, if_false]
   split at h
   ·rename_i h3; simp [h3]
   ·simp at h
theorem Ng {x : Int} {r : List Int} (h : (tok1 (x :: r)).1 = 0) :
  (tok1 (x :: r)).2.2.1 ++ (tok1 (x :: r)).2.2.2.2 = x :: r ∧ (tok1 (x :: r)).2.2.1 ≠ [] ∧ (tok1 (x :: r)).2.1 ≠ 0 ∧ (tok1 (x :: r)).2.2.1.length ≤ 24 := by
 simp only [tok1] at h ⊢
 split at h
 ·rename_i h1
  simp only [h1, if_true]
  split at h
  ·simp at h
  ·rename_i h2
   rw [if_neg h2]
   refine ⟨List.takeWhile_append_dropWhile, ?_, by simp, by simp only []; omega⟩
   have : Bd x = true := by simp [Bd, h1]
   simp [List.takeWhile_cons, this]
 ·rename_i h1
  simp only [h1, Bool.false_eq_true, if_false]
  split at h
  ·rename_i h2
   simp only [h2, if_true]
   split at h
   ·simp at h
   ·rename_i h3
    rw [if_neg h3]
    refine ⟨List.takeWhile_append_dropWhile, ?_, by simp, by simp only []; omega⟩
    simp [List.takeWhile_cons, h2]
  ·rename_i h2
   simp only [h2, Bool.false_eq_true, if_false]
   split at h
   ·rename_i h3; simp [h3]
   ·simp at h
theorem Jo {x : Int} {r : List Int} (h : (tok1 (x :: r)).1 = 0) : (tok1 (x :: r)).2.2.2.2.length ≤ r.length := by
 obtain ⟨h1, h2, _⟩ := Ng h
 have e := congrArg List.length h1
 rw [List.length_append, List.length_cons] at e
 have : (tok1 (x :: r)).2.2.1.length ≠ 0 := fun h => h2 (List.length_eq_zero_iff.1 h)
 omega
theorem Abd (n : Nat) : ∀ (f f' : Nat) (s : List Int), s.length < f → s.length < f' → lx n f s = lx n f' s
 | 0, _, _, h, _ => by omega
 | _ + 1, 0, _, _, h => by omega
 | f + 1, f' + 1, s, h, h' => by
  have hl := J3 false s
  rw [lx, lx]
  cases hd : drp false s with
  | nil => rfl
  | cons x r =>
   rw [hd, List.length_cons] at hl
   simp only []
   by_cases h0 : (tok1 (x :: r)).1 = 0
   ·have := Jo h0
    rw [if_pos h0, if_pos h0, Abd n f f' _ (by omega) (by omega)]
   ·rw [if_neg h0, if_neg h0]
theorem Bm0 (n : Nat) : ∀ (f : Nat) (s : List Int), (lx n f s).1 = 0 → (lx n f s).2.1 = 0
 | 0, s, _ => rfl
 | f + 1, s, h => by
  rw [lx] at h ⊢
  cases hd : drp false s with
  | nil => rfl
  | cons x r =>
   rw [hd] at h
   simp only [] at h ⊢
   split at h
   ·rename_i h0
    rw [if_pos h0]
    split at h
    ·rename_i h1; rw [if_pos h1]
    ·rename_i h1; exact absurd h h1
   ·rename_i h0; exact absurd h h0
def kdS (a : Int) : Int := if Bot a then 3 else if A1 a then 4 else if Bz a then 1 else if a = 35 then 2 else if a = 95 then 6 else if D3 a then 5 else 0
theorem Aup (k : Nat) (a : Int) : clexkind k a = some (kdS a) := by
 skip
 rw [A74, V1, A75, V2, A76, V3]
 simp only [cd, cbeq]
 unfold kdS Bot A1 Bz D3
 simp only [Bool.and_eq_true, decide_eq_true_eq]
 repeat' (first | (exfalso; omega) | (refine iteS (fun _ => ?_) (fun _ => ?_)))
 all_goals (refine congrArg some ?_; repeat' (first | rfl | (exfalso; omega) | (refine iteR (fun _ => ?_) (fun _ => ?_))))
theorem kd1 (a : Int) : kdS a = 1 ↔ Bz a = true := by
 unfold kdS Bot A1 Bz D3
 simp only [Bool.and_eq_true, decide_eq_true_eq]
 repeat' split
 all_goals first | omega
theorem kd2 (a : Int) : kdS a = 2 ↔ a = 35 := by
 unfold kdS Bot A1 Bz D3
 simp only [Bool.and_eq_true, decide_eq_true_eq]
 repeat' split
 all_goals first | omega
theorem kd3 (a : Int) : kdS a = 3 ↔ Bot a = true := by
 unfold kdS Bot A1 Bz D3
 simp only [Bool.and_eq_true, decide_eq_true_eq]
 repeat' split
 all_goals first | omega
theorem kd4 (a : Int) : kdS a = 4 ↔ A1 a = true := by
 unfold kdS Bot A1 Bz D3
 simp only [Bool.and_eq_true, decide_eq_true_eq]
 repeat' split
 all_goals first | omega
theorem kd5 (a : Int) : kdS a = 5 ↔ D3 a = true := by
 unfold kdS Bot A1 Bz D3
 simp only [Bool.and_eq_true, decide_eq_true_eq]
 repeat' split
 all_goals first | omega
theorem kd6 (a : Int) : kdS a = 6 ↔ a = 95 := by
 unfold kdS Bot A1 Bz D3
 simp only [Bool.and_eq_true, decide_eq_true_eq]
 repeat' split
 all_goals first | omega
theorem Auo (k : Nat) (b : List Int) (i : Nat) (h : i < b.length) : Lo k (b, (i : Int)) = some (kdS (b.getD i 0), b, (i : Int)) := by
 skip
 rw [A8a, Afn, cinB, if_pos (by omega), Abz, Aup]; rfl
theorem Bfo (k : Nat) (b : List Int) (i : Nat) (h : i < b.length) : Jv k (b, (i : Int)) = some (kdS (b.getD i 0)) := by
 skip
 rw [A78, Afj, cinB, if_pos (by omega), Abz, Aup]; rfl
def fstI (v : Int) : List Int → Option Nat
 | [] => none
 | x :: r => if v = x then some 0 else (fstI v r).map (· + 1)
theorem Aui (k : Nat) (l : List Int) (v : Int) (hl : l.length < 9223372036854775807) : ∀ (j i : Nat), i ≤ l.length → l.length - i < j →
  (E7 k).L 2 [] j (L9 (l, v, (l.length : Int), (i : Int))) = some (match fstI v (l.drop i) with | some n => ((i + n : Nat) : Int) | none => -1)
 | 0, i, _, h => by omega
 | j + 1, i, hi, h => by
  rw [A7p, Ve, cd, cinB, Abz]
  by_cases hlt : i < l.length
  ·rw [if_pos (by omega), if_pos (by omega), Hm hlt, fstI, cbeq]
   split
   ·rfl
   ·rw [w64 (by omega), Nf, Aui k l v hl j (i + 1) (by omega) (by omega)]
    cases fstI v (l.drop (i + 1)) with
    | none => rfl
    | some n => simp only [Option.map_some]; congr 2; omega
  ·have hi2 : i = l.length := by omega
   rw [if_neg (by omega)]
   subst hi2
   simp [fstI]
theorem Bfj (k : Nat) (l : List Int) (v : Int) (hk : l.length < k) (hl : l.length < 9223372036854775807) : N5 k (l, v) = some (match fstI v l with | some n => (n : Int) | none => -1) := by
 skip
 rw [A7o, Vd]
 have := Aui k l v hl k 0 (by omega) (by omega)
 simpa using this
theorem Atw : ∀ (s : List Int), drp true s = match fstI 10 s with | some n => drp false (s.drop n) | none => []
 | [] => rfl
 | x :: r => by
  rw [drp, fstI]
  by_cases h : x = 10
  ·subst h; simp [drp, Bz]
  ·rw [if_neg h, if_neg (fun e => h e.symm), Atw r]
   cases fstI 10 r <;> rfl
theorem Atv {v : Int} : ∀ {l : List Int} {n : Nat}, fstI v l = some n → n < l.length ∧ l.getD n 0 = v
 | [], n, h => by cases h
 | x :: r, n, h => by
  simp only [fstI] at h
  split at h
  ·rename_i e; cases h; exact ⟨by simp, by simp [e]⟩
  ·obtain ⟨m, hm, rfl⟩ := Option.map_eq_some_iff.1 h
   have := Atv hm
   exact ⟨by simp; omega, by simpa using this.2⟩
theorem R1 (k : Nat) (b : List Int) (hk : b.length < k) (hl : b.length < 1000000) : ∀ (j i : Nat), i ≤ b.length → b.length - i < j → (Fb k).L 0 [] j (I1 (b, (i : Int))) = some (b, ((b.length - (drp false (b.drop i)).length : Nat) : Int))
 | 0, i, _, h => by omega
 | j + 1, i, hi, h => by
  rw [A8m, We, cd]
  by_cases hlt : i < b.length
  ·rw [if_pos (by omega), Auo k b i hlt, Option.bind_some]
   dsimp only
   rw [cbeq, cbeq, Lm, if_pos (by omega : (0 : Int) ≤ i ∧ (i : Int) ≤ ((b.length : Nat) : Int) ∧ ((b.length : Nat) : Int) ≤ ((b.length : Nat) : Int)), P7, List.take_length, Hm hlt]
   simp only [kd1, kd2, drp]
   split
   ·rename_i h2
    rw [Atw, ← Hm hlt, Bfj k _ _ (by rw [List.length_drop]; omega) (by rw [List.length_drop]; omega), Option.bind_some, Hm hlt, fstI, if_neg (by omega)]
    cases hf : fstI 10 (b.drop (i + 1)) with
    | none =>
     simp only [Option.map_none, cd]
     rw [if_neg (by omega), R1 k b hk hl j b.length (Nat.le_refl _) (by omega)]
     simp [drp]
    | some n =>
     obtain ⟨n1, n2⟩ := Atv hf
     rw [List.length_drop] at n1
     simp only [Option.map_some, cd]
     have hpos : ((n + 1 : Nat) : Int) ≥ 0 := by omega
     have hw : -9223372036854775808 ≤ (i : Int) + ((n + 1 : Nat) : Int) ∧ (i : Int) + ((n + 1 : Nat) : Int) ≤ 9223372036854775807 := by omega
     rw [if_pos hpos, w64 hw, show ((i : Int) + ((n + 1 : Nat) : Int)) = ((i + (n + 1) : Nat) : Int) by simp, R1 k b hk hl j (i + (n + 1)) (by omega) (by omega), List.drop_drop]
     rw [show i + 1 + n = i + (n + 1) by omega]
   ·split
    ·rw [w64 (by omega), Nf]
     exact R1 k b hk hl j (i + 1) (by omega) (by omega)
    ·rw [← Hm hlt, List.length_drop]
     congr 3
     omega
  ·rw [if_neg (by omega), List.drop_eq_nil_of_le (by omega)]
   simp [drp]
   omega
theorem Bjx (k : Nat) (b : List Int) (hk : b.length < k) (hl : b.length < 1000000) (i : Nat) (hi : i ≤ b.length) : Oa k (b, (i : Int)) = some (b, ((b.length - (drp false (b.drop i)).length : Nat) : Int)) := by
 skip
 rw [A8l, Wd, R1 k b hk hl k i hi (by omega)]
theorem Abs (k : Nat) (b : List Int) (g : Int → Option Bool) (p : Int → Bool) (hg : ∀ x, g (kdS x) = some (p x)) (L : Nat → Int → List Int → Int → Option (List Int × List Int × Int))
  (hL : ∀ j a0 a1 a2, L (j + 1) a0 a1 a2 = bif (decide (a2 < ((List.length a1 : Nat) : Int))) then ((Jv k (a1, a2)).bind fun o1 => (g o1).bind fun o2 => bif o2 then L j a0 a1 (IntKind.wrap .i64 (a2 + (1 : Int))) else (bif (cutB a0 a2 (List.length a1)) then some ((cutL a1 a0 a2), a1, a2) else none)) else (bif (cutB a0 a2 (List.length a1)) then some ((cutL a1 a0 a2), a1, a2) else none)) (hl : b.length < 1000000) (s : Nat) :
  ∀ (j i : Nat), s ≤ i → i ≤ b.length → b.length - i < j → L j (s : Int) b (i : Int) = some ((b.take (i + ((b.drop i).takeWhile p).length)).drop s, b, ((i + ((b.drop i).takeWhile p).length : Nat) : Int))
 | 0, i, _, _, h => by omega
 | j + 1, i, hs, hi, h => by
  rw [hL, cd]
  by_cases hlt : i < b.length
  ·rw [if_pos (by omega), Bfo k b i hlt, Option.bind_some, hg, Option.bind_some, Hm hlt, List.takeWhile_cons]
   cases hp : p (b.getD i 0) with
   | true =>
    rw [cond_true, w64 (by omega), Nf, Abs k b g p hg L hL hl s j (i + 1) (by omega) (by omega) (by omega)]
    simp only [if_true, List.length_cons]
    rw [show i + 1 + ((b.drop (i + 1)).takeWhile p).length = i + (((b.drop (i + 1)).takeWhile p).length + 1) by omega]
   | false =>
    rw [cond_false, Lm, if_pos (by omega), P7]
    simp
  ·rw [if_neg (by omega), Lm, if_pos (by omega), P7, @List.drop_eq_nil_of_le _ b i (by omega)]
   simp
theorem A02 (p : Int → Bool) (b : List Int) (i : Nat) : (b.take (i + ((b.drop i).takeWhile p).length)).drop i = (b.drop i).takeWhile p := by
 rw [List.drop_take]
 simp only [Nat.add_sub_cancel_left]
 exact (List.prefix_iff_eq_take.1 (List.takeWhile_prefix p)).symm
theorem Bg2 (k : Nat) (b : List Int) (hk : b.length < k) (hl : b.length < 1000000) (i : Nat) (hi : i ≤ b.length) :
  N8 k (b, (i : Int)) = some ((b.drop i).takeWhile Bd, b, ((i + ((b.drop i).takeWhile Bd).length : Nat) : Int)) := by
 have := Abs k b (Od k) Bd (fun x => by
  skip
  rw [A8q, Af6, cbeq, cbeq]
  unfold Bd
  have h6 : (kdS x == 6) = decide (x = 95) := by
   rw [Bool.eq_iff_iff]; simp [kd6]
  rw [h6]
  simp only [kd3, kd4]
  cases Bot x <;> cases A1 x <;> simp) (fun j a0 a1 a2 => (E9 k).L 2 [] j (Md (a0, a1, a2))) (fun j a0 a1 a2 => A8j k j (a0, a1, a2)) hl i k i (Nat.le_refl _) (by omega) (by omega)
 skip
 rw [A8i, Wa]
 rw [A02] at this
 exact this
theorem Bg1 (k : Nat) (b : List Int) (hk : b.length < k) (hl : b.length < 1000000) (i : Nat) (hi : i ≤ b.length) :
  N9 k (b, (i : Int)) = some ((b.drop i).takeWhile A1, b, ((i + ((b.drop i).takeWhile A1).length : Nat) : Int)) := by
 have := Abs k b (N7 k) A1 (fun x => by
  skip
  rw [A8c, Afr]
  congr 1
  rw [Bool.eq_iff_iff]; simp [kd4]) (fun j a0 a1 a2 => (Fa k).L 2 [] j (Mc (a0, a1, a2))) (fun j a0 a1 a2 => A8g k j (a0, a1, a2)) hl i k i (Nat.le_refl _) (by omega) (by omega)
 skip
 rw [A8f, V7]
 rw [A02] at this
 exact this
theorem Jd {p : Int → Bool} : ∀ {l : List Int} {x : Int}, x ∈ l.takeWhile p → p x = true
 | [], x, h => by simp at h
 | y :: l, x, h => by
  rw [List.takeWhile_cons] at h
  split at h
  ·rename_i hp
   rcases List.mem_cons.1 h with rfl | h
   ·exact hp
   ·exact Jd h
  ·cases h
theorem Av7 : ∀ (l : List Int) (acc m : Nat), acc < 10 ^ m → m + l.length ≤ 18 → (∀ c ∈ l, A1 c = true) →
  ∃ u : Nat, Lib.parseUintM (2 ^ 64 - 1) acc (u8s l) = .ok u ∧ u < 10 ^ 18 ∧ (u : Int) = l.foldl (fun v c => 10 * v + (c - 48)) (acc : Int)
 | [], acc, m, h1, h2, _ => ⟨acc, rfl, Nat.lt_of_lt_of_le h1 (Nat.pow_le_pow_right (by decide) (by simpa using h2)), rfl⟩
 | c :: r, acc, m, h1, h2, h3 => by
  have hc := h3 c (by simp)
  unfold A1 at hc
  simp only [Bool.and_eq_true, decide_eq_true_eq] at hc
  have hu : (UInt8.ofNat c.toNat).toNat = c.toNat := by rw [UInt8.toNat_ofNat']; omega
  have hm : m ≤ 17 := by simp at h2; omega
  have ha : acc < 10 ^ 17 := Nat.lt_of_lt_of_le h1 (Nat.pow_le_pow_right (by decide) hm)
  have hb : acc * 10 + (c.toNat - 48) < 10 ^ (m + 1) := by
   rw [Nat.pow_succ]
   omega
  have hb2 : acc * 10 + (c.toNat - 48) < 10 ^ 18 := Nat.lt_of_lt_of_le hb (Nat.pow_le_pow_right (by decide) (by omega))
  obtain ⟨u, e1, e2, e3⟩ := Av7 r (acc * 10 + (c.toNat - 48)) (m + 1) hb (by simp at h2; omega) fun x hx => h3 x (by simp [hx])
  refine ⟨u, ?_, e2, ?_⟩
  ·show Lib.parseUintM _ _ (UInt8.ofNat c.toNat :: u8s r) = _
   simp only [Lib.parseUintM]
   rw [hu, if_pos (by omega), if_neg (by omega), if_neg (by omega)]
   exact e1
  ·rw [e3, List.foldl_cons]
   congr 1
   omega
theorem A1b : ∀ (l : List Int) (acc : Int) (m : Nat), 0 ≤ acc → acc < 10 ^ m → (∀ c ∈ l, A1 c = true) → 0 ≤ l.foldl (fun v c => 10 * v + (c - 48)) acc ∧ l.foldl (fun v c => 10 * v + (c - 48)) acc < 10 ^ (m + l.length)
 | [], acc, m, h0, h1, _ => ⟨h0, by simpa using h1⟩
 | c :: r, acc, m, h0, h1, h3 => by
  have hc := h3 c (by simp)
  unfold A1 at hc
  simp only [Bool.and_eq_true, decide_eq_true_eq] at hc
  have := A1b r (10 * acc + (c - 48)) (m + 1) (by omega) (by rw [Int.pow_succ]; omega) fun x hx => h3 x (by simp [hx])
  rw [List.foldl_cons, List.length_cons, show m + (r.length + 1) = m + 1 + r.length by omega]
  exact this
theorem Bgz {l : List Int} (h0 : l ≠ []) (h1 : l.length ≤ 18) (h2 : ∀ x ∈ l, A1 x = true) : K2 (l, 10, 64) = some (valD l, true) := by
 unfold K2
 rw [if_pos ⟨rfl, rfl, by simp only; omega⟩]
 obtain ⟨u, hu, hlt, hv⟩ := Av7 l 0 0 (by decide) (by simpa using h1) h2
 have : Lib.parseIntB 64 (u8s l) = .ok (u : Int) := by
  cases l with
  | nil => exact absurd rfl h0
  | cons x r =>
   have hc := h2 x (by simp)
   unfold A1 at hc
   simp only [Bool.and_eq_true, decide_eq_true_eq] at hc
   have hx : (UInt8.ofNat x.toNat).toNat = x.toNat := by rw [UInt8.toNat_ofNat']; omega
   have hl : u8s (x :: r) = UInt8.ofNat x.toNat :: u8s r := rfl
   rw [hl] at hu ⊢
   have e1 : ¬ ((UInt8.ofNat x.toNat).toNat = 43 ∨ (UInt8.ofNat x.toNat).toNat = 45) := by omega
   have e2 : ¬ ((UInt8.ofNat x.toNat).toNat = 45) := by omega
   simp only [Lib.parseIntB, Lib.parseUintB, if_neg e1]
   rw [if_neg (by simp), hu]
   simp only [e2]
   rw [if_neg (by simp; omega), if_neg (by simp)]
   simp
 rw [this]
 simp only []
 have hv2 : (u : Int) = valD l := hv
 rw [if_pos, hv2]
 ·have h1 : (u : Int) < 10 ^ 18 := by exact_mod_cast hlt
  simp only [Lit.wf, Bool.and_eq_true, decide_eq_true_eq]
  constructor
  ·exact Int.le_trans (by decide) (Int.natCast_nonneg u)
  ·exact Int.le_trans (Int.le_of_lt h1) (by decide)
theorem Bkg (k : Nat) (b : List Int) (hk : b.length < k) (hl : b.length < 1000000) (i : Nat) (hi : i < b.length) (hx : b.getD i 0 ≠ 35) (hb : Bz (b.getD i 0) = false) :
  ∃ q : Int, Ob k (b, (i : Int)) = some ((tok1 (b.drop i)).2.1, (tok1 (b.drop i)).2.2.1, (tok1 (b.drop i)).2.2.2.1, 0, (tok1 (b.drop i)).1, b, q) ∧ ((tok1 (b.drop i)).1 = 0 → q = ((b.length - (tok1 (b.drop i)).2.2.2.2.length : Nat) : Int)) := by
 have e0 := Hm hi
 have elen : (b.drop i).length = b.length - i := List.length_drop
 skip
 rw [A8o, Af2, Auo k b i hi, Option.bind_some]
 dsimp only
 rw [cbeq, cbeq, cbeq]
 simp only [kd3, kd4, kd5]
 split
 ·rename_i h3
  have hw := List.takeWhile_append_dropWhile (p := Bd) (l := b.drop i)
  have hw2 := congrArg List.length hw
  rw [List.length_append, elen] at hw2
  skip
  rw [A8r, Af9, Bg2 k b hk hl i (by omega), Option.bind_some]
  simp only [cd]
  have et : tok1 (b.drop i) = if 24 < ((b.drop i).takeWhile Bd).length then (4, 0, [], 0, []) else (0, 1, (b.drop i).takeWhile Bd, 0, (b.drop i).dropWhile Bd) := by
   rw [e0, tok1, if_pos h3]
  rw [et]
  by_cases h24 : 24 < ((b.drop i).takeWhile Bd).length
  ·rw [if_pos (by omega), if_pos h24]
   exact ⟨_, rfl, fun h => by simp at h⟩
  ·rw [if_neg (by omega), if_neg h24]
   exact ⟨_, rfl, fun _ => by simp only []; omega⟩
 ·rename_i h3
  split
  ·rename_i h4
   have hw := List.takeWhile_append_dropWhile (p := A1) (l := b.drop i)
   have hw2 := congrArg List.length hw
   rw [List.length_append, elen] at hw2
   skip
   rw [A8d, Afu, Bg1 k b hk hl i (by omega), Option.bind_some]
   simp only [cd]
   have et : tok1 (b.drop i) = if 18 < ((b.drop i).takeWhile A1).length then (4, 0, [], 0, []) else (0, 2, (b.drop i).takeWhile A1, valD ((b.drop i).takeWhile A1), (b.drop i).dropWhile A1) := by
    rw [e0, tok1, if_neg h3, if_pos h4]
   rw [et]
   by_cases h18 : 18 < ((b.drop i).takeWhile A1).length
   ·rw [if_pos (by omega), if_pos h18]
    exact ⟨_, rfl, fun h => by simp at h⟩
   ·rw [if_neg (by omega), if_neg h18]
    rw [show U0 k ((b.drop i).takeWhile A1, 10, 64) = some (valD ((b.drop i).takeWhile A1), true) from Bgz (by rw [e0, List.takeWhile_cons, if_pos h4]; simp) (by omega) (fun x hx => Jd hx), Option.bind_some]
    exact ⟨_, rfl, fun _ => by simp only []; omega⟩
  ·rename_i h4
   have et : tok1 (b.drop i) = if D3 (b.getD i 0) then (0, 3, [b.getD i 0], 0, b.drop (i + 1)) else (40, 0, [], 0, []) := by
    rw [e0, tok1, if_neg h3, if_neg h4]
   rw [et]
   split
   ·rename_i h5
    rw [w64 (n := (i : Int) + 1) (by omega), w64 (by omega), Lm, if_pos (by omega), Nf]
    rw [show (((i + 1 : Nat) : Int) - 1) = (i : Int) by omega, P7]
    refine ⟨_, ?_, fun _ => rfl⟩
    have e1 : (b.take (i + 1)).drop i = [b.getD i 0] := by
     rw [List.drop_take, e0, show i + 1 - i = 1 by omega]; rfl
    rw [e1]
    congr 7
    simp only [List.length_drop]
    omega
   ·exact ⟨_, rfl, fun h => by simp at h⟩
theorem A04 (k : Nat) (b : List Int) (hk : b.length < k) (hl : b.length < 1000000) : ∀ (j i : Nat) (out : List Tk), i ≤ b.length → b.length - i < j → out.length ≤ i →
  (E8 k).L 5 [] j (Mb (b, b, (i : Int), out)) = some ((lx b.length j (b.drop i)).1, (lx b.length j (b.drop i)).2.1, if (lx b.length j (b.drop i)).1 = 0 then out ++ (lx b.length j (b.drop i)).2.2 else [])
 | 0, i, out, _, h, _ => by omega
 | j + 1, i, out, hi, h, ho => by
  have hd := J3 false (b.drop i)
  have hsuf := (J4 false (b.drop i)).trans (List.drop_suffix i b)
  rw [List.length_drop] at hd
  rw [A71, Vx, Bjx k b hk hl i hi, Option.bind_some, lx]
  cases hs : drp false (b.drop i) with
  | nil =>
   dsimp only
   rw [List.length_nil, Nat.sub_zero, cbeq, if_pos rfl, Bk6, if_pos (by simp only [List.length_cons, List.length_nil]; omega)]
   rfl
  | cons x r =>
   rw [hs] at hd hsuf
   obtain ⟨h35, hbl⟩ := J2 false _ hs
   have hsuf2 := List.suffix_iff_eq_drop.1 hsuf
   generalize hp : b.length - (x :: r).length = p at *
   have hlen2 : (x :: r).length ≤ b.length := by omega
   have hpl : p < b.length := by rw [List.length_cons] at hd hp; omega
   have hx : b.getD p 0 = x := by
    have := Hm hpl
    rw [← hsuf2] at this
    exact (List.cons.inj this).1.symm
   dsimp only
   rw [cbeq, if_neg (by omega)]
   obtain ⟨q, e, hq⟩ := Bkg k b hk hl p hpl (by rw [hx]; exact h35) (by rw [hx]; exact hbl)
   rw [← hsuf2] at e hq
   rw [e, Option.bind_some]
   dsimp only
   rw [cbne]
   by_cases h0 : (tok1 (x :: r)).1 = 0
   ·have hr := Jo h0
    obtain ⟨s1, s2, s3, s4⟩ := Ng h0
    simp only [if_pos h0]
    rw [Bk6, if_pos (by simp only [List.length_cons, List.length_nil]; omega), hq h0]
    rw [List.length_cons] at hd hp
    have hsub : b.drop (b.length - (tok1 (x :: r)).2.2.2.2.length) = (tok1 (x :: r)).2.2.2.2 := by
     have hs3 : (tok1 (x :: r)).2.2.2.2 <:+ b := (List.suffix_append _ _).trans (s1 ▸ hsuf)
     exact (List.suffix_iff_eq_drop.1 hs3).symm
    have := A04 k b hk hl j (b.length - (tok1 (x :: r)).2.2.2.2.length) (out ++ [((tok1 (x :: r)).2.1, ((tok1 (x :: r)).2.2.1, ((tok1 (x :: r)).2.2.2.1, (((p : Nat) : Int), ()))))]) (by omega) (by omega) (by rw [List.length_append]; simp only [List.length_cons, List.length_nil]; omega)
    rw [hsub] at this
    rw [this]
    by_cases h1 : (lx b.length j (tok1 (x :: r)).2.2.2.2).1 = 0
    ·have hz := Bm0 _ _ _ h1
     simp only [if_pos h1, h1, hz]
     simp
     omega
    ·simp only [if_neg h1]
   ·simp only [if_neg h0, hp]
theorem Bkh (k : Nat) (b : List Int) (hk : b.length < k) (hm : b.length < 1000000) : N6 k b = some (toks b) := by
 unfold toks
 rw [A70, Vw, cd]
 by_cases hl : 65536 < b.length
 ·rw [if_pos (by omega), if_pos hl]
 ·rw [if_neg (by omega), if_neg hl, show (0 : Int) = ((0 : Nat) : Int) from rfl, A04 k b hk (by omega) k 0 [] (Nat.zero_le _) (by omega) (Nat.zero_le _)]
  rw [List.drop_zero, Abd _ k (b.length + 1) b (by omega) (by omega), List.nil_append]
  have : ∀ (f : Nat) (s : List Int), (if (lx b.length f s).1 = 0 then (lx b.length f s).2.2 else []) = (lx b.length f s).2.2 := by
   intro f s
   split
   ·rfl
   ·rename_i h
    cases f with
    | zero => exact absurd rfl h
    | succ f =>
     rw [lx] at h ⊢
     cases hd : drp false s with
     | nil => rw [hd] at h; exact absurd rfl h
     | cons x r =>
      rw [hd] at h
      simp only [] at h ⊢
      split
      ·rename_i h0
       rw [if_pos h0] at h
       split
       ·rename_i h1; rw [if_pos h1] at h; exact absurd rfl h
       ·rfl
      ·rfl
  rw [this]
theorem Bm5 (k : Nat) (b : List Int) (hl : b.length < 1000000) (j1 i0 : Nat) (H : ∀ i, i0 < i → i ≤ b.length → (Bku k).L 1 [] j1 (Bkz (b, (i : Int))) = some ((b.length - (drp false (b.drop i)).length : Nat) : Int)) :
  ∀ (j i : Nat), i0 < i → i ≤ b.length → b.length - i < j → (Bku k).L 3 [j1] j (Blb (b, (i : Int))) = some ((b.length - (drp true (b.drop i)).length : Nat) : Int)
 | 0, i, _, _, h => by omega
 | j + 1, i, h0, hi, h => by
  rw [Bmp, Blh, cd, cinB, cbne, Abz]
  by_cases hlt : i < b.length
  ·rw [if_pos (by omega), if_pos (by omega), Hm hlt, drp]
   by_cases hn : b.getD i 0 = 10
   ·rw [if_pos hn, if_pos hn, H i h0 hi, Hm hlt, drp, hn]
    rfl
   ·rw [if_neg hn, if_neg hn, w64 (by omega), Nf]
    exact Bm5 k b hl j1 i0 H j (i + 1) (by omega) (by omega) (by omega)
  ·rw [if_neg (by omega), H i h0 hi, @List.drop_eq_nil_of_le _ b i (by omega)]
   simp [drp]
theorem Bl8 (k : Nat) (b : List Int) (hk : b.length < k) (hl : b.length < 1000000) : ∀ (j i : Nat), i ≤ b.length → b.length - i < j → (Bku k).L 1 [] j (Bkz (b, (i : Int))) = some ((b.length - (drp false (b.drop i)).length : Nat) : Int)
 | 0, i, _, h => by omega
 | j + 1, i, hi, h => by
  rw [Bob, Bl5]
  simp only [cd, cinB, cbeq, Abz]
  by_cases hlt : i < b.length
  ·rw [if_pos (by omega)]
   simp only [if_pos (show (0 : Int) ≤ (i : Int) ∧ (i : Int) < (b.length : Int) by omega)]
   have IH := Bl8 k b hk hl j (i + 1) (by omega) (by omega)
   rw [w64 (by omega), Nf, IH, Hm hlt, drp]
   by_cases h35 : b.getD i 0 = 35
   ·rw [if_pos h35, if_pos h35]
    obtain ⟨k', rfl⟩ : ∃ k', k = k' + 1 := ⟨k - 1, by omega⟩
    rw [Bmp, Blh, cd, cinB, cbne, Abz, if_pos (by omega), if_pos (by omega), if_neg (by omega), w64 (by omega), Nf]
    exact Bm5 _ b hl j i (fun i' h1 h2 => Bl8 _ b hk hl j i' h2 (by omega)) k' (i + 1) (by omega) (by omega) (by omega)
   ·rw [if_neg h35, if_neg h35]
    unfold Bz
    simp only [decide_eq_true_eq]
    have e : b.length - (b.getD i 0 :: b.drop (i + 1)).length = i := by rw [List.length_cons, List.length_drop]; omega
    by_cases h1 : b.getD i 0 = 32
    ·rw [if_pos h1, if_pos (by omega)]
    ·rw [if_neg h1]
     by_cases h2 : b.getD i 0 = 9
     ·rw [if_pos h2, if_pos (by omega)]
     ·rw [if_neg h2]
      by_cases h3 : b.getD i 0 = 10
      ·rw [if_pos h3, if_pos (by omega)]
      ·rw [if_neg h3]
       by_cases h4 : b.getD i 0 = 13
       ·rw [if_pos h4, if_pos (by omega)]
       ·rw [if_neg h4, if_neg (by omega), e]
  ·rw [if_neg (by omega), @List.drop_eq_nil_of_le _ b i (by omega)]
   simp [drp]
   omega
theorem Bm6 (k : Nat) (b : List Int) (hk : b.length < k) (hl : b.length < 1000000) (i : Nat) (hi : i ≤ b.length) : Bk7 k (b, (i : Int)) = some ((b.length - (drp false (b.drop i)).length : Nat) : Int) := by
 skip
 rw [Boa, Bl4, Bl8 k b hk hl k i hi (by omega)]
theorem Bng (k : Nat) (a : Int) : Bk8 k a = some (Bot a) := by
 unfold Bot
 rw [Boc, Bmt]
 by_cases h : a ≥ 97
 ·simp [h]
 ·have : ¬ 97 ≤ a := by omega
  simp [h]
theorem Blj (k : Nat) (a : Int) : Bk3 k a = some (A1 a) := by
 unfold A1
 rw [Bn4, Bmg]
 by_cases h : a ≥ 48
 ·simp [h]
 ·simp [h]
theorem Bop (k : Nat) (a : Int) : Blf k a = some (D3 a) := by
 unfold D3
 rw [Bn9, Bmm]
 simp only [cbeq]
 repeat' (first | (refine iteS (fun _ => ?_) (fun _ => ?_)))
 all_goals (refine congrArg some ?_; rw [Bool.eq_iff_iff]; simp; try omega)
theorem rword (k : Nat) (b : List Int) (hl : b.length < 1000000) (s : Nat) (x3 : Int) (x4 : List Int) (x5 x6 : Int) :
  ∀ (j i : Nat), s ≤ i → i ≤ b.length → b.length - i < j → (Bkw k).L 3 [] j (Bk2 (b, (s : Int), (i : Int), x3, x4, x5, x6)) =
   (if 24 < i + ((b.drop i).takeWhile Bd).length - s then some (0, [], 0, 0, 4) else some (1, (b.take (i + ((b.drop i).takeWhile Bd).length)).drop s, 0, (s : Int), 0))
 | 0, i, _, _, h => by omega
 | j + 1, i, hs, hi, h => by
  have fin : ∀ n : Nat, n = i → (if 24 < n - s then some ((0 : Int), ([] : List Int), (0 : Int), (0 : Int), (4 : Int)) else if (0 : Int) ≤ (s : Int) ∧ (s : Int) ≤ (i : Int) ∧ (i : Int) ≤ (b.length : Int) then some (1, cutL b (s : Int) (i : Int), 0, (s : Int), 0) else none) = (if 24 < n - s then some (0, [], 0, 0, 4) else some (1, (b.take n).drop s, 0, (s : Int), 0)) := by
   rintro n rfl
   rw [if_pos (by omega : (0 : Int) ≤ (s : Int) ∧ (s : Int) ≤ (n : Int) ∧ (n : Int) ≤ (b.length : Int)), P7]
  rw [Bn8, Blz]
  simp only [cd, cinB, cbeq, Abz, Lm]
  rw [w64 (n := (i : Int) - (s : Int)) (by omega)]
  have e24 : ((i : Int) - (s : Int) > 24) = (24 < i - s) := by rw [eq_iff_iff]; omega
  simp only [e24]
  by_cases hlt : i < b.length
  ·rw [if_pos (by omega)]
   simp only [if_pos (show (0 : Int) ≤ (i : Int) ∧ (i : Int) < (b.length : Int) by omega)]
   rw [Bng, Option.bind_some, Blj, Option.bind_some, w64 (n := (i : Int) + 1) (by omega), Nf, Hm hlt, List.takeWhile_cons]
   have IH := rword k b hl s x3 x4 x5 x6 j (i + 1) (by omega) (by omega) (by omega)
   rw [show i + 1 + ((b.drop (i + 1)).takeWhile Bd).length = i + (((b.drop (i + 1)).takeWhile Bd).length + 1) by omega] at IH
   rw [IH]
   cases hw : Bd (b.getD i 0) with
   | true =>
    simp only [if_true, List.length_cons]
    unfold Bd at hw
    cases h1 : Bot (b.getD i 0) with
    | true => rw [cond_true]
    | false =>
     rw [cond_false]
     cases h2 : A1 (b.getD i 0) with
     | true => rw [cond_true]
     | false =>
      rw [cond_false]
      rw [h1, h2] at hw
      rw [if_pos (by simpa using hw)]
   | false =>
    unfold Bd at hw
    simp only [Bool.or_eq_false_iff, decide_eq_false_iff_not] at hw
    rw [hw.1, cond_false, hw.2.1, cond_false, if_neg hw.2.2]
    simp only [Bool.false_eq_true, if_false, List.length_nil]
    exact fin _ rfl
  ·rw [if_neg (by omega), @List.drop_eq_nil_of_le _ b i (by omega)]
   simp only [List.takeWhile_nil, List.length_nil]
   exact fin _ rfl
theorem rnum (k : Nat) (b : List Int) (hl : b.length < 1000000) (s : Nat) (x4 : Int) (x5 : List Int) (x6 x7 : Int) :
  ∀ (j i : Nat) (v : Int), s ≤ i → i ≤ b.length → b.length - i < j → (i - s ≤ 18 → 0 ≤ v ∧ v < 10 ^ (i - s)) → (Bkw k).L 10 [] j (Bk5 (b, (s : Int), (i : Int), v, x4, x5, x6, x7)) =
   (if 18 < i + ((b.drop i).takeWhile A1).length - s then some (0, [], 0, 0, 4) else some (2, (b.take (i + ((b.drop i).takeWhile A1).length)).drop s, ((b.drop i).takeWhile A1).foldl (fun v c => 10 * v + (c - 48)) v, (s : Int), 0))
 | 0, i, v, _, _, h, _ => by omega
 | j + 1, i, v, hs, hi, h, hv => by
  have fin : ∀ n : Nat, n = i → (if 18 < n - s then some ((0 : Int), ([] : List Int), (0 : Int), (0 : Int), (4 : Int)) else if (0 : Int) ≤ (s : Int) ∧ (s : Int) ≤ (i : Int) ∧ (i : Int) ≤ (b.length : Int) then some (2, cutL b (s : Int) (i : Int), v, (s : Int), 0) else none) = (if 18 < n - s then some (0, [], 0, 0, 4) else some (2, (b.take n).drop s, v, (s : Int), 0)) := by
   rintro n rfl
   rw [if_pos (by omega : (0 : Int) ≤ (s : Int) ∧ (s : Int) ≤ (n : Int) ∧ (n : Int) ≤ (b.length : Int)), P7]
  rw [Bn7, Bly]
  simp only [cd, cinB, cbeq, Abz, Lm]
  rw [w64 (n := (i : Int) - (s : Int)) (by omega)]
  have e24 : ((i : Int) - (s : Int) > 18) = (18 < i - s) := by rw [eq_iff_iff]; omega
  have e25 : ((i : Int) - (s : Int) < 18) = (i - s < 18) := by rw [eq_iff_iff]; omega
  simp only [e24, e25]
  by_cases hlt : i < b.length
  ·rw [if_pos (by omega)]
   simp only [if_pos (show (0 : Int) ≤ (i : Int) ∧ (i : Int) < (b.length : Int) by omega)]
   rw [Blj, Option.bind_some, w64 (n := (i : Int) + 1) (by omega), Nf, Hm hlt, List.takeWhile_cons]
   cases hw : A1 (b.getD i 0) with
   | true =>
    have hd := hw
    unfold A1 at hd
    simp only [Bool.and_eq_true, decide_eq_true_eq] at hd
    simp only [if_true, List.length_cons, cond_true, List.foldl_cons]
    by_cases h18 : i - s < 18
    ·obtain ⟨v1, v2⟩ := hv (by omega)
     have v3 : v < 10 ^ 17 := Int.lt_of_lt_of_le v2 (by exact_mod_cast Nat.pow_le_pow_right (by decide) (by omega : i - s ≤ 17))
     have v4 : 10 * v + (b.getD i 0 - 48) < 10 ^ (i + 1 - s) := by
      rw [show i + 1 - s = (i - s) + 1 by omega, Int.pow_succ]
      omega
     rw [if_pos h18, wu8 (by omega), w64 (n := 10 * v) (by omega), w64 (n := b.getD i 0 - 48) (by omega), w64 (n := 10 * v + (b.getD i 0 - 48)) (by omega)]
     have IH := rnum k b hl s x4 x5 x6 x7 j (i + 1) (10 * v + (b.getD i 0 - 48)) (by omega) (by omega) (by omega) (fun _ => ⟨by omega, v4⟩)
     rw [show i + 1 + ((b.drop (i + 1)).takeWhile A1).length = i + (((b.drop (i + 1)).takeWhile A1).length + 1) by omega] at IH
     exact IH
    ·rw [if_neg h18]
     have IH := rnum k b hl s x4 x5 x6 x7 j (i + 1) v (by omega) (by omega) (by omega) (fun h => by omega)
     rw [IH, if_pos (by omega), if_pos (by omega)]
   | false =>
    simp only [Bool.false_eq_true, if_false, List.length_nil, cond_false, List.foldl_nil]
    exact fin _ rfl
  ·rw [if_neg (by omega), @List.drop_eq_nil_of_le _ b i (by omega)]
   simp only [List.takeWhile_nil, List.length_nil, List.foldl_nil]
   exact fin _ rfl
theorem Boj (k : Nat) (b : List Int) (hk : b.length < k) (hl : b.length < 1000000) (i : Nat) (hi : i < b.length) :
  ∃ q : Int, Ble k (b, (i : Int)) = some ((tok1 (b.drop i)).2.1, (tok1 (b.drop i)).2.2.1, (tok1 (b.drop i)).2.2.2.1, q, (tok1 (b.drop i)).1) ∧ ((tok1 (b.drop i)).1 = 0 → q = (i : Int)) := by
 have e0 := Hm hi
 skip
 rw [Bn6, Blx]
 simp only [cinB, Abz]
 simp only [if_pos (show (0 : Int) ≤ (i : Int) ∧ (i : Int) < (b.length : Int) by omega)]
 rw [Bng, Option.bind_some, Blj, Option.bind_some, Bop, Option.bind_some]
 rw [rword k b hl i _ _ _ _ k i (Nat.le_refl _) (by omega) (by omega), rnum k b hl i _ _ _ _ k i 0 (Nat.le_refl _) (by omega) (by omega) (fun _ => by rw [Nat.sub_self]; decide)]
 rw [A02, A02, Nat.add_sub_cancel_left, Nat.add_sub_cancel_left]
 cases h1 : Bot (b.getD i 0) with
 | true =>
  have et : tok1 (b.drop i) = if 24 < ((b.drop i).takeWhile Bd).length then (4, 0, [], 0, []) else (0, 1, (b.drop i).takeWhile Bd, 0, (b.drop i).dropWhile Bd) := by
   rw [e0, tok1, if_pos h1]
  rw [et, cond_true]
  split
  ·exact ⟨_, rfl, fun h => by simp at h⟩
  ·exact ⟨_, rfl, fun _ => rfl⟩
 | false =>
  rw [cond_false]
  cases h2 : A1 (b.getD i 0) with
  | true =>
   have et : tok1 (b.drop i) = if 18 < ((b.drop i).takeWhile A1).length then (4, 0, [], 0, []) else (0, 2, (b.drop i).takeWhile A1, valD ((b.drop i).takeWhile A1), (b.drop i).dropWhile A1) := by
    rw [e0, tok1, if_neg (by rw [h1]; exact Bool.false_ne_true), if_pos h2]
   rw [et, cond_true]
   split
   ·exact ⟨_, rfl, fun h => by simp at h⟩
   ·exact ⟨_, rfl, fun _ => rfl⟩
  | false =>
   rw [cond_false]
   have et : tok1 (b.drop i) = if D3 (b.getD i 0) then (0, 3, [b.getD i 0], 0, b.drop (i + 1)) else (40, 0, [], 0, []) := by
    rw [e0, tok1, if_neg (by rw [h1]; exact Bool.false_ne_true), if_neg (by rw [h2]; exact Bool.false_ne_true)]
   rw [et]
   cases h3 : D3 (b.getD i 0) with
   | true =>
    rw [cond_true, w64 (by omega), Lm, if_pos (by omega), Nf, P7]
    have e1 : (b.take (i + 1)).drop i = [b.getD i 0] := by
     rw [List.drop_take, e0, show i + 1 - i = 1 by omega]; rfl
    rw [e1]
    exact ⟨_, rfl, fun _ => rfl⟩
   | false =>
    rw [cond_false]
    exact ⟨_, rfl, fun h => by simp at h⟩
theorem Bm7 (k : Nat) (b : List Int) (hk : b.length < k) (hl : b.length < 1000000) : ∀ (j i : Nat) (out : List Tk), i ≤ b.length → b.length - i < j → out.length ≤ i → drp false (b.drop i) = b.drop i →
  (Bky k).L 5 [] j (Bla (b, (i : Int), out)) = some ((lx b.length j (b.drop i)).1, (lx b.length j (b.drop i)).2.1, if (lx b.length j (b.drop i)).1 = 0 then out ++ (lx b.length j (b.drop i)).2.2 else [])
 | 0, i, out, _, h, _, _ => by omega
 | j + 1, i, out, hi, h, ho, hd => by
  rw [Bn3, Bls, cd, lx, hd]
  by_cases hlt : i < b.length
  ·rw [if_pos (by omega)]
   obtain ⟨q, e, hq⟩ := Boj k b hk hl i hlt
   rw [e, Option.bind_some]
   have el : b.length - (b.drop i).length = i := by rw [List.length_drop]; omega
   have e0 := Hm hlt
   generalize hx : b.getD i 0 = x at e0
   generalize hr : b.drop (i + 1) = r at e0
   have hlr : r.length = b.length - (i + 1) := by rw [← hr, List.length_drop]
   rw [e0] at el hq
   rw [e0]
   dsimp only
   rw [cbne]
   by_cases h0 : (tok1 (x :: r)).1 = 0
   ·have hr1 := Jo h0
    obtain ⟨s1, s2, s3, s4⟩ := Ng h0
    have s5 := congrArg List.length s1
    rw [List.length_append, List.length_cons] at s5
    simp only [if_pos h0]
    rw [Bk6, if_pos (by simp only [List.length_cons, List.length_nil]; omega), hq h0, w64 (by omega)]
    generalize hp : i + (tok1 (x :: r)).2.2.1.length = p
    have hpq : b.drop p = (tok1 (x :: r)).2.2.2.2 := by
     rw [← hp, ← List.drop_drop, e0]
     have s6 := congrArg (List.drop (tok1 (x :: r)).2.2.1.length) s1
     rw [List.drop_left] at s6
     exact s6.symm
    have hpl : p ≤ b.length := by omega
    rw [show (i : Int) + (((tok1 (x :: r)).2.2.1.length : Nat) : Int) = (p : Int) by omega, Bm6 k b hk hl p hpl, Option.bind_some, hpq]
    have hdl := J3 false (tok1 (x :: r)).2.2.2.2
    have hdd := Bma (tok1 (x :: r)).2.2.2.2 false
    have hsuf : drp false (tok1 (x :: r)).2.2.2.2 <:+ b := (J4 false _).trans (hpq ▸ List.drop_suffix p b)
    have hdr : b.drop (b.length - (drp false (tok1 (x :: r)).2.2.2.2).length) = drp false (tok1 (x :: r)).2.2.2.2 := (List.suffix_iff_eq_drop.1 hsuf).symm
    have := Bm7 k b hk hl j (b.length - (drp false (tok1 (x :: r)).2.2.2.2).length) (out ++ [((tok1 (x :: r)).2.1, ((tok1 (x :: r)).2.2.1, ((tok1 (x :: r)).2.2.2.1, ((i : Int), ()))))]) (by omega) (by omega) (by rw [List.length_append]; simp only [List.length_cons, List.length_nil]; omega) (by rw [hdr, hdd])
    rw [hdr] at this
    rw [this]
    have hsame : lx b.length j (drp false (tok1 (x :: r)).2.2.2.2) = lx b.length j (tok1 (x :: r)).2.2.2.2 := by
     cases j with
     | zero => rfl
     | succ j => rw [lx, lx, hdd]
    rw [hsame]
    by_cases h1 : (lx b.length j (tok1 (x :: r)).2.2.2.2).1 = 0
    ·have hz := Bm0 _ _ _ h1
     simp only [if_pos h1, h1, hz, el]
     simp
    ·simp only [if_neg h1]
   ·simp only [if_neg h0, el]
  ·rw [if_neg (by omega), @List.drop_eq_nil_of_le _ b i (by omega), Bk6, if_pos (by simp only [List.length_cons, List.length_nil]; omega)]
   have : i = b.length := by omega
   subst this
   rfl
theorem lx_nil (n : Nat) : ∀ (f : Nat) (s : List Int), (if (lx n f s).1 = 0 then (lx n f s).2.2 else []) = (lx n f s).2.2 := by
 intro f s
 split
 ·rfl
 ·rename_i h
  cases f with
  | zero => exact absurd rfl h
  | succ f =>
   rw [lx] at h ⊢
   cases hd : drp false s with
   | nil => rw [hd] at h; exact absurd rfl h
   | cons x r =>
    rw [hd] at h
    simp only [] at h ⊢
    split
    ·rename_i h0
     rw [if_pos h0] at h
     split
     ·rename_i h1; rw [if_pos h1] at h; exact absurd rfl h
     ·rfl
    ·rfl
theorem Bom (k : Nat) (b : List Int) (hk : b.length < k) (hm : b.length < 1000000) : Bld k b = some (toks b) := by
 unfold toks
 rw [Bn2, Blr, cd]
 by_cases hl : 65536 < b.length
 ·rw [if_pos (by omega), if_pos hl]
 ·have hdd := Bma b false
  have hdl := J3 false b
  have hdr : b.drop (b.length - (drp false b).length) = drp false b := (List.suffix_iff_eq_drop.1 (J4 false b)).symm
  have h0 := Bm6 k b hk (by omega) 0 (Nat.zero_le _)
  rw [List.drop_zero] at h0
  rw [if_neg (by omega), if_neg hl, show (0 : Int) = ((0 : Nat) : Int) from rfl, h0, Option.bind_some, Bm7 k b hk (by omega) k _ [] (by omega) (by omega) (Nat.zero_le _) (by rw [hdr, hdd])]
  have hsame : lx b.length k (drp false b) = lx b.length (b.length + 1) b := by
   rw [Abd _ (b.length + 1) k b (by omega) (by omega)]
   cases k with
   | zero => rfl
   | succ j => rw [lx, lx, hdd]
  rw [hdr, hsame, List.nil_append, lx_nil]
def Ge (kd : Int) (tx : List Int) (v : Int) : Bool := decide (tx ≠ [] ∧ drp false tx = tx ∧ tok1 tx = (0, kd, tx, v, []))
abbrev tkD : Tk := ((0 : Int), ([], ((0 : Int), ((0 : Int), ()))))
def resW : List (List Int) := [[99, 121, 99, 108, 101],
 [116, 111],
 [98, 121],
 [112, 101, 97, 107],
 [110, 111, 100, 101],
 [104, 101, 97, 100],
 [118, 111, 108, 117, 109, 101],
 [102, 108, 111, 119],
 [117, 115, 101],
 [115, 112, 101, 101, 100],
 [103, 114, 97, 100, 101],
 [119, 105, 100, 116, 104],
 [108, 101, 110, 103, 116, 104],
 [103, 114, 101, 101, 110],
 [119, 97, 108, 107],
 [119, 105, 116, 104],
 [108, 111, 110, 103],
 [112, 97, 99, 101],
 [108, 101, 97, 115, 116],
 [112, 104, 97, 115, 101],
 [103, 114, 111, 117, 112],
 [114, 105, 110, 103],
 [102, 114, 101, 101],
 [102, 111, 101],
 [97, 114, 116, 101, 114, 121],
 [115, 116, 111, 112],
 [111, 117, 116],
 [105, 110],
 [97, 104, 101, 97, 100],
 [98, 97, 99, 107],
 [119, 101, 105, 103, 104, 116, 115],
 [112, 108, 97, 110],
 [111, 102, 102, 115, 101, 116],
 [115, 117, 109],
 [115, 112, 108, 105, 116],
 [121, 101, 108, 108, 111, 119],
 [114, 101, 100],
 [102, 108, 97, 115, 104],
 [98, 101, 115, 116],
 [121, 101, 115],
 [110, 111],
 [115, 112, 101, 110, 116]]
def resB (s : List Int) : Bool := resW.contains s
set_option maxRecDepth 20000 in
theorem Awr (k : Nat) (s : List Int) : Ln k s = some (resB s) := by
 unfold resB resW
 skip
 rw [A7v, Vo, A7w, Vp, A7x, Vq, A7y, Vr]
 have step : ∀ (a : List Int) (x : Option Bool) (l : List (List Int)), x = some (l.contains s) → (bif s == a then some true else x) = some ((a :: l).contains s) := by
  intro a x l h
  rw [List.contains_cons]
  cases s == a with
  | true => simp
  | false => simp [h]
 repeat (refine step _ _ _ ?_)
 rfl
section
variable {α R : Type}
end
def Bq (s : List Int) : Bool := Ge 1 s 0 && !resB s
def numB (n : Int) : Bool := decide (0 ≤ n) && decide (n ≤ 999999999999999999)
def sh (s : List Int) : Prop := s.length ≤ 100
def rowB (m : Nat) (l : List (List Int)) : Bool := decide (1 ≤ l.length) && (decide (l.length ≤ m) && l.all Bq)
def Hu (h : YT1) : Bool :=
 Bq h.1 && (numB h.2.1 && (numB h.2.2.1 && ((numB h.2.2.2.1.1 && numB h.2.2.2.1.2.1) && (numB h.2.2.2.2.1 && (!(decide (h.2.2.2.2.2.1 < -999999999999999999)) && (!(decide (h.2.2.2.2.2.1 > 999999999999999999)) &&
  (numB h.2.2.2.2.2.2.1 && (numB h.2.2.2.2.2.2.2.1 && (numB h.2.2.2.2.2.2.2.2.1 && true)))))))))
def pedB (p : YT2) : Bool := Bq p.1 && (Bq p.2.1 && (numB p.2.2.1 && (numB p.2.2.2.1 && (numB p.2.2.2.2.1 && true))))
def Jl (x : YT3) : Bool := Bq x.1 && (rowB 16 x.2.1 && true)
def K8 (r : YT4) : Bool := rowB 4 r.2.1
def Gu (g : List YT4 × Unit) : Bool := !(decide (((g.1.length : Nat) : Int) < 1)) && (!(decide (((g.1.length : Nat) : Int) > 2)) && g.1.all K8)
def foeB (f : YT5) : Bool := Bq f.1 && (Bq f.2.1 && true)
def Gh (s : YT7) : Bool := Bq s.1 && (Bq s.2.1 && (Bq s.2.2.1 && (numB s.2.2.2.1 && (numB s.2.2.2.2.1 && true))))
def leB {α : Type} (l : List α) (m : Int) : Bool := !(decide (((l.length : Nat) : Int) > m))
def Gz (n : YT6) : Bool :=
 Bq n.1 && (leB n.2.1 16 && (leB n.2.2.1 8 && (leB n.2.2.2.1 16 && (leB n.2.2.2.2.1 4 && (leB n.2.2.2.2.2.1 64 &&
  (n.2.1.all Hu && (n.2.2.1.all pedB && (n.2.2.2.1.all Jl && (n.2.2.2.2.1.all Gu && n.2.2.2.2.2.1.all foeB)))))))))
abbrev NetT := Int × Int × Int × Int × Int × List YT6 × List YT7 × Int × Int
def netB (n : NetT) : Bool :=
 numB n.1 && (numB n.2.1 && (numB n.2.2.1 && ((numB n.2.2.2.1 && numB n.2.2.2.2.1) && (numB n.2.2.2.2.2.2.2.1 && (numB n.2.2.2.2.2.2.2.2 && (leB n.2.2.2.2.2.1 12 && (leB n.2.2.2.2.2.2.1 12 &&
  (n.2.2.2.2.2.1.all Gz && n.2.2.2.2.2.2.1.all Gh))))))))
structure NodeS (n : YT6) : Prop where
 nm : sh n.1
 hl : n.2.1.length ≤ 50
 hd : n.2.1.length ≤ 16 → ∀ h ∈ n.2.1, sh h.1
 pl : n.2.2.1.length ≤ 50
 pd : ∀ p ∈ n.2.2.1, sh p.1 ∧ sh p.2.1
 xl : n.2.2.2.1.length ≤ 50
 xd : ∀ x ∈ n.2.2.2.1, sh x.1 ∧ x.2.1.length ≤ 50 ∧ (x.2.1.length ≤ 50 → ∀ s ∈ x.2.1, sh s)
 gl : n.2.2.2.2.1.length ≤ 50
 gd : ∀ g ∈ n.2.2.2.2.1, g.1.length ≤ 5 ∧ ∀ r ∈ g.1, r.2.1.length ≤ 50 ∧ (r.2.1.length ≤ 50 → ∀ s ∈ r.2.1, sh s)
 fl : n.2.2.2.2.2.1.length ≤ 80
 fd : ∀ f ∈ n.2.2.2.2.2.1, sh f.1 ∧ sh f.2.1
structure NetS (n : NetT) : Prop where
 nl : n.2.2.2.2.2.1.length ≤ 15
 nd : ∀ x ∈ n.2.2.2.2.2.1, NodeS x
 sl : n.2.2.2.2.2.2.1.length ≤ 15
 sd : ∀ s ∈ n.2.2.2.2.2.2.1, sh s.1 ∧ sh s.2.1 ∧ sh s.2.2.1
theorem many {α : Type} (l : List α) (m : Int) (p : α → Bool) {c : Option Bool} (hc : ¬ ((l.length : Nat) : Int) > m → c = some (!(l.all p))) :
  (bif decide (((l.length : Nat) : Int) > m) then some true else c.bind fun o => some o) = some (!(leB l m && l.all p)) := by
 unfold leB
 by_cases h : ((l.length : Nat) : Int) > m
 ·simp [h]
 ·rw [hc h]; simp [h]
section
variable (k : Nat) (hk : 1000 ≤ k)
include hk
end
abbrev RS := List Tk × Int × Int
def hd (l : List Tk) : Tk := l.headD tkD
def Aw (s : List Int) (x : RS) : Bool := x.2.1 == 0 && ((hd x.1).1 != 2 && ((hd x.1).1 != 0 && (hd x.1).2.1 == s))
def A5 (c : Int) (x : RS) : RS := bif x.2.1 == 0 then (x.1, c, (hd x.1).2.2.2.1) else x
def A0 (x : RS) : RS := bif x.2.1 == 0 && (hd x.1).1 != 0 then (x.1.tail, x.2.1, x.2.2) else x
def Aj (s : List Int) (x : RS) : RS := A0 (bif Aw s x then x else A5 50 x)
def Ai (x : RS) : List Int × RS := bif (hd x.1).1 == 1 && !(resB (hd x.1).2.1) then ((hd x.1).2.1, A0 x) else ([], A5 50 x)
def numC (x : RS) : Int × RS := bif (hd x.1).1 == 2 then ((hd x.1).2.2.1, A0 x) else (0, A5 50 x)
def numR (w : List Int) (x : RS) : Int × RS := numC (bif w == [] then x else Aj w x)
def C1 (w : List Int) (x : RS) : (Int × Int) × RS := (((numR w x).1, (numR ([47] : List Int) (numR w x).2).1), (numR ([47] : List Int) (numR w x).2).2)
def A3 (w : List Int) (have' most : Int) (x : RS) : Bool × RS := bif Aw w x then (bif have' == most then (false, A5 4 x) else (true, A0 x)) else (false, x)
def Bt (most : Int) : Nat → RS → List (List Int) → List (List Int) × RS
  | 0, x, o => (o, x)
  | f + 1, x, o => bif Aw ([44] : List Int) x then
      (let y := A0 x
       let z := bif (((o.length : Nat) : Int) == most) && ((hd y.1).1 == 1 && !(resB (hd y.1).2.1)) then A5 4 y else y
       Bt most f (Ai z).2 (o ++ [(Ai z).1]))
    else (o, Aj ([59] : List Int) x)
def B3 (most : Int) (x : RS) : List (List Int) × RS := Bt most ((Ai x).2.1.length + 1) (Ai x).2 [(Ai x).1]
def Bl {α : Type} (w : List Int) (most : Int) (item : RS → α × RS) : Nat → RS → List α → List α × RS
  | 0, x, o => (o, x)
  | f + 1, x, o => bif (A3 w ((o.length : Nat) : Int) most x).1 then Bl w most item f (item (A3 w ((o.length : Nat) : Int) most x).2).2 (o ++ [(item (A3 w ((o.length : Nat) : Int) most x).2).1]) else (o, (A3 w ((o.length : Nat) : Int) most x).2)
def Ay {α : Type} (w : List Int) (most : Int) (item : RS → α × RS) (x : RS) : List α × RS := Bl w most item (x.1.length + 1) x []
def Cf (x : RS) : YT1 × RS :=
  let n := Ai x
  let v := numR ([118, 111, 108, 117, 109, 101] : List Int) n.2
  let s := numR ([102, 108, 111, 119] : List Int) v.2
  let u := C1 ([117, 115, 101] : List Int) s.2
  let p := numR ([115, 112, 101, 101, 100] : List Int) u.2
  let q := Aj ([103, 114, 97, 100, 101] : List Int) p.2
  let g := numR [] (bif Aw ([45] : List Int) q then A0 q else q)
  let a := numR ([119, 105, 100, 116, 104] : List Int) g.2
  let l := numR ([108, 101, 110, 103, 116, 104] : List Int) a.2
  let e := numR ([103, 114, 101, 101, 110] : List Int) l.2
  ((n.1, v.1, s.1, (u.1.1, u.1.2, ()), p.1, (bif Aw ([45] : List Int) q then negI .i64 g.1 else g.1), a.1, l.1, e.1, (hd x.1).2.2.2.1, ()), Aj ([59] : List Int) e.2)
def Ci (x : RS) : YT2 × RS :=
  let n := Ai x
  let p := Ai (Aj ([119, 105, 116, 104] : List Int) n.2)
  let a := numR ([108, 111, 110, 103] : List Int) p.2
  let b := numR ([112, 97, 99, 101] : List Int) a.2
  let c := numR ([108, 101, 97, 115, 116] : List Int) b.2
  ((n.1, p.1, a.1, b.1, c.1, (hd x.1).2.2.2.1, ()), Aj ([59] : List Int) c.2)
def Cq (x : RS) : YT3 × RS :=
  let n := Ai x
  let l := B3 16 (Aj ([58] : List Int) n.2)
  ((n.1, l.1, (hd x.1).2.2.2.1, ()), l.2)
def B0 (x : RS) : YT4 × RS :=
  let l := B3 4 (bif Aw ([102, 114, 101, 101] : List Int) x then A0 x else x)
  ((Aw ([102, 114, 101, 101] : List Int) x, l.1, ()), l.2)
def Ce (x : RS) : (List YT4 × Unit) × RS :=
  let a := Aj ([123] : List Int) x
  let b := bif Aw ([114, 105, 110, 103] : List Int) a then a else A5 50 a
  let r := Ay ([114, 105, 110, 103] : List Int) 2 B0 b
  ((r.1, ()), Aj ([125] : List Int) r.2)
def foeR (x : RS) : YT5 × RS :=
  let n := Ai x
  let m := Ai n.2
  ((n.1, m.1, (hd x.1).2.2.2.1, ()), Aj ([59] : List Int) m.2)
def Bu (x : RS) : YT6 × RS :=
  let n := Ai x
  let h := Ay ([104, 101, 97, 100] : List Int) 16 Cf (Aj ([123] : List Int) n.2)
  let w := Ay ([119, 97, 108, 107] : List Int) 8 Ci h.2
  let p := Ay ([112, 104, 97, 115, 101] : List Int) 16 Cq w.2
  let g := Ay ([103, 114, 111, 117, 112] : List Int) 4 Ce p.2
  let f := Ay ([102, 111, 101] : List Int) 64 foeR g.2
  ((n.1, h.1, w.1, p.1, g.1, f.1, (hd x.1).2.2.2.1, ()), Aj ([125] : List Int) f.2)
def Cg (x : RS) : YT7 × RS :=
  let n := Ai x
  let o := Ai (Aj ([111, 117, 116] : List Int) n.2)
  let i := Ai (Aj ([105, 110] : List Int) o.2)
  let a := numR ([97, 104, 101, 97, 100] : List Int) i.2
  let b := numR ([98, 97, 99, 107] : List Int) a.2
  ((n.1, o.1, i.1, a.1, b.1, (hd x.1).2.2.2.1, ()), Aj ([59] : List Int) b.2)
def Bf (x : RS) : (List YT7 × Int × Int) × RS :=
  let s := Ay ([115, 116, 111, 112] : List Int) 12 Cg (Aj ([123] : List Int) x)
  let a := numR ([119, 101, 105, 103, 104, 116, 115] : List Int) s.2
  let b := numR [] a.2
  ((s.1, a.1, b.1), Aj ([125] : List Int) (Aj ([59] : List Int) b.2))
def netR (x : RS) : NetT × RS :=
  let a := numR ([99, 121, 99, 108, 101] : List Int) x
  let b := numR ([116, 111] : List Int) a.2
  let c := numR ([98, 121] : List Int) b.2
  let p := C1 ([112, 101, 97, 107] : List Int) (Aj ([59] : List Int) c.2)
  let n := Ay ([110, 111, 100, 101] : List Int) 12 Bu (Aj ([59] : List Int) p.2)
  let t := bif Aw ([97, 114, 116, 101, 114, 121] : List Int) n.2 then Bf (A0 n.2) else (([], 0, 0), n.2)
  ((a.1, b.1, c.1, p.1.1, p.1.2, n.1, t.1.1, t.1.2.1, t.1.2.2), bif (hd t.2.1).1 != 0 then A5 50 t.2 else t.2)
def Cp (b : List Int) : NetT × Int × Int :=
  bif (toks b).1 != 0 then ((0, 0, 0, 0, 0, [], [], 0, 0), (toks b).1, (toks b).2.1)
  else bif (netR ((toks b).2.2, 0, 0)).2.2.1 != 0 then ((0, 0, 0, 0, 0, [], [], 0, 0), (netR ((toks b).2.2, 0, 0)).2.2.1, (netR ((toks b).2.2, 0, 0)).2.2.2)
  else ((netR ((toks b).2.2, 0, 0)).1, 0, 0)
def EndT (l : List Tk) : Prop := ∃ r t, l = r ++ [t] ∧ t.1 = 0
theorem EndT.ne {l : List Tk} (h : EndT l) : l ≠ [] := by
  obtain ⟨r, t, rfl, _⟩ := h
  simp
structure Adv (x y : RS) : Prop where
  g : EndT x.1 → EndT y.1
  l : y.1.length ≤ x.1.length
theorem Adv.refl (x : RS) : Adv x x := ⟨id, Nat.le_refl _⟩
theorem Adv.trans {x y z : RS} (h : Adv x y) (h2 : Adv y z) : Adv x z := ⟨fun g => h2.g (h.g g), Nat.le_trans h2.l h.l⟩
theorem Hf (c : Int) (x : RS) : Adv x (A5 c x) := by
  unfold A5
  cases x.2.1 == 0
  · exact .refl x
  · exact ⟨id, Nat.le_refl _⟩
theorem Ew (x : RS) : Adv x (A0 x) := by
  unfold A0
  cases h : x.2.1 == 0 && (hd x.1).1 != 0
  · exact .refl x
  · refine ⟨fun g => ?_, by simp⟩
    obtain ⟨r, t, e, ht⟩ := g
    simp only [Bool.and_eq_true] at h
    cases r with
    | nil =>
      have := h.2
      rw [e] at this
      simp [hd, ht] at this
    | cons y r => exact ⟨r, t, by rw [e]; rfl, ht⟩
theorem Gp {x y z : RS} {c : Bool} (h : Adv x y) (h2 : Adv x z) : Adv x (bif c then y else z) := by cases c <;> assumption
theorem Cb (s : List Int) (x : RS) : Adv x (Aj s x) := (Gp (.refl x) (Hf 50 x)).trans (Ew _)
theorem Du (x : RS) : Adv x (Ai x).2 := by
  unfold Ai
  cases (hd x.1).1 == 1 && !(resB (hd x.1).2.1)
  · exact Hf 50 x
  · exact Ew x
theorem Cz (w : List Int) (x : RS) : Adv x (numR w x).2 := by
  unfold numR
  refine Adv.trans (Gp (c := w == []) (.refl x) (Cb w x)) ?_
  generalize (bif w == [] then x else Aj w x) = y
  unfold numC
  cases (hd y.1).1 == 2
  · exact Hf 50 y
  · exact Ew y
theorem Ada (w : List Int) (x : RS) : Adv x (C1 w x).2 := (Cz w x).trans (Cz _ _)
theorem Ac9 (w : List Int) (a b : Int) (x : RS) : Adv x (A3 w a b x).2 := by
  unfold A3
  cases Aw w x
  · exact .refl x
  · cases a == b
    · exact Ew x
    · exact Hf 4 x
theorem A1u {w : List Int} {a b : Int} {x : RS} (h : (A3 w a b x).1 = true) (g : EndT x.1) : (A3 w a b x).2.1.length < x.1.length := by
  have := g.ne
  unfold A3 at h ⊢
  cases h1 : Aw w x
  · rw [h1] at h; cases h
  · cases h2 : a == b
    · have h3 : (x.2.1 == 0 && (hd x.1).1 != 0) = true := by
        unfold Aw at h1
        simp only [Bool.and_eq_true] at h1 ⊢
        exact ⟨h1.1, h1.2.2.1⟩
      show (A0 x).1.length < _
      unfold A0
      rw [h3, cond_true]
      cases hx : x.1 with
      | nil => exact absurd hx this
      | cons y r => simp
    · rw [h1, h2] at h; cases h
theorem Adb {α : Type} (w : List Int) (most : Int) (item : RS → α × RS) (hi : ∀ x, Adv x (item x).2) : ∀ (f : Nat) (x : RS) (o : List α), Adv x (Bl w most item f x o).2
  | 0, x, o => .refl x
  | f + 1, x, o => by
    rw [Bl]
    have hb := Ac9 w ((o.length : Nat) : Int) most x
    cases (A3 w ((o.length : Nat) : Int) most x).1
    · exact hb
    · exact hb.trans ((hi _).trans (Adb w most item hi f _ _))
theorem Gq {α : Type} {w : List Int} {most : Int} {item : RS → α × RS} (hi : ∀ x, Adv x (item x).2) (x : RS) : Adv x (Ay w most item x).2 := Adb w most item hi _ x []
theorem Adc (most : Int) : ∀ (f : Nat) (x : RS) (o : List (List Int)), Adv x (Bt most f x o).2
  | 0, x, o => .refl x
  | f + 1, x, o => by
    rw [Bt]
    cases Aw ([44] : List Int) x
    · exact Cb _ _
    · exact (Ew x).trans ((Gp (Hf 4 _) (.refl _)).trans ((Du _).trans (Adc most f _ _)))
theorem Se (most : Int) (x : RS) : Adv x (B3 most x).2 := (Du x).trans (Adc most _ _ _)
set_option maxRecDepth 100000 in
theorem Sd (x : RS) : Adv x (Cf x).2 :=
  (Du x).trans ((Cz _ _).trans ((Cz _ _).trans ((Ada _ _).trans ((Cz _ _).trans ((Cb _ _).trans ((Gp (Ew _) (.refl _)).trans ((Cz _ _).trans ((Cz _ _).trans ((Cz _ _).trans ((Cz _ _).trans (Cb _ _)))))))))))
theorem Sl (x : RS) : Adv x (Ci x).2 := (Du x).trans ((Cb _ _).trans ((Du _).trans ((Cz _ _).trans ((Cz _ _).trans ((Cz _ _).trans (Cb _ _))))))
theorem Sh (x : RS) : Adv x (Cq x).2 := (Du x).trans ((Cb _ _).trans (Se _ _))
theorem Si (x : RS) : Adv x (B0 x).2 := (Gp (Ew _) (.refl _)).trans (Se _ _)
theorem Sc (x : RS) : Adv x (Ce x).2 := (Cb _ _).trans ((Gp (.refl _) (Hf _ _)).trans ((Gq Si _).trans (Cb _ _)))
theorem Sb (x : RS) : Adv x (foeR x).2 := (Du x).trans ((Du _).trans (Cb _ _))
theorem Sf (x : RS) : Adv x (Bu x).2 := (Du x).trans ((Cb _ _).trans ((Gq Sd _).trans ((Gq Sl _).trans ((Gq Sh _).trans ((Gq Sc _).trans ((Gq Sb _).trans (Cb _ _)))))))
theorem Sj (x : RS) : Adv x (Cg x).2 := (Du x).trans ((Cb _ _).trans ((Du _).trans ((Cb _ _).trans ((Du _).trans ((Cz _ _).trans ((Cz _ _).trans (Cb _ _)))))))
theorem A1m (x : RS) : Adv x (Bf x).2 := (Cb _ _).trans ((Gq Sj _).trans ((Cz _ _).trans ((Cz _ _).trans ((Cb _ _).trans (Cb _ _)))))
theorem Au8 (n : Nat) : ∀ (f : Nat) (s : List Int), s.length < f → (lx n f s).1 = 0 → EndT (lx n f s).2.2 ∧ (lx n f s).2.2.length ≤ s.length + 1
  | 0, s, hf, _ => by omega
  | f + 1, s, hf, h => by
    have hl := J3 false s
    rw [lx] at h ⊢
    cases hd : drp false s with
    | nil => exact ⟨⟨[], _, rfl, rfl⟩, by simp⟩
    | cons x r =>
      rw [hd, List.length_cons] at hl
      rw [hd] at h
      simp only [] at h ⊢
      split at h
      · rename_i h0
        rw [if_pos h0]
        split at h
        · rename_i h1
          rw [if_pos h1]
          have hr := Jo h0
          obtain ⟨⟨q, t, e, ht⟩, hlen⟩ := Au8 n f _ (by omega) h1
          exact ⟨⟨_ :: q, t, by simp only; rw [e]; rfl, ht⟩, by simp only [List.length_cons]; omega⟩
        · rename_i h1; exact absurd h h1
      · rename_i h0; exact absurd h h0
theorem Bki {b : List Int} (h : (toks b).1 = 0) : EndT (toks b).2.2 ∧ (toks b).2.2.length ≤ b.length + 1 := by
  unfold toks at h ⊢
  split at h
  · simp at h
  · rename_i hl
    rw [if_neg hl]
    exact Au8 _ _ b (by omega) h
theorem Bm {R : Type} {l : List Tk} {K : Tk → Option R} (h : l ≠ []) : idx tkD l 0 K = K (hd l) := by
 cases l with
 | nil => exact absurd rfl h
 | cons x r => exact Bw (i := 0) rfl
theorem Aa4 {R : Type} {l : List Tk} {a b : Option R} (h : l ≠ []) : (bif inB (0 : Int) l.length then a else b) = a := by
 cases l with
 | nil => exact absurd rfl h
 | cons x r => rw [cinB, if_pos (by simp)]
theorem Aby {l : List Tk} : rdA tkD l (Int.toNat 0) = hd l := by
 cases l <;> rfl
theorem Aeh {R : Type} {l : List Tk} {a b : Option R} (h : l ≠ []) : (bif cutB (1 : Int) ((l.length : Nat) : Int) l.length then a else b) = a := by
 cases l with
 | nil => exact absurd rfl h
 | cons x r => rw [Lm, if_pos (by simp; omega)]
theorem Aei {l : List Tk} : cutL l 1 ((l.length : Nat) : Int) = l.tail := by
 cases l <;> simp [cutL]
theorem cut_hd {R : Type} {l : List Tk} {K : List Tk → Option R} (h : l ≠ []) : cut l 1 ((l.length : Nat) : Int) K = K l.tail := by
 unfold cut
 rw [Aeh h, Aei]
section
variable (k : Nat) (hk : 1000 ≤ k)
section
variable (x : RS) (g : EndT x.1)
include g
include hk
end
include hk
end
def TokW (t : Tk) : Prop := (t.1 = 0 → t.2.1 = []) ∧ (t.1 = 2 → ∀ c ∈ t.2.1, A1 c = true)
def WS (s : List Int) : Prop := ∃ c r, s = c :: r ∧ A1 c = false
structure Rdy (l : List Tk) : Prop where
 e : EndT l
 w : ∀ t ∈ l, TokW t
theorem Rdy.ne {l : List Tk} (r : Rdy l) : l ≠ [] := r.e.ne
theorem Rdy.hd {l : List Tk} (r : Rdy l) : TokW (hd l) := by
 have := r.ne
 cases l with
 | nil => exact absurd rfl this
 | cons t q => exact r.w t (by simp)
theorem Rdy.of {x y : RS} (r : Rdy x.1) (h : Adv x y) (hs : y.1 <:+ x.1) : Rdy y.1 := ⟨h.g r.e, fun t ht => r.w t (hs.subset ht)⟩
abbrev Suf (x y : RS) : Prop := y.1 <:+ x.1
theorem Suf.trans {x y z : RS} (h : Suf x y) (h2 : Suf y z) : Suf x z := List.IsSuffix.trans h2 h
theorem Dl (x : RS) : Suf x x := List.suffix_rfl
theorem Ii (c : Int) (x : RS) : Suf x (A5 c x) := by
 unfold A5
 cases x.2.1 == 0 <;> exact List.suffix_rfl
theorem D8 (x : RS) : Suf x (A0 x) := by
 unfold A0
 cases h : x.2.1 == 0 && (Go.Proofs.YtipcdjgcomclkaaGreatDoorV.hd x.1).1 != 0
 ·exact List.suffix_rfl
 ·exact List.tail_suffix _
theorem G8 {x y z : RS} {c : Bool} (h : Suf x y) (h2 : Suf x z) : Suf x (bif c then y else z) := by cases c <;> assumption
theorem Ch (s : List Int) (x : RS) : Suf x (Aj s x) := (G8 (Dl x) (Ii 50 x)).trans (D8 _)
theorem D7 (x : RS) : Suf x (Ai x).2 := by
 unfold Ai
 cases (Go.Proofs.YtipcdjgcomclkaaGreatDoorV.hd x.1).1 == 1 && !(resB (Go.Proofs.YtipcdjgcomclkaaGreatDoorV.hd x.1).2.1)
 ·exact Ii 50 x
 ·exact D8 x
theorem R3 (x : RS) : Suf x (numC x).2 := by
 unfold numC
 cases (Go.Proofs.YtipcdjgcomclkaaGreatDoorV.hd x.1).1 == 2
 ·exact Ii 50 x
 ·exact D8 x
theorem Sg (x : RS) : Adv x (numC x).2 := by
 unfold numC
 cases (Go.Proofs.YtipcdjgcomclkaaGreatDoorV.hd x.1).1 == 2
 ·exact Hf 50 x
 ·exact Ew x
theorem C5 (w : List Int) (x : RS) : Suf x (numR w x).2 := (G8 (c := w == []) (Dl x) (Ch w x)).trans (R3 _)
theorem A0z (w : List Int) (x : RS) : Suf x (C1 w x).2 := (C5 w x).trans (C5 _ _)
theorem Bj9 (w : List Int) (a b : Int) (x : RS) : Suf x (A3 w a b x).2 := by
 unfold A3
 cases Aw w x
 ·exact Dl x
 ·cases a == b
  ·exact D8 x
  ·exact Ii 4 x
theorem A00 {α : Type} (w : List Int) (most : Int) (item : RS → α × RS) (hi : ∀ x, Suf x (item x).2) : ∀ (f : Nat) (x : RS) (o : List α), Suf x (Bl w most item f x o).2
 | 0, x, o => Dl x
 | f + 1, x, o => by
  rw [Bl]
  have hb := Bj9 w ((o.length : Nat) : Int) most x
  cases (A3 w ((o.length : Nat) : Int) most x).1
  ·exact hb
  ·exact hb.trans ((hi _).trans (A00 w most item hi f _ _))
theorem G9 {α : Type} {w : List Int} {most : Int} {item : RS → α × RS} (hi : ∀ x, Suf x (item x).2) (x : RS) : Suf x (Ay w most item x).2 := A00 w most item hi _ x []
theorem A01 (most : Int) : ∀ (f : Nat) (x : RS) (o : List (List Int)), Suf x (Bt most f x o).2
 | 0, x, o => Dl x
 | f + 1, x, o => by
  rw [Bt]
  cases Aw ([44] : List Int) x
  ·exact Ch _ _
  ·exact (D8 x).trans ((G8 (Ii 4 _) (Dl _)).trans ((D7 _).trans (A01 most f _ _)))
theorem Ack (most : Int) (x : RS) : Suf x (B3 most x).2 := (D7 x).trans (A01 most _ _ _)
set_option maxRecDepth 100000 in
theorem Acj (x : RS) : Suf x (Cf x).2 :=
 (D7 x).trans ((C5 _ _).trans ((C5 _ _).trans ((A0z _ _).trans ((C5 _ _).trans ((Ch _ _).trans ((G8 (D8 _) (Dl _)).trans ((C5 _ _).trans ((C5 _ _).trans ((C5 _ _).trans ((C5 _ _).trans (Ch _ _)))))))))))
theorem Acp (x : RS) : Suf x (Ci x).2 := (D7 x).trans ((Ch _ _).trans ((D7 _).trans ((C5 _ _).trans ((C5 _ _).trans ((C5 _ _).trans (Ch _ _))))))
theorem Acm (x : RS) : Suf x (Cq x).2 := (D7 x).trans ((Ch _ _).trans (Ack _ _))
theorem Acn (x : RS) : Suf x (B0 x).2 := (G8 (D8 _) (Dl _)).trans (Ack _ _)
theorem Aci (x : RS) : Suf x (Ce x).2 := (Ch _ _).trans ((G8 (Dl _) (Ii _ _)).trans ((G9 Acn _).trans (Ch _ _)))
theorem Ach (x : RS) : Suf x (foeR x).2 := (D7 x).trans ((D7 _).trans (Ch _ _))
theorem Acl (x : RS) : Suf x (Bu x).2 := (D7 x).trans ((Ch _ _).trans ((G9 Acj _).trans ((G9 Acp _).trans ((G9 Acm _).trans ((G9 Aci _).trans ((G9 Ach _).trans (Ch _ _)))))))
theorem Aco (x : RS) : Suf x (Cg x).2 := (D7 x).trans ((Ch _ _).trans ((D7 _).trans ((Ch _ _).trans ((D7 _).trans ((C5 _ _).trans ((C5 _ _).trans (Ch _ _)))))))
section
variable {l : List Tk} {e p : Int} (h : e ≠ 0)
include h
theorem Ak (c : Int) : A5 c (l, e, p) = (l, e, p) := by
 have he : (e == 0) = false := by simpa using h
 unfold A5; simp only [he]; rfl
theorem An : A0 (l, e, p) = (l, e, p) := by
 have he : (e == 0) = false := by simpa using h
 unfold A0; simp only [he]; rfl
theorem Al (s : List Int) : Aw s (l, e, p) = false := by
 have he : (e == 0) = false := by simpa using h
 unfold Aw; simp only [he]; rfl
theorem Am (s : List Int) : Aj s (l, e, p) = (l, e, p) := by
 unfold Aj; rw [Al h, cond_false, Ak h, An h]
theorem Aq : (Ai (l, e, p)).2 = (l, e, p) := by
 unfold Ai
 cases (Go.Proofs.YtipcdjgcomclkaaGreatDoorV.hd (l, e, p).1).1 == 1 && !(resB (Go.Proofs.YtipcdjgcomclkaaGreatDoorV.hd (l, e, p).1).2.1)
 ·exact Ak h 50
 ·exact An h
theorem Ao : (numC (l, e, p)).2 = (l, e, p) := by
 unfold numC
 cases (Go.Proofs.YtipcdjgcomclkaaGreatDoorV.hd (l, e, p).1).1 == 2
 ·exact Ak h 50
 ·exact An h
theorem stk_num (w : List Int) : (numR w (l, e, p)).2 = (l, e, p) := by
 unfold numR
 cases w == []
 ·rw [cond_false, Am h, Ao h]
 ·exact Ao h
theorem Ar {α : Type} (w : List Int) (most : Int) (item : RS → α × RS) : (Ay w most item (l, e, p)).2 = (l, e, p) := by
 unfold Ay
 rw [Bl]
 unfold A3
 rw [Al h]
 rfl
theorem Av (most : Int) : (B3 most (l, e, p)).2 = (l, e, p) := by
 unfold B3
 rw [Aq h, Bt, Al h, cond_false, Am h]
end
inductive OK {α : Type} (l0 : List Tk) : α × RS → Prop
 | fail (v : α) (l : List Tk) (e p : Int) (h : e ≠ 0) : OK l0 (v, l, e, p)
 | ok (v : α) (l : List Tk) (r : Rdy l) (hl : l.length ≤ l0.length) : OK l0 (v, l, 0, 0)
inductive OK1 (l0 : List Tk) : RS → Prop
 | fail (l : List Tk) (e p : Int) (h : e ≠ 0) : OK1 l0 (l, e, p)
 | ok (l : List Tk) (r : Rdy l) (hl : l.length ≤ l0.length) : OK1 l0 (l, 0, 0)
def Zr (x : RS) : Prop := (x.2.1 = 0 → x.2.2 = 0) ∧ (x.2.1 = 0 ∨ x.2.1 = 50 ∨ x.2.1 = 4)
theorem zr0 {l : List Tk} : Zr (l, 0, 0) := ⟨fun _ => rfl, .inl rfl⟩
theorem OK.of {α : Type} {l0 : List Tk} (r : Rdy l0) {o : α × RS} (ha : Adv (l0, 0, 0) o.2) (hs : Suf (l0, 0, 0) o.2) (hz : Zr o.2) : OK l0 o := by
 obtain ⟨v, l, e, p⟩ := o
 by_cases he : e = 0
 ·subst he
  obtain rfl : p = 0 := hz.1 rfl
  exact .ok v l (Rdy.of (x := (l0, 0, 0)) (y := (l, 0, 0)) r ha hs) ha.l
 ·exact .fail v l e p he
theorem OK1.of {l0 : List Tk} (r : Rdy l0) {y : RS} (ha : Adv (l0, 0, 0) y) (hs : Suf (l0, 0, 0) y) (hz : Zr y) : OK1 l0 y := by
 obtain ⟨l, e, p⟩ := y
 by_cases he : e = 0
 ·subst he
  obtain rfl : p = 0 := hz.1 rfl
  exact .ok l (Rdy.of (x := (l0, 0, 0)) (y := (l, 0, 0)) r ha hs) ha.l
 ·exact .fail l e p he
theorem Ij (c : Int) (hc : c = 50 ∨ c = 4) (x : RS) (h : Zr x) : Zr (A5 c x) := by
 unfold A5
 cases hx : x.2.1 == 0
 ·exact h
 ·exact ⟨fun (h2 : c = 0) => by omega, .inr hc⟩
theorem Fv (x : RS) (h : Zr x) : Zr (A0 x) := by
 unfold A0
 cases x.2.1 == 0 && (Go.Proofs.YtipcdjgcomclkaaGreatDoorV.hd x.1).1 != 0 <;> exact h
theorem Gl {y z : RS} {c : Bool} (h : Zr y) (h2 : Zr z) : Zr (bif c then y else z) := by cases c <;> assumption
theorem Ca (s : List Int) (x : RS) (h : Zr x) : Zr (Aj s x) := Fv _ (Gl h (Ij 50 (by decide) x h))
theorem Ea (x : RS) (h : Zr x) : Zr (Ai x).2 := by
 unfold Ai
 cases (Go.Proofs.YtipcdjgcomclkaaGreatDoorV.hd x.1).1 == 1 && !(resB (Go.Proofs.YtipcdjgcomclkaaGreatDoorV.hd x.1).2.1)
 ·exact Ij 50 (by decide) x h
 ·exact Fv x h
theorem R7 (x : RS) (h : Zr x) : Zr (numC x).2 := by
 unfold numC
 cases (Go.Proofs.YtipcdjgcomclkaaGreatDoorV.hd x.1).1 == 2
 ·exact Ij 50 (by decide) x h
 ·exact Fv x h
theorem C6 (w : List Int) (x : RS) (h : Zr x) : Zr (numR w x).2 := R7 _ (Gl h (Ca w x h))
theorem A1h (w : List Int) (x : RS) (h : Zr x) : Zr (C1 w x).2 := C6 _ _ (C6 w x h)
theorem Bkr (w : List Int) (a b : Int) (x : RS) (h : Zr x) : Zr (A3 w a b x).2 := by
 unfold A3
 cases Aw w x
 ·exact h
 ·cases a == b
  ·exact Fv x h
  ·exact Ij 4 (by decide) x h
theorem A1i {α : Type} (w : List Int) (most : Int) (item : RS → α × RS) (hi : ∀ x, Zr x → Zr (item x).2) : ∀ (f : Nat) (x : RS) (o : List α), Zr x → Zr (Bl w most item f x o).2
 | 0, x, o, h => h
 | f + 1, x, o, h => by
  rw [Bl]
  have hb := Bkr w ((o.length : Nat) : Int) most x h
  cases (A3 w ((o.length : Nat) : Int) most x).1
  ·exact hb
  ·exact A1i w most item hi f _ _ (hi _ hb)
theorem Hd {α : Type} (w : List Int) (most : Int) (item : RS → α × RS) (hi : ∀ x, Zr x → Zr (item x).2) (x : RS) (h : Zr x) : Zr (Ay w most item x).2 := A1i w most item hi _ x [] h
theorem A1j (most : Int) : ∀ (f : Nat) (x : RS) (o : List (List Int)), Zr x → Zr (Bt most f x o).2
 | 0, x, o, h => h
 | f + 1, x, o, h => by
  rw [Bt]
  cases Aw ([44] : List Int) x
  ·exact Ca _ _ h
  ·exact A1j most f _ _ (Ea _ (Gl (Ij 4 (by decide) _ (Fv x h)) (Fv x h)))
theorem Acw (most : Int) (x : RS) (h : Zr x) : Zr (B3 most x).2 := A1j most _ _ _ (Ea x h)
section
variable {l : List Tk} (r : Rdy l)
include r
theorem Bi (s : List Int) : OK1 l (Aj s (l, 0, 0)) := .of r (Cb s _) (Ch s _) (Ca s _ zr0)
theorem Ga : OK l (Ai (l, 0, 0)) := .of r (Du _) (D7 _) (Ea _ zr0)
theorem Cn : OK l (numC (l, 0, 0)) := .of r (Sg _) (R3 _) (R7 _ zr0)
theorem Avs (most : Int) : OK l (B3 most (l, 0, 0)) := .of r (Se most _) (Ack most _) (Acw most _ zr0)
theorem ok_next : OK1 l (A0 (l, 0, 0)) := .of r (Ew _) (D8 _) (Fv _ zr0)
theorem Bgq (s : List Int) : OK1 l (bif Aw s (l, 0, 0) then A0 (l, 0, 0) else (l, 0, 0)) := .of r (Gp (Ew _) (.refl _)) (G8 (D8 _) (Dl _)) (Gl (Fv _ zr0) zr0)
theorem ok_sees (s : List Int) : OK1 l (bif Aw s (l, 0, 0) then (l, 0, 0) else A5 50 (l, 0, 0)) := .of r (Gp (.refl _) (Hf _ _)) (G8 (Dl _) (Ii _ _)) (Gl zr0 (Ij 50 (by decide) _ zr0))
theorem K9 {s : List Int} (hs : WS s) : Aw s (l, 0, 0) = ((Go.Proofs.YtipcdjgcomclkaaGreatDoorV.hd l).2.1 == s) := by
 have hw := r.hd
 unfold Aw
 simp only [beq_self_eq_true, Bool.true_and]
 cases h : (Go.Proofs.YtipcdjgcomclkaaGreatDoorV.hd l).2.1 == s
 ·simp
 ·have h2 : (Go.Proofs.YtipcdjgcomclkaaGreatDoorV.hd l).2.1 = s := by simpa using h
  obtain ⟨c, q, rfl, hc⟩ := hs
  have h3 : ¬ (Go.Proofs.YtipcdjgcomclkaaGreatDoorV.hd l).1 = 2 := fun e => by
   have := hw.2 e c (by rw [h2]; simp)
   rw [hc] at this
   cases this
  have h4 : ¬ (Go.Proofs.YtipcdjgcomclkaaGreatDoorV.hd l).1 = 0 := fun e => by
   have := hw.1 e
   rw [h2] at this
   cases this
  simp [h3, h4]
end
def Dc (x : RS) : (Int × Int) × RS := (((numC x).1, (numC (Aj ([47] : List Int) (numC x).2)).1), (numC (Aj ([47] : List Int) (numC x).2)).2)
theorem F7 (c : Int) (w : List Int) (x : RS) : numR (c :: w) x = numC (Aj (c :: w) x) := rfl
theorem F8 (x : RS) : numR [] x = numC x := rfl
theorem F4 (c : Int) (w : List Int) (x : RS) : C1 (c :: w) x = Dc (Aj (c :: w) x) := rfl
theorem A1n (x : RS) : Adv x (Dc x).2 := (Sg x).trans ((Cb _ _).trans (Sg _))
theorem Bka (x : RS) : Suf x (Dc x).2 := (R3 x).trans ((Ch _ _).trans (R3 _))
theorem Bks (x : RS) (h : Zr x) : Zr (Dc x).2 := R7 _ (Ca _ _ (R7 x h))
theorem Avr {l : List Tk} (r : Rdy l) : OK l (Dc (l, 0, 0)) := .of r (A1n _) (Bka _) (Bks _ zr0)
theorem Au {l : List Tk} {e p : Int} (h : e ≠ 0) : (Dc (l, e, p)).2 = (l, e, p) := by
 unfold Dc
 rw [Ao h, Am h, Ao h]
def Sim {ρ : Type} (c : Option ρ) (pr : ρ → Bool × Int × Int × List Tk) (y : RS) (post : ρ → Prop) : Prop :=
 ∃ r, c = some r ∧ pr r = (y.2.1 == 0, y.2.1, y.2.2, y.1) ∧ (y.2.1 = 0 → post r)
section
variable {ρ ρ' : Type} {pr : ρ → Bool × Int × Int × List Tk} {pr' : ρ' → Bool × Int × Int × List Tk} {y : RS} {post : ρ → Prop} {post' : ρ' → Prop}
theorem As {A : ρ} {B : Option ρ} {l : List Tk} {e p : Int} (h : e ≠ 0) (hp : pr A = (e == 0, e, p, l)) (hy : y = (l, e, p)) : Sim (bif !(e == 0) then some A else B) pr y post := by
 have h2 : (e == 0) = false := by simpa using h
 subst hy
 refine ⟨A, by rw [h2]; rfl, hp, fun h3 => absurd h3 h⟩
theorem Es {A : ρ} (hp : pr A = (y.2.1 == 0, y.2.1, y.2.2, y.1)) (h : y.2.1 = 0 → post A) : Sim (some A) pr y post := ⟨A, rfl, hp, h⟩
theorem G7 {c : Option ρ} {F : ρ → ρ'} (hp : ∀ r, pr' (F r) = pr r) (h : Sim c pr y fun r => post' (F r)) : Sim (c.bind fun o => some (F o)) pr' y post' := by
 obtain ⟨r, rfl, h1, h2⟩ := h
 exact ⟨F r, rfl, (hp r).trans h1, h2⟩
end
section
variable {ρ ρ' : Type} {pr : ρ → Bool × Int × Int × List Tk} {pr' : ρ' → Bool × Int × Int × List Tk} {y : RS} {post : ρ → Prop} {post' : ρ' → Prop}
theorem Dt {c : Option ρ} (h1 : Sim c pr y post) {F : ρ → Option ρ'} {y2 : RS} (hK : ∀ q, pr q = (y.2.1 == 0, y.2.1, y.2.2, y.1) → (y.2.1 = 0 → post q) → Sim (F q) pr' y2 post') : Sim (c.bind F) pr' y2 post' := by
 obtain ⟨r, rfl, h2, h3⟩ := h1
 exact hK r h2 h3
theorem Bjw {c : Option ρ} {b : ρ → Bool} {A B : ρ → ρ'} (hA : ∀ r, pr' (A r) = pr r) (hB : ∀ r, pr' (B r) = pr r) (h : Sim c pr y fun r => post' (bif b r then A r else B r)) : Sim (c.bind fun o => bif b o then some (A o) else some (B o)) pr' y post' := by
 obtain ⟨r, rfl, h1, h2⟩ := h
 refine ⟨bif b r then A r else B r, ?_, ?_, h2⟩
 ·show (bif b r then some (A r) else some (B r)) = _
  cases b r <;> rfl
 ·rw [← h1]
  cases b r
  ·exact hB r
  ·exact hA r
end
set_option maxRecDepth 100000 in
theorem Acv (x : RS) (h : Zr x) : Zr (Cf x).2 :=
 have q := Ca ([103, 114, 97, 100, 101] : List Int) _ (C6 ([115, 112, 101, 101, 100] : List Int) _ (A1h ([117, 115, 101] : List Int) _ (C6 ([102, 108, 111, 119] : List Int) _ (C6 ([118, 111, 108, 117, 109, 101] : List Int) _ (Ea x h)))))
 Ca _ _ (C6 _ _ (C6 _ _ (C6 _ _ (C6 _ _ (Gl (Fv _ q) q)))))
theorem Ac1 (x : RS) (h : Zr x) : Zr (Ci x).2 := Ca _ _ (C6 _ _ (C6 _ _ (C6 _ _ (Ea _ (Ca _ _ (Ea _ h))))))
theorem Acy (x : RS) (h : Zr x) : Zr (Cq x).2 := Acw _ _ (Ca _ _ (Ea _ h))
theorem Acz (x : RS) (h : Zr x) : Zr (B0 x).2 := Acw _ _ (Gl (Fv _ h) h)
theorem Acu (x : RS) (h : Zr x) : Zr (Ce x).2 := Ca _ _ (Hd _ _ _ (fun x h => Acz x h) _ (Gl (Ca _ _ h) (Ij 50 (by decide) _ (Ca _ _ h))))
theorem Acs (x : RS) (h : Zr x) : Zr (foeR x).2 := Ca _ _ (Ea _ (Ea _ h))
theorem Acx (x : RS) (h : Zr x) : Zr (Bu x).2 :=
 Ca _ _ (Hd _ _ _ (fun x h => Acs x h) _ (Hd _ _ _ (fun x h => Acu x h) _ (Hd _ _ _ (fun x h => Acy x h) _ (Hd _ _ _ (fun x h => Ac1 x h) _ (Hd _ _ _ (fun x h => Acv x h) _ (Ca _ _ (Ea _ h)))))))
theorem Ac0 (x : RS) (h : Zr x) : Zr (Cg x).2 := Ca _ _ (C6 _ _ (C6 _ _ (Ea _ (Ca _ _ (Ea _ (Ca _ _ (Ea _ h)))))))
theorem Hy {α : Type} {l : List Tk} (r : Rdy l) (w : List Int) (most : Int) {item : RS → α × RS} (ha : ∀ x, Adv x (item x).2) (hs : ∀ x, Suf x (item x).2) (hz : ∀ x, Zr x → Zr (item x).2) : OK l (Ay w most item (l, 0, 0)) :=
 .of r (Gq ha _) (G9 hs _) (Hd w most item hz _ zr0)
theorem Bj2 {α : Type} (w : List Int) (most : Int) (item : RS → α × RS) {l : List Tk} {e p : Int} (h : e ≠ 0) : ∀ (f : Nat) (o : List α), (Bl w most item f (l, e, p) o).2 = (l, e, p)
 | 0, o => rfl
 | f + 1, o => by
  rw [Bl]
  unfold A3
  rw [Al h]
  rfl
theorem A0y (most : Int) {l : List Tk} {e p : Int} (h : e ≠ 0) : ∀ (f : Nat) (o : List (List Int)), (Bt most f (l, e, p) o).2 = (l, e, p)
 | 0, o => rfl
 | f + 1, o => by
  rw [Bt, Al h, cond_false]
  exact Am h _
def nx (l : List Tk) : List Tk := bif (hd l).1 != 0 then l.tail else l
theorem Gy (l : List Tk) : A0 (l, 0, 0) = (nx l, 0, 0) := by
 unfold A0 nx
 cases (hd l).1 != 0 <;> rfl
theorem Cm (l : List Tk) : numC (l, 0, 0) = bif (hd l).1 == 2 then ((hd l).2.2.1, nx l, 0, 0) else (0, l, 50, (hd l).2.2.2.1) := by
 unfold numC
 rw [Gy]
 rfl
theorem Cl (l : List Tk) : Ai (l, 0, 0) = bif (hd l).1 == 1 && !(resB (hd l).2.1) then ((hd l).2.1, nx l, 0, 0) else ([], l, 50, (hd l).2.2.2.1) := by
 unfold Ai
 rw [Gy]
 rfl
theorem A1c {l : List Tk} (r : Rdy l) {s : List Int} (hs : WS s) : Aj s (l, 0, 0) = bif (hd l).2.1 == s then (nx l, 0, 0) else (l, 50, (hd l).2.2.2.1) := by
 unfold Aj
 rw [K9 r hs]
 cases (hd l).2.1 == s
 ·exact An (by decide)
 ·exact Gy l
theorem Abe {l : List Tk} (r : Rdy l) (s : List Int) : ∃ l2, (bif Aw s (l, 0, 0) then A0 (l, 0, 0) else (l, 0, 0)) = (l2, 0, 0) ∧ Rdy l2 ∧ l2.length ≤ l.length := by
 have h := Bgq r s
 cases hs : Aw s (l, 0, 0)
 ·exact ⟨l, rfl, r, Nat.le_refl _⟩
 ·rw [hs, cond_true] at h
  rw [cond_true]
  rw [Gy] at h ⊢
  cases h with
  | fail _ _ _ h => exact absurd rfl h
  | ok _ r2 h2 => exact ⟨_, rfl, r2, h2⟩
theorem cut_nx {R : Type} {l : List Tk} (r : Rdy l) {K : List Tk → Option R} : (bif (hd l).1 != 0 then cut l 1 ((l.length : Nat) : Int) K else K l) = K (nx l) := by
 rw [cut_hd r.ne]
 unfold nx
 cases (hd l).1 != 0 <;> rfl
theorem pis_run (k : Nat) {l : List Tk} (r : Rdy l) (s : List Int) : cpis k (s, l) = some ((hd l).2.1 == s, l) := by
 rw [fpis_e, Ajs, Aa4 r.ne, Aby]
theorem Bo (k : Nat) {l : List Tk} (r : Rdy l) (s : List Int) : C0 k (s, l) = some ((hd l).2.1 == s, l) := by
 rw [Ban, Ajp, Bm r.ne]
theorem Bg6 (k : Nat) {l : List Tk} (r : Rdy l) (c : Int) : cpfail k (c, l) = some (false, c, (hd l).2.2.2.1, l) := by
 rw [Bad, Ai5, Aa4 r.ne, Aby]
theorem Bb (k : Nat) {l : List Tk} (r : Rdy l) (c : Int) : A4 k (c, l) = some (false, c, (hd l).2.2.2.1, l) := by
 rw [Bac, Ai2, Bm r.ne]
theorem Biu (k : Nat) {l : List Tk} (r : Rdy l) : cptake k l = some ((hd l).1, (hd l).2.1, (hd l).2.2.1, (hd l).2.2.2.1, nx l) := by
 rw [Beb, Ase, Aa4 r.ne, Aby, Aeh r.ne, Aei]
 unfold nx
 cases (hd l).1 != 0 <;> rfl
theorem A6 (k : Nat) {l : List Tk} (r : Rdy l) : A2 k l = some ((hd l).1, (hd l).2.1, (hd l).2.2.1, (hd l).2.2.2.1, nx l) := by
 rw [Bea, Asb, Bm r.ne]
 exact cut_nx r (K := fun o2 => some ((hd l).1, (hd l).2.1, (hd l).2.2.1, (hd l).2.2.2.1, o2))
theorem Fs (k : Nat) {l : List Tk} (r : Rdy l) : cpnamed k l = some ((hd l).1 == 1 && !(resB (hd l).2.1), l) := by
 rw [Bbu, Amg, Bm r.ne, Bm r.ne, Awr, Option.bind_some]
 cases (hd l).1 == 1 <;> rfl
theorem Rt (k : Nat) {l : List Tk} (r : Rdy l) : Lu k l = some ((hd l).1 == 1 && !(resB (hd l).2.1)) := by
 rw [Bbs, Amc, Bm r.ne, Bm r.ne, Awr, Option.bind_some]
 cases (hd l).1 == 1 <;> rfl
theorem Biy (k : Nat) {a1 : List Tk} (r : Rdy a1) (a0 : _) (hs : WS a0) : P2 k (a0, a1) = some ((Aj a0 (a1, 0, 0)).2.1 == 0, (Aj a0 (a1, 0, 0)).2.1, (Aj a0 (a1, 0, 0)).2.2, a0, (Aj a0 (a1, 0, 0)).1) := by
 rw [Beg, Aso, pis_run k r, Option.bind_some, A1c r hs]
 simp only [Bg6 k r, Biu k r]
 cases h : (hd a1).2.1 == a0 <;> simp only [h, Bool.not_true, Bool.not_false, cond_true, cond_false, Option.bind_some] <;> rfl
theorem Bij (k : Nat) {a0 : List Tk} (r : Rdy a0) (a1 : _) (a2 : _) (a3 : _) (a4 : _) (a5 : _) (a6 : _) (a7 : _) : O9 k (a0, a1, a2, a3, a4, a5, a6, a7) = some ((numC (a0, 0, 0)).2.2.1 == 0, (numC (a0, 0, 0)).2.2.1, (numC (a0, 0, 0)).2.2.2, (numC (a0, 0, 0)).2.1, (bif (numC (a0, 0, 0)).2.2.1 == 0 then (numC (a0, 0, 0)).1 else a1), a2, a3, a4, a5, a6, a7) := by
 rw [Bdq, Aqr, Bm r.ne, Bb k r, A6 k r, Cm]
 cases h : (hd a0).1 == 2 <;> simp only [bne, h, Bool.not_true, Bool.not_false, cond_true, cond_false, Option.bind_some] <;> rfl
theorem Bj (k : Nat) {a1 : List Tk} (r : Rdy a1) (a0 : _) (hs : WS a0) : Bg k (a0, a1) = some ((Aj a0 (a1, 0, 0)).2.1 == 0, (Aj a0 (a1, 0, 0)).2.1, (Aj a0 (a1, 0, 0)).2.2, a0, (Aj a0 (a1, 0, 0)).1) := by
 rw [Bee, Asl, Bo k r, Option.bind_some, A1c r hs]
 simp only [Bb k r, A6 k r]
 cases h : (hd a1).2.1 == a0 <;> simp only [h, Bool.not_true, Bool.not_false, cond_true, cond_false, Option.bind_some] <;> rfl
theorem Bh9 (k : Nat) {a0 : List Tk} (r : Rdy a0) (a1 : _) (a2 : _) (a3 : _) (a4 : _) (a5 : _) (a6 : _) (a7 : _) : Pa k (a0, a1, a2, a3, a4, a5, a6, a7) = some ((numC (a0, 0, 0)).2.2.1 == 0, (numC (a0, 0, 0)).2.2.1, (numC (a0, 0, 0)).2.2.2, (numC (a0, 0, 0)).2.1, a1, (bif (numC (a0, 0, 0)).2.2.1 == 0 then (numC (a0, 0, 0)).1 else a2), a3, a4, a5, a6, a7) := by
 rw [Bc7, Apx, Bm r.ne, Bb k r, A6 k r, Cm]
 cases h : (hd a0).1 == 2 <;> simp only [bne, h, Bool.not_true, Bool.not_false, cond_true, cond_false, Option.bind_some] <;> rfl
theorem Bib (k : Nat) {a0 : List Tk} (r : Rdy a0) (a1 : _) (a2 : _) (a3 : _) (a4 : _) (a5 : _) (a6 : _) (a7 : _) : Pm k (a0, a1, a2, a3, a4, a5, a6, a7) = some ((numC (a0, 0, 0)).2.2.1 == 0, (numC (a0, 0, 0)).2.2.1, (numC (a0, 0, 0)).2.2.2, (numC (a0, 0, 0)).2.1, a1, a2, (bif (numC (a0, 0, 0)).2.2.1 == 0 then (numC (a0, 0, 0)).1 else a3), a4, a5, a6, a7) := by
 rw [Bdb, Ap3, Bm r.ne, Bb k r, A6 k r, Cm]
 cases h : (hd a0).1 == 2 <;> simp only [bne, h, Bool.not_true, Bool.not_false, cond_true, cond_false, Option.bind_some] <;> rfl
theorem Bic (k : Nat) {a0 : List Tk} (r : Rdy a0) (a1 : _) (a2 : _) (a3 : _) (a4 : _) (a5 : _) (a6 : _) (a7 : _) : Po k (a0, a1, a2, a3, a4, a5, a6, a7) = some ((numC (a0, 0, 0)).2.2.1 == 0, (numC (a0, 0, 0)).2.2.1, (numC (a0, 0, 0)).2.2.2, (numC (a0, 0, 0)).2.1, a1, a2, a3, (bif (numC (a0, 0, 0)).2.2.1 == 0 then (numC (a0, 0, 0)).1 else a4), a5, a6, a7) := by
 rw [Bdd, Ap6, Bm r.ne, Bb k r, A6 k r, Cm]
 cases h : (hd a0).1 == 2 <;> simp only [bne, h, Bool.not_true, Bool.not_false, cond_true, cond_false, Option.bind_some] <;> rfl
theorem Bid (k : Nat) {a0 : List Tk} (r : Rdy a0) (a1 : _) (a2 : _) (a3 : _) (a4 : _) (a5 : _) (a6 : _) (a7 : _) : Pp k (a0, a1, a2, a3, a4, a5, a6, a7) = some ((numC (a0, 0, 0)).2.2.1 == 0, (numC (a0, 0, 0)).2.2.1, (numC (a0, 0, 0)).2.2.2, (numC (a0, 0, 0)).2.1, a1, a2, a3, a4, (bif (numC (a0, 0, 0)).2.2.1 == 0 then (numC (a0, 0, 0)).1 else a5), a6, a7) := by
 rw [Bdf, Ap9, Bm r.ne, Bb k r, A6 k r, Cm]
 cases h : (hd a0).1 == 2 <;> simp only [bne, h, Bool.not_true, Bool.not_false, cond_true, cond_false, Option.bind_some] <;> rfl
theorem Biq (k : Nat) {a0 : List Tk} (r : Rdy a0) (a1 : _) (a2 : _) : Pv k (a0, a1, a2) = some (a0, a1, (hd a0).2.2.2.1) := by
 rw [Bd3, Arx, Bm r.ne]
theorem Bhs (k : Nat) {a0 : List Tk} (r : Rdy a0) (a1 : _) (a2 : _) : Ow k (a0, a1, a2) = some ((Ai (a0, 0, 0)).2.2.1 == 0, (Ai (a0, 0, 0)).2.2.1, (Ai (a0, 0, 0)).2.2.2, (Ai (a0, 0, 0)).2.1, (bif (Ai (a0, 0, 0)).2.2.1 == 0 then (Ai (a0, 0, 0)).1 else a1), a2) := by
 rw [Bbp, Al7, Fs k r, Option.bind_some, Cl]
 simp only [Bb k r, A6 k r]
 cases h : (hd a0).1 == 1 && !(resB (hd a0).2.1) <;> simp only [h, Bool.not_true, Bool.not_false, cond_true, cond_false, Option.bind_some] <;> rfl
theorem Bil (k : Nat) {a0 : List Tk} (r : Rdy a0) (a1 : _) (a2 : _) (a3 : _) (a4 : _) (a5 : _) (a6 : _) (a7 : _) (a8 : _) (a9 : _) (a10 : _) (a11 : _) : Pw k (a0, a1, a2, a3, a4, a5, a6, a7, a8, a9, a10, a11) = some (a0, a1, a2, a3, a4, a5, a6, a7, a8, a9, a10, (hd a0).2.2.2.1) := by
 rw [Bdy, Ari, Bm r.ne]
theorem Bhk (k : Nat) {a0 : List Tk} (r : Rdy a0) (a1 : _) (a2 : _) (a3 : _) (a4 : _) (a5 : _) (a6 : _) (a7 : _) (a8 : _) (a9 : _) (a10 : _) (a11 : _) : Ox k (a0, a1, a2, a3, a4, a5, a6, a7, a8, a9, a10, a11) = some ((Ai (a0, 0, 0)).2.2.1 == 0, (Ai (a0, 0, 0)).2.2.1, (Ai (a0, 0, 0)).2.2.2, (Ai (a0, 0, 0)).2.1, (bif (Ai (a0, 0, 0)).2.2.1 == 0 then (Ai (a0, 0, 0)).1 else a1), a2, a3, a4, a5, a6, a7, a8, a9, a10, a11) := by
 rw [Ba7, Alg, Fs k r, Option.bind_some, Cl]
 simp only [Bb k r, A6 k r]
 cases h : (hd a0).1 == 1 && !(resB (hd a0).2.1) <;> simp only [h, Bool.not_true, Bool.not_false, cond_true, cond_false, Option.bind_some] <;> rfl
theorem Bie (k : Nat) {a0 : List Tk} (r : Rdy a0) (a1 : _) (a2 : _) (a3 : _) (a4 : _) (a5 : _) (a6 : _) (a7 : _) (a8 : _) (a9 : _) (a10 : _) (a11 : _) : Pq k (a0, a1, a2, a3, a4, a5, a6, a7, a8, a9, a10, a11) = some ((numC (a0, 0, 0)).2.2.1 == 0, (numC (a0, 0, 0)).2.2.1, (numC (a0, 0, 0)).2.2.2, (numC (a0, 0, 0)).2.1, a1, (bif (numC (a0, 0, 0)).2.2.1 == 0 then (numC (a0, 0, 0)).1 else a2), a3, a4, a5, a6, a7, a8, a9, a10, a11) := by
 rw [Bdh, Aqc, Bm r.ne, Bb k r, A6 k r, Cm]
 cases h : (hd a0).1 == 2 <;> simp only [bne, h, Bool.not_true, Bool.not_false, cond_true, cond_false, Option.bind_some] <;> rfl
theorem Bif (k : Nat) {a0 : List Tk} (r : Rdy a0) (a1 : _) (a2 : _) (a3 : _) (a4 : _) (a5 : _) (a6 : _) (a7 : _) (a8 : _) (a9 : _) (a10 : _) (a11 : _) : Pr k (a0, a1, a2, a3, a4, a5, a6, a7, a8, a9, a10, a11) = some ((numC (a0, 0, 0)).2.2.1 == 0, (numC (a0, 0, 0)).2.2.1, (numC (a0, 0, 0)).2.2.2, (numC (a0, 0, 0)).2.1, a1, a2, (bif (numC (a0, 0, 0)).2.2.1 == 0 then (numC (a0, 0, 0)).1 else a3), a4, a5, a6, a7, a8, a9, a10, a11) := by
 rw [Bdj, Aqf, Bm r.ne, Bb k r, A6 k r, Cm]
 cases h : (hd a0).1 == 2 <;> simp only [bne, h, Bool.not_true, Bool.not_false, cond_true, cond_false, Option.bind_some] <;> rfl
theorem Big (k : Nat) {a0 : List Tk} (r : Rdy a0) (a1 : _) (a2 : _) (a3 : _) (a4 : _) (a5 : _) (a6 : _) (a7 : _) (a8 : _) (a9 : _) (a10 : _) (a11 : _) : Ps k (a0, a1, a2, a3, a4, a5, a6, a7, a8, a9, a10, a11) = some ((numC (a0, 0, 0)).2.2.1 == 0, (numC (a0, 0, 0)).2.2.1, (numC (a0, 0, 0)).2.2.2, (numC (a0, 0, 0)).2.1, a1, a2, a3, (bif (numC (a0, 0, 0)).2.2.1 == 0 then (numC (a0, 0, 0)).1 else a4), a5, a6, a7, a8, a9, a10, a11) := by
 rw [Bdl, Aqi, Bm r.ne, Bb k r, A6 k r, Cm]
 cases h : (hd a0).1 == 2 <;> simp only [bne, h, Bool.not_true, Bool.not_false, cond_true, cond_false, Option.bind_some] <;> rfl
theorem Bih (k : Nat) {a0 : List Tk} (r : Rdy a0) (a1 : _) (a2 : _) (a3 : _) (a4 : _) (a5 : _) (a6 : _) (a7 : _) (a8 : _) (a9 : _) (a10 : _) (a11 : _) : Pt k (a0, a1, a2, a3, a4, a5, a6, a7, a8, a9, a10, a11) = some ((numC (a0, 0, 0)).2.2.1 == 0, (numC (a0, 0, 0)).2.2.1, (numC (a0, 0, 0)).2.2.2, (numC (a0, 0, 0)).2.1, a1, a2, a3, a4, (bif (numC (a0, 0, 0)).2.2.1 == 0 then (numC (a0, 0, 0)).1 else a5), a6, a7, a8, a9, a10, a11) := by
 rw [Bdn, Aql, Bm r.ne, Bb k r, A6 k r, Cm]
 cases h : (hd a0).1 == 2 <;> simp only [bne, h, Bool.not_true, Bool.not_false, cond_true, cond_false, Option.bind_some] <;> rfl
theorem Bii (k : Nat) {a0 : List Tk} (r : Rdy a0) (a1 : _) (a2 : _) (a3 : _) (a4 : _) (a5 : _) (a6 : _) (a7 : _) (a8 : _) (a9 : _) (a10 : _) (a11 : _) : Pu k (a0, a1, a2, a3, a4, a5, a6, a7, a8, a9, a10, a11) = some ((numC (a0, 0, 0)).2.2.1 == 0, (numC (a0, 0, 0)).2.2.1, (numC (a0, 0, 0)).2.2.2, (numC (a0, 0, 0)).2.1, a1, a2, a3, a4, a5, (bif (numC (a0, 0, 0)).2.2.1 == 0 then (numC (a0, 0, 0)).1 else a6), a7, a8, a9, a10, a11) := by
 rw [Bdp, Aqo, Bm r.ne, Bb k r, A6 k r, Cm]
 cases h : (hd a0).1 == 2 <;> simp only [bne, h, Bool.not_true, Bool.not_false, cond_true, cond_false, Option.bind_some] <;> rfl
theorem Awk (k : Nat) {a1 : List Tk} (r : Rdy a1) (a0 : List Int) (a2 : Bool) (hs : WS a0) : Lt k (a0, a1, a2) = some (a0, (bif Aw a0 (a1, 0, 0) then A0 (a1, 0, 0) else (a1, 0, 0)).1, (bif Aw a0 (a1, 0, 0) then true else a2)) := by
 rw [Bat, Aj5, Bo k r, Option.bind_some, K9 r hs, Gy]
 simp only [A6 k r]
 cases h : (hd a1).2.1 == a0 <;> simp only [h, cond_true, cond_false, Option.bind_some]
theorem Bhz (k : Nat) {a0 : List Tk} (r : Rdy a0) (a1 : _) (a2 : _) (a3 : _) (a4 : _) (a5 : _) (a6 : _) (a7 : _) (a8 : _) (a9 : _) (a10 : _) (a11 : _) : Pb k (a0, a1, a2, a3, a4, a5, a6, a7, a8, a9, a10, a11) = some ((numC (a0, 0, 0)).2.2.1 == 0, (numC (a0, 0, 0)).2.2.1, (numC (a0, 0, 0)).2.2.2, (numC (a0, 0, 0)).2.1, a1, a2, a3, a4, a5, a6, (bif (numC (a0, 0, 0)).2.2.1 == 0 then (numC (a0, 0, 0)).1 else a7), a8, a9, a10, a11) := by
 rw [Bcn, Ao3, Bm r.ne, Bb k r, A6 k r, Cm]
 cases h : (hd a0).1 == 2 <;> simp only [bne, h, Bool.not_true, Bool.not_false, cond_true, cond_false, Option.bind_some] <;> rfl
theorem Bh0 (k : Nat) {a0 : List Tk} (r : Rdy a0) (a1 : _) (a2 : _) (a3 : _) (a4 : _) (a5 : _) (a6 : _) (a7 : _) (a8 : _) (a9 : _) (a10 : _) (a11 : _) : Pc k (a0, a1, a2, a3, a4, a5, a6, a7, a8, a9, a10, a11) = some ((numC (a0, 0, 0)).2.2.1 == 0, (numC (a0, 0, 0)).2.2.1, (numC (a0, 0, 0)).2.2.2, (numC (a0, 0, 0)).2.1, a1, a2, a3, a4, a5, a6, a7, (bif (numC (a0, 0, 0)).2.2.1 == 0 then (numC (a0, 0, 0)).1 else a8), a9, a10, a11) := by
 rw [Bcp, Ao6, Bm r.ne, Bb k r, A6 k r, Cm]
 cases h : (hd a0).1 == 2 <;> simp only [bne, h, Bool.not_true, Bool.not_false, cond_true, cond_false, Option.bind_some] <;> rfl
theorem Bh1 (k : Nat) {a0 : List Tk} (r : Rdy a0) (a1 : _) (a2 : _) (a3 : _) (a4 : _) (a5 : _) (a6 : _) (a7 : _) (a8 : _) (a9 : _) (a10 : _) (a11 : _) : Pd k (a0, a1, a2, a3, a4, a5, a6, a7, a8, a9, a10, a11) = some ((numC (a0, 0, 0)).2.2.1 == 0, (numC (a0, 0, 0)).2.2.1, (numC (a0, 0, 0)).2.2.2, (numC (a0, 0, 0)).2.1, a1, a2, a3, a4, a5, a6, a7, a8, (bif (numC (a0, 0, 0)).2.2.1 == 0 then (numC (a0, 0, 0)).1 else a9), a10, a11) := by
 rw [Bcr, Ao9, Bm r.ne, Bb k r, A6 k r, Cm]
 cases h : (hd a0).1 == 2 <;> simp only [bne, h, Bool.not_true, Bool.not_false, cond_true, cond_false, Option.bind_some] <;> rfl
theorem Bh2 (k : Nat) {a0 : List Tk} (r : Rdy a0) (a1 : _) (a2 : _) (a3 : _) (a4 : _) (a5 : _) (a6 : _) (a7 : _) (a8 : _) (a9 : _) (a10 : _) (a11 : _) : Pe k (a0, a1, a2, a3, a4, a5, a6, a7, a8, a9, a10, a11) = some ((numC (a0, 0, 0)).2.2.1 == 0, (numC (a0, 0, 0)).2.2.1, (numC (a0, 0, 0)).2.2.2, (numC (a0, 0, 0)).2.1, a1, a2, a3, a4, a5, a6, a7, a8, a9, (bif (numC (a0, 0, 0)).2.2.1 == 0 then (numC (a0, 0, 0)).1 else a10), a11) := by
 rw [Bct, Apc, Bm r.ne, Bb k r, A6 k r, Cm]
 cases h : (hd a0).1 == 2 <;> simp only [bne, h, Bool.not_true, Bool.not_false, cond_true, cond_false, Option.bind_some] <;> rfl
theorem Bim (k : Nat) {a0 : List Tk} (r : Rdy a0) (a1 : _) (a2 : _) (a3 : _) (a4 : _) (a5 : _) (a6 : _) : Px k (a0, a1, a2, a3, a4, a5, a6) = some (a0, a1, a2, a3, a4, a5, (hd a0).2.2.2.1) := by
 rw [Bdz, Arl, Bm r.ne]
theorem Bhl (k : Nat) {a0 : List Tk} (r : Rdy a0) (a1 : _) (a2 : _) (a3 : _) (a4 : _) (a5 : _) (a6 : _) : Oz k (a0, a1, a2, a3, a4, a5, a6) = some ((Ai (a0, 0, 0)).2.2.1 == 0, (Ai (a0, 0, 0)).2.2.1, (Ai (a0, 0, 0)).2.2.2, (Ai (a0, 0, 0)).2.1, (bif (Ai (a0, 0, 0)).2.2.1 == 0 then (Ai (a0, 0, 0)).1 else a1), a2, a3, a4, a5, a6) := by
 rw [Ba9, Alj, Fs k r, Option.bind_some, Cl]
 simp only [Bb k r, A6 k r]
 cases h : (hd a0).1 == 1 && !(resB (hd a0).2.1) <;> simp only [h, Bool.not_true, Bool.not_false, cond_true, cond_false, Option.bind_some] <;> rfl
theorem Bhm (k : Nat) {a0 : List Tk} (r : Rdy a0) (a1 : _) (a2 : _) (a3 : _) (a4 : _) (a5 : _) (a6 : _) : O0 k (a0, a1, a2, a3, a4, a5, a6) = some ((Ai (a0, 0, 0)).2.2.1 == 0, (Ai (a0, 0, 0)).2.2.1, (Ai (a0, 0, 0)).2.2.2, (Ai (a0, 0, 0)).2.1, a1, (bif (Ai (a0, 0, 0)).2.2.1 == 0 then (Ai (a0, 0, 0)).1 else a2), a3, a4, a5, a6) := by
 rw [Bbb, Alm, Fs k r, Option.bind_some, Cl]
 simp only [Bb k r, A6 k r]
 cases h : (hd a0).1 == 1 && !(resB (hd a0).2.1) <;> simp only [h, Bool.not_true, Bool.not_false, cond_true, cond_false, Option.bind_some] <;> rfl
theorem Bh3 (k : Nat) {a0 : List Tk} (r : Rdy a0) (a1 : _) (a2 : _) (a3 : _) (a4 : _) (a5 : _) (a6 : _) : Pf k (a0, a1, a2, a3, a4, a5, a6) = some ((numC (a0, 0, 0)).2.2.1 == 0, (numC (a0, 0, 0)).2.2.1, (numC (a0, 0, 0)).2.2.2, (numC (a0, 0, 0)).2.1, a1, a2, (bif (numC (a0, 0, 0)).2.2.1 == 0 then (numC (a0, 0, 0)).1 else a3), a4, a5, a6) := by
 rw [Bcv, Apf, Bm r.ne, Bb k r, A6 k r, Cm]
 cases h : (hd a0).1 == 2 <;> simp only [bne, h, Bool.not_true, Bool.not_false, cond_true, cond_false, Option.bind_some] <;> rfl
theorem Bh4 (k : Nat) {a0 : List Tk} (r : Rdy a0) (a1 : _) (a2 : _) (a3 : _) (a4 : _) (a5 : _) (a6 : _) : Pg k (a0, a1, a2, a3, a4, a5, a6) = some ((numC (a0, 0, 0)).2.2.1 == 0, (numC (a0, 0, 0)).2.2.1, (numC (a0, 0, 0)).2.2.2, (numC (a0, 0, 0)).2.1, a1, a2, a3, (bif (numC (a0, 0, 0)).2.2.1 == 0 then (numC (a0, 0, 0)).1 else a4), a5, a6) := by
 rw [Bcx, Api, Bm r.ne, Bb k r, A6 k r, Cm]
 cases h : (hd a0).1 == 2 <;> simp only [bne, h, Bool.not_true, Bool.not_false, cond_true, cond_false, Option.bind_some] <;> rfl
theorem Bh5 (k : Nat) {a0 : List Tk} (r : Rdy a0) (a1 : _) (a2 : _) (a3 : _) (a4 : _) (a5 : _) (a6 : _) : Ph k (a0, a1, a2, a3, a4, a5, a6) = some ((numC (a0, 0, 0)).2.2.1 == 0, (numC (a0, 0, 0)).2.2.1, (numC (a0, 0, 0)).2.2.2, (numC (a0, 0, 0)).2.1, a1, a2, a3, a4, (bif (numC (a0, 0, 0)).2.2.1 == 0 then (numC (a0, 0, 0)).1 else a5), a6) := by
 rw [Bcz, Apl, Bm r.ne, Bb k r, A6 k r, Cm]
 cases h : (hd a0).1 == 2 <;> simp only [bne, h, Bool.not_true, Bool.not_false, cond_true, cond_false, Option.bind_some] <;> rfl
theorem Bin (k : Nat) {a0 : List Tk} (r : Rdy a0) (a1 : _) (a2 : _) : Py k (a0, a1, a2) = some (a0, a1, (hd a0).2.2.2.1) := by
 rw [Bd0, Aro, Bm r.ne]
theorem Bhn (k : Nat) {a0 : List Tk} (r : Rdy a0) (a1 : _) (a2 : _) : O1 k (a0, a1, a2) = some ((Ai (a0, 0, 0)).2.2.1 == 0, (Ai (a0, 0, 0)).2.2.1, (Ai (a0, 0, 0)).2.2.2, (Ai (a0, 0, 0)).2.1, (bif (Ai (a0, 0, 0)).2.2.1 == 0 then (Ai (a0, 0, 0)).1 else a1), a2) := by
 rw [Bbd, Alp, Fs k r, Option.bind_some, Cl]
 simp only [Bb k r, A6 k r]
 cases h : (hd a0).1 == 1 && !(resB (hd a0).2.1) <;> simp only [h, Bool.not_true, Bool.not_false, cond_true, cond_false, Option.bind_some] <;> rfl
theorem K5 (k : Nat) {a0 : List Tk} (r : Rdy a0) (a1 : _) : O2 k (a0, a1) = some ((Ai (a0, 0, 0)).2.2.1 == 0, (Ai (a0, 0, 0)).2.2.1, (Ai (a0, 0, 0)).2.2.2, (Ai (a0, 0, 0)).2.1, (bif (Ai (a0, 0, 0)).2.2.1 == 0 then (Ai (a0, 0, 0)).1 else a1)) := by
 rw [Bbf, Als, Fs k r, Option.bind_some, Cl]
 simp only [Bb k r, A6 k r]
 cases h : (hd a0).1 == 1 && !(resB (hd a0).2.1) <;> simp only [h, Bool.not_true, Bool.not_false, cond_true, cond_false, Option.bind_some] <;> rfl
theorem Bis (k : Nat) {a1 : List Tk} (r : Rdy a1) (a0 : _) (hs : WS a0) : P1 k (a0, a1) = some ((bif Aw a0 (a1, 0, 0) then (a1, 0, 0) else A5 50 (a1, 0, 0)).2.1 == 0, (bif Aw a0 (a1, 0, 0) then (a1, 0, 0) else A5 50 (a1, 0, 0)).2.1, (bif Aw a0 (a1, 0, 0) then (a1, 0, 0) else A5 50 (a1, 0, 0)).2.2, a0, (bif Aw a0 (a1, 0, 0) then (a1, 0, 0) else A5 50 (a1, 0, 0)).1) := by
 rw [Bd7, Ar4, Bo k r, Option.bind_some, K9 r hs]
 simp only [Bb k r, A6 k r]
 cases h : (hd a1).2.1 == a0 <;> simp only [h, Bool.not_true, Bool.not_false, cond_true, cond_false, Option.bind_some] <;> rfl
theorem Bhi (k : Nat) {a1 : List Tk} (r : Rdy a1) (a0 : List Int) (a2 : Bool) (hs : WS a0) : Ov k (a0, a1, a2) = some (a0, (bif Aw a0 (a1, 0, 0) then A0 (a1, 0, 0) else (a1, 0, 0)).1, (bif Aw a0 (a1, 0, 0) then true else a2)) := by
 rw [Bar, Aj2, Bo k r, Option.bind_some, K9 r hs, Gy]
 simp only [A6 k r]
 cases h : (hd a1).2.1 == a0 <;> simp only [h, cond_true, cond_false, Option.bind_some]
theorem Bio (k : Nat) {a0 : List Tk} (r : Rdy a0) (a1 : _) (a2 : _) (a3 : _) : Pz k (a0, a1, a2, a3) = some (a0, a1, a2, (hd a0).2.2.2.1) := by
 rw [Bd1, Arr, Bm r.ne]
theorem Bho (k : Nat) {a0 : List Tk} (r : Rdy a0) (a1 : _) (a2 : _) (a3 : _) : O3 k (a0, a1, a2, a3) = some ((Ai (a0, 0, 0)).2.2.1 == 0, (Ai (a0, 0, 0)).2.2.1, (Ai (a0, 0, 0)).2.2.2, (Ai (a0, 0, 0)).2.1, (bif (Ai (a0, 0, 0)).2.2.1 == 0 then (Ai (a0, 0, 0)).1 else a1), a2, a3) := by
 rw [Bbh, Alv, Fs k r, Option.bind_some, Cl]
 simp only [Bb k r, A6 k r]
 cases h : (hd a0).1 == 1 && !(resB (hd a0).2.1) <;> simp only [h, Bool.not_true, Bool.not_false, cond_true, cond_false, Option.bind_some] <;> rfl
theorem Bhp (k : Nat) {a0 : List Tk} (r : Rdy a0) (a1 : _) (a2 : _) (a3 : _) : O4 k (a0, a1, a2, a3) = some ((Ai (a0, 0, 0)).2.2.1 == 0, (Ai (a0, 0, 0)).2.2.1, (Ai (a0, 0, 0)).2.2.2, (Ai (a0, 0, 0)).2.1, a1, (bif (Ai (a0, 0, 0)).2.2.1 == 0 then (Ai (a0, 0, 0)).1 else a2), a3) := by
 rw [Bbj, Aly, Fs k r, Option.bind_some, Cl]
 simp only [Bb k r, A6 k r]
 cases h : (hd a0).1 == 1 && !(resB (hd a0).2.1) <;> simp only [h, Bool.not_true, Bool.not_false, cond_true, cond_false, Option.bind_some] <;> rfl
theorem Bip (k : Nat) {a0 : List Tk} (r : Rdy a0) (a1 : _) (a2 : _) (a3 : _) (a4 : _) (a5 : _) (a6 : _) : P0 k (a0, a1, a2, a3, a4, a5, a6) = some (a0, a1, a2, a3, a4, a5, (hd a0).2.2.2.1) := by
 rw [Bd2, Aru, Bm r.ne]
theorem Bhq (k : Nat) {a0 : List Tk} (r : Rdy a0) (a1 : _) (a2 : _) (a3 : _) (a4 : _) (a5 : _) (a6 : _) : O5 k (a0, a1, a2, a3, a4, a5, a6) = some ((Ai (a0, 0, 0)).2.2.1 == 0, (Ai (a0, 0, 0)).2.2.1, (Ai (a0, 0, 0)).2.2.2, (Ai (a0, 0, 0)).2.1, (bif (Ai (a0, 0, 0)).2.2.1 == 0 then (Ai (a0, 0, 0)).1 else a1), a2, a3, a4, a5, a6) := by
 rw [Bbl, Al1, Fs k r, Option.bind_some, Cl]
 simp only [Bb k r, A6 k r]
 cases h : (hd a0).1 == 1 && !(resB (hd a0).2.1) <;> simp only [h, Bool.not_true, Bool.not_false, cond_true, cond_false, Option.bind_some] <;> rfl
theorem Bhr (k : Nat) {a0 : List Tk} (r : Rdy a0) (a1 : _) (a2 : _) (a3 : _) (a4 : _) (a5 : _) (a6 : _) : O6 k (a0, a1, a2, a3, a4, a5, a6) = some ((Ai (a0, 0, 0)).2.2.1 == 0, (Ai (a0, 0, 0)).2.2.1, (Ai (a0, 0, 0)).2.2.2, (Ai (a0, 0, 0)).2.1, a1, (bif (Ai (a0, 0, 0)).2.2.1 == 0 then (Ai (a0, 0, 0)).1 else a2), a3, a4, a5, a6) := by
 rw [Bbn, Al4, Fs k r, Option.bind_some, Cl]
 simp only [Bb k r, A6 k r]
 cases h : (hd a0).1 == 1 && !(resB (hd a0).2.1) <;> simp only [h, Bool.not_true, Bool.not_false, cond_true, cond_false, Option.bind_some] <;> rfl
theorem Bhj (k : Nat) {a0 : List Tk} (r : Rdy a0) (a1 : _) (a2 : _) (a3 : _) (a4 : _) (a5 : _) (a6 : _) : Oy k (a0, a1, a2, a3, a4, a5, a6) = some ((Ai (a0, 0, 0)).2.2.1 == 0, (Ai (a0, 0, 0)).2.2.1, (Ai (a0, 0, 0)).2.2.2, (Ai (a0, 0, 0)).2.1, a1, a2, (bif (Ai (a0, 0, 0)).2.2.1 == 0 then (Ai (a0, 0, 0)).1 else a3), a4, a5, a6) := by
 rw [Ba5, Ald, Fs k r, Option.bind_some, Cl]
 simp only [Bb k r, A6 k r]
 cases h : (hd a0).1 == 1 && !(resB (hd a0).2.1) <;> simp only [h, Bool.not_true, Bool.not_false, cond_true, cond_false, Option.bind_some] <;> rfl
theorem Bh6 (k : Nat) {a0 : List Tk} (r : Rdy a0) (a1 : _) (a2 : _) (a3 : _) (a4 : _) (a5 : _) (a6 : _) : Pj k (a0, a1, a2, a3, a4, a5, a6) = some ((numC (a0, 0, 0)).2.2.1 == 0, (numC (a0, 0, 0)).2.2.1, (numC (a0, 0, 0)).2.2.2, (numC (a0, 0, 0)).2.1, a1, a2, a3, (bif (numC (a0, 0, 0)).2.2.1 == 0 then (numC (a0, 0, 0)).1 else a4), a5, a6) := by
 rw [Bc1, Apo, Bm r.ne, Bb k r, A6 k r, Cm]
 cases h : (hd a0).1 == 2 <;> simp only [bne, h, Bool.not_true, Bool.not_false, cond_true, cond_false, Option.bind_some] <;> rfl
theorem Bh7 (k : Nat) {a0 : List Tk} (r : Rdy a0) (a1 : _) (a2 : _) (a3 : _) (a4 : _) (a5 : _) (a6 : _) : Pk k (a0, a1, a2, a3, a4, a5, a6) = some ((numC (a0, 0, 0)).2.2.1 == 0, (numC (a0, 0, 0)).2.2.1, (numC (a0, 0, 0)).2.2.2, (numC (a0, 0, 0)).2.1, a1, a2, a3, a4, (bif (numC (a0, 0, 0)).2.2.1 == 0 then (numC (a0, 0, 0)).1 else a5), a6) := by
 rw [Bc3, Apr, Bm r.ne, Bb k r, A6 k r, Cm]
 cases h : (hd a0).1 == 2 <;> simp only [bne, h, Bool.not_true, Bool.not_false, cond_true, cond_false, Option.bind_some] <;> rfl
theorem Bh8 (k : Nat) {a0 : List Tk} (r : Rdy a0) (a1 : _) (a2 : _) (a3 : _) (a4 : _) (a5 : _) (a6 : _) (a7 : _) (a8 : _) (a9 : _) : Pl k (a0, a1, a2, a3, a4, a5, a6, a7, a8, a9) = some ((numC (a0, 0, 0)).2.2.1 == 0, (numC (a0, 0, 0)).2.2.1, (numC (a0, 0, 0)).2.2.2, (numC (a0, 0, 0)).2.1, a1, a2, a3, a4, a5, (bif (numC (a0, 0, 0)).2.2.1 == 0 then (numC (a0, 0, 0)).1 else a6), a7, a8, a9) := by
 rw [Bc5, Apu, Bm r.ne, Bb k r, A6 k r, Cm]
 cases h : (hd a0).1 == 2 <;> simp only [bne, h, Bool.not_true, Bool.not_false, cond_true, cond_false, Option.bind_some] <;> rfl
theorem Bia (k : Nat) {a0 : List Tk} (r : Rdy a0) (a1 : _) (a2 : _) (a3 : _) (a4 : _) (a5 : _) (a6 : _) (a7 : _) (a8 : _) (a9 : _) : Pn k (a0, a1, a2, a3, a4, a5, a6, a7, a8, a9) = some ((numC (a0, 0, 0)).2.2.1 == 0, (numC (a0, 0, 0)).2.2.1, (numC (a0, 0, 0)).2.2.2, (numC (a0, 0, 0)).2.1, a1, a2, a3, a4, a5, a6, (bif (numC (a0, 0, 0)).2.2.1 == 0 then (numC (a0, 0, 0)).1 else a7), a8, a9) := by
 rw [Bc9, Ap0, Bm r.ne, Bb k r, A6 k r, Cm]
 cases h : (hd a0).1 == 2 <;> simp only [bne, h, Bool.not_true, Bool.not_false, cond_true, cond_false, Option.bind_some] <;> rfl
theorem Bg5 (k : Nat) {l : List Tk} (r : Rdy l) : cpend k l = some ((bif (hd l).1 != 0 then A5 50 (l, 0, 0) else (l, 0, 0)).2.1 == 0, (bif (hd l).1 != 0 then A5 50 (l, 0, 0) else (l, 0, 0)).2.1, (bif (hd l).1 != 0 then A5 50 (l, 0, 0) else (l, 0, 0)).2.2, (bif (hd l).1 != 0 then A5 50 (l, 0, 0) else (l, 0, 0)).1) := by
 rw [fpend_e, Ai0, Bm r.ne, Bb k r]
 cases h : (hd l).1 != 0 <;> simp only [h, cond_true, cond_false, Option.bind_some] <;> rfl
theorem Ri {l : List Tk} (r : Rdy l) (h : (hd l).1 ≠ 0) : (nx l).length + 1 = l.length := by
 have hne := r.ne
 have h0 : ((hd l).1 != 0) = true := by simpa using h
 unfold nx
 rw [h0, cond_true]
 cases l with
 | nil => exact absurd rfl hne
 | cons t q => rfl
theorem Avp {l : List Tk} (r : Rdy l) (h : (hd l).2.1 ≠ []) : (nx l).length + 1 = l.length := Ri r fun e => h (r.hd.1 e)
theorem Abo {l : List Tk} (r : Rdy l) : Rdy (nx l) := by
 have := ok_next r
 rw [Gy] at this
 cases this with
 | fail _ _ _ h => exact absurd rfl h
 | ok _ r2 _ => exact r2
section
variable {α ρ : Type} (w : List Int) (hw : WS w) (most : Int) (item : RS → α × RS) (ha : ∀ x, Adv x (item x).2) (hs : ∀ x, Suf x (item x).2) (hz : ∀ x, Zr x → Zr (item x).2)
 (F : Nat → List Tk → List α → Option ρ) (pr : ρ → Bool × Int × Int × List Tk) (post : ρ → List α → Prop)
 (h0 : ∀ j l o, Rdy l → (hd l).2.1 ≠ w → ∃ r, F (j + 1) l o = some r ∧ pr r = (true, 0, 0, l) ∧ post r o)
 (h1 : ∀ j l o, Rdy l → (hd l).2.1 = w → ((o.length : Nat) : Int) = most → ∃ r, F (j + 1) l o = some r ∧ pr r = (false, 4, (hd l).2.2.2.1, l))
 (h2 : ∀ j l o, Rdy l → Rdy (nx l) → l.length ≤ 100000 → (nx l).length ≤ 100000 → o.length ≤ 100000 → (hd l).2.1 = w → ((o.length : Nat) : Int) ≠ most →
  ((item (nx l, 0, 0)).2.2.1 ≠ 0 → ∃ r, F (j + 1) l o = some r ∧ pr r = (false, (item (nx l, 0, 0)).2.2.1, (item (nx l, 0, 0)).2.2.2, (item (nx l, 0, 0)).2.1)) ∧
  ((item (nx l, 0, 0)).2.2.1 = 0 → F (j + 1) l o = F j (item (nx l, 0, 0)).2.1 (o ++ [(item (nx l, 0, 0)).1])))
include hw ha hs hz h0 h1 h2
theorem G6 : ∀ (f j : Nat) (l : List Tk) (o : List α), Rdy l → l.length < f → l.length < j → o.length + l.length ≤ 100000 →
  Sim (F j l o) pr (Bl w most item f (l, 0, 0) o).2 fun r => post r (Bl w most item f (l, 0, 0) o).1
 | 0, j, l, o, r, hf, _, _ => by omega
 | f + 1, 0, l, o, r, _, hj, _ => by omega
 | f + 1, j + 1, l, o, r, hf, hj, hm => by
  rw [Bl]
  unfold A3
  rw [K9 r hw]
  by_cases hc : (hd l).2.1 = w
  ·rw [hc, beq_self_eq_true, cond_true]
   by_cases hmo : ((o.length : Nat) : Int) = most
   ·obtain ⟨q, e1, e2⟩ := h1 j l o r hc hmo
    rw [hmo, beq_self_eq_true, cond_true]
    exact ⟨q, e1, e2, fun h => absurd (show (4 : Int) = 0 from h) (by decide)⟩
   ·have hmo2 : (((o.length : Nat) : Int) == most) = false := by simpa using hmo
    rw [hmo2, cond_false, cond_true, Gy]
    have rn := Abo r
    have hln := Avp r (by obtain ⟨c, q, rfl, _⟩ := hw; rw [hc]; exact List.cons_ne_nil _ _)
    have hok : OK (nx l) (item (nx l, 0, 0)) := .of rn (ha _) (hs _) (hz _ zr0)
    obtain ⟨g1, g2⟩ := h2 j l o r rn (by omega) (by omega) (by omega) hc hmo
    show Sim _ pr (Bl w most item f (item (nx l, 0, 0)).2 (o ++ [(item (nx l, 0, 0)).1])).2 fun r => post r (Bl w most item f (item (nx l, 0, 0)).2 (o ++ [(item (nx l, 0, 0)).1])).1
    generalize item (nx l, 0, 0) = oi at hok g1 g2 ⊢
    rcases hok with ⟨v, l2, e, p, he⟩ | ⟨v, l2, r2, n2⟩
    ·obtain ⟨q, e1, e2⟩ := g1 he
     rw [e1, Bj2 w most item he]
     have he2 : (e == 0) = false := by simpa using he
     exact ⟨q, rfl, by rw [e2, he2], fun h => absurd h he⟩
    ·rw [g2 rfl]
     exact G6 f j l2 _ r2 (by omega) (by omega) (by rw [List.length_append, List.length_singleton]; omega)
  ·have hc2 : ((hd l).2.1 == w) = false := by simpa using hc
   rw [hc2, cond_false]
   obtain ⟨q, e1, e2, e3⟩ := h0 j l o r hc
   exact ⟨q, e1, e2, fun _ => e3⟩
end
section
variable {ρ : Type} (most : Int) (F : Nat → List Tk → List (List Int) → Option ρ) (pr : ρ → Bool × Int × Int × List Tk) (post : ρ → List (List Int) → Prop)
 (h1 : ∀ j l o, Rdy l → o.length ≤ 100000 → ((o.length : Nat) : Int) = most → ((hd l).1 == 1 && !(resB (hd l).2.1)) = true → ∃ r, F (j + 1) l o = some r ∧ pr r = (false, 4, (hd l).2.2.2.1, l))
 (h2 : ∀ j l o, Rdy l → o.length ≤ 100000 → ((hd l).1 == 1 && !(resB (hd l).2.1)) = false → ∃ r, F (j + 1) l o = some r ∧ pr r = (false, 50, (hd l).2.2.2.1, l))
 (h3 : ∀ j l o, Rdy l → Rdy (nx l) → o.length ≤ 100000 → ((o.length : Nat) : Int) ≠ most → ((hd l).1 == 1 && !(resB (hd l).2.1)) = true → (hd (nx l)).2.1 ≠ ([44] : List Int) →
  ∃ r, F (j + 1) l o = some r ∧ pr r = ((Aj ([59] : List Int) (nx l, 0, 0)).2.1 == 0, (Aj ([59] : List Int) (nx l, 0, 0)).2.1, (Aj ([59] : List Int) (nx l, 0, 0)).2.2, (Aj ([59] : List Int) (nx l, 0, 0)).1) ∧ post r (o ++ [(hd l).2.1]))
 (h4 : ∀ j l o, Rdy l → Rdy (nx l) → o.length ≤ 100000 → ((o.length : Nat) : Int) ≠ most → ((hd l).1 == 1 && !(resB (hd l).2.1)) = true → (hd (nx l)).2.1 = ([44] : List Int) → F (j + 1) l o = F j (nx (nx l)) (o ++ [(hd l).2.1]))
include h1 h2 h3 h4
theorem Abi : ∀ (f j : Nat) (l : List Tk) (o : List (List Int)), Rdy l → l.length ≤ f → l.length < j → o.length + l.length ≤ 100000 →
  Sim (F j l o) pr (Bt most f (Ai (bif (((o.length : Nat) : Int) == most) && ((hd l).1 == 1 && !(resB (hd l).2.1)) then A5 4 (l, 0, 0) else (l, 0, 0))).2
   (o ++ [(Ai (bif (((o.length : Nat) : Int) == most) && ((hd l).1 == 1 && !(resB (hd l).2.1)) then A5 4 (l, 0, 0) else (l, 0, 0))).1])).2
   fun r => post r (Bt most f (Ai (bif (((o.length : Nat) : Int) == most) && ((hd l).1 == 1 && !(resB (hd l).2.1)) then A5 4 (l, 0, 0) else (l, 0, 0))).2
   (o ++ [(Ai (bif (((o.length : Nat) : Int) == most) && ((hd l).1 == 1 && !(resB (hd l).2.1)) then A5 4 (l, 0, 0) else (l, 0, 0))).1])).1
 | 0, j, l, o, r, hf, _, _ => by have := List.length_pos_iff.2 r.ne; omega
 | f + 1, 0, l, o, r, _, hj, _ => by omega
 | f + 1, j + 1, l, o, r, hf, hj, hm => by
  have ho : o.length ≤ 100000 := by omega
  cases hn : (hd l).1 == 1 && !(resB (hd l).2.1)
  ·obtain ⟨q, e1, e2⟩ := h2 j l o r ho hn
   rw [Bool.and_false, cond_false, Cl, hn, cond_false, A0y most (by decide)]
   exact ⟨q, e1, e2, fun h => absurd (show (50 : Int) = 0 from h) (by decide)⟩
  ·by_cases hmo : ((o.length : Nat) : Int) = most
   ·obtain ⟨q, e1, e2⟩ := h1 j l o r ho hmo hn
    rw [hmo, beq_self_eq_true, Bool.true_and, cond_true]
    have e : (A5 4 (l, 0, 0)) = (l, 4, (hd l).2.2.2.1) := rfl
    rw [e, Aq (by decide), A0y most (by decide)]
    exact ⟨q, e1, e2, fun h => absurd (show (4 : Int) = 0 from h) (by decide)⟩
   ·have hmo2 : (((o.length : Nat) : Int) == most) = false := by simpa using hmo
    have rn := Abo r
    rw [hmo2, Bool.false_and, cond_false, Cl, hn, cond_true, Bt]
    simp only []
    rw [K9 rn (s := ([44] : List Int)) ⟨_, _, rfl, rfl⟩]
    have hln := Ri r (by simp only [Bool.and_eq_true, beq_iff_eq] at hn; omega)
    by_cases hc : (hd (nx l)).2.1 = ([44] : List Int)
    ·rw [hc, beq_self_eq_true, cond_true, h4 j l o r rn ho hmo hn hc, Gy]
     have hln2 := Avp rn (by rw [hc]; simp)
     exact Abi f j (nx (nx l)) _ (Abo rn) (by omega) (by omega) (by rw [List.length_append, List.length_singleton]; omega)
    ·have hc2 : ((hd (nx l)).2.1 == ([44] : List Int)) = false := by simpa using hc
     rw [hc2, cond_false]
     obtain ⟨q, e1, e2, e3⟩ := h3 j l o r rn ho hmo hn hc
     exact ⟨q, e1, e2, fun _ => e3⟩
end
end Go.Proofs.YtipcdjgcomclkaaGreatDoorV
