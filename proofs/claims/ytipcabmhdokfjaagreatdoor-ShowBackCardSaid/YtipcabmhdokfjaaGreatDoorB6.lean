import Derived.Test.YtipcabmhdokfjaaGreatDoorB5
/-! Joined, names shortened: G1, G2. -/
set_option linter.unusedVariables false
set_option linter.unusedSimpArgs false
set_option maxHeartbeats 4000000
set_option maxRecDepth 100000
namespace Go.Proofs.YtipcabmhdokfjaaGreatDoorV
open Go Go.RowKit
noncomputable section
def Ar2 : Sk := ⟨[.lf (.pv (.slice yt2)), .lf (.fn 68 [] [])], [], []⟩
def Ar3 : Sk := ⟨[.lf (.pv .bool)], [], []⟩
def Bxt (k : Nat) : EnvL := [(178, [Biz k])]
def Ar0 (k : Nat) : Cfg := mkC (Bxt k) 57 0 0
def Pf (k : Nat) : (List (YT2)) → Option Bool := hid (Ac (Ar0 k) k Tryz.f121 Ar2 Ar3)
def Bin (k : Nat) : Sig := Ab Ar2 Ar3 (Pf k)
noncomputable def Ar1 (k : Nat) : (List (YT2)) → Option Bool
 | a0 => ((Aaa k) (a0)).bind fun o1 => some (decide (o1 ≥ (0 : Int)))
theorem Bxu (k : Nat) (x : (List (YT2))) : Pf k x = Ar1 k x := (Af _ _).trans (by kernel_rfl)
theorem Bpx (k : Nat) : Aa Tryz.prog 121 (Bin k) := Ae (Ar0 k) k rfl ⟨⟨Bqb k, trivial⟩, trivial⟩ Ad Tryz.func121 (by kernel_rfl)
def Bbz : Sk := ⟨[.lf (.pv (.slice yt2)), .lf (.pv (.int .i64)), .lf (.fn 68 [] [])], [], []⟩
def Bb0 : Sk := ⟨[.lf (.pv .bool)], [], []⟩
def B83 (k : Nat) : EnvL := [(121, [Bin k])]
def Bbx (k : Nat) : Cfg := mkC (B83 k) 64 0 0
def V8 (k : Nat) : ((List (YT2)) × (Int)) → Option Bool := hid (Ac (Bbx k) k Tryz.f67 Bbz Bb0)
def Bnn (k : Nat) : Sig := Ab Bbz Bb0 (V8 k)
noncomputable def Bby (k : Nat) : ((List (YT2)) × (Int)) → Option Bool
 | (a0, a1) => bif (decide (((List.length a0 : Nat) : Int) > a1)) then (some true) else (((Pf k) (a0)).bind fun o1 => some o1)
theorem B84 (k : Nat) (x : ((List (YT2)) × (Int))) : V8 k x = Bby k x := (Af _ _).trans (by kernel_rfl)
theorem Bvq (k : Nat) : Aa Tryz.prog 67 (Bnn k) := Ae (Bbx k) k rfl ⟨⟨Bpx k, trivial⟩, trivial⟩ Ad Tryz.func67 (by kernel_rfl)
def fshowrowi : Sk := ⟨[.lf (.pv (.slice .str)), .lf (.pv (.int .i64))], [], []⟩
def fshowrowo : Sk := ⟨[.lf (.pv .bool)], [], []⟩
def B98 (k : Nat) : EnvL := [(64, [sgshownames k])]
def Bd1 (k : Nat) : Cfg := mkC (B98 k) 66 0 0
def cshowrow (k : Nat) : H0 → Option Bool := hid (Ac (Bd1 k) k Tryz.f123 fshowrowi fshowrowo)
def sgshowrow (k : Nat) : Sig := Ab fshowrowi fshowrowo (cshowrow k)
noncomputable def Bd2 (k : Nat) : H0 → Option Bool
 | (a0, a1) => bif (decide ((0 : Int) < ((List.length a0 : Nat) : Int))) then (bif (decide (((List.length a0 : Nat) : Int) ≤ a1)) then (((cshownames k) (a0)).bind fun o1 => some o1) else (some false)) else (some false)
theorem B99 (k : Nat) (x : H0) : cshowrow k x = Bd2 k x := (Af _ _).trans (by kernel_rfl)
theorem Aqu (k : Nat) : Aa Tryz.prog 123 (sgshowrow k) := Ae (Bd1 k) k rfl ⟨⟨Ld k, trivial⟩, trivial⟩ Ad Tryz.func123 (by kernel_rfl)
abbrev H20 : Type := (List Int) × (List (List Int)) × (Int)
def Ba7 : Sk := ⟨[.agg [.pv .str, .pv (.slice .str), .pv (.int .i64)]], [], []⟩
def Ba8 : Sk := ⟨[.lf (.pv .bool)], [], []⟩
def B8p (k : Nat) : EnvL := [(64, [sgshownames k]), (123, [sgshowrow k])]
def Ba5 (k : Nat) : Cfg := { mkC (B8p k) 62 0 0 with bl := [54, 56] }
def Qd (k : Nat) : H20 → Option Bool := hid (Ac (Ba5 k) k Tryz.f70 Ba7 Ba8)
def Bng (k : Nat) : Sig := Ab Ba7 Ba8 (Qd k)
noncomputable def Ba6 (k : Nat) : H20 → Option Bool
 | (a0, a1, a2) => ((cshownames k) (([a0] : List (List Int)))).bind fun o1 => bif (!o1) then (some true) else (((cshowrow k) (a1, (16 : Int))).bind fun o2 => some (!o2))
theorem B8q (k : Nat) (x : H20) : Qd k x = Ba6 k x := (Af _ _).trans (by kernel_rfl)
theorem Bvj (k : Nat) : Aa Tryz.prog 70 (Bng k) := Ae (Ba5 k) k rfl ⟨⟨Ld k, trivial⟩, ⟨Aqu k, trivial⟩, trivial⟩ Ad Tryz.func70 (by kernel_rfl)
abbrev H21 : Type := (List (YT3)) × (Int) × (Int)
def Adg : Sk := ⟨[.lf (.pv (.slice yt3)), .lf (.fn 70 [] [])], [], []⟩
def Adh : Sk := ⟨[.lf (.pv (.int .i64))], [], []⟩
def As1 : Sk := ⟨sparse 19 [(0, .lf (.pv (.slice yt3))), (1, .lf (.fn 70 [] [])), (7, .lf (.pv (.int .i64))), (8, .lf (.pv (.int .i64)))], [], []⟩
abbrev Ade := H21
def Q0 : Ade → St := stOf As1 67
def Byp (k : Nat) : EnvL := [(70, [Bng k])]
def Gz (k : Nat) : FnX Int := mkX ({ mkC (Byp k) 67 0 0 with hint := fun i => look none [(2, some As1)] i }) k Tryz.f179 Adh
def Aab (k : Nat) : (List (YT3)) → Option Int := hid (Ac (Gz k).C k Tryz.f179 Adg Adh)
def Bi0 (k : Nat) : Sig := Ab Adg Adh (Aab k)
noncomputable def Adf (k : Nat) (J : JF Int) (L : LF Int) : (List (YT3)) → Option Int
 | a0 => L 2 [] k (Q0 (a0, ((List.length a0 : Nat) : Int), (0 : Int)))
theorem Byq (k : Nat) (x : (List (YT3))) : Aab k x = Adf k (Gz k).J (Gz k).L x := by
 refine (Af _ _).trans ?_; apply cutX (Gz k) [] [] (st0 (Gz k).C Tryz.f179 Adg x) [] [(2, [], k)] (Adf k · · x) <;> intros <;> kernel_rfl
noncomputable def As2 (k j2 : Nat) (J : JF Int) (L : LF Int) : Ade → Option Int
 | (a0, a1, a2) => bif (decide (a2 < a1)) then (idx zt3 a0 a2 fun o1 => ((Qd k) (o1.1, o1.2.1, o1.2.2.1)).bind fun o2 => bif o2 then (some a2) else (L 2 [] j2 (Q0 (a0, a1, (IntKind.wrap .i64 (a2 + (1 : Int))))))) else (some (-1 : Int))
theorem Byr (k j2 : Nat) (x : Ade) : (Gz k).L 2 [] (j2 + 1) (Q0 x) = As2 k j2 (Gz k).J (Gz k).L x := by
 apply cutX (Gz k) [.r, .l, .r, .b, .b] [j2] (Q0 x) [] [(2, [], j2)] (As2 k j2 · · x) <;> intros <;> kernel_rfl
theorem Bqc (k : Nat) : Aa Tryz.prog 179 (Bi0 k) := Ae (Gz k).C k rfl ⟨⟨Bvj k, trivial⟩, trivial⟩ Ad Tryz.func179 (by kernel_rfl)
def Ar6 : Sk := ⟨[.lf (.pv (.slice yt3)), .lf (.fn 70 [] [])], [], []⟩
def Ar7 : Sk := ⟨[.lf (.pv .bool)], [], []⟩
def Bxv (k : Nat) : EnvL := [(179, [Bi0 k])]
def Ar4 (k : Nat) : Cfg := mkC (Bxv k) 57 0 0
def Pg (k : Nat) : (List (YT3)) → Option Bool := hid (Ac (Ar4 k) k Tryz.f122 Ar6 Ar7)
def Bio (k : Nat) : Sig := Ab Ar6 Ar7 (Pg k)
noncomputable def Ar5 (k : Nat) : (List (YT3)) → Option Bool
 | a0 => ((Aab k) (a0)).bind fun o1 => some (decide (o1 ≥ (0 : Int)))
theorem Bxw (k : Nat) (x : (List (YT3))) : Pg k x = Ar5 k x := (Af _ _).trans (by kernel_rfl)
theorem Bpy (k : Nat) : Aa Tryz.prog 122 (Bio k) := Ae (Ar4 k) k rfl ⟨⟨Bqc k, trivial⟩, trivial⟩ Ad Tryz.func122 (by kernel_rfl)
def Bb3 : Sk := ⟨[.lf (.pv (.slice yt3)), .lf (.pv (.int .i64)), .lf (.fn 70 [] [])], [], []⟩
def Bb4 : Sk := ⟨[.lf (.pv .bool)], [], []⟩
def B85 (k : Nat) : EnvL := [(122, [Bio k])]
def Bb1 (k : Nat) : Cfg := mkC (B85 k) 64 0 0
def V9 (k : Nat) : ((List (YT3)) × (Int)) → Option Bool := hid (Ac (Bb1 k) k Tryz.f69 Bb3 Bb4)
def Bno (k : Nat) : Sig := Ab Bb3 Bb4 (V9 k)
noncomputable def Bb2 (k : Nat) : ((List (YT3)) × (Int)) → Option Bool
 | (a0, a1) => bif (decide (((List.length a0 : Nat) : Int) > a1)) then (some true) else (((Pg k) (a0)).bind fun o1 => some o1)
theorem B86 (k : Nat) (x : ((List (YT3)) × (Int))) : V9 k x = Bb2 k x := (Af _ _).trans (by kernel_rfl)
theorem Bvr (k : Nat) : Aa Tryz.prog 69 (Bno k) := Ae (Bb1 k) k rfl ⟨⟨Bpy k, trivial⟩, trivial⟩ Ad Tryz.func69 (by kernel_rfl)
abbrev H22 : Type := (Bool) × (List (List Int))
def Bbb : Sk := ⟨[.agg [.pv .bool, .pv (.slice .str)]], [], []⟩
def Bbc : Sk := ⟨[.lf (.pv .bool)], [], []⟩
def B8r (k : Nat) : EnvL := [(123, [sgshowrow k])]
def Ba9 (k : Nat) : Cfg := { mkC (B8r k) 55 0 0 with bl := [54, 56] }
def Qe (k : Nat) : H22 → Option Bool := hid (Ac (Ba9 k) k Tryz.f126 Bbb Bbc)
def Bnh (k : Nat) : Sig := Ab Bbb Bbc (Qe k)
noncomputable def Bba (k : Nat) : H22 → Option Bool
 | (a0, a1) => ((cshowrow k) (a1, (4 : Int))).bind fun o1 => some (!o1)
theorem B8s (k : Nat) (x : H22) : Qe k x = Bba k x := (Af _ _).trans (by kernel_rfl)
theorem Bvk (k : Nat) : Aa Tryz.prog 126 (Bnh k) := Ae (Ba9 k) k rfl ⟨⟨Aqu k, trivial⟩, trivial⟩ Ad Tryz.func126 (by kernel_rfl)
abbrev H23 : Type := (List (YT4)) × (Int) × (Int)
def Adk : Sk := ⟨[.lf (.pv (.slice yt4)), .lf (.fn 126 [] [])], [], []⟩
def Adl : Sk := ⟨[.lf (.pv (.int .i64))], [], []⟩
def As3 : Sk := ⟨sparse 19 [(0, .lf (.pv (.slice yt4))), (1, .lf (.fn 126 [] [])), (7, .lf (.pv (.int .i64))), (8, .lf (.pv (.int .i64)))], [], []⟩
abbrev Adi := H23
def Q1 : Adi → St := stOf As3 67
def Bys (k : Nat) : EnvL := [(126, [Bnh k])]
def G4 (k : Nat) : FnX Int := mkX ({ mkC (Bys k) 67 0 0 with hint := fun i => look none [(2, some As3)] i }) k Tryz.f181 Adl
def Aac (k : Nat) : (List (YT4)) → Option Int := hid (Ac (G4 k).C k Tryz.f181 Adk Adl)
def Bi1 (k : Nat) : Sig := Ab Adk Adl (Aac k)
noncomputable def Adj (k : Nat) (J : JF Int) (L : LF Int) : (List (YT4)) → Option Int
 | a0 => L 2 [] k (Q1 (a0, ((List.length a0 : Nat) : Int), (0 : Int)))
theorem Byt (k : Nat) (x : (List (YT4))) : Aac k x = Adj k (G4 k).J (G4 k).L x := by
 refine (Af _ _).trans ?_; apply cutX (G4 k) [] [] (st0 (G4 k).C Tryz.f181 Adk x) [] [(2, [], k)] (Adj k · · x) <;> intros <;> kernel_rfl
noncomputable def As4 (k j2 : Nat) (J : JF Int) (L : LF Int) : Adi → Option Int
 | (a0, a1, a2) => bif (decide (a2 < a1)) then (idx zt4 a0 a2 fun o1 => ((Qe k) (o1.1, o1.2.1)).bind fun o2 => bif o2 then (some a2) else (L 2 [] j2 (Q1 (a0, a1, (IntKind.wrap .i64 (a2 + (1 : Int))))))) else (some (-1 : Int))
theorem Byu (k j2 : Nat) (x : Adi) : (G4 k).L 2 [] (j2 + 1) (Q1 x) = As4 k j2 (G4 k).J (G4 k).L x := by
 apply cutX (G4 k) [.r, .l, .r, .b, .b] [j2] (Q1 x) [] [(2, [], j2)] (As4 k j2 · · x) <;> intros <;> kernel_rfl
theorem Bqd (k : Nat) : Aa Tryz.prog 181 (Bi1 k) := Ae (G4 k).C k rfl ⟨⟨Bvk k, trivial⟩, trivial⟩ Ad Tryz.func181 (by kernel_rfl)
def Asa : Sk := ⟨[.lf (.pv (.slice yt4)), .lf (.fn 126 [] [])], [], []⟩
def Asb : Sk := ⟨[.lf (.pv .bool)], [], []⟩
def Bxx (k : Nat) : EnvL := [(181, [Bi1 k])]
def Ar8 (k : Nat) : Cfg := mkC (Bxx k) 57 0 0
def Ph (k : Nat) : (List (YT4)) → Option Bool := hid (Ac (Ar8 k) k Tryz.f125 Asa Asb)
def Bip (k : Nat) : Sig := Ab Asa Asb (Ph k)
noncomputable def Ar9 (k : Nat) : (List (YT4)) → Option Bool
 | a0 => ((Aac k) (a0)).bind fun o1 => some (decide (o1 ≥ (0 : Int)))
theorem Bxy (k : Nat) (x : (List (YT4))) : Ph k x = Ar9 k x := (Af _ _).trans (by kernel_rfl)
theorem Bpz (k : Nat) : Aa Tryz.prog 125 (Bip k) := Ae (Ar8 k) k rfl ⟨⟨Bqd k, trivial⟩, trivial⟩ Ad Tryz.func125 (by kernel_rfl)
def Bar : Sk := ⟨[.agg [.pv (.slice yt4)]], [], []⟩
def Bas : Sk := ⟨[.lf (.pv .bool)], [], []⟩
def B8h (k : Nat) : EnvL := [(125, [Bip k])]
def Bap (k : Nat) : Cfg := { mkC (B8h k) 66 0 0 with bl := [54, 56] }
def P9 (k : Nat) : (List (YT4)) → Option Bool := hid (Ac (Bap k) k Tryz.f72 Bar Bas)
def Bnc (k : Nat) : Sig := Ab Bar Bas (P9 k)
noncomputable def Baq (k : Nat) : (List (YT4)) → Option Bool
 | a0 => bif (decide (((List.length a0 : Nat) : Int) < (1 : Int))) then (some true) else (bif (decide (((List.length a0 : Nat) : Int) > (2 : Int))) then (some true) else (((Ph k) (a0)).bind fun o1 => some o1))
theorem B8i (k : Nat) (x : (List (YT4))) : P9 k x = Baq k x := (Af _ _).trans (by kernel_rfl)
theorem Bvf (k : Nat) : Aa Tryz.prog 72 (Bnc k) := Ae (Bap k) k rfl ⟨⟨Bpz k, trivial⟩, trivial⟩ Ad Tryz.func72 (by kernel_rfl)
abbrev H24 : Type := (List ((List (YT4)) × (Unit))) × (Int) × (Int)
abbrev H25 : Type := List ((List (YT4)) × (Unit))
def Ac0 : Sk := ⟨[.lf (.pv (.slice (.cons (.slice yt4) .nil))), .lf (.fn 72 [] [])], [], []⟩
def Ac1 : Sk := ⟨[.lf (.pv (.int .i64))], [], []⟩
def Ast : Sk := ⟨sparse 19 [(0, .lf (.pv (.slice (.cons (.slice yt4) .nil)))), (1, .lf (.fn 72 [] [])), (7, .lf (.pv (.int .i64))), (8, .lf (.pv (.int .i64)))], [], []⟩
abbrev Acy := H24
def Qw : Acy → St := stOf Ast 67
def Byd (k : Nat) : EnvL := [(72, [Bnc k])]
def Gv (k : Nat) : FnX Int := mkX ({ mkC (Byd k) 67 0 0 with hint := fun i => look none [(2, some Ast)] i }) k Tryz.f180 Ac1
def Z7 (k : Nat) : H25 → Option Int := hid (Ac (Gv k).C k Tryz.f180 Ac0 Ac1)
def Biw (k : Nat) : Sig := Ab Ac0 Ac1 (Z7 k)
noncomputable def Acz (k : Nat) (J : JF Int) (L : LF Int) : H25 → Option Int
 | a0 => L 2 [] k (Qw (a0, ((List.length a0 : Nat) : Int), (0 : Int)))
theorem Bye (k : Nat) (x : H25) : Z7 k x = Acz k (Gv k).J (Gv k).L x := by
 refine (Af _ _).trans ?_; apply cutX (Gv k) [] [] (st0 (Gv k).C Tryz.f180 Ac0 x) [] [(2, [], k)] (Acz k · · x) <;> intros <;> kernel_rfl
noncomputable def Asu (k j2 : Nat) (J : JF Int) (L : LF Int) : Acy → Option Int
 | (a0, a1, a2) => bif (decide (a2 < a1)) then (idx ([], ()) a0 a2 fun o1 => ((P9 k) (o1.1)).bind fun o2 => bif o2 then (some a2) else (L 2 [] j2 (Qw (a0, a1, (IntKind.wrap .i64 (a2 + (1 : Int))))))) else (some (-1 : Int))
theorem Byf (k j2 : Nat) (x : Acy) : (Gv k).L 2 [] (j2 + 1) (Qw x) = Asu k j2 (Gv k).J (Gv k).L x := by
 apply cutX (Gv k) [.r, .l, .r, .b, .b] [j2] (Qw x) [] [(2, [], j2)] (Asu k j2 · · x) <;> intros <;> kernel_rfl
theorem Bp8 (k : Nat) : Aa Tryz.prog 180 (Biw k) := Ae (Gv k).C k rfl ⟨⟨Bvf k, trivial⟩, trivial⟩ Ad Tryz.func180 (by kernel_rfl)
def Arq : Sk := ⟨[.lf (.pv (.slice (.cons (.slice yt4) .nil))), .lf (.fn 72 [] [])], [], []⟩
def Arr : Sk := ⟨[.lf (.pv .bool)], [], []⟩
def Bxn (k : Nat) : EnvL := [(180, [Biw k])]
def Aro (k : Nat) : Cfg := mkC (Bxn k) 57 0 0
def Pc (k : Nat) : H25 → Option Bool := hid (Ac (Aro k) k Tryz.f124 Arq Arr)
def Bik (k : Nat) : Sig := Ab Arq Arr (Pc k)
noncomputable def Arp (k : Nat) : H25 → Option Bool
 | a0 => ((Z7 k) (a0)).bind fun o1 => some (decide (o1 ≥ (0 : Int)))
theorem Bxo (k : Nat) (x : H25) : Pc k x = Arp k x := (Af _ _).trans (by kernel_rfl)
theorem Bpu (k : Nat) : Aa Tryz.prog 124 (Bik k) := Ae (Aro k) k rfl ⟨⟨Bp8 k, trivial⟩, trivial⟩ Ad Tryz.func124 (by kernel_rfl)
abbrev H26 : Type := (List ((List (YT4)) × (Unit))) × (Int)
def Bbn : Sk := ⟨[.lf (.pv (.slice (.cons (.slice yt4) .nil))), .lf (.pv (.int .i64)), .lf (.fn 72 [] [])], [], []⟩
def Bbo : Sk := ⟨[.lf (.pv .bool)], [], []⟩
def B8x (k : Nat) : EnvL := [(124, [Bik k])]
def Bbl (k : Nat) : Cfg := mkC (B8x k) 64 0 0
def V5 (k : Nat) : H26 → Option Bool := hid (Ac (Bbl k) k Tryz.f71 Bbn Bbo)
def Bnk (k : Nat) : Sig := Ab Bbn Bbo (V5 k)
noncomputable def Bbm (k : Nat) : H26 → Option Bool
 | (a0, a1) => bif (decide (((List.length a0 : Nat) : Int) > a1)) then (some true) else (((Pc k) (a0)).bind fun o1 => some o1)
theorem B8y (k : Nat) (x : H26) : V5 k x = Bbm k x := (Af _ _).trans (by kernel_rfl)
theorem Bvn (k : Nat) : Aa Tryz.prog 71 (Bnk k) := Ae (Bbl k) k rfl ⟨⟨Bpu k, trivial⟩, trivial⟩ Ad Tryz.func71 (by kernel_rfl)
abbrev H27 : Type := (List Int) × (List Int) × (Int)
def Ban : Sk := ⟨[.agg [.pv .str, .pv .str, .pv (.int .i64)]], [], []⟩
def Bao : Sk := ⟨[.lf (.pv .bool)], [], []⟩
def B8f (k : Nat) : EnvL := [(64, [sgshownames k])]
def Bal (k : Nat) : Cfg := { mkC (B8f k) 58 0 0 with bl := [54, 56] }
def P8 (k : Nat) : H27 → Option Bool := hid (Ac (Bal k) k Tryz.f74 Ban Bao)
def Bnb (k : Nat) : Sig := Ab Ban Bao (P8 k)
noncomputable def Bam (k : Nat) : H27 → Option Bool
 | (a0, a1, a2) => ((cshownames k) (([a0, a1] : List (List Int)))).bind fun o1 => some (!o1)
theorem B8g (k : Nat) (x : H27) : P8 k x = Bam k x := (Af _ _).trans (by kernel_rfl)
theorem Bve (k : Nat) : Aa Tryz.prog 74 (Bnb k) := Ae (Bal k) k rfl ⟨⟨Ld k, trivial⟩, trivial⟩ Ad Tryz.func74 (by kernel_rfl)
abbrev H28 : Type := (List (YT5)) × (Int) × (Int)
def Acw : Sk := ⟨[.lf (.pv (.slice yt5)), .lf (.fn 74 [] [])], [], []⟩
def Acx : Sk := ⟨[.lf (.pv (.int .i64))], [], []⟩
def Asr : Sk := ⟨sparse 19 [(0, .lf (.pv (.slice yt5))), (1, .lf (.fn 74 [] [])), (7, .lf (.pv (.int .i64))), (8, .lf (.pv (.int .i64)))], [], []⟩
abbrev Acu := H28
def Qv : Acu → St := stOf Asr 67
def Bya (k : Nat) : EnvL := [(74, [Bnb k])]
def Gu (k : Nat) : FnX Int := mkX ({ mkC (Bya k) 67 0 0 with hint := fun i => look none [(2, some Asr)] i }) k Tryz.f182 Acx
def Z6 (k : Nat) : (List (YT5)) → Option Int := hid (Ac (Gu k).C k Tryz.f182 Acw Acx)
def Biv (k : Nat) : Sig := Ab Acw Acx (Z6 k)
noncomputable def Acv (k : Nat) (J : JF Int) (L : LF Int) : (List (YT5)) → Option Int
 | a0 => L 2 [] k (Qv (a0, ((List.length a0 : Nat) : Int), (0 : Int)))
theorem Byb (k : Nat) (x : (List (YT5))) : Z6 k x = Acv k (Gu k).J (Gu k).L x := by
 refine (Af _ _).trans ?_; apply cutX (Gu k) [] [] (st0 (Gu k).C Tryz.f182 Acw x) [] [(2, [], k)] (Acv k · · x) <;> intros <;> kernel_rfl
noncomputable def Ass (k j2 : Nat) (J : JF Int) (L : LF Int) : Acu → Option Int
 | (a0, a1, a2) => bif (decide (a2 < a1)) then (idx zt5 a0 a2 fun o1 => ((P8 k) (o1.1, o1.2.1, o1.2.2.1)).bind fun o2 => bif o2 then (some a2) else (L 2 [] j2 (Qv (a0, a1, (IntKind.wrap .i64 (a2 + (1 : Int))))))) else (some (-1 : Int))
theorem Byc (k j2 : Nat) (x : Acu) : (Gu k).L 2 [] (j2 + 1) (Qv x) = Ass k j2 (Gu k).J (Gu k).L x := by
 apply cutX (Gu k) [.r, .l, .r, .b, .b] [j2] (Qv x) [] [(2, [], j2)] (Ass k j2 · · x) <;> intros <;> kernel_rfl
theorem Bp7 (k : Nat) : Aa Tryz.prog 182 (Biv k) := Ae (Gu k).C k rfl ⟨⟨Bve k, trivial⟩, trivial⟩ Ad Tryz.func182 (by kernel_rfl)
def Arm : Sk := ⟨[.lf (.pv (.slice yt5)), .lf (.fn 74 [] [])], [], []⟩
def Arn : Sk := ⟨[.lf (.pv .bool)], [], []⟩
def Bxl (k : Nat) : EnvL := [(182, [Biv k])]
def Ark (k : Nat) : Cfg := mkC (Bxl k) 57 0 0
def Pb (k : Nat) : (List (YT5)) → Option Bool := hid (Ac (Ark k) k Tryz.f127 Arm Arn)
def Bij (k : Nat) : Sig := Ab Arm Arn (Pb k)
noncomputable def Arl (k : Nat) : (List (YT5)) → Option Bool
 | a0 => ((Z6 k) (a0)).bind fun o1 => some (decide (o1 ≥ (0 : Int)))
theorem Bxm (k : Nat) (x : (List (YT5))) : Pb k x = Arl k x := (Af _ _).trans (by kernel_rfl)
theorem Bpt (k : Nat) : Aa Tryz.prog 127 (Bij k) := Ae (Ark k) k rfl ⟨⟨Bp7 k, trivial⟩, trivial⟩ Ad Tryz.func127 (by kernel_rfl)
def Bbj : Sk := ⟨[.lf (.pv (.slice yt5)), .lf (.pv (.int .i64)), .lf (.fn 74 [] [])], [], []⟩
def Bbk : Sk := ⟨[.lf (.pv .bool)], [], []⟩
def B8v (k : Nat) : EnvL := [(127, [Bij k])]
def Bbh (k : Nat) : Cfg := mkC (B8v k) 64 0 0
def V4 (k : Nat) : ((List (YT5)) × (Int)) → Option Bool := hid (Ac (Bbh k) k Tryz.f73 Bbj Bbk)
def Bnj (k : Nat) : Sig := Ab Bbj Bbk (V4 k)
noncomputable def Bbi (k : Nat) : ((List (YT5)) × (Int)) → Option Bool
 | (a0, a1) => bif (decide (((List.length a0 : Nat) : Int) > a1)) then (some true) else (((Pb k) (a0)).bind fun o1 => some o1)
theorem B8w (k : Nat) (x : ((List (YT5)) × (Int))) : V4 k x = Bbi k x := (Af _ _).trans (by kernel_rfl)
theorem Bvm (k : Nat) : Aa Tryz.prog 73 (Bnj k) := Ae (Bbh k) k rfl ⟨⟨Bpt k, trivial⟩, trivial⟩ Ad Tryz.func73 (by kernel_rfl)
def Baz : Sk := ⟨[.agg [.pv .str, .pv (.slice yt1), .pv (.slice yt2), .pv (.slice yt3), .pv (.slice (.cons (.slice yt4) .nil)), .pv (.slice yt5), .pv (.int .i64)]], [], []⟩
def Ba0 : Sk := ⟨[.lf (.pv .bool)], [], []⟩
def B8l (k : Nat) : EnvL := [(64, [sgshownames k]), (65, [Bnl k]), (67, [Bnn k]), (69, [Bno k]), (71, [Bnk k]), (73, [Bnj k])]
def Bax (k : Nat) : Cfg := { mkC (B8l k) 81 0 0 with bl := [54, 56] }
def Qb (k : Nat) : H4 → Option Bool := hid (Ac (Bax k) k Tryz.f31 Baz Ba0)
def Bne (k : Nat) : Sig := Ab Baz Ba0 (Qb k)
noncomputable def Bay (k : Nat) : H4 → Option Bool
 | (a0, a1, a2, a3, a4, a5, a6) => ((cshownames k) (([a0] : List (List Int)))).bind fun o1 => bif (!o1) then (some true) else (((V6 k) (a1, (16 : Int))).bind fun o2 => bif o2 then (some true) else (((V8 k) (a2, (8 : Int))).bind fun o3 => bif o3 then (some true) else (((V9 k) (a3, (16 : Int))).bind fun o4 => bif o4 then (some true) else (((V5 k) (a4, (4 : Int))).bind fun o5 => bif o5 then (some true) else (((V4 k) (a5, (64 : Int))).bind fun o6 => some o6)))))
theorem B8m (k : Nat) (x : H4) : Qb k x = Bay k x := (Af _ _).trans (by kernel_rfl)
theorem Bvh (k : Nat) : Aa Tryz.prog 31 (Bne k) := Ae (Bax k) k rfl ⟨⟨Ld k, trivial⟩, ⟨Bvo k, trivial⟩, ⟨Bvq k, trivial⟩, ⟨Bvr k, trivial⟩, ⟨Bvn k, trivial⟩, ⟨Bvm k, trivial⟩, trivial⟩ Ad Tryz.func31 (by kernel_rfl)
abbrev H29 : Type := (List (YT6)) × (Int) × (Int)
def Ac8 : Sk := ⟨[.lf (.pv (.slice yt6)), .lf (.fn 31 [] [])], [], []⟩
def Ac9 : Sk := ⟨[.lf (.pv (.int .i64))], [], []⟩
def Asx : Sk := ⟨sparse 19 [(0, .lf (.pv (.slice yt6))), (1, .lf (.fn 31 [] [])), (7, .lf (.pv (.int .i64))), (8, .lf (.pv (.int .i64)))], [], []⟩
abbrev Ac6 := H29
def Qy : Ac6 → St := stOf Asx 67
def Byj (k : Nat) : EnvL := [(31, [Bne k])]
def Gx (k : Nat) : FnX Int := mkX ({ mkC (Byj k) 67 0 0 with hint := fun i => look none [(2, some Asx)] i }) k Tryz.f115 Ac9
def Z9 (k : Nat) : (List (YT6)) → Option Int := hid (Ac (Gx k).C k Tryz.f115 Ac8 Ac9)
def Biy (k : Nat) : Sig := Ab Ac8 Ac9 (Z9 k)
noncomputable def Ac7 (k : Nat) (J : JF Int) (L : LF Int) : (List (YT6)) → Option Int
 | a0 => L 2 [] k (Qy (a0, ((List.length a0 : Nat) : Int), (0 : Int)))
theorem Byk (k : Nat) (x : (List (YT6))) : Z9 k x = Ac7 k (Gx k).J (Gx k).L x := by
 refine (Af _ _).trans ?_; apply cutX (Gx k) [] [] (st0 (Gx k).C Tryz.f115 Ac8 x) [] [(2, [], k)] (Ac7 k · · x) <;> intros <;> kernel_rfl
noncomputable def Asy (k j2 : Nat) (J : JF Int) (L : LF Int) : Ac6 → Option Int
 | (a0, a1, a2) => bif (decide (a2 < a1)) then (idx zt6 a0 a2 fun o1 => ((Qb k) (o1.1, o1.2.1, o1.2.2.1, o1.2.2.2.1, o1.2.2.2.2.1, o1.2.2.2.2.2.1, o1.2.2.2.2.2.2.1)).bind fun o2 => bif o2 then (some a2) else (L 2 [] j2 (Qy (a0, a1, (IntKind.wrap .i64 (a2 + (1 : Int))))))) else (some (-1 : Int))
theorem Byl (k j2 : Nat) (x : Ac6) : (Gx k).L 2 [] (j2 + 1) (Qy x) = Asy k j2 (Gx k).J (Gx k).L x := by
 apply cutX (Gx k) [.r, .l, .r, .b, .b] [j2] (Qy x) [] [(2, [], j2)] (Asy k j2 · · x) <;> intros <;> kernel_rfl
theorem Bqa (k : Nat) : Aa Tryz.prog 115 (Biy k) := Ae (Gx k).C k rfl ⟨⟨Bvh k, trivial⟩, trivial⟩ Ad Tryz.func115 (by kernel_rfl)
def Ary : Sk := ⟨[.lf (.pv (.slice yt6)), .lf (.fn 31 [] [])], [], []⟩
def Arz : Sk := ⟨[.lf (.pv .bool)], [], []⟩
def Bxr (k : Nat) : EnvL := [(115, [Biy k])]
def Arw (k : Nat) : Cfg := mkC (Bxr k) 57 0 0
def Pe (k : Nat) : (List (YT6)) → Option Bool := hid (Ac (Arw k) k Tryz.f63 Ary Arz)
def Bim (k : Nat) : Sig := Ab Ary Arz (Pe k)
noncomputable def Arx (k : Nat) : (List (YT6)) → Option Bool
 | a0 => ((Z9 k) (a0)).bind fun o1 => some (decide (o1 ≥ (0 : Int)))
theorem Bxs (k : Nat) (x : (List (YT6))) : Pe k x = Arx k x := (Af _ _).trans (by kernel_rfl)
theorem Bpw (k : Nat) : Aa Tryz.prog 63 (Bim k) := Ae (Arw k) k rfl ⟨⟨Bqa k, trivial⟩, trivial⟩ Ad Tryz.func63 (by kernel_rfl)
def Bbv : Sk := ⟨[.lf (.pv (.slice yt6)), .lf (.pv (.int .i64)), .lf (.fn 31 [] [])], [], []⟩
def Bbw : Sk := ⟨[.lf (.pv .bool)], [], []⟩
def B81 (k : Nat) : EnvL := [(63, [Bim k])]
def Bbt (k : Nat) : Cfg := mkC (B81 k) 64 0 0
def V7 (k : Nat) : ((List (YT6)) × (Int)) → Option Bool := hid (Ac (Bbt k) k Tryz.f30 Bbv Bbw)
def Bnm (k : Nat) : Sig := Ab Bbv Bbw (V7 k)
noncomputable def Bbu (k : Nat) : ((List (YT6)) × (Int)) → Option Bool
 | (a0, a1) => bif (decide (((List.length a0 : Nat) : Int) > a1)) then (some true) else (((Pe k) (a0)).bind fun o1 => some o1)
theorem B82 (k : Nat) (x : ((List (YT6)) × (Int))) : V7 k x = Bbu k x := (Af _ _).trans (by kernel_rfl)
theorem Bvp (k : Nat) : Aa Tryz.prog 30 (Bnm k) := Ae (Bbt k) k rfl ⟨⟨Bpw k, trivial⟩, trivial⟩ Ad Tryz.func30 (by kernel_rfl)
abbrev H30 : Type := (List Int) × (List Int) × (List Int) × (Int) × (Int) × (Int)
def Bbf : Sk := ⟨[.agg [.pv .str, .pv .str, .pv .str, .pv (.int .i64), .pv (.int .i64), .pv (.int .i64)]], [], []⟩
def Bbg : Sk := ⟨[.lf (.pv .bool)], [], []⟩
def B8t (k : Nat) : EnvL := [(64, [sgshownames k]), (29, [sgshownums k])]
def Bbd (k : Nat) : Cfg := { mkC (B8t k) 69 0 0 with bl := [54, 56] }
def Qf (k : Nat) : H30 → Option Bool := hid (Ac (Bbd k) k Tryz.f33 Bbf Bbg)
def Bni (k : Nat) : Sig := Ab Bbf Bbg (Qf k)
noncomputable def Bbe (k : Nat) : H30 → Option Bool
 | (a0, a1, a2, a3, a4, a5) => ((cshownames k) (([a0, a1, a2] : List (List Int)))).bind fun o1 => bif (!o1) then (some true) else (((cshownums k) (([a3, a4] : List (Int)))).bind fun o2 => some (!o2))
theorem B8u (k : Nat) (x : H30) : Qf k x = Bbe k x := (Af _ _).trans (by kernel_rfl)
theorem Bvl (k : Nat) : Aa Tryz.prog 33 (Bni k) := Ae (Bbd k) k rfl ⟨⟨Ld k, trivial⟩, ⟨Wb k, trivial⟩, trivial⟩ Ad Tryz.func33 (by kernel_rfl)
abbrev H31 : Type := (List (YT7)) × (Int) × (Int)
def Ado : Sk := ⟨[.lf (.pv (.slice yt7)), .lf (.fn 33 [] [])], [], []⟩
def Adp : Sk := ⟨[.lf (.pv (.int .i64))], [], []⟩
def As5 : Sk := ⟨sparse 19 [(0, .lf (.pv (.slice yt7))), (1, .lf (.fn 33 [] [])), (7, .lf (.pv (.int .i64))), (8, .lf (.pv (.int .i64)))], [], []⟩
abbrev Adm := H31
def Q2 : Adm → St := stOf As5 67
def Byv (k : Nat) : EnvL := [(33, [Bni k])]
def G5 (k : Nat) : FnX Int := mkX ({ mkC (Byv k) 67 0 0 with hint := fun i => look none [(2, some As5)] i }) k Tryz.f128 Adp
def Aad (k : Nat) : (List (YT7)) → Option Int := hid (Ac (G5 k).C k Tryz.f128 Ado Adp)
def Bi2 (k : Nat) : Sig := Ab Ado Adp (Aad k)
noncomputable def Adn (k : Nat) (J : JF Int) (L : LF Int) : (List (YT7)) → Option Int
 | a0 => L 2 [] k (Q2 (a0, ((List.length a0 : Nat) : Int), (0 : Int)))
theorem Byw (k : Nat) (x : (List (YT7))) : Aad k x = Adn k (G5 k).J (G5 k).L x := by
 refine (Af _ _).trans ?_; apply cutX (G5 k) [] [] (st0 (G5 k).C Tryz.f128 Ado x) [] [(2, [], k)] (Adn k · · x) <;> intros <;> kernel_rfl
noncomputable def As6 (k j2 : Nat) (J : JF Int) (L : LF Int) : Adm → Option Int
 | (a0, a1, a2) => bif (decide (a2 < a1)) then (idx zt7 a0 a2 fun o1 => ((Qf k) (o1.1, o1.2.1, o1.2.2.1, o1.2.2.2.1, o1.2.2.2.2.1, o1.2.2.2.2.2.1)).bind fun o2 => bif o2 then (some a2) else (L 2 [] j2 (Q2 (a0, a1, (IntKind.wrap .i64 (a2 + (1 : Int))))))) else (some (-1 : Int))
theorem Byx (k j2 : Nat) (x : Adm) : (G5 k).L 2 [] (j2 + 1) (Q2 x) = As6 k j2 (G5 k).J (G5 k).L x := by
 apply cutX (G5 k) [.r, .l, .r, .b, .b] [j2] (Q2 x) [] [(2, [], j2)] (As6 k j2 · · x) <;> intros <;> kernel_rfl
theorem Bqe (k : Nat) : Aa Tryz.prog 128 (Bi2 k) := Ae (G5 k).C k rfl ⟨⟨Bvl k, trivial⟩, trivial⟩ Ad Tryz.func128 (by kernel_rfl)
def Ase : Sk := ⟨[.lf (.pv (.slice yt7)), .lf (.fn 33 [] [])], [], []⟩
def Asf : Sk := ⟨[.lf (.pv .bool)], [], []⟩
def Bxz (k : Nat) : EnvL := [(128, [Bi2 k])]
def Asc (k : Nat) : Cfg := mkC (Bxz k) 57 0 0
def Pj (k : Nat) : (List (YT7)) → Option Bool := hid (Ac (Asc k) k Tryz.f75 Ase Asf)
def Biq (k : Nat) : Sig := Ab Ase Asf (Pj k)
noncomputable def Asd (k : Nat) : (List (YT7)) → Option Bool
 | a0 => ((Aad k) (a0)).bind fun o1 => some (decide (o1 ≥ (0 : Int)))
theorem Bx0 (k : Nat) (x : (List (YT7))) : Pj k x = Asd k x := (Af _ _).trans (by kernel_rfl)
theorem Bp0 (k : Nat) : Aa Tryz.prog 75 (Biq k) := Ae (Asc k) k rfl ⟨⟨Bqe k, trivial⟩, trivial⟩ Ad Tryz.func75 (by kernel_rfl)
def Bb7 : Sk := ⟨[.lf (.pv (.slice yt7)), .lf (.pv (.int .i64)), .lf (.fn 33 [] [])], [], []⟩
def Bb8 : Sk := ⟨[.lf (.pv .bool)], [], []⟩
def B87 (k : Nat) : EnvL := [(75, [Biq k])]
def Bb5 (k : Nat) : Cfg := mkC (B87 k) 64 0 0
def Wa (k : Nat) : ((List (YT7)) × (Int)) → Option Bool := hid (Ac (Bb5 k) k Tryz.f32 Bb7 Bb8)
def Bnp (k : Nat) : Sig := Ab Bb7 Bb8 (Wa k)
noncomputable def Bb6 (k : Nat) : ((List (YT7)) × (Int)) → Option Bool
 | (a0, a1) => bif (decide (((List.length a0 : Nat) : Int) > a1)) then (some true) else (((Pj k) (a0)).bind fun o1 => some o1)
theorem B88 (k : Nat) (x : ((List (YT7)) × (Int))) : Wa k x = Bb6 k x := (Af _ _).trans (by kernel_rfl)
theorem Bvs (k : Nat) : Aa Tryz.prog 32 (Bnp k) := Ae (Bb5 k) k rfl ⟨⟨Bp0 k, trivial⟩, trivial⟩ Ad Tryz.func32 (by kernel_rfl)
def A97 : Sk := ⟨[.agg [.pv (.int .i64), .pv (.int .i64), .pv (.int .i64), .pv (.int .i64), .pv (.int .i64), .pv (.slice yt6), .pv (.slice yt7), .pv (.int .i64), .pv (.int .i64)]], [], []⟩
def A98 : Sk := ⟨[.lf (.pv .bool)], [], []⟩
def B77 (k : Nat) : EnvL := [(29, [sgshownums k]), (30, [Bnm k]), (32, [Bnp k])]
def A95 (k : Nat) : Cfg := { mkC (B77 k) 81 0 0 with bl := [54, 56] }
def Lb (k : Nat) : H6 → Option Bool := hid (Ac (A95 k) k Tryz.f10 A97 A98)
def Y1 (k : Nat) : Sig := Ab A97 A98 (Lb k)
noncomputable def A96 (k : Nat) : H6 → Option Bool
 | (a0, a1, a2, a3, a4, a5, a6, a7, a8) => ((cshownums k) (([a0, a1, a2, a3, a4, a7, a8] : List (Int)))).bind fun o1 => bif o1 then (((V7 k) (a5, (12 : Int))).bind fun o2 => bif (!o2) then (((Wa k) (a6, (12 : Int))).bind fun o3 => some (!o3)) else (some false)) else (some false)
theorem B78 (k : Nat) (x : H6) : Lb k x = A96 k x := (Af _ _).trans (by kernel_rfl)
theorem Ab6 (k : Nat) : Aa Tryz.prog 10 (Y1 k) := Ae (A95 k) k rfl ⟨⟨Wb k, trivial⟩, ⟨Bvp k, trivial⟩, ⟨Bvs k, trivial⟩, trivial⟩ Ad Tryz.func10 (by kernel_rfl)
def Caa : Sk := ⟨[.lf (.pv (.int .i64)), .lf (.pv (.int .i64))], [], []⟩
def Cab : Sk := ⟨[.lf (.pv .str)], [], []⟩
def Aca (k : Nat) : ((Int) × (Int)) → Option (List Int) := fmtI
def Bn1 (k : Nat) : Sig := Ab Caa Cab (Aca k)
theorem Bv5 (k : Nat) : Aa Tryz.prog 54 (Bn1 k) := fmtI_ok
def fshownumi : Sk := ⟨[.lf (.pv (.int .i64))], [], []⟩
def fshownumo : Sk := ⟨[.lf (.pv .str)], [], []⟩
def B9i (k : Nat) : EnvL := [(54, [Bn1 k])]
def Bcm (k : Nat) : Cfg := mkC (B9i k) 53 0 0
def cshownum (k : Nat) : Int → Option (List Int) := hid (Ac (Bcm k) k Tryz.f18 fshownumi fshownumo)
def sgshownum (k : Nat) : Sig := Ab fshownumi fshownumo (cshownum k)
noncomputable def Bcn (k : Nat) : Int → Option (List Int)
 | a0 => ((Aca k) (a0, (10 : Int))).bind fun o1 => some o1
theorem B9j (k : Nat) (x : Int) : cshownum k x = Bcn k x := (Af _ _).trans (by kernel_rfl)
theorem Qh (k : Nat) : Aa Tryz.prog 18 (sgshownum k) := Ae (Bcm k) k rfl ⟨⟨Bv5 k, trivial⟩, trivial⟩ Ad Tryz.func18 (by kernel_rfl)
def Cap : Sk := ⟨[.lf (.pv .str), .lf (.pv (.int .i64))], [], []⟩
def Caq : Sk := ⟨[.lf (.pv .str)], [], []⟩
def Wi (k : Nat) : ((List Int) × (Int)) → Option (List Int) := repS
def Aom (k : Nat) : Sig := Ab Cap Caq (Wi k)
theorem Aqx (k : Nat) : Aa Tryz.prog 51 (Aom k) := repS_ok
def Cal : Sk := ⟨[.lf (.ptr 0 0)], [[.bld 0 56, .own 0, .pv (.int .i64)]], [some (5, (.int .u8))]⟩
def Cam : Sk := ⟨[], [[.bld 0 56, .own 0, .pv (.int .i64)]], [some (5, (.int .u8))]⟩
def Wg (k : Nat) : ((Bool) × (Int) × (List (Int))) → Option ((Bool) × (Int) × (List (Int))) := copyC
def Y2 (k : Nat) : Sig := Ab Cal Cam (Wg k)
theorem Acd (k : Nat) : Aa Tryz.prog 107 (Y2 k) := Brb
abbrev H32 : Type := (List Int) × (Bool) × (Int)
abbrev H33 : Type := (Int) × (Bool) × (Int) × (List (Int))
def Bef : Sk := ⟨[.lf (.ptr 0 0), .lf (.pv .str)], [[.bld 0 56, .nil .sl, .pv (.int .i64)]], []⟩
def Beg : Sk := ⟨[.lf (.pv (.int .i64)), .lf (.nil .ifc)], [[.bld 0 56, .own 0, .pv (.int .i64)]], [some (5, (.int .u8))]⟩
def Caj (k : Nat) : EnvL := [(107, [Y2 k])]
def Bed (k : Nat) : Cfg := mkC (Caj k) 68 1 0
def Wf (k : Nat) : H32 → Option H33 := hid (Ac (Bed k) k Tryz.f50 Bef Beg)
def Bn4 (k : Nat) : Sig := Ab Bef Beg (Wf k)
noncomputable def Bee (k : Nat) : H32 → Option H33
 | (a0, a1, a2) => ((Wg k) (a1, a2, [])).bind fun o1 => app 1 o1.2.2 a0 fun o2 => some (((List.length a0 : Nat) : Int), o1.1, o1.2.1, o2)
theorem Cak (k : Nat) (x : H32) : Wf k x = Bee k x := (Af _ _).trans (by kernel_rfl)
theorem Bv8 (k : Nat) : Aa Tryz.prog 50 (Bn4 k) := Ae (Bed k) k rfl ⟨⟨Acd k, trivial⟩, trivial⟩ Ad Tryz.func50 (by kernel_rfl)
def Can : Sk := ⟨[.lf (.pv (.slice .str)), .lf (.pv .str)], [], []⟩
def Cao : Sk := ⟨[.lf (.pv .str)], [], []⟩
def Lf (k : Nat) : ((List (List Int)) × (List Int)) → Option (List Int) := N9
def Sv (k : Nat) : Sig := Ab Can Cao (Lf k)
theorem Wh (k : Nat) : Aa Tryz.prog 52 (Sv k) := Cbm
abbrev H34 : Type := (List Int) × (Bool) × (Int) × (List (Int))
def Beb : Sk := ⟨[.lf (.ptr 0 0), .lf (.pv .str)], [[.bld 0 56, .own 0, .pv (.int .i64)]], [some (5, (.int .u8))]⟩
def Bec : Sk := ⟨[.lf (.pv (.int .i64)), .lf (.nil .ifc)], [[.bld 0 56, .own 1, .pv (.int .i64)]], [none, some (5, (.int .u8))]⟩
def Cai (k : Nat) : EnvL := [(107, [Y2 k])]
def Bd9 (k : Nat) : Cfg := mkC (Cai k) 67 1 1
def Fx (k : Nat) : H34 → Option H33 := hid (Ac (Bd9 k) k Tryz.f50 Beb Bec)
def Aol (k : Nat) : Sig := Ab Beb Bec (Fx k)
noncomputable def Al9 (k : Nat) : H34 → Option H33
 | (a0, a1, a2, a3) => ((Wg k) (a1, a2, a3)).bind fun o1 => app 1 o1.2.2 a0 fun o2 => some (((List.length a0 : Nat) : Int), o1.1, o1.2.1, o2)
theorem Bea (k : Nat) (x : H34) : Fx k x = Al9 k x := (Af _ _).trans (by kernel_rfl)
theorem Aqw (k : Nat) : Aa Tryz.prog 50 (Aol k) := Ae (Bd9 k) k rfl ⟨⟨Acd k, trivial⟩, trivial⟩ Ad Tryz.func50 (by kernel_rfl)
abbrev H35 : Type := (Bool) × (Int) × (List (Int))
def Bd7 : Sk := ⟨[.lf (.ptr 0 0), .lf (.pv (.int .u8))], [[.bld 0 56, .own 0, .pv (.int .i64)]], [some (5, (.int .u8))]⟩
def Bd8 : Sk := ⟨[.lf (.nil .ifc)], [[.bld 0 56, .own 1, .pv (.int .i64)]], [none, some (5, (.int .u8))]⟩
def Cag (k : Nat) : EnvL := [(107, [Y2 k])]
def Bd5 (k : Nat) : Cfg := mkC (Cag k) 65 1 1
def Qn (k : Nat) : H33 → Option H35 := hid (Ac (Bd5 k) k Tryz.f53 Bd7 Bd8)
def Aok (k : Nat) : Sig := Ab Bd7 Bd8 (Qn k)
noncomputable def Bd6 (k : Nat) : H33 → Option H35
 | (a0, a1, a2, a3) => ((Wg k) (a1, a2, a3)).bind fun o1 => app 1 o1.2.2 ([a0] : List (Int)) fun o2 => some (o1.1, o1.2.1, o2)
theorem Cah (k : Nat) (x : H33) : Qn k x = Bd6 k x := (Af _ _).trans (by kernel_rfl)
theorem Aqv (k : Nat) : Aa Tryz.prog 53 (Aok k) := Ae (Bd5 k) k rfl ⟨⟨Acd k, trivial⟩, trivial⟩ Ad Tryz.func53 (by kernel_rfl)
abbrev H36 : Type := (List Int) × (List (List Int)) × (Bool) × (Int)
def Bdl : Sk := ⟨[.lf (.ptr 0 0), .lf (.pv .str), .lf (.pv (.slice .str))], [[.bld 0 56, .nil .sl, .pv (.int .i64)]], []⟩
def Bdm : Sk := ⟨[], [[.bld 0 56, .own 0, .pv (.int .i64)]], [some (5, (.int .u8))]⟩
def B92 (k : Nat) : EnvL := [(51, [Aom k]), (50, [Bn4 k, Aol k]), (52, [Sv k]), (53, [Aok k])]
def Bdj (k : Nat) : Cfg := { mkC (B92 k) 108 1 0 with ef := [(14, (([0], []), ([], [62]))), (20, (([0], [62]), ([], [68])))], ld := [(7, 9999), (8, 9999), (10, 9999), (11, 9999), (12, 0), (16, 9999), (17, 9999)] }
def Ql (k : Nat) : H36 → Option H35 := hid (Ac (Bdj k) k Tryz.f17 Bdl Bdm)
def Bny (k : Nat) : Sig := Ab Bdl Bdm (Ql k)
noncomputable def Bdk (k : Nat) : H36 → Option H35
 | (a0, a1, a2, a3) => ((Wi k) (([32, 32] : List Int), a3)).bind fun o1 => ((Wf k) (o1, a2, a3)).bind fun o2 => ((Lf k) (a1, ([32] : List Int))).bind fun o3 => ((Fx k) (o3, o2.2.1, o2.2.2.1, o2.2.2.2)).bind fun o4 => ((Fx k) (a0, o4.2.1, o4.2.2.1, o4.2.2.2)).bind fun o5 => ((Qn k) ((10 : Int), o5.2.1, o5.2.2.1, o5.2.2.2)).bind fun o6 => some (o6.1, o6.2.1, o6.2.2)
theorem B93 (k : Nat) (x : H36) : Ql k x = Bdk k x := (Af _ _).trans (by kernel_rfl)
theorem Bv2 (k : Nat) : Aa Tryz.prog 17 (Bny k) := Ae (Bdj k) k rfl ⟨⟨Aqx k, trivial⟩, ⟨Bv8 k, Aqw k, trivial⟩, ⟨Wh k, trivial⟩, ⟨Aqv k, trivial⟩, trivial⟩ Ad Tryz.func17 (by kernel_rfl)
def fshowfraci : Sk := ⟨[.agg [.pv (.int .i64), .pv (.int .i64)]], [], []⟩
def fshowfraco : Sk := ⟨[.lf (.pv .str)], [], []⟩
def B89 (k : Nat) : EnvL := [(18, [sgshownum k])]
def Bb9 (k : Nat) : Cfg := { mkC (B89 k) 59 0 0 with bl := [54, 56] }
def cshowfrac (k : Nat) : ((Int) × (Int)) → Option (List Int) := hid (Ac (Bb9 k) k Tryz.f19 fshowfraci fshowfraco)
def sgshowfrac (k : Nat) : Sig := Ab fshowfraci fshowfraco (cshowfrac k)
noncomputable def Bca (k : Nat) : ((Int) × (Int)) → Option (List Int)
 | (a0, a1) => ((cshownum k) (a0)).bind fun o1 => cat o1 ([47] : List Int) fun o2 => ((cshownum k) (a1)).bind fun o3 => cat o2 o3 fun o4 => some o4
theorem B9a (k : Nat) (x : ((Int) × (Int))) : cshowfrac k x = Bca k x := (Af _ _).trans (by kernel_rfl)
theorem Aqs (k : Nat) : Aa Tryz.prog 19 (sgshowfrac k) := Ae (Bb9 k) k rfl ⟨⟨Qh k, trivial⟩, trivial⟩ Ad Tryz.func19 (by kernel_rfl)
abbrev H37 : Type := (List Int) × (List (List Int)) × (Bool) × (Int) × (List (Int))
def Bdh : Sk := ⟨[.lf (.ptr 0 0), .lf (.pv .str), .lf (.pv (.slice .str))], [[.bld 0 56, .own 0, .pv (.int .i64)]], [some (5, (.int .u8))]⟩
def Bdi : Sk := ⟨[], [[.bld 0 56, .own 1, .pv (.int .i64)]], [none, some (5, (.int .u8))]⟩
def B90 (k : Nat) : EnvL := [(51, [Aom k]), (50, [Aol k]), (52, [Sv k]), (53, [Aok k])]
def Bdf (k : Nat) : Cfg := { mkC (B90 k) 108 1 1 with ef := [(14, (([0], [0]), ([], [62]))), (20, (([0], [62]), ([], [68])))], ld := [(7, 9999), (8, 9999), (10, 9999), (11, 9999), (12, 0), (16, 9999), (17, 9999)] }
def B0 (k : Nat) : H37 → Option H35 := hid (Ac (Bdf k) k Tryz.f17 Bdh Bdi)
def Ju (k : Nat) : Sig := Ab Bdh Bdi (B0 k)
noncomputable def Bdg (k : Nat) : H37 → Option H35
 | (a0, a1, a2, a3, a4) => ((Wi k) (([32, 32] : List Int), a3)).bind fun o1 => ((Fx k) (o1, a2, a3, a4)).bind fun o2 => ((Lf k) (a1, ([32] : List Int))).bind fun o3 => ((Fx k) (o3, o2.2.1, o2.2.2.1, o2.2.2.2)).bind fun o4 => ((Fx k) (a0, o4.2.1, o4.2.2.1, o4.2.2.2)).bind fun o5 => ((Qn k) ((10 : Int), o5.2.1, o5.2.2.1, o5.2.2.2)).bind fun o6 => some (o6.1, o6.2.1, o6.2.2)
theorem B91 (k : Nat) (x : H37) : B0 k x = Bdg k x := (Af _ _).trans (by kernel_rfl)
theorem Kc (k : Nat) : Aa Tryz.prog 17 (Ju k) := Ae (Bdf k) k rfl ⟨⟨Aqx k, trivial⟩, ⟨Aqw k, trivial⟩, ⟨Wh k, trivial⟩, ⟨Aqv k, trivial⟩, trivial⟩ Ad Tryz.func17 (by kernel_rfl)
abbrev H38 : Type := (List Int) × (Int) × (Int) × (Int) × (Int) × (Int) × (Int) × (Int) × (Int) × (Int) × (Int) × (Bool) × (Int) × (List (Int))
def Bdd : Sk := ⟨[.lf (.ptr 0 0), .agg [.pv .str, .pv (.int .i64), .pv (.int .i64), .pv (.int .i64), .pv (.int .i64), .pv (.int .i64), .pv (.int .i64), .pv (.int .i64), .pv (.int .i64), .pv (.int .i64), .pv (.int .i64)]], [[.bld 0 56, .own 0, .pv (.int .i64)]], [some (5, (.int .u8))]⟩
def Bde : Sk := ⟨[], [[.bld 0 56, .own 1, .pv (.int .i64)]], [none, some (5, (.int .u8))]⟩
def B9y (k : Nat) : EnvL := [(18, [sgshownum k]), (19, [sgshowfrac k]), (17, [Ju k])]
def Bdb (k : Nat) : Cfg := { mkC (B9y k) 114 1 1 with bl := [54, 56], ef := [(32, (([0], [0]), ([], [80])))], ld := [(5, 9999), (6, 51), (7, 9999), (8, 51), (10, 9999), (11, 51), (13, 9999), (14, 51), (16, 9999), (17, 51), (19, 9999), (20, 51), (22, 9999), (23, 51), (25, 9999), (26, 51), (28, 9999), (29, 51)] }
def We (k : Nat) : H38 → Option H35 := hid (Ac (Bdb k) k Tryz.f55 Bdd Bde)
def Bnx (k : Nat) : Sig := Ab Bdd Bde (We k)
noncomputable def Bdc (k : Nat) : H38 → Option H35
 | (a0, a1, a2, a3, a4, a5, a6, a7, a8, a9, a10, a11, a12, a13) => ((cshownum k) (a1)).bind fun o1 => ((cshownum k) (a2)).bind fun o2 => ((cshowfrac k) (a3, a4)).bind fun o3 => ((cshownum k) (a5)).bind fun o4 => ((cshownum k) (a6)).bind fun o5 => ((cshownum k) (a7)).bind fun o6 => ((cshownum k) (a8)).bind fun o7 => ((cshownum k) (a9)).bind fun o8 => ((B0 k) (([59] : List Int), ([([104, 101, 97, 100] : List Int), a0, ([118, 111, 108, 117, 109, 101] : List Int), o1, ([102, 108, 111, 119] : List Int), o2, ([117, 115, 101] : List Int), o3, ([115, 112, 101, 101, 100] : List Int), o4, ([103, 114, 97, 100, 101] : List Int), o5, ([119, 105, 100, 116, 104] : List Int), o6, ([108, 101, 110, 103, 116, 104] : List Int), o7, ([103, 114, 101, 101, 110] : List Int), o8] : List (List Int)), a11, a12, a13)).bind fun o9 => some (o9.1, o9.2.1, o9.2.2)
theorem B9z (k : Nat) (x : H38) : We k x = Bdc k x := (Af _ _).trans (by kernel_rfl)
theorem Bv1 (k : Nat) : Aa Tryz.prog 55 (Bnx k) := Ae (Bdb k) k rfl ⟨⟨Qh k, trivial⟩, ⟨Aqs k, trivial⟩, ⟨Kc k, trivial⟩, trivial⟩ Ad Tryz.func55 (by kernel_rfl)
def fshowlisti : Sk := ⟨[.lf (.pv (.slice .str))], [], []⟩
def fshowlisto : Sk := ⟨[.lf (.pv .str)], [], []⟩
def B9d (k : Nat) : EnvL := [(52, [Sv k])]
def Bcf (k : Nat) : Cfg := mkC (B9d k) 53 0 0
def cshowlist (k : Nat) : (List (List Int)) → Option (List Int) := hid (Ac (Bcf k) k Tryz.f56 fshowlisti fshowlisto)
def sgshowlist (k : Nat) : Sig := Ab fshowlisti fshowlisto (cshowlist k)
theorem Bvt (k : Nat) : Aa Tryz.prog 56 (sgshowlist k) := Ae (Bcf k) k rfl ⟨⟨Wh k, trivial⟩, trivial⟩ Ad Tryz.func56 (by kernel_rfl)
def Bcd : Sk := ⟨[.lf (.pv (.slice .str))], [], []⟩
def Bce : Sk := ⟨[.lf (.pv .str)], [], []⟩
def B9b (k : Nat) : EnvL := [(52, [Sv k])]
def Bcb (k : Nat) : Cfg := mkC (B9b k) 53 0 0
def Lc (k : Nat) : (List (List Int)) → Option (List Int) := hid (Ac (Bcb k) k Tryz.f56 Bcd Bce)
def Aoj (k : Nat) : Sig := Ab Bcd Bce (Lc k)
noncomputable def Bcc (k : Nat) : (List (List Int)) → Option (List Int)
 | a0 => ((Lf k) (a0, ([44, 32] : List Int))).bind fun o1 => some o1
theorem B9c (k : Nat) (x : (List (List Int))) : Lc k x = Bcc k x := (Af _ _).trans (by kernel_rfl)
theorem Aqt (k : Nat) : Aa Tryz.prog 56 (Aoj k) := Ae (Bcb k) k rfl ⟨⟨Wh k, trivial⟩, trivial⟩ Ad Tryz.func56 (by kernel_rfl)
abbrev H39 : Type := (List (YT4)) × (Int) × (Int) × (Bool) × (Int) × (List (Int))
abbrev H40 : Type := (List (YT4)) × (Int) × (Int) × (Bool) × (Int) × (Bool) × (List (List Int)) × (List (List Int)) × (List (Int))
abbrev H41 : Type := (List (YT4)) × (Bool) × (Int) × (List (Int))
def Alz : Sk := ⟨[.lf (.ptr 0 0), .agg [.pv (.slice yt4)]], [[.bld 0 56, .own 0, .pv (.int .i64)]], [some (5, (.int .u8))]⟩
def Al0 : Sk := ⟨[], [[.bld 0 56, .own 1, .pv (.int .i64)]], [none, some (5, (.int .u8))]⟩
def Bc9 : Sk := ⟨sparse 29 [(0, .lf (.ptr 0 0)), (8, .lf (.pv (.slice yt4))), (9, .lf (.pv (.int .i64))), (10, .lf (.pv (.int .i64)))], [[.bld 0 56, .own 1, .pv (.int .i64)]], [none, some (5, (.int .u8))]⟩
abbrev Alv := H39
def Nu : Alv → St := stOf Bc9 78
def Bda : Sk := ⟨sparse 29 [(0, .lf (.ptr 0 0)), (5, .lf (.ptr 1 0)), (6, .lf (.own 1)), (8, .lf (.pv (.slice yt4))), (9, .lf (.pv (.int .i64))), (10, .lf (.pv (.int .i64)))], [[.bld 0 56, .own 2, .pv (.int .i64)], [.pv .bool, .pv (.slice .str)]], [none, some (9, .str), some (5, (.int .u8))]⟩
abbrev Alw := H40
def R9 : Alw → St := stOf Bda 78
def B9v (k : Nat) : EnvL := [(56, [Aoj k]), (17, [Ju k])]
def D6 (k : Nat) : FnX H35 := mkX ({ mkC (B9v k) 78 1 1 with hint := fun i => look none [(2, some Bc9), (7, some Bda)] i, bl := [54, 56] }) k Tryz.f58 Al0
def Qk (k : Nat) : H41 → Option H35 := hid (Ac (D6 k).C k Tryz.f58 Alz Al0)
def Bnw (k : Nat) : Sig := Ab Alz Al0 (Qk k)
noncomputable def Alx (k : Nat) (J : JF H35) (L : LF H35) : H41 → Option H35
 | (a0, a1, a2, a3) => L 2 [] k (Nu (a0, ((List.length a0 : Nat) : Int), (0 : Int), a1, a2, a3))
theorem B9w (k : Nat) (x : H41) : Qk k x = Alx k (D6 k).J (D6 k).L x := by
 refine (Af _ _).trans ?_; apply cutX (D6 k) [] [] (st0 (D6 k).C Tryz.f58 Alz x) [] [(2, [], k)] (Alx k · · x) <;> intros <;> kernel_rfl
noncomputable def Xs (k j2 : Nat) (J : JF H35) (L : LF H35) : Alv → Option H35
 | (a0, a1, a2, a3, a4, a5) => bif (decide (a2 < a1)) then (idx zt4 a0 a2 fun o1 => bif o1.1 then (app 16 ([([114, 105, 110, 103] : List Int)] : List (List Int)) ([([102, 114, 101, 101] : List Int)] : List (List Int)) fun o2 => J 7 [j2] (R9 (a0, a1, a2, a3, a4, o1.1, o1.2.1, o2, a5))) else (J 7 [j2] (R9 (a0, a1, a2, a3, a4, o1.1, o1.2.1, ([([114, 105, 110, 103] : List Int)] : List (List Int)), a5)))) else (some (a3, a4, a5))
theorem Bc8 (k j2 : Nat) (x : Alv) : (D6 k).L 2 [] (j2 + 1) (Nu x) = Xs k j2 (D6 k).J (D6 k).L x := by
 apply cutX (D6 k) [.r, .r, .b, .b] [j2] (Nu x) [(7, [j2])] [(2, [], j2)] (Xs k j2 · · x) <;> intros <;> kernel_rfl
noncomputable def Aly (k j2 : Nat) (J : JF H35) (L : LF H35) : Alw → Option H35
 | (a0, a1, a2, a3, a4, a5, a6, a7, a8) => ((Lc k) (a6)).bind fun o1 => app 16 a7 ([o1] : List (List Int)) fun o2 => ((B0 k) (([59] : List Int), o2, a3, a4, a8)).bind fun o3 => L 2 [] j2 (Nu (a0, a1, (IntKind.wrap .i64 (a2 + (1 : Int))), o3.1, o3.2.1, o3.2.2))
theorem B9x (k j2 : Nat) (x : Alw) : (D6 k).J 7 [j2] (R9 x) = Aly k j2 (D6 k).J (D6 k).L x := by
 apply cutX (D6 k) [.r, .r, .b, .b, .r, .r, .l, .b, .r, .r, .r] [j2] (R9 x) [(7, [j2])] [(2, [], j2)] (Aly k j2 · · x) <;> intros <;> kernel_rfl
theorem Bv0 (k : Nat) : Aa Tryz.prog 58 (Bnw k) := Ae (D6 k).C k rfl ⟨⟨Aqt k, trivial⟩, ⟨Kc k, trivial⟩, trivial⟩ Ad Tryz.func58 (by kernel_rfl)
def Bdp : Sk := ⟨[.lf (.ptr 0 0), .lf (.ptr 1 0)], [[.ptr 2 0], [.pv (.slice yt4)], [.bld 2 56, .own 0, .pv (.int .i64)]], [some (5, (.int .u8))]⟩
def Bdq : Sk := ⟨[], [[.ptr 2 0], [.pv (.slice yt4)], [.bld 2 56, .own 1, .pv (.int .i64)]], [none, some (5, (.int .u8))]⟩
def B95 (k : Nat) : EnvL := [(58, [Bnw k])]
def Bdn (k : Nat) : Cfg := mkC (B95 k) 54 3 1
def Ab9 (k : Nat) : H41 → Option H41 := hid (Ac (Bdn k) k Tryz.f57 Bdp Bdq)
def Bn0 (k : Nat) : Sig := Ab Bdp Bdq (Ab9 k)
noncomputable def Bdo (k : Nat) : H41 → Option H41
 | (a0, a1, a2, a3) => ((Qk k) (a0, a1, a2, a3)).bind fun o1 => some (a0, o1.1, o1.2.1, o1.2.2)
theorem B96 (k : Nat) (x : H41) : Ab9 k x = Bdo k x := (Af _ _).trans (by kernel_rfl)
theorem Bv3 (k : Nat) : Aa Tryz.prog 57 (Bn0 k) := Ae (Bdn k) k rfl ⟨⟨Bv0 k, trivial⟩, trivial⟩ Ad Tryz.func57 (by kernel_rfl)
abbrev H42 : Type := (List (List Int)) × (Bool) × (Int) × (List (YT4)) × (List (Int))
abbrev H43 : Type := (Bool) × (Int) × (List (YT4)) × (List (Int))
def Bcy : Sk := ⟨[.lf (.ptr 0 0), .lf (.fn 57 [] [(1, 0), (2, 0)]), .lf (.pv (.slice .str))], [[.bld 0 56, .own 0, .pv (.int .i64)], [.ptr 0 0], [.pv (.slice yt4)]], [some (5, (.int .u8))]⟩
def Bcz : Sk := ⟨[], [[.bld 0 56, .own 1, .pv (.int .i64)], [.ptr 0 0], [.pv (.slice yt4)]], [none, some (5, (.int .u8))]⟩
def B9p (k : Nat) : EnvL := [(17, [Ju k]), (57, [Bn0 k])]
def Bcw (k : Nat) : Cfg := mkC (B9p k) 77 3 1
def Wd (k : Nat) : H42 → Option H43 := hid (Ac (Bcw k) k Tryz.f20 Bcy Bcz)
def Bnu (k : Nat) : Sig := Ab Bcy Bcz (Wd k)
noncomputable def Bcx (k : Nat) : H42 → Option H43
 | (a0, a1, a2, a3, a4) => ((B0 k) (([32, 123] : List Int), a0, a1, a2, a4)).bind fun o1 => ((Ab9 k) (a3, o1.1, (IntKind.wrap .i64 (o1.2.1 + (1 : Int))), o1.2.2)).bind fun o2 => ((B0 k) (([125] : List Int), [], o2.2.1, (IntKind.wrap .i64 (o2.2.2.1 - (1 : Int))), o2.2.2.2)).bind fun o3 => some (o3.1, o3.2.1, o2.1, o3.2.2)
theorem B9q (k : Nat) (x : H42) : Wd k x = Bcx k x := (Af _ _).trans (by kernel_rfl)
theorem Bvx (k : Nat) : Aa Tryz.prog 20 (Bnu k) := Ae (Bcw k) k rfl ⟨⟨Kc k, trivial⟩, ⟨Bv3 k, trivial⟩, trivial⟩ Ad Tryz.func20 (by kernel_rfl)
abbrev H44 : Type := (List (YT1)) × (Int) × (Int) × (Bool) × (Int) × (List Int) × (List (YT1)) × (List (YT2)) × (List (YT3)) × (List ((List (YT4)) × (Unit))) × (List (YT5)) × (Int) × (List (Int))
abbrev H45 : Type := (List (YT2)) × (Int) × (Int) × (Bool) × (Int) × (List Int) × (List (YT1)) × (List (YT2)) × (List (YT3)) × (List ((List (YT4)) × (Unit))) × (List (YT5)) × (Int) × (List (Int))
abbrev H46 : Type := (List (YT3)) × (Int) × (Int) × (Bool) × (Int) × (List Int) × (List (YT1)) × (List (YT2)) × (List (YT3)) × (List ((List (YT4)) × (Unit))) × (List (YT5)) × (Int) × (List (Int))
abbrev H47 : Type := (List ((List (YT4)) × (Unit))) × (Int) × (Int) × (Bool) × (Int) × (List Int) × (List (YT1)) × (List (YT2)) × (List (YT3)) × (List ((List (YT4)) × (Unit))) × (List (YT5)) × (Int) × (List (Int))
abbrev H48 : Type := (List (YT5)) × (Int) × (Int) × (Bool) × (Int) × (List (Int))
abbrev H49 : Type := (List Int) × (List (YT1)) × (List (YT2)) × (List (YT3)) × (List ((List (YT4)) × (Unit))) × (List (YT5)) × (Int) × (Bool) × (Int) × (List (Int))
def Al7 : Sk := ⟨[.lf (.ptr 0 0), .agg [.pv .str, .pv (.slice yt1), .pv (.slice yt2), .pv (.slice yt3), .pv (.slice (.cons (.slice yt4) .nil)), .pv (.slice yt5), .pv (.int .i64)]], [[.bld 0 56, .own 0, .pv (.int .i64)]], [some (5, (.int .u8))]⟩
def Al8 : Sk := ⟨[], [[.bld 0 56, .own 1, .pv (.int .i64)]], [none, some (5, (.int .u8))]⟩
def Bdy : Sk := ⟨sparse 93 [(0, .lf (.ptr 0 0)), (2, .lf (.ptr 1 0)), (3, .lf (.ptr 2 0)), (15, .lf (.pv (.slice yt1))), (16, .lf (.pv (.int .i64))), (17, .lf (.pv (.int .i64)))], [[.bld 0 56, .own 1, .pv (.int .i64)], [.ptr 0 0], q0], [none, some (5, (.int .u8))]⟩
abbrev Al3 := H44
def Sa : Al3 → St := stOf Bdy 234
def Bd0 : Sk := ⟨sparse 93 [(0, .lf (.ptr 0 0)), (2, .lf (.ptr 1 0)), (3, .lf (.ptr 2 0)), (26, .lf (.pv (.slice yt2))), (27, .lf (.pv (.int .i64))), (28, .lf (.pv (.int .i64)))], [[.bld 0 56, .own 1, .pv (.int .i64)], [.ptr 0 0], q0], [none, some (5, (.int .u8))]⟩
abbrev Al5 := H45
def Ny : Al5 → St := stOf Bd0 234
def Bdw : Sk := ⟨sparse 93 [(0, .lf (.ptr 0 0)), (2, .lf (.ptr 1 0)), (3, .lf (.ptr 2 0)), (50, .lf (.pv (.slice yt3))), (51, .lf (.pv (.int .i64))), (52, .lf (.pv (.int .i64)))], [[.bld 0 56, .own 1, .pv (.int .i64)], [.ptr 0 0], q0], [none, some (5, (.int .u8))]⟩
abbrev Al1 := H46
def Nv : Al1 → St := stOf Bdw 234
def Bdx : Sk := ⟨sparse 93 [(0, .lf (.ptr 0 0)), (2, .lf (.ptr 1 0)), (3, .lf (.ptr 2 0)), (67, .lf (.pv (.slice (.cons (.slice yt4) .nil)))), (68, .lf (.pv (.int .i64))), (69, .lf (.pv (.int .i64)))], [[.bld 0 56, .own 1, .pv (.int .i64)], [.ptr 0 0], q0], [none, some (5, (.int .u8))]⟩
abbrev Al2 := H47
def Nw : Al2 → St := stOf Bdx 234
def Bdz : Sk := ⟨sparse 93 [(0, .lf (.ptr 0 0)), (2, .lf (.ptr 1 0)), (79, .lf (.pv (.slice yt5))), (80, .lf (.pv (.int .i64))), (81, .lf (.pv (.int .i64)))], [[.bld 0 56, .own 1, .pv (.int .i64)], [.ptr 0 0]], [none, some (5, (.int .u8))]⟩
abbrev Al4 := H48
def Nx : Al4 → St := stOf Bdz 234
def B94 (k : Nat) : EnvL := [(55, [Bnx k]), (18, [sgshownum k]), (17, [Ju k]), (56, [Aoj k, sgshowlist k]), (20, [Bnu k])]
def Bs (k : Nat) : FnX H35 := mkX ({ mkC (B94 k) 234 1 1 with hint := fun i => look none [(2, some Bdy), (7, some Bd0), (12, some Bdw), (17, some Bdx), (22, some Bdz)] i, bl := [54, 56], ef := [(47, (([0], [0, 1]), ([], [95]))), (64, (([0], [0, 1]), ([], [112])))], ld := [(32, 1), (33, 9999), (34, 55), (35, 9999), (36, 55), (37, 9999), (38, 55), (40, 9999), (41, 55), (43, 9999), (44, 55), (56, 1), (57, 9999), (58, 57), (60, 9999), (61, 57)] }) k Tryz.f22 Al8
def Qm (k : Nat) : H49 → Option H35 := hid (Ac (Bs k).C k Tryz.f22 Al7 Al8)
def Bnz (k : Nat) : Sig := Ab Al7 Al8 (Qm k)
noncomputable def Al6 (k : Nat) (J : JF H35) (L : LF H35) : H49 → Option H35
 | (a0, a1, a2, a3, a4, a5, a6, a7, a8, a9) => L 2 [] k (Sa (a1, ((List.length a1 : Nat) : Int), (0 : Int), a7, a8, a0, a1, a2, a3, a4, a5, a6, a9))
theorem B97 (k : Nat) (x : H49) : Qm k x = Al6 k (Bs k).J (Bs k).L x := by
 refine (Af _ _).trans ?_; apply cutX (Bs k) [] [] (st0 (Bs k).C Tryz.f22 Al7 x) [] [(2, [], k), (7, [], k), (12, [], k), (17, [], k), (22, [], k)] (Al6 k · · x) <;> intros <;> kernel_rfl
noncomputable def Xv (k j2 : Nat) (J : JF H35) (L : LF H35) : Al3 → Option H35
 | (a0, a1, a2, a3, a4, a5, a6, a7, a8, a9, a10, a11, a12) => bif (decide (a2 < a1)) then (idx zt1 a0 a2 fun o1 => ((We k) (o1.1, o1.2.1, o1.2.2.1, o1.2.2.2.1.1, o1.2.2.2.1.2.1, o1.2.2.2.2.1, o1.2.2.2.2.2.1, o1.2.2.2.2.2.2.1, o1.2.2.2.2.2.2.2.1, o1.2.2.2.2.2.2.2.2.1, o1.2.2.2.2.2.2.2.2.2.1, a3, a4, a12)).bind fun o2 => L 2 [] j2 (Sa (a0, a1, (IntKind.wrap .i64 (a2 + (1 : Int))), o2.1, o2.2.1, a5, a6, a7, a8, a9, a10, a11, o2.2.2))) else (L 7 [] k (Ny (a7, ((List.length a7 : Nat) : Int), (0 : Int), a3, a4, a5, a6, a7, a8, a9, a10, a11, a12)))
theorem Bdt (k j2 : Nat) (x : Al3) : (Bs k).L 2 [] (j2 + 1) (Sa x) = Xv k j2 (Bs k).J (Bs k).L x := by
 apply cutX (Bs k) [.r, .l, .r, .b, .b] [j2] (Sa x) [] [(2, [], j2), (7, [], k), (12, [], k), (17, [], k), (22, [], k)] (Xv k j2 · · x) <;> intros <;> kernel_rfl
noncomputable def Xx (k j7 : Nat) (J : JF H35) (L : LF H35) : Al5 → Option H35
 | (a0, a1, a2, a3, a4, a5, a6, a7, a8, a9, a10, a11, a12) => bif (decide (a2 < a1)) then (idx zt2 a0 a2 fun o1 => ((cshownum k) (o1.2.2.1)).bind fun o2 => ((cshownum k) (o1.2.2.2.1)).bind fun o3 => ((cshownum k) (o1.2.2.2.2.1)).bind fun o4 => ((B0 k) (([59] : List Int), ([([119, 97, 108, 107] : List Int), o1.1, ([119, 105, 116, 104] : List Int), o1.2.1, ([108, 111, 110, 103] : List Int), o2, ([112, 97, 99, 101] : List Int), o3, ([108, 101, 97, 115, 116] : List Int), o4] : List (List Int)), a3, a4, a12)).bind fun o5 => L 7 [] j7 (Ny (a0, a1, (IntKind.wrap .i64 (a2 + (1 : Int))), o5.1, o5.2.1, a5, a6, a7, a8, a9, a10, a11, o5.2.2))) else (L 12 [] k (Nv (a8, ((List.length a8 : Nat) : Int), (0 : Int), a3, a4, a5, a6, a7, a8, a9, a10, a11, a12)))
theorem Bdv (k j7 : Nat) (x : Al5) : (Bs k).L 7 [] (j7 + 1) (Ny x) = Xx k j7 (Bs k).J (Bs k).L x := by
 apply cutX (Bs k) [.r, .r, .l, .r, .b, .b] [j7] (Ny x) [] [(2, [], k), (7, [], j7), (12, [], k), (17, [], k), (22, [], k)] (Xx k j7 · · x) <;> intros <;> kernel_rfl
noncomputable def Xt (k j12 : Nat) (J : JF H35) (L : LF H35) : Al1 → Option H35
 | (a0, a1, a2, a3, a4, a5, a6, a7, a8, a9, a10, a11, a12) => bif (decide (a2 < a1)) then (idx zt3 a0 a2 fun o1 => cat o1.1 ([58] : List Int) fun o2 => ((Lc k) (o1.2.1)).bind fun o3 => ((B0 k) (([59] : List Int), ([([112, 104, 97, 115, 101] : List Int), o2, o3] : List (List Int)), a3, a4, a12)).bind fun o4 => L 12 [] j12 (Nv (a0, a1, (IntKind.wrap .i64 (a2 + (1 : Int))), o4.1, o4.2.1, a5, a6, a7, a8, a9, a10, a11, o4.2.2))) else (L 17 [] k (Nw (a9, ((List.length a9 : Nat) : Int), (0 : Int), a3, a4, a5, a6, a7, a8, a9, a10, a11, a12)))
theorem Bdr (k j12 : Nat) (x : Al1) : (Bs k).L 12 [] (j12 + 1) (Nv x) = Xt k j12 (Bs k).J (Bs k).L x := by
 apply cutX (Bs k) [.r, .r, .r, .l, .r, .b, .b] [j12] (Nv x) [] [(2, [], k), (7, [], k), (12, [], j12), (17, [], k), (22, [], k)] (Xt k j12 · · x) <;> intros <;> kernel_rfl
noncomputable def Xu (k j17 : Nat) (J : JF H35) (L : LF H35) : Al2 → Option H35
 | (a0, a1, a2, a3, a4, a5, a6, a7, a8, a9, a10, a11, a12) => bif (decide (a2 < a1)) then (idx ([], ()) a0 a2 fun o1 => ((Wd k) (([([103, 114, 111, 117, 112] : List Int)] : List (List Int)), a3, a4, o1.1, a12)).bind fun o2 => L 17 [] j17 (Nw (a0, a1, (IntKind.wrap .i64 (a2 + (1 : Int))), o2.1, o2.2.1, a5, a6, a7, a8, a9, a10, a11, o2.2.2.2))) else (L 22 [] k (Nx (a10, ((List.length a10 : Nat) : Int), (0 : Int), a3, a4, a12)))
theorem Bds (k j17 : Nat) (x : Al2) : (Bs k).L 17 [] (j17 + 1) (Nw x) = Xu k j17 (Bs k).J (Bs k).L x := by
 apply cutX (Bs k) [.r, .r, .r, .r, .l, .r, .b, .b] [j17] (Nw x) [] [(2, [], k), (7, [], k), (12, [], k), (17, [], j17), (22, [], k)] (Xu k j17 · · x) <;> intros <;> kernel_rfl
noncomputable def Xw (k j22 : Nat) (J : JF H35) (L : LF H35) : Al4 → Option H35
 | (a0, a1, a2, a3, a4, a5) => bif (decide (a2 < a1)) then (idx zt5 a0 a2 fun o1 => ((B0 k) (([59] : List Int), ([([102, 111, 101] : List Int), o1.1, o1.2.1] : List (List Int)), a3, a4, a5)).bind fun o2 => L 22 [] j22 (Nx (a0, a1, (IntKind.wrap .i64 (a2 + (1 : Int))), o2.1, o2.2.1, o2.2.2))) else (some (a3, a4, a5))
theorem Bdu (k j22 : Nat) (x : Al4) : (Bs k).L 22 [] (j22 + 1) (Nx x) = Xw k j22 (Bs k).J (Bs k).L x := by
 apply cutX (Bs k) [.r, .r, .r, .r, .r, .r, .b, .b] [j22] (Nx x) [] [(2, [], k), (7, [], k), (12, [], k), (17, [], k), (22, [], j22)] (Xw k j22 · · x) <;> intros <;> kernel_rfl
theorem Bv4 (k : Nat) : Aa Tryz.prog 22 (Bnz k) := Ae (Bs k).C k rfl ⟨⟨Bv1 k, trivial⟩, ⟨Qh k, trivial⟩, ⟨Kc k, trivial⟩, ⟨Aqt k, Bvt k, trivial⟩, ⟨Bvx k, trivial⟩, trivial⟩ Ad Tryz.func22 (by kernel_rfl)
def Bab : Sk := ⟨[.lf (.ptr 0 0), .lf (.ptr 1 0)], [[.ptr 2 0], q0, [.bld 2 56, .own 0, .pv (.int .i64)]], [some (5, (.int .u8))]⟩
def Bac : Sk := ⟨[], [[.ptr 2 0], q0, [.bld 2 56, .own 1, .pv (.int .i64)]], [none, some (5, (.int .u8))]⟩
def B8a (k : Nat) : EnvL := [(22, [Bnz k])]
def A99 (k : Nat) : Cfg := mkC (B8a k) 54 3 1
def Ab7 (k : Nat) : H49 → Option H49 := hid (Ac (A99 k) k Tryz.f21 Bab Bac)
def Bm9 (k : Nat) : Sig := Ab Bab Bac (Ab7 k)
noncomputable def Baa (k : Nat) : H49 → Option H49
 | (a0, a1, a2, a3, a4, a5, a6, a7, a8, a9) => ((Qm k) (a0, a1, a2, a3, a4, a5, a6, a7, a8, a9)).bind fun o1 => some (a0, a1, a2, a3, a4, a5, a6, o1.1, o1.2.1, o1.2.2)
theorem B8b (k : Nat) (x : H49) : Ab7 k x = Baa k x := (Af _ _).trans (by kernel_rfl)
theorem Bvc (k : Nat) : Aa Tryz.prog 21 (Bm9 k) := Ae (A99 k) k rfl ⟨⟨Bv4 k, trivial⟩, trivial⟩ Ad Tryz.func21 (by kernel_rfl)
abbrev H50 : Type := (List (List Int)) × (Bool) × (Int) × (List Int) × (List (YT1)) × (List (YT2)) × (List (YT3)) × (List ((List (YT4)) × (Unit))) × (List (YT5)) × (Int) × (List (Int))
abbrev H51 : Type := (Bool) × (Int) × (List Int) × (List (YT1)) × (List (YT2)) × (List (YT3)) × (List ((List (YT4)) × (Unit))) × (List (YT5)) × (Int) × (List (Int))
def Bc6 : Sk := ⟨[.lf (.ptr 0 0), .lf (.fn 21 [] [(1, 0), (2, 0)]), .lf (.pv (.slice .str))], [[.bld 0 56, .own 0, .pv (.int .i64)], [.ptr 0 0], q0], [some (5, (.int .u8))]⟩
def Bc7 : Sk := ⟨[], [[.bld 0 56, .own 1, .pv (.int .i64)], [.ptr 0 0], q0], [none, some (5, (.int .u8))]⟩
def B9t (k : Nat) : EnvL := [(17, [Ju k]), (21, [Bm9 k])]
def Bc4 (k : Nat) : Cfg := mkC (B9t k) 77 3 1
def Wc (k : Nat) : H50 → Option H51 := hid (Ac (Bc4 k) k Tryz.f20 Bc6 Bc7)
def Bnt (k : Nat) : Sig := Ab Bc6 Bc7 (Wc k)
noncomputable def Bc5 (k : Nat) : H50 → Option H51
 | (a0, a1, a2, a3, a4, a5, a6, a7, a8, a9, a10) => ((B0 k) (([32, 123] : List Int), a0, a1, a2, a10)).bind fun o1 => ((Ab7 k) (a3, a4, a5, a6, a7, a8, a9, o1.1, (IntKind.wrap .i64 (o1.2.1 + (1 : Int))), o1.2.2)).bind fun o2 => ((B0 k) (([125] : List Int), [], o2.2.2.2.2.2.2.2.1, (IntKind.wrap .i64 (o2.2.2.2.2.2.2.2.2.1 - (1 : Int))), o2.2.2.2.2.2.2.2.2.2)).bind fun o3 => some (o3.1, o3.2.1, o2.1, o2.2.1, o2.2.2.1, o2.2.2.2.1, o2.2.2.2.2.1, o2.2.2.2.2.2.1, o2.2.2.2.2.2.2.1, o3.2.2)
theorem B9u (k : Nat) (x : H50) : Wc k x = Bc5 k x := (Af _ _).trans (by kernel_rfl)
theorem Bvz (k : Nat) : Aa Tryz.prog 20 (Bnt k) := Ae (Bc4 k) k rfl ⟨⟨Kc k, trivial⟩, ⟨Bvc k, trivial⟩, trivial⟩ Ad Tryz.func20 (by kernel_rfl)
end
noncomputable section
abbrev H52 : Type := (List (YT7)) × (Int) × (Int) × (Bool) × (Int) × (Int) × (Int) × (Int) × (Int) × (Int) × (List (YT6)) × (List (YT7)) × (Int) × (Int) × (List (Int))
abbrev H53 : Type := (Int) × (Int) × (Int) × (Int) × (Int) × (List (YT6)) × (List (YT7)) × (Int) × (Int) × (Bool) × (Int) × (List (Int))
def Alt : Sk := ⟨[.lf (.ptr 0 0), .agg [.pv (.int .i64), .pv (.int .i64), .pv (.int .i64), .pv (.int .i64), .pv (.int .i64), .pv (.slice yt6), .pv (.slice yt7), .pv (.int .i64), .pv (.int .i64)]], [[.bld 0 56, .own 0, .pv (.int .i64)]], [some (5, (.int .u8))]⟩
def Alu : Sk := ⟨[], [[.bld 0 56, .own 1, .pv (.int .i64)]], [none, some (5, (.int .u8))]⟩
def Bcv : Sk := ⟨sparse 38 [(0, .lf (.ptr 0 0)), (3, .lf (.ptr 1 0)), (7, .lf (.pv (.slice yt7))), (8, .lf (.pv (.int .i64))), (9, .lf (.pv (.int .i64)))], [[.bld 0 56, .own 1, .pv (.int .i64)], q1], [none, some (5, (.int .u8))]⟩
abbrev Alr := H52
def R8 : Alr → St := stOf Bcv 124
def B9n (k : Nat) : EnvL := [(18, [sgshownum k]), (17, [Ju k])]
def Hy (k : Nat) : FnX H35 := mkX ({ mkC (B9n k) 124 1 1 with hint := fun i => look none [(2, some Bcv)] i, bl := [54, 56], ef := [(27, (([0], [0, 1]), ([], [75]))), (37, (([0], [0, 1]), ([], [85])))], ld := [(14, 9999), (15, 53), (16, 9999), (17, 53), (18, 9999), (19, 53), (20, 9999), (21, 53), (23, 9999), (24, 53), (30, 9999), (31, 1), (33, 9999), (34, 1)] }) k Tryz.f24 Alu
def Qj (k : Nat) : H53 → Option H35 := hid (Ac (Hy k).C k Tryz.f24 Alt Alu)
def Bns (k : Nat) : Sig := Ab Alt Alu (Qj k)
noncomputable def Als (k : Nat) (J : JF H35) (L : LF H35) : H53 → Option H35
 | (a0, a1, a2, a3, a4, a5, a6, a7, a8, a9, a10, a11) => L 2 [] k (R8 (a6, ((List.length a6 : Nat) : Int), (0 : Int), a9, a10, a0, a1, a2, a3, a4, a5, a6, a7, a8, a11))
theorem B9o (k : Nat) (x : H53) : Qj k x = Als k (Hy k).J (Hy k).L x := by
 refine (Af _ _).trans ?_; apply cutX (Hy k) [] [] (st0 (Hy k).C Tryz.f24 Alt x) [] [(2, [], k)] (Als k · · x) <;> intros <;> kernel_rfl
noncomputable def Xr (k j2 : Nat) (J : JF H35) (L : LF H35) : Alr → Option H35
 | (a0, a1, a2, a3, a4, a5, a6, a7, a8, a9, a10, a11, a12, a13, a14) => bif (decide (a2 < a1)) then (idx zt7 a0 a2 fun o1 => ((cshownum k) (o1.2.2.2.1)).bind fun o2 => ((cshownum k) (o1.2.2.2.2.1)).bind fun o3 => ((B0 k) (([59] : List Int), ([([115, 116, 111, 112] : List Int), o1.1, ([111, 117, 116] : List Int), o1.2.1, ([105, 110] : List Int), o1.2.2.1, ([97, 104, 101, 97, 100] : List Int), o2, ([98, 97, 99, 107] : List Int), o3] : List (List Int)), a3, a4, a14)).bind fun o4 => L 2 [] j2 (R8 (a0, a1, (IntKind.wrap .i64 (a2 + (1 : Int))), o4.1, o4.2.1, a5, a6, a7, a8, a9, a10, a11, a12, a13, o4.2.2))) else (((cshownum k) (a12)).bind fun o5 => ((cshownum k) (a13)).bind fun o6 => ((B0 k) (([59] : List Int), ([([119, 101, 105, 103, 104, 116, 115] : List Int), o5, o6] : List (List Int)), a3, a4, a14)).bind fun o7 => some (o7.1, o7.2.1, o7.2.2))
theorem Bcu (k j2 : Nat) (x : Alr) : (Hy k).L 2 [] (j2 + 1) (R8 x) = Xr k j2 (Hy k).J (Hy k).L x := by
 apply cutX (Hy k) [.r, .l, .r, .b, .b] [j2] (R8 x) [] [(2, [], j2)] (Xr k j2 · · x) <;> intros <;> kernel_rfl
theorem Bvw (k : Nat) : Aa Tryz.prog 24 (Bns k) := Ae (Hy k).C k rfl ⟨⟨Qh k, trivial⟩, ⟨Kc k, trivial⟩, trivial⟩ Ad Tryz.func24 (by kernel_rfl)
def Baf : Sk := ⟨[.lf (.ptr 0 0), .lf (.ptr 1 0)], [[.ptr 2 0], q1, [.bld 2 56, .own 0, .pv (.int .i64)]], [some (5, (.int .u8))]⟩
def Bag : Sk := ⟨[], [[.ptr 2 0], q1, [.bld 2 56, .own 1, .pv (.int .i64)]], [none, some (5, (.int .u8))]⟩
def B8c (k : Nat) : EnvL := [(24, [Bns k])]
def Bad (k : Nat) : Cfg := mkC (B8c k) 54 3 1
def Ab8 (k : Nat) : H53 → Option H53 := hid (Ac (Bad k) k Tryz.f23 Baf Bag)
def Bna (k : Nat) : Sig := Ab Baf Bag (Ab8 k)
noncomputable def Bae (k : Nat) : H53 → Option H53
 | (a0, a1, a2, a3, a4, a5, a6, a7, a8, a9, a10, a11) => ((Qj k) (a0, a1, a2, a3, a4, a5, a6, a7, a8, a9, a10, a11)).bind fun o1 => some (a0, a1, a2, a3, a4, a5, a6, a7, a8, o1.1, o1.2.1, o1.2.2)
theorem B8d (k : Nat) (x : H53) : Ab8 k x = Bae k x := (Af _ _).trans (by kernel_rfl)
theorem Bvd (k : Nat) : Aa Tryz.prog 23 (Bna k) := Ae (Bad k) k rfl ⟨⟨Bvw k, trivial⟩, trivial⟩ Ad Tryz.func23 (by kernel_rfl)
abbrev H54 : Type := (List (List Int)) × (Bool) × (Int) × (Int) × (Int) × (Int) × (Int) × (Int) × (List (YT6)) × (List (YT7)) × (Int) × (Int) × (List (Int))
abbrev H55 : Type := (Bool) × (Int) × (Int) × (Int) × (Int) × (Int) × (Int) × (List (YT6)) × (List (YT7)) × (Int) × (Int) × (List (Int))
def Bc2 : Sk := ⟨[.lf (.ptr 0 0), .lf (.fn 23 [] [(1, 0), (2, 0)]), .lf (.pv (.slice .str))], [[.bld 0 56, .own 0, .pv (.int .i64)], [.ptr 0 0], q1], [some (5, (.int .u8))]⟩
def Bc3 : Sk := ⟨[], [[.bld 0 56, .own 1, .pv (.int .i64)], [.ptr 0 0], q1], [none, some (5, (.int .u8))]⟩
def B9r (k : Nat) : EnvL := [(17, [Ju k]), (23, [Bna k])]
def Bc0 (k : Nat) : Cfg := mkC (B9r k) 77 3 1
def Le (k : Nat) : H54 → Option H55 := hid (Ac (Bc0 k) k Tryz.f20 Bc2 Bc3)
def Bnv (k : Nat) : Sig := Ab Bc2 Bc3 (Le k)
noncomputable def Bc1 (k : Nat) : H54 → Option H55
 | (a0, a1, a2, a3, a4, a5, a6, a7, a8, a9, a10, a11, a12) => ((B0 k) (([32, 123] : List Int), a0, a1, a2, a12)).bind fun o1 => ((Ab8 k) (a3, a4, a5, a6, a7, a8, a9, a10, a11, o1.1, (IntKind.wrap .i64 (o1.2.1 + (1 : Int))), o1.2.2)).bind fun o2 => ((B0 k) (([125] : List Int), [], o2.2.2.2.2.2.2.2.2.2.1, (IntKind.wrap .i64 (o2.2.2.2.2.2.2.2.2.2.2.1 - (1 : Int))), o2.2.2.2.2.2.2.2.2.2.2.2)).bind fun o3 => some (o3.1, o3.2.1, o2.1, o2.2.1, o2.2.2.1, o2.2.2.2.1, o2.2.2.2.2.1, o2.2.2.2.2.2.1, o2.2.2.2.2.2.2.1, o2.2.2.2.2.2.2.2.1, o2.2.2.2.2.2.2.2.2.1, o3.2.2)
theorem B9s (k : Nat) (x : H54) : Le k x = Bc1 k x := (Af _ _).trans (by kernel_rfl)
theorem Bvy (k : Nat) : Aa Tryz.prog 20 (Bnv k) := Ae (Bc0 k) k rfl ⟨⟨Kc k, trivial⟩, ⟨Bvd k, trivial⟩, trivial⟩ Ad Tryz.func20 (by kernel_rfl)
def Cae : Sk := ⟨[.lf (.ptr 0 0)], [[.bld 0 56, .own 0, .pv (.int .i64)]], [some (5, (.int .u8))]⟩
def Caf : Sk := ⟨[.lf (.pv .str)], [[.bld 0 56, .dead, .pv (.int .i64)]], [none]⟩
def Acc (k : Nat) : ((Bool) × (Int) × (List (Int))) → Option ((List Int) × (Bool) × (Int)) := strC
def Bn3 (k : Nat) : Sig := Ab Cae Caf (Acc k)
theorem Bv7 (k : Nat) : Aa Tryz.prog 25 (Bn3 k) := strC_ok
abbrev H56 : Type := (List (YT6)) × (Int) × (Int) × (Int) × (Int) × (Int) × (Int) × (Int) × (List (YT6)) × (List (YT7)) × (Int) × (Int) × (Bool) × (Int) × (List (Int))
def Alp : Sk := ⟨[.agg [.pv (.int .i64), .pv (.int .i64), .pv (.int .i64), .pv (.int .i64), .pv (.int .i64), .pv (.slice yt6), .pv (.slice yt7), .pv (.int .i64), .pv (.int .i64)]], [], []⟩
def Alq : Sk := ⟨[.lf (.pv (.slice (.int .u8))), .lf (.pv (.int .i64))], [], []⟩
def Bak : Sk := ⟨sparse 67 [(1, .lf (.ptr 0 0)), (4, .lf (.ptr 1 0)), (31, .lf (.pv (.slice yt6))), (32, .lf (.pv (.int .i64))), (33, .lf (.pv (.int .i64)))], [q1, [.ptr 2 0], [.bld 2 56, .own 0, .pv (.int .i64)]], [some (5, (.int .u8))]⟩
abbrev Aln := H56
def Nt : Aln → St := stOf Bak 182
def Baj : Sk := ⟨sparse 67 [(4, .lf (.ptr 0 0))], [[.ptr 1 0], [.bld 1 56, .own 0, .pv (.int .i64)]], [some (5, (.int .u8))]⟩
abbrev Alm := H35
def Ir : Alm → St := stOf Baj 182
def B79 (k : Nat) : EnvL := [(10, [Y1 k]), (18, [sgshownum k]), (17, [Bny k, Ju k]), (19, [sgshowfrac k]), (20, [Bnt k, Bnv k]), (25, [Bn3 k])]
def Db (k : Nat) : FnX ((List (Int)) × (Int)) := mkX ({ mkC (B79 k) 182 0 0 with hint := fun i => look none [(7, some Bak), (13, some Baj)] i, bl := [54, 56], ef := [(23, (([59], []), ([], [71]))), (29, (([59], [71]), ([], [77])))], ld := [(12, 52), (13, 9999), (14, 49), (16, 9999), (17, 49), (19, 9999), (20, 49), (24, 52), (25, 9999), (26, 49)] }) k Tryz.f8 Alq
def My (k : Nat) : H6 → Option ((List (Int)) × (Int)) := hid (Ac (Db k).C k Tryz.f8 Alp Alq)
def Aoi (k : Nat) : Sig := Ab Alp Alq (My k)
noncomputable def Xp (k : Nat) (J : JF ((List (Int)) × (Int))) (L : LF ((List (Int)) × (Int))) : H6 → Option ((List (Int)) × (Int))
 | (a0, a1, a2, a3, a4, a5, a6, a7, a8) => ((Lb k) (a0, a1, a2, a3, a4, a5, a6, a7, a8)).bind fun o1 => bif (!o1) then (some ([], (1 : Int))) else (((cshownum k) (a0)).bind fun o2 => ((cshownum k) (a1)).bind fun o3 => ((cshownum k) (a2)).bind fun o4 => ((Ql k) (([59] : List Int), ([([99, 121, 99, 108, 101] : List Int), o2, ([116, 111] : List Int), o3, ([98, 121] : List Int), o4] : List (List Int)), true, (0 : Int))).bind fun o5 => ((cshowfrac k) (a3, a4)).bind fun o6 => ((B0 k) (([59] : List Int), ([([112, 101, 97, 107] : List Int), o6] : List (List Int)), o5.1, o5.2.1, o5.2.2)).bind fun o7 => L 7 [] k (Nt (a5, ((List.length a5 : Nat) : Int), (0 : Int), a0, a1, a2, a3, a4, a5, a6, a7, a8, o7.1, o7.2.1, o7.2.2)))
theorem Bah (k : Nat) (x : H6) : My k x = Xp k (Db k).J (Db k).L x := by
 refine (Af _ _).trans ?_; apply cutX (Db k) [] [] (st0 (Db k).C Tryz.f8 Alp x) [(13, [])] [(7, [], k)] (Xp k · · x) <;> intros <;> kernel_rfl
noncomputable def Xq (k j7 : Nat) (J : JF ((List (Int)) × (Int))) (L : LF ((List (Int)) × (Int))) : Aln → Option ((List (Int)) × (Int))
 | (a0, a1, a2, a3, a4, a5, a6, a7, a8, a9, a10, a11, a12, a13, a14) => bif (decide (a2 < a1)) then (idx zt6 a0 a2 fun o1 => ((Wc k) (([([110, 111, 100, 101] : List Int), o1.1] : List (List Int)), a12, a13, o1.1, o1.2.1, o1.2.2.1, o1.2.2.2.1, o1.2.2.2.2.1, o1.2.2.2.2.2.1, o1.2.2.2.2.2.2.1, a14)).bind fun o2 => L 7 [] j7 (Nt (a0, a1, (IntKind.wrap .i64 (a2 + (1 : Int))), a3, a4, a5, a6, a7, a8, a9, a10, a11, o2.1, o2.2.1, o2.2.2.2.2.2.2.2.2.2))) else (bif (decide (((List.length a9 : Nat) : Int) > (0 : Int))) then (((Le k) (([([97, 114, 116, 101, 114, 121] : List Int)] : List (List Int)), a12, a13, a3, a4, a5, a6, a7, a8, a9, a10, a11, a14)).bind fun o3 => J 13 [] (Ir (o3.1, o3.2.1, o3.2.2.2.2.2.2.2.2.2.2.2))) else (bif (a10 != (0 : Int)) then (((Le k) (([([97, 114, 116, 101, 114, 121] : List Int)] : List (List Int)), a12, a13, a3, a4, a5, a6, a7, a8, a9, a10, a11, a14)).bind fun o4 => J 13 [] (Ir (o4.1, o4.2.1, o4.2.2.2.2.2.2.2.2.2.2.2))) else (bif (a11 != (0 : Int)) then (((Le k) (([([97, 114, 116, 101, 114, 121] : List Int)] : List (List Int)), a12, a13, a3, a4, a5, a6, a7, a8, a9, a10, a11, a14)).bind fun o5 => J 13 [] (Ir (o5.1, o5.2.1, o5.2.2.2.2.2.2.2.2.2.2.2))) else (J 13 [] (Ir (a12, a13, a14))))))
theorem Bai (k j7 : Nat) (x : Aln) : (Db k).L 7 [] (j7 + 1) (Nt x) = Xq k j7 (Db k).J (Db k).L x := by
 apply cutX (Db k) [.r, .r, .r, .r, .r, .l, .r, .b, .b] [j7] (Nt x) [(13, [])] [(7, [], j7)] (Xq k j7 · · x) <;> intros <;> kernel_rfl
noncomputable def Alo (k : Nat) (J : JF ((List (Int)) × (Int))) (L : LF ((List (Int)) × (Int))) : Alm → Option ((List (Int)) × (Int))
 | (a0, a1, a2) => ((Acc k) (a0, a1, a2)).bind fun o1 => some (o1.1, (0 : Int))
theorem B8e (k : Nat) (x : Alm) : (Db k).J 13 [] (Ir x) = Alo k (Db k).J (Db k).L x := by
 apply cutX (Db k) [.r, .r, .r, .r, .r, .r, .r] [] (Ir x) [(13, [])] [(7, [], k)] (Alo k · · x) <;> intros <;> kernel_rfl
theorem Aqr (k : Nat) : Aa Tryz.prog 8 (Aoi k) := Ae (Db k).C k rfl ⟨⟨Ab6 k, trivial⟩, ⟨Qh k, trivial⟩, ⟨Bv2 k, Kc k, trivial⟩, ⟨Aqs k, trivial⟩, ⟨Bvz k, Bvy k, trivial⟩, ⟨Bv7 k, trivial⟩, trivial⟩ Ad Tryz.func8 (by kernel_rfl)
def Be5 : Sk := ⟨[], [], []⟩
def Be6 : Sk := ⟨[.lf (.pv .str)], [], []⟩
def Be4 (k : Nat) : Cfg := mkC [] 49 0 0
def Qo (k : Nat) : Unit → Option (List Int) := hid (Ac (Be4 k) k Tryz.f39 Be5 Be6)
def Bn8 (k : Nat) : Sig := Ab Be5 Be6 (Qo k)
noncomputable def Ca2 (k : Nat) : Unit → Option (List Int)
 | _ => some ([99, 121, 99, 108, 101, 32, 54, 48, 48, 32, 116, 111, 32, 57, 48, 48, 32, 98, 121, 32, 49, 48, 59, 10, 112, 101, 97, 107, 32, 49, 47, 49, 59, 10, 110, 111, 100, 101, 32, 97, 32, 123, 10, 32, 32, 104, 101, 97, 100, 32, 110, 32, 118, 111, 108, 117, 109, 101, 32, 52, 48, 48, 32, 102, 108, 111, 119, 32, 49, 56, 48, 48, 32, 117, 115, 101, 32, 49, 47, 49, 32, 115, 112, 101, 101, 100, 32, 49, 53, 48, 48, 32, 103, 114, 97, 100, 101, 32, 45, 50, 48, 32, 119, 105, 100, 116, 104, 32, 49, 56, 48, 48, 32, 108, 101, 110, 103, 116, 104, 32, 54, 48, 48, 32, 103, 114, 101, 101, 110, 32, 55, 48, 59, 10, 32, 32, 119, 97, 108, 107, 32, 119, 32, 119, 105, 116, 104, 32, 112, 32, 108, 111, 110, 103, 32, 49, 53, 48, 48, 32, 112, 97, 99, 101, 32, 49, 50, 48, 32, 108, 101, 97, 115, 116, 32, 55, 48, 59, 10, 32, 32, 112, 104, 97, 115, 101, 32, 112, 58, 32, 110, 44, 32, 101, 59, 10, 32, 32, 103, 114, 111, 117, 112, 32, 123, 10, 32, 32, 32, 32, 114, 105, 110, 103, 32, 102, 114, 101, 101, 32, 112, 44, 32, 113, 59, 10, 32, 32, 125, 10, 32, 32, 102, 111, 101, 32, 110, 32, 101, 59, 10, 125, 10, 97, 114, 116, 101, 114, 121, 32, 123, 10, 32, 32, 115, 116, 111, 112, 32, 97, 32, 111, 117, 116, 32, 110, 32, 105, 110, 32, 101, 32, 97, 104, 101, 97, 100, 32, 48, 32, 98, 97, 99, 107, 32, 48, 59, 10, 32, 32, 119, 101, 105, 103, 104, 116, 115, 32, 50, 32, 49, 59, 10, 125, 10] : List Int)
theorem Ca1 (k : Nat) (x : Unit) : Qo k x = Ca2 k x := (Af _ _).trans (by kernel_rfl)
theorem Bwk (k : Nat) : Aa Tryz.prog 39 (Bn8 k) := Ae (Be4 k) (l := []) k rfl trivial Ad Tryz.func39 (by kernel_rfl)
def Ait : Sk := ⟨[.lf (.pv (.slice (.int .u8))), .lf (.pv (.int .i64))], [], []⟩
def Aiu : Sk := ⟨[.lf (.pv (.int .i64))], [], []⟩
def A7k : Sk := ⟨sparse 57 [(0, .lf (.pv (.slice (.int .u8)))), (1, .lf (.pv (.int .i64)))], [], []⟩
abbrev Aip := ((List (Int)) × (Int))
def Hp : Aip → St := stOf A7k 105
def A7l : Sk := ⟨sparse 57 [(0, .lf (.pv (.slice (.int .u8)))), (1, .lf (.pv (.int .i64)))], [], []⟩
abbrev Aiq := ((List (Int)) × (Int))
def Rv : Aiq → St := stOf A7l 105
def D3 (k : Nat) : FnX Int := mkX ({ mkC [] 105 0 0 with hint := fun i => look none [(1, some A7k), (3, some A7l)] i }) k Tryz.f131 Aiu
def Pv (k : Nat) : ((List (Int)) × (Int)) → Option Int := hid (Ac (D3 k).C k Tryz.f131 Ait Aiu)
def Bmp (k : Nat) : Sig := Ab Ait Aiu (Pv k)
noncomputable def Air (k : Nat) (J : JF Int) (L : LF Int) : ((List (Int)) × (Int)) → Option Int
 | (a0, a1) => L 1 [] k (Hp (a0, a1))
theorem B6e (k : Nat) (x : ((List (Int)) × (Int))) : Pv k x = Air k (D3 k).J (D3 k).L x := by
 refine (Af _ _).trans ?_; apply cutX (D3 k) [] [] (st0 (D3 k).C Tryz.f131 Ait x) [] [(1, [], k)] (Air k · · x) <;> intros <;> kernel_rfl
noncomputable def Ais (k j1 : Nat) (J : JF Int) (L : LF Int) : Aip → Option Int
 | (a0, a1) => bif (decide (a1 < ((List.length a0 : Nat) : Int))) then (bif (inB a1 (List.length a0)) then bif ((rdI a0 (Int.toNat a1)) == (35 : Int)) then (L 3 [j1] k (Rv (a0, a1))) else (bif (inB a1 (List.length a0)) then bif ((rdI a0 (Int.toNat a1)) == (32 : Int)) then (L 1 [] j1 (Hp (a0, (IntKind.wrap .i64 (a1 + (1 : Int)))))) else (bif (inB a1 (List.length a0)) then bif ((rdI a0 (Int.toNat a1)) == (9 : Int)) then (L 1 [] j1 (Hp (a0, (IntKind.wrap .i64 (a1 + (1 : Int)))))) else (bif (inB a1 (List.length a0)) then bif ((rdI a0 (Int.toNat a1)) == (10 : Int)) then (L 1 [] j1 (Hp (a0, (IntKind.wrap .i64 (a1 + (1 : Int)))))) else (bif (inB a1 (List.length a0)) then bif ((rdI a0 (Int.toNat a1)) == (13 : Int)) then (L 1 [] j1 (Hp (a0, (IntKind.wrap .i64 (a1 + (1 : Int)))))) else (some a1) else none) else none) else none) else none) else none) else (some a1)
theorem B6f (k j1 : Nat) (x : Aip) : (D3 k).L 1 [] (j1 + 1) (Hp x) = Ais k j1 (D3 k).J (D3 k).L x := by
 apply cutX (D3 k) [.r, .l, .b, .b] [j1] (Hp x) [] [(1, [], j1), (3, [j1], k)] (Ais k j1 · · x) <;> intros <;> kernel_rfl
noncomputable def W2 (k j1 j3 : Nat) (J : JF Int) (L : LF Int) : Aiq → Option Int
 | (a0, a1) => bif (decide (a1 < ((List.length a0 : Nat) : Int))) then (bif (inB a1 (List.length a0)) then bif ((rdI a0 (Int.toNat a1)) != (10 : Int)) then (L 3 [j1] j3 (Rv (a0, (IntKind.wrap .i64 (a1 + (1 : Int)))))) else (L 1 [] j1 (Hp (a0, a1))) else none) else (L 1 [] j1 (Hp (a0, a1)))
theorem A7j (k j1 j3 : Nat) (x : Aiq) : (D3 k).L 3 [j1] (j3 + 1) (Rv x) = W2 k j1 j3 (D3 k).J (D3 k).L x := by
 apply cutX (D3 k) [.r, .l, .b, .b, .r, .b, .r, .t, .b, .b] [j1, j3] (Rv x) [] [(1, [], j1), (3, [j1], j3)] (W2 k j1 j3 · · x) <;> intros <;> kernel_rfl
theorem Bus (k : Nat) : Aa Tryz.prog 131 (Bmp k) := Ae (D3 k).C (l := []) k rfl trivial Ad Tryz.func131 (by kernel_rfl)
def A7o : Sk := ⟨[.lf (.pv (.int .u8))], [], []⟩
def A7p : Sk := ⟨[.lf (.pv .bool)], [], []⟩
def A7m (k : Nat) : Cfg := mkC [] 57 0 0
def Pw (k : Nat) : Int → Option Bool := hid (Ac (A7m k) k Tryz.f183 A7o A7p)
def Bmq (k : Nat) : Sig := Ab A7o A7p (Pw k)
noncomputable def A7n (k : Nat) : Int → Option Bool
 | a0 => bif (decide (a0 ≥ (97 : Int))) then (some (decide (a0 ≤ (122 : Int)))) else (some false)
theorem B6g (k : Nat) (x : Int) : Pw k x = A7n k x := (Af _ _).trans (by kernel_rfl)
theorem But (k : Nat) : Aa Tryz.prog 183 (Bmq k) := Ae (A7m k) (l := []) k rfl trivial Ad Tryz.func183 (by kernel_rfl)
def A7b : Sk := ⟨[.lf (.pv (.int .u8))], [], []⟩
def A7c : Sk := ⟨[.lf (.pv .bool)], [], []⟩
def A69 (k : Nat) : Cfg := mkC [] 57 0 0
def Mw (k : Nat) : Int → Option Bool := hid (Ac (A69 k) k Tryz.f184 A7b A7c)
def Bmm (k : Nat) : Sig := Ab A7b A7c (Mw k)
noncomputable def A7a (k : Nat) : Int → Option Bool
 | a0 => bif (decide (a0 ≥ (48 : Int))) then (some (decide (a0 ≤ (57 : Int)))) else (some false)
theorem B58 (k : Nat) (x : Int) : Mw k x = A7a k x := (Af _ _).trans (by kernel_rfl)
theorem Bup (k : Nat) : Aa Tryz.prog 184 (Bmm k) := Ae (A69 k) (l := []) k rfl trivial Ad Tryz.func184 (by kernel_rfl)
def A7h : Sk := ⟨[.lf (.pv (.int .u8))], [], []⟩
def A7i : Sk := ⟨[.lf (.pv .bool)], [], []⟩
def A7f (k : Nat) : Cfg := mkC [] 77 0 0
def Vp (k : Nat) : Int → Option Bool := hid (Ac (A7f k) k Tryz.f185 A7h A7i)
def Bmo (k : Nat) : Sig := Ab A7h A7i (Vp k)
noncomputable def A7g (k : Nat) : Int → Option Bool
 | a0 => bif (a0 == (123 : Int)) then (some true) else (bif (a0 == (125 : Int)) then (some true) else (bif (a0 == (44 : Int)) then (some true) else (bif (a0 == (59 : Int)) then (some true) else (bif (a0 == (58 : Int)) then (some true) else (bif (a0 == (47 : Int)) then (some true) else (some (a0 == (45 : Int))))))))
theorem B6d (k : Nat) (x : Int) : Vp k x = A7g k x := (Af _ _).trans (by kernel_rfl)
theorem Bur (k : Nat) : Aa Tryz.prog 185 (Bmo k) := Ae (A7f k) (l := []) k rfl trivial Ad Tryz.func185 (by kernel_rfl)
def q30 : List SL := [.pv (.int .i64), .pv .str, .pv (.int .i64), .pv (.int .i64)]
abbrev H57 : Type := (List (Int)) × (Int) × (Int) × (Int) × (List Int) × (Int) × (Int)
abbrev H58 : Type := (List (Int)) × (Int) × (Int) × (Int) × (Int) × (List Int) × (Int) × (Int)
abbrev H59 : Type := (Int) × (List Int) × (Int) × (Int) × (Int)
def Ain : Sk := ⟨[.lf (.pv (.slice (.int .u8))), .lf (.pv (.int .i64))], [], []⟩
def Aio : Sk := ⟨[.agg [.pv (.int .i64), .pv .str, .pv (.int .i64), .pv (.int .i64)], .lf (.pv (.int .i64))], [], []⟩
def A7e : Sk := ⟨sparse 114 [(0, .lf (.pv (.slice (.int .u8)))), (1, .lf (.pv (.int .i64))), (4, .lf (.ptr 0 0)), (6, .lf (.pv (.int .i64)))], [q30], []⟩
abbrev Aij := H57
def Lq : Aij → St := stOf A7e 162
def A7d : Sk := ⟨sparse 114 [(0, .lf (.pv (.slice (.int .u8)))), (1, .lf (.pv (.int .i64))), (4, .lf (.ptr 0 0)), (6, .lf (.pv (.int .i64))), (7, .lf (.pv (.int .i64)))], [q30], []⟩
abbrev Aii := H58
def Nd : Aii → St := stOf A7d 162
def B59 (k : Nat) : EnvL := [(183, [Bmq k]), (184, [Bmm k]), (185, [Bmo k])]
def Eb (k : Nat) : FnX H59 := mkX ({ mkC (B59 k) 162 0 0 with hint := fun i => look none [(3, some A7e), (10, some A7d)] i, bl := [54, 56] }) k Tryz.f132 Aio
def Vo (k : Nat) : ((List (Int)) × (Int)) → Option H59 := hid (Ac (Eb k).C k Tryz.f132 Ain Aio)
def Bmn (k : Nat) : Sig := Ab Ain Aio (Vo k)
noncomputable def Aik (k : Nat) (J : JF H59) (L : LF H59) : ((List (Int)) × (Int)) → Option H59
 | (a0, a1) => bif (inB a1 (List.length a0)) then ((Pw k) ((rdI a0 (Int.toNat a1)))).bind fun o1 => bif o1 then (L 3 [] k (Lq (a0, a1, a1, (0 : Int), ([] : List Int), (0 : Int), (0 : Int)))) else (bif (inB a1 (List.length a0)) then ((Mw k) ((rdI a0 (Int.toNat a1)))).bind fun o2 => bif o2 then (L 10 [] k (Nd (a0, a1, a1, (0 : Int), (0 : Int), ([] : List Int), (0 : Int), (0 : Int)))) else (bif (inB a1 (List.length a0)) then ((Vp k) ((rdI a0 (Int.toNat a1)))).bind fun o3 => bif o3 then (bif (cutB a1 (IntKind.wrap .i64 (a1 + (1 : Int))) (List.length a0)) then some ((3 : Int), (cutL a0 a1 (IntKind.wrap .i64 (a1 + (1 : Int)))), (0 : Int), a1, (0 : Int)) else none) else (some ((0 : Int), ([] : List Int), (0 : Int), (0 : Int), (40 : Int))) else none) else none) else none
theorem B6a (k : Nat) (x : ((List (Int)) × (Int))) : Vo k x = Aik k (Eb k).J (Eb k).L x := by
 refine (Af _ _).trans ?_; apply cutX (Eb k) [] [] (st0 (Eb k).C Tryz.f132 Ain x) [] [(3, [], k), (10, [], k)] (Aik k · · x) <;> intros <;> kernel_rfl
noncomputable def Aim (k j3 : Nat) (J : JF H59) (L : LF H59) : Aij → Option H59
 | (a0, a1, a2, a3, a4, a5, a6) => bif (decide (a2 < ((List.length a0 : Nat) : Int))) then (bif (inB a2 (List.length a0)) then ((Pw k) ((rdI a0 (Int.toNat a2)))).bind fun o1 => bif o1 then (L 3 [] j3 (Lq (a0, a1, (IntKind.wrap .i64 (a2 + (1 : Int))), a3, a4, a5, a6))) else (bif (inB a2 (List.length a0)) then ((Mw k) ((rdI a0 (Int.toNat a2)))).bind fun o2 => bif o2 then (L 3 [] j3 (Lq (a0, a1, (IntKind.wrap .i64 (a2 + (1 : Int))), a3, a4, a5, a6))) else (bif (inB a2 (List.length a0)) then bif ((rdI a0 (Int.toNat a2)) == (95 : Int)) then (L 3 [] j3 (Lq (a0, a1, (IntKind.wrap .i64 (a2 + (1 : Int))), a3, a4, a5, a6))) else (bif (decide ((IntKind.wrap .i64 (a2 - a1)) > (24 : Int))) then (some ((0 : Int), ([] : List Int), (0 : Int), (0 : Int), (4 : Int))) else (bif (cutB a1 a2 (List.length a0)) then some ((1 : Int), (cutL a0 a1 a2), (0 : Int), a1, (0 : Int)) else none)) else none) else none) else none) else (bif (decide ((IntKind.wrap .i64 (a2 - a1)) > (24 : Int))) then (some ((0 : Int), ([] : List Int), (0 : Int), (0 : Int), (4 : Int))) else (bif (cutB a1 a2 (List.length a0)) then some ((1 : Int), (cutL a0 a1 a2), (0 : Int), a1, (0 : Int)) else none))
theorem B6c (k j3 : Nat) (x : Aij) : (Eb k).L 3 [] (j3 + 1) (Lq x) = Aim k j3 (Eb k).J (Eb k).L x := by
 apply cutX (Eb k) [.r, .r, .l, .b, .r, .t, .l, .b, .b] [j3] (Lq x) [] [(3, [], j3), (10, [], k)] (Aim k j3 · · x) <;> intros <;> kernel_rfl
noncomputable def Ail (k j10 : Nat) (J : JF H59) (L : LF H59) : Aii → Option H59
 | (a0, a1, a2, a3, a4, a5, a6, a7) => bif (decide (a2 < ((List.length a0 : Nat) : Int))) then (bif (inB a2 (List.length a0)) then ((Mw k) ((rdI a0 (Int.toNat a2)))).bind fun o1 => bif o1 then (bif (decide ((IntKind.wrap .i64 (a2 - a1)) < (18 : Int))) then (bif (inB a2 (List.length a0)) then L 10 [] j10 (Nd (a0, a1, (IntKind.wrap .i64 (a2 + (1 : Int))), (IntKind.wrap .i64 ((IntKind.wrap .i64 ((10 : Int) * a3)) + (IntKind.wrap .i64 (IntKind.wrap .u8 ((rdI a0 (Int.toNat a2)) - (48 : Int)))))), a4, a5, a6, a7)) else none) else (L 10 [] j10 (Nd (a0, a1, (IntKind.wrap .i64 (a2 + (1 : Int))), a3, a4, a5, a6, a7)))) else (bif (decide ((IntKind.wrap .i64 (a2 - a1)) > (18 : Int))) then (some ((0 : Int), ([] : List Int), (0 : Int), (0 : Int), (4 : Int))) else (bif (cutB a1 a2 (List.length a0)) then some ((2 : Int), (cutL a0 a1 a2), a3, a1, (0 : Int)) else none)) else none) else (bif (decide ((IntKind.wrap .i64 (a2 - a1)) > (18 : Int))) then (some ((0 : Int), ([] : List Int), (0 : Int), (0 : Int), (4 : Int))) else (bif (cutB a1 a2 (List.length a0)) then some ((2 : Int), (cutL a0 a1 a2), a3, a1, (0 : Int)) else none))
theorem B6b (k j10 : Nat) (x : Aii) : (Eb k).L 10 [] (j10 + 1) (Nd x) = Ail k j10 (Eb k).J (Eb k).L x := by
 apply cutX (Eb k) [.r, .r, .l, .b, .r, .e, .r, .t, .r, .l, .b, .b] [j10] (Nd x) [] [(3, [], k), (10, [], j10)] (Ail k j10 · · x) <;> intros <;> kernel_rfl
theorem Buq (k : Nat) : Aa Tryz.prog 132 (Bmn k) := Ae (Eb k).C k rfl ⟨⟨But k, trivial⟩, ⟨Bup k, trivial⟩, ⟨Bur k, trivial⟩, trivial⟩ Ad Tryz.func132 (by kernel_rfl)
abbrev H60 : Type := (List (Int)) × (Int) × (List (YT8))
def Aig : Sk := ⟨[.lf (.pv (.slice (.int .u8)))], [], []⟩
def Aih : Sk := ⟨[.lf (.own 0), .lf (.pv (.int .i64)), .lf (.pv (.int .i64))], [], [some (135, yt8)]⟩
def A64 : Sk := ⟨sparse 44 [(0, .lf (.pv (.slice (.int .u8)))), (5, .lf (.own 0)), (6, .lf (.pv (.int .i64)))], [], [some (135, yt8)]⟩
abbrev Aid := H60
def Ru : Aid → St := stOf A64 92
def B54 (k : Nat) : EnvL := [(131, [Bmp k]), (132, [Bmn k])]
def Ho (k : Nat) : FnX H13 := mkX ({ mkC (B54 k) 92 0 0 with hint := fun i => look none [(5, some A64)] i, bl := [54, 56] }) k Tryz.f79 Aih
def Vm (k : Nat) : (List (Int)) → Option H13 := hid (Ac (Ho k).C k Tryz.f79 Aig Aih)
def Bmk (k : Nat) : Sig := Ab Aig Aih (Vm k)
noncomputable def Aie (k : Nat) (J : JF H13) (L : LF H13) : (List (Int)) → Option H13
 | a0 => bif (decide (((List.length a0 : Nat) : Int) > (65536 : Int))) then (some ((4 : Int), (65536 : Int), [])) else (((Pv k) (a0, (0 : Int))).bind fun o1 => L 5 [] k (Ru (a0, o1, [])))
theorem B55 (k : Nat) (x : (List (Int))) : Vm k x = Aie k (Ho k).J (Ho k).L x := by
 refine (Af _ _).trans ?_; apply cutX (Ho k) [] [] (st0 (Ho k).C Tryz.f79 Aig x) [] [(5, [], k)] (Aie k · · x) <;> intros <;> kernel_rfl
noncomputable def Aif (k j5 : Nat) (J : JF H13) (L : LF H13) : Aid → Option H13
 | (a0, a1, a2) => bif (decide (a1 < ((List.length a0 : Nat) : Int))) then (((Vo k) (a0, a1)).bind fun o1 => bif (o1.2.2.2.2 != (0 : Int)) then (some (o1.2.2.2.2, a1, [])) else (bif (appB 40 (List.length a2) (List.length ([(o1.1, (o1.2.1, (o1.2.2.1, (o1.2.2.2.1, ()))))] : List (YT8)))) then ((Pv k) (a0, (IntKind.wrap .i64 (a1 + ((List.length o1.2.1 : Nat) : Int))))).bind fun o2 => L 5 [] j5 (Ru (a0, o2, (a2 ++ ([(o1.1, (o1.2.1, (o1.2.2.1, (o1.2.2.2.1, ()))))] : List (YT8))))) else none)) else (bif (appB 40 (List.length a2) (List.length ([((0 : Int), (([] : List Int), ((0 : Int), (a1, ()))))] : List (YT8)))) then some ((0 : Int), (0 : Int), (a2 ++ ([((0 : Int), (([] : List Int), ((0 : Int), (a1, ()))))] : List (YT8)))) else none)
theorem B56 (k j5 : Nat) (x : Aid) : (Ho k).L 5 [] (j5 + 1) (Ru x) = Aif k j5 (Ho k).J (Ho k).L x := by
 apply cutX (Ho k) [.r, .r, .r, .r, .l, .b, .b] [j5] (Ru x) [] [(5, [], j5)] (Aif k j5 · · x) <;> intros <;> kernel_rfl
theorem Bun (k : Nat) : Aa Tryz.prog 79 (Bmk k) := Ae (Ho k).C k rfl ⟨⟨Bus k, trivial⟩, ⟨Buq k, trivial⟩, trivial⟩ Ad Tryz.func79 (by kernel_rfl)
abbrev H61 : Type := (List Int) × (Int) × (Int) × (List (YT8))
abbrev H62 : Type := (Bool) × (Int) × (Int) × (List (YT8))
def Akg : Sk := ⟨[.lf (.ptr 0 0), .lf (.pv .str)], [[.own 0, .pv (.int .i64), .pv (.int .i64)]], [some (135, yt8)]⟩
def A8x : Sk := ⟨[.lf (.pv .bool)], Akg.boxes, [some (135, yt8)]⟩
def A8v (k : Nat) : Cfg := mkC [] 89 1 1
def Vy (k : Nat) : H61 → Option H62 := hid (Ac (A8v k) k Tryz.f85 Akg A8x)
def Bm2 (k : Nat) : Sig := Ab Akg A8x (Vy k)
noncomputable def A8w (k : Nat) : H61 → Option H62
 | (a0, a1, a2, a3) => bif (a1 == (0 : Int)) then (bif (inB (0 : Int) (List.length a3)) then bif ((rdA zt8 a3 (Int.toNat (0 : Int))).1 != (2 : Int)) then (bif (inB (0 : Int) (List.length a3)) then bif ((rdA zt8 a3 (Int.toNat (0 : Int))).1 != (0 : Int)) then (bif (inB (0 : Int) (List.length a3)) then some (((rdA zt8 a3 (Int.toNat (0 : Int))).2.1 == a0), a1, a2, a3) else none) else (some (false, a1, a2, a3)) else none) else (some (false, a1, a2, a3)) else none) else (some (false, a1, a2, a3))
theorem B7d (k : Nat) (x : H61) : Vy k x = A8w k x := (Af _ _).trans (by kernel_rfl)
theorem Bu5 (k : Nat) : Aa Tryz.prog 85 (Bm2 k) := Ae (A8v k) (l := []) k rfl trivial Ad Tryz.func85 (by kernel_rfl)
abbrev H63 : Type := (Int) × (Int) × (Int) × (List (YT8))
def Aj2 : Sk := ⟨[.lf (.ptr 0 0), .lf (.pv (.int .i64))], [[.own 0, .pv (.int .i64), .pv (.int .i64)]], [some (135, yt8)]⟩
def A8j : Sk := ⟨[], Aj2.boxes, [some (135, yt8)]⟩
def A8h (k : Nat) : Cfg := mkC [] 71 1 1
def Vu (k : Nat) : H63 → Option H13 := hid (Ac (A8h k) k Tryz.f88 Aj2 A8j)
def Bmz (k : Nat) : Sig := Ab Aj2 A8j (Vu k)
noncomputable def A8i (k : Nat) : H63 → Option H13
 | (a0, a1, a2, a3) => bif (a1 == (0 : Int)) then (bif (inB (0 : Int) (List.length a3)) then some (a0, (rdA zt8 a3 (Int.toNat (0 : Int))).2.2.2.1, a3) else none) else (some (a1, a2, a3))
theorem B61 (k : Nat) (x : H63) : Vu k x = A8i k x := (Af _ _).trans (by kernel_rfl)
theorem Bu2 (k : Nat) : Aa Tryz.prog 88 (Bmz k) := Ae (A8h k) (l := []) k rfl trivial Ad Tryz.func88 (by kernel_rfl)
abbrev H64 : Type := (Int) × (List Int) × (Int) × (Int) × (List (YT8)) × (Int) × (Int)
def A88 : Sk := ⟨[.lf (.ptr 0 0)], [[.own 0, .pv (.int .i64), .pv (.int .i64)]], [some (135, yt8)]⟩
def A89 : Sk := ⟨[.agg [.pv (.int .i64), .pv .str, .pv (.int .i64), .pv (.int .i64)]], [q2], [none]⟩
def A86 (k : Nat) : Cfg := { mkC [] 77 1 1 with bl := [54, 56] }
def P6 (k : Nat) : H13 → Option H64 := hid (Ac (A86 k) k Tryz.f86 A88 A89)
def Bm3 (k : Nat) : Sig := Ab A88 A89 (P6 k)
noncomputable def A87 (k : Nat) : H13 → Option H64
 | (a0, a1, a2) => bif (inB (0 : Int) (List.length a2)) then bif (a0 == (0 : Int)) then (bif ((rdA zt8 a2 (Int.toNat (0 : Int))).1 != (0 : Int)) then (bif (cutB (1 : Int) (((List.length a2) : Nat) : Int) (List.length a2)) then some ((rdA zt8 a2 (Int.toNat (0 : Int))).1, (rdA zt8 a2 (Int.toNat (0 : Int))).2.1, (rdA zt8 a2 (Int.toNat (0 : Int))).2.2.1, (rdA zt8 a2 (Int.toNat (0 : Int))).2.2.2.1, (cutL a2 (1 : Int) (((List.length a2) : Nat) : Int)), a0, a1) else none) else (some ((rdA zt8 a2 (Int.toNat (0 : Int))).1, (rdA zt8 a2 (Int.toNat (0 : Int))).2.1, (rdA zt8 a2 (Int.toNat (0 : Int))).2.2.1, (rdA zt8 a2 (Int.toNat (0 : Int))).2.2.2.1, a2, a0, a1))) else (some ((rdA zt8 a2 (Int.toNat (0 : Int))).1, (rdA zt8 a2 (Int.toNat (0 : Int))).2.1, (rdA zt8 a2 (Int.toNat (0 : Int))).2.2.1, (rdA zt8 a2 (Int.toNat (0 : Int))).2.2.2.1, a2, a0, a1)) else none
theorem B7l (k : Nat) (x : H13) : P6 k x = A87 k x := (Af _ _).trans (by kernel_rfl)
theorem Bu6 (k : Nat) : Aa Tryz.prog 86 (Bm3 k) := Ae (A86 k) (l := []) k rfl trivial Ad Tryz.func86 (by kernel_rfl)
abbrev H65 : Type := (List (YT8)) × (Int) × (Int)
def A9p : Sk := ⟨[.lf (.ptr 0 0), .lf (.pv .str)], [[.own 0, .pv (.int .i64), .pv (.int .i64)]], [some (135, yt8)]⟩
def A9q : Sk := ⟨[], [q2], [none]⟩
def B73 (k : Nat) : EnvL := [(85, [Bm2 k]), (88, [Bmz k]), (86, [Bm3 k])]
def A9n (k : Nat) : Cfg := mkC (B73 k) 60 1 1
def V2 (k : Nat) : H61 → Option H65 := hid (Ac (A9n k) k Tryz.f81 A9p A9q)
def Bm7 (k : Nat) : Sig := Ab A9p A9q (V2 k)
noncomputable def A9o (k : Nat) : H61 → Option H65
 | (a0, a1, a2, a3) => ((Vy k) (a0, a1, a2, a3)).bind fun o1 => bif (!o1.1) then (((Vu k) ((50 : Int), o1.2.1, o1.2.2.1, o1.2.2.2)).bind fun o2 => ((P6 k) (o2.1, o2.2.1, o2.2.2)).bind fun o3 => some (o3.2.2.2.2.1, o3.2.2.2.2.2.1, o3.2.2.2.2.2.2)) else (((P6 k) (o1.2.1, o1.2.2.1, o1.2.2.2)).bind fun o4 => some (o4.2.2.2.2.1, o4.2.2.2.2.2.1, o4.2.2.2.2.2.2))
theorem B74 (k : Nat) (x : H61) : V2 k x = A9o k x := (Af _ _).trans (by kernel_rfl)
theorem Bva (k : Nat) : Aa Tryz.prog 81 (Bm7 k) := Ae (A9n k) k rfl ⟨⟨Bu5 k, trivial⟩, ⟨Bu2 k, trivial⟩, ⟨Bu6 k, trivial⟩, trivial⟩ Ad Tryz.func81 (by kernel_rfl)
abbrev H66 : Type := (Int) × (List (YT8)) × (Int) × (Int)
def Aj1 : Sk := ⟨[.lf (.ptr 0 0), .lf (.pv (.int .i64))], [q2], []⟩
def A8g : Sk := ⟨[], Aj1.boxes, []⟩
def A8e (k : Nat) : Cfg := mkC [] 71 1 0
def Fw (k : Nat) : H66 → Option H65 := hid (Ac (A8e k) k Tryz.f88 Aj1 A8g)
def Jr (k : Nat) : Sig := Ab Aj1 A8g (Fw k)
noncomputable def A8f (k : Nat) : H66 → Option H65
 | (a0, a1, a2, a3) => bif (a2 == (0 : Int)) then (idx zt8 a1 (0 : Int) fun o1 => some (a1, a0, o1.2.2.2.1)) else (some (a1, a2, a3))
theorem B60 (k : Nat) (x : H66) : Fw k x = A8f k x := (Af _ _).trans (by kernel_rfl)
theorem Ka (k : Nat) : Aa Tryz.prog 88 (Jr k) := Ae (A8e k) (l := []) k rfl trivial Ad Tryz.func88 (by kernel_rfl)
def Ako : Sk := ⟨[.lf (.ptr 0 0)], [q2], []⟩
def A85 : Sk := ⟨[.agg [.pv (.int .i64), .pv .str, .pv (.int .i64), .pv (.int .i64)]], Ako.boxes, []⟩
def A83 (k : Nat) : Cfg := { mkC [] 77 1 0 with bl := [54, 56] }
def Fd (k : Nat) : H65 → Option H64 := hid (Ac (A83 k) k Tryz.f86 Ako A85)
def I4 (k : Nat) : Sig := Ab Ako A85 (Fd k)
noncomputable def A84 (k : Nat) : H65 → Option H64
 | (a0, a1, a2) => idx zt8 a0 (0 : Int) fun o1 => bif (a1 == (0 : Int)) then (bif (o1.1 != (0 : Int)) then (cut a0 (1 : Int) (((List.length a0) : Nat) : Int) fun o2 => some (o1.1, o1.2.1, o1.2.2.1, o1.2.2.2.1, o2, a1, a2)) else (some (o1.1, o1.2.1, o1.2.2.1, o1.2.2.2.1, a0, a1, a2))) else (some (o1.1, o1.2.1, o1.2.2.1, o1.2.2.2.1, a0, a1, a2))
theorem B7k (k : Nat) (x : H65) : Fd k x = A84 k x := (Af _ _).trans (by kernel_rfl)
theorem Jg (k : Nat) : Aa Tryz.prog 86 (I4 k) := Ae (A83 k) (l := []) k rfl trivial Ad Tryz.func86 (by kernel_rfl)
def Ak8 : Sk := ⟨[.lf (.ptr 0 0), .lf (.pv .str)], [[.own 0, .pv (.int .i64), .pv (.int .i64)]], [some (135, yt8)]⟩
def Ak9 : Sk := ⟨[.lf (.pv (.int .i64))], [q2], [none]⟩
def A9g : Sk := ⟨sparse 23 [(0, .lf (.ptr 0 0))], [q2], [none]⟩
abbrev Ak5 := H65
def R5 : Ak5 → St := stOf A9g 71
def B7w (k : Nat) : EnvL := [(81, [Bm7 k]), (88, [Jr k]), (86, [I4 k])]
def Hv (k : Nat) : FnX H66 := mkX ({ mkC (B7w k) 71 1 1 with hint := fun i => look none [(3, some A9g)] i }) k Tryz.f80 Ak9
def V0 (k : Nat) : H61 → Option H66 := hid (Ac (Hv k).C k Tryz.f80 Ak8 Ak9)
def Bm5 (k : Nat) : Sig := Ab Ak8 Ak9 (V0 k)
noncomputable def Ak6 (k : Nat) (J : JF H66) (L : LF H66) : H61 → Option H66
 | (a0, a1, a2, a3) => bif (!(a0 == ([] : List Int))) then (((V2 k) (a0, a1, a2, a3)).bind fun o1 => J 3 [] (R5 (o1.1, o1.2.1, o1.2.2))) else (J 3 [] (R5 (a3, a1, a2)))
theorem B7x (k : Nat) (x : H61) : V0 k x = Ak6 k (Hv k).J (Hv k).L x := by
 refine (Af _ _).trans ?_; apply cutX (Hv k) [] [] (st0 (Hv k).C Tryz.f80 Ak8 x) [(3, [])] [] (Ak6 k · · x) <;> intros <;> kernel_rfl
noncomputable def Ak7 (k : Nat) (J : JF H66) (L : LF H66) : Ak5 → Option H66
 | (a0, a1, a2) => idx zt8 a0 (0 : Int) fun o1 => bif (o1.1 != (2 : Int)) then (((Fw k) ((50 : Int), a0, a1, a2)).bind fun o2 => some ((0 : Int), o2.1, o2.2.1, o2.2.2)) else (((Fd k) (a0, a1, a2)).bind fun o3 => some (o3.2.2.1, o3.2.2.2.2.1, o3.2.2.2.2.2.1, o3.2.2.2.2.2.2))
theorem B7y (k : Nat) (x : Ak5) : (Hv k).J 3 [] (R5 x) = Ak7 k (Hv k).J (Hv k).L x := by
 apply cutX (Hv k) [.r, .r] [] (R5 x) [(3, [])] [] (Ak7 k · · x) <;> intros <;> kernel_rfl
theorem Bu8 (k : Nat) : Aa Tryz.prog 80 (Bm5 k) := Ae (Hv k).C k rfl ⟨⟨Bva k, trivial⟩, ⟨Ka k, trivial⟩, ⟨Jg k, trivial⟩, trivial⟩ Ad Tryz.func80 (by kernel_rfl)
abbrev H67 : Type := (List Int) × (List (YT8)) × (Int) × (Int)
abbrev H68 : Type := (Bool) × (List (YT8)) × (Int) × (Int)
def Akf : Sk := ⟨[.lf (.ptr 0 0), .lf (.pv .str)], [q2], []⟩
def A8u : Sk := ⟨[.lf (.pv .bool)], Akf.boxes, []⟩
def A8s (k : Nat) : Cfg := mkC [] 89 1 0
def Il (k : Nat) : H67 → Option H68 := hid (Ac (A8s k) k Tryz.f85 Akf A8u)
def Mf (k : Nat) : Sig := Ab Akf A8u (Il k)
noncomputable def A8t (k : Nat) : H67 → Option H68
 | (a0, a1, a2, a3) => bif (a2 == (0 : Int)) then (idx zt8 a1 (0 : Int) fun o1 => bif (o1.1 != (2 : Int)) then (idx zt8 a1 (0 : Int) fun o2 => bif (o2.1 != (0 : Int)) then (idx zt8 a1 (0 : Int) fun o3 => some ((o3.2.1 == a0), a1, a2, a3)) else (some (false, a1, a2, a3))) else (some (false, a1, a2, a3))) else (some (false, a1, a2, a3))
theorem B7c (k : Nat) (x : H67) : Il k x = A8t k x := (Af _ _).trans (by kernel_rfl)
theorem Mx (k : Nat) : Aa Tryz.prog 85 (Mf k) := Ae (A8s k) (l := []) k rfl trivial Ad Tryz.func85 (by kernel_rfl)
def Alb : Sk := ⟨[.lf (.ptr 0 0), .lf (.pv .str)], [q2], []⟩
def A9m : Sk := ⟨[], Alb.boxes, []⟩
def B71 (k : Nat) : EnvL := [(85, [Mf k]), (88, [Jr k]), (86, [I4 k])]
def A9k (k : Nat) : Cfg := mkC (B71 k) 60 1 0
def Cm (k : Nat) : H67 → Option H65 := hid (Ac (A9k k) k Tryz.f81 Alb A9m)
def Js (k : Nat) : Sig := Ab Alb A9m (Cm k)
noncomputable def A9l (k : Nat) : H67 → Option H65
 | (a0, a1, a2, a3) => ((Il k) (a0, a1, a2, a3)).bind fun o1 => bif (!o1.1) then (((Fw k) ((50 : Int), o1.2.1, o1.2.2.1, o1.2.2.2)).bind fun o2 => ((Fd k) (o2.1, o2.2.1, o2.2.2)).bind fun o3 => some (o3.2.2.2.2.1, o3.2.2.2.2.2.1, o3.2.2.2.2.2.2)) else (((Fd k) (o1.2.1, o1.2.2.1, o1.2.2.2)).bind fun o4 => some (o4.2.2.2.2.1, o4.2.2.2.2.2.1, o4.2.2.2.2.2.2))
theorem B72 (k : Nat) (x : H67) : Cm k x = A9l k x := (Af _ _).trans (by kernel_rfl)
theorem Kb (k : Nat) : Aa Tryz.prog 81 (Js k) := Ae (A9k k) k rfl ⟨⟨Mx k, trivial⟩, ⟨Ka k, trivial⟩, ⟨Jg k, trivial⟩, trivial⟩ Ad Tryz.func81 (by kernel_rfl)
def Xj : Sk := ⟨[.lf (.ptr 0 0), .lf (.pv .str)], [q2], []⟩
def Ak4 : Sk := ⟨[.lf (.pv (.int .i64))], Xj.boxes, []⟩
def A9f : Sk := ⟨sparse 23 [(0, .lf (.ptr 0 0))], [q2], []⟩
abbrev Ak1 := H65
def R4 : Ak1 → St := stOf A9f 71
def B7t (k : Nat) : EnvL := [(81, [Js k]), (88, [Jr k]), (86, [I4 k])]
def Hw (k : Nat) : FnX H66 := mkX ({ mkC (B7t k) 71 1 0 with hint := fun i => look none [(3, some A9f)] i }) k Tryz.f80 Ak4
def C0 (k : Nat) : H67 → Option H66 := hid (Ac (Hw k).C k Tryz.f80 Xj Ak4)
def Ot (k : Nat) : Sig := Ab Xj Ak4 (C0 k)
noncomputable def Ak2 (k : Nat) (J : JF H66) (L : LF H66) : H67 → Option H66
 | (a0, a1, a2, a3) => bif (!(a0 == ([] : List Int))) then (((Cm k) (a0, a1, a2, a3)).bind fun o1 => J 3 [] (R4 (o1.1, o1.2.1, o1.2.2))) else (J 3 [] (R4 (a1, a2, a3)))
theorem B7u (k : Nat) (x : H67) : C0 k x = Ak2 k (Hw k).J (Hw k).L x := by
 refine (Af _ _).trans ?_; apply cutX (Hw k) [] [] (st0 (Hw k).C Tryz.f80 Xj x) [(3, [])] [] (Ak2 k · · x) <;> intros <;> kernel_rfl
noncomputable def Ak3 (k : Nat) (J : JF H66) (L : LF H66) : Ak1 → Option H66
 | (a0, a1, a2) => idx zt8 a0 (0 : Int) fun o1 => bif (o1.1 != (2 : Int)) then (((Fw k) ((50 : Int), a0, a1, a2)).bind fun o2 => some ((0 : Int), o2.1, o2.2.1, o2.2.2)) else (((Fd k) (a0, a1, a2)).bind fun o3 => some (o3.2.2.1, o3.2.2.2.2.1, o3.2.2.2.2.2.1, o3.2.2.2.2.2.2))
theorem B7v (k : Nat) (x : Ak1) : (Hw k).J 3 [] (R4 x) = Ak3 k (Hw k).J (Hw k).L x := by
 apply cutX (Hw k) [.r, .r] [] (R4 x) [(3, [])] [] (Ak3 k · · x) <;> intros <;> kernel_rfl
theorem P7 (k : Nat) : Aa Tryz.prog 80 (Ot k) := Ae (Hw k).C k rfl ⟨⟨Kb k, trivial⟩, ⟨Ka k, trivial⟩, ⟨Jg k, trivial⟩, trivial⟩ Ad Tryz.func80 (by kernel_rfl)
abbrev H69 : Type := (Int) × (Int) × (List (YT8)) × (Int) × (Int)
def Aj3 : Sk := ⟨[.lf (.ptr 0 0), .lf (.pv .str)], [q2], []⟩
def A8m : Sk := ⟨[.agg [.pv (.int .i64), .pv (.int .i64)]], Aj3.boxes, []⟩
def B62 (k : Nat) : EnvL := [(80, [Ot k])]
def A8k (k : Nat) : Cfg := { mkC (B62 k) 61 1 0 with bl := [54, 56] }
def P3 (k : Nat) : H67 → Option H69 := hid (Ac (A8k k) k Tryz.f82 Aj3 A8m)
def Aog (k : Nat) : Sig := Ab Aj3 A8m (P3 k)
noncomputable def A8l (k : Nat) : H67 → Option H69
 | (a0, a1, a2, a3) => ((C0 k) (a0, a1, a2, a3)).bind fun o1 => ((C0 k) (([47] : List Int), o1.2.1, o1.2.2.1, o1.2.2.2)).bind fun o2 => some (o1.1, o2.1, o2.2.1, o2.2.2.1, o2.2.2.2)
theorem B63 (k : Nat) (x : H67) : P3 k x = A8l k x := (Af _ _).trans (by kernel_rfl)
theorem Aqp (k : Nat) : Aa Tryz.prog 82 (Aog k) := Ae (A8k k) k rfl ⟨⟨P7 k, trivial⟩, trivial⟩ Ad Tryz.func82 (by kernel_rfl)
abbrev H70 : Type := (List Int) × (Int) × (Int) × (List (YT8)) × (Int) × (Int)
def Aj0 : Sk := ⟨[.lf (.ptr 0 0), .lf (.pv .str), .lf (.pv (.int .i64)), .lf (.pv (.int .i64))], [q2], []⟩
def A8d : Sk := ⟨[.lf (.pv .bool)], Aj0.boxes, []⟩
def B6y (k : Nat) : EnvL := [(85, [Mf k]), (88, [Jr k]), (86, [I4 k])]
def A8b (k : Nat) : Cfg := mkC (B6y k) 68 1 0
def Gq (k : Nat) : H70 → Option H68 := hid (Ac (A8b k) k Tryz.f83 Aj0 A8d)
def Su (k : Nat) : Sig := Ab Aj0 A8d (Gq k)
noncomputable def A8c (k : Nat) : H70 → Option H68
 | (a0, a1, a2, a3, a4, a5) => ((Il k) (a0, a3, a4, a5)).bind fun o1 => bif (!o1.1) then (some (false, o1.2.1, o1.2.2.1, o1.2.2.2)) else (bif (a1 == a2) then (((Fw k) ((4 : Int), o1.2.1, o1.2.2.1, o1.2.2.2)).bind fun o2 => some (false, o2.1, o2.2.1, o2.2.2)) else (((Fd k) (o1.2.1, o1.2.2.1, o1.2.2.2)).bind fun o3 => some (true, o3.2.2.2.2.1, o3.2.2.2.2.2.1, o3.2.2.2.2.2.2)))
theorem B6z (k : Nat) (x : H70) : Gq k x = A8c k x := (Af _ _).trans (by kernel_rfl)
theorem Vt (k : Nat) : Aa Tryz.prog 83 (Su k) := Ae (A8b k) k rfl ⟨⟨Mx k, trivial⟩, ⟨Ka k, trivial⟩, ⟨Jg k, trivial⟩, trivial⟩ Ad Tryz.func83 (by kernel_rfl)
def A67 : Sk := ⟨[], [], []⟩
def A68 : Sk := ⟨[.lf (.own 0)], [], [some (9, .str)]⟩
def A65 (k : Nat) : Cfg := mkC [] 50 0 0
def Vn (k : Nat) : Unit → Option (List (List Int)) := hid (Ac (A65 k) k Tryz.f130 A67 A68)
def Bml (k : Nat) : Sig := Ab A67 A68 (Vn k)
noncomputable def A66 (k : Nat) : Unit → Option (List (List Int))
 | _ => some ([([99, 121, 99, 108, 101] : List Int), ([116, 111] : List Int), ([98, 121] : List Int), ([112, 101, 97, 107] : List Int), ([110, 111, 100, 101] : List Int), ([104, 101, 97, 100] : List Int), ([118, 111, 108, 117, 109, 101] : List Int), ([102, 108, 111, 119] : List Int), ([117, 115, 101] : List Int), ([115, 112, 101, 101, 100] : List Int), ([103, 114, 97, 100, 101] : List Int), ([119, 105, 100, 116, 104] : List Int), ([108, 101, 110, 103, 116, 104] : List Int), ([103, 114, 101, 101, 110] : List Int), ([119, 97, 108, 107] : List Int), ([119, 105, 116, 104] : List Int), ([108, 111, 110, 103] : List Int), ([112, 97, 99, 101] : List Int), ([108, 101, 97, 115, 116] : List Int), ([112, 104, 97, 115, 101] : List Int), ([103, 114, 111, 117, 112] : List Int), ([114, 105, 110, 103] : List Int), ([102, 114, 101, 101] : List Int), ([102, 111, 101] : List Int), ([97, 114, 116, 101, 114, 121] : List Int), ([115, 116, 111, 112] : List Int), ([111, 117, 116] : List Int), ([105, 110] : List Int), ([97, 104, 101, 97, 100] : List Int), ([98, 97, 99, 107] : List Int), ([119, 101, 105, 103, 104, 116, 115] : List Int), ([112, 108, 97, 110] : List Int), ([111, 102, 102, 115, 101, 116] : List Int), ([115, 117, 109] : List Int), ([115, 112, 108, 105, 116] : List Int), ([121, 101, 108, 108, 111, 119] : List Int), ([114, 101, 100] : List Int), ([102, 108, 97, 115, 104] : List Int), ([98, 101, 115, 116] : List Int), ([121, 101, 115] : List Int), ([110, 111] : List Int), ([115, 112, 101, 110, 116] : List Int)] : List (List Int))
theorem B57 (k : Nat) (x : Unit) : Vn k x = A66 k x := (Af _ _).trans (by kernel_rfl)
theorem Buo (k : Nat) : Aa Tryz.prog 130 (Bml k) := Ae (A65 k) (l := []) k rfl trivial Ad Tryz.func130 (by kernel_rfl)
abbrev H71 : Type := (List Int) × (List (List Int))
def Aib : Sk := ⟨[.lf (.pv .str), .lf (.pv (.slice .str))], [], []⟩
def Aic : Sk := ⟨[.lf (.pv .bool)], [], []⟩
def A6z : Sk := ⟨sparse 18 [(0, .lf (.pv .str)), (1, .lf (.pv (.slice .str))), (5, .lf (.pv (.int .i64)))], [], []⟩
abbrev Ah9 := H20
def Rt : Ah9 → St := stOf A6z 66
def Hn (k : Nat) : FnX Bool := mkX ({ mkC [] 66 0 0 with hint := fun i => look none [(2, some A6z)] i }) k Tryz.f129 Aic
def Ab5 (k : Nat) : H71 → Option Bool := hid (Ac (Hn k).C k Tryz.f129 Aib Aic)
def Bmj (k : Nat) : Sig := Ab Aib Aic (Ab5 k)
noncomputable def Aia (k : Nat) (J : JF Bool) (L : LF Bool) : H71 → Option Bool
 | (a0, a1) => L 2 [] k (Rt (a0, a1, (0 : Int)))
theorem B51 (k : Nat) (x : H71) : Ab5 k x = Aia k (Hn k).J (Hn k).L x := by
 refine (Af _ _).trans ?_; apply cutX (Hn k) [] [] (st0 (Hn k).C Tryz.f129 Aib x) [] [(2, [], k)] (Aia k · · x) <;> intros <;> kernel_rfl
noncomputable def W1 (k j2 : Nat) (J : JF Bool) (L : LF Bool) : Ah9 → Option Bool
 | (a0, a1, a2) => bif (decide (a2 < ((List.length a1 : Nat) : Int))) then (bif (inB a2 (List.length a1)) then bif ((rdA [] a1 (Int.toNat a2)) == a0) then (some true) else (L 2 [] j2 (Rt (a0, a1, (IntKind.wrap .i64 (a2 + (1 : Int)))))) else none) else (some false)
theorem A6y (k j2 : Nat) (x : Ah9) : (Hn k).L 2 [] (j2 + 1) (Rt x) = W1 k j2 (Hn k).J (Hn k).L x := by
 apply cutX (Hn k) [.r, .l, .r, .b, .b] [j2] (Rt x) [] [(2, [], j2)] (W1 k j2 · · x) <;> intros <;> kernel_rfl
theorem Bum (k : Nat) : Aa Tryz.prog 129 (Bmj k) := Ae (Hn k).C (l := []) k rfl trivial Ad Tryz.func129 (by kernel_rfl)
def A62 : Sk := ⟨[.lf (.pv .str)], [], []⟩
def A63 : Sk := ⟨[.lf (.pv .bool)], [], []⟩
def B52 (k : Nat) : EnvL := [(130, [Bml k]), (129, [Bmj k])]
def A60 (k : Nat) : Cfg := mkC (B52 k) 55 0 0
def Pu (k : Nat) : (List Int) → Option Bool := hid (Ac (A60 k) k Tryz.f78 A62 A63)
def Aoe (k : Nat) : Sig := Ab A62 A63 (Pu k)
noncomputable def A61 (k : Nat) : (List Int) → Option Bool
 | a0 => ((Vn k) (())).bind fun o1 => ((Ab5 k) (a0, o1)).bind fun o2 => some o2
theorem B53 (k : Nat) (x : (List Int)) : Pu k x = A61 k x := (Af _ _).trans (by kernel_rfl)
theorem Aqn (k : Nat) : Aa Tryz.prog 78 (Aoe k) := Ae (A60 k) k rfl ⟨⟨Buo k, trivial⟩, ⟨Bum k, trivial⟩, trivial⟩ Ad Tryz.func78 (by kernel_rfl)
def Akh : Sk := ⟨[.lf (.ptr 0 0)], [q2], []⟩
def A80 : Sk := ⟨[.lf (.pv .str)], Akh.boxes, []⟩
def B7e (k : Nat) : EnvL := [(88, [Jr k]), (78, [Aoe k]), (86, [I4 k])]
def A8y (k : Nat) : Cfg := mkC (B7e k) 74 1 0
def Ek (k : Nat) : H65 → Option H67 := hid (Ac (A8y k) k Tryz.f133 Akh A80)
def Oq (k : Nat) : Sig := Ab Akh A80 (Ek k)
noncomputable def A8z (k : Nat) : H65 → Option H67
 | (a0, a1, a2) => idx zt8 a0 (0 : Int) fun o1 => bif (o1.1 != (1 : Int)) then (((Fw k) ((50 : Int), a0, a1, a2)).bind fun o2 => some (([] : List Int), o2.1, o2.2.1, o2.2.2)) else (idx zt8 a0 (0 : Int) fun o3 => ((Pu k) (o3.2.1)).bind fun o4 => bif o4 then (((Fw k) ((50 : Int), a0, a1, a2)).bind fun o5 => some (([] : List Int), o5.1, o5.2.1, o5.2.2)) else (((Fd k) (a0, a1, a2)).bind fun o6 => some (o6.2.1, o6.2.2.2.2.1, o6.2.2.2.2.2.1, o6.2.2.2.2.2.2)))
theorem B7f (k : Nat) (x : H65) : Ek k x = A8z k x := (Af _ _).trans (by kernel_rfl)
theorem P4 (k : Nat) : Aa Tryz.prog 133 (Oq k) := Ae (A8y k) k rfl ⟨⟨Ka k, trivial⟩, ⟨Aqn k, trivial⟩, ⟨Jg k, trivial⟩, trivial⟩ Ad Tryz.func133 (by kernel_rfl)
abbrev H72 : Type := (Bool) × (List (YT8)) × (Int) × (Int) × (List Int) × (Int) × (Int) × (Int) × (Int) × (Int) × (Int) × (Int) × (Int) × (Int) × (Int) × (List Int) × (Int) × (Int) × (Int) × (Int) × (Int) × (Int) × (Int) × (Int) × (Int) × (Int)
abbrev H73 : Type := (List (YT8)) × (Int) × (Int) × (List Int) × (Int) × (Int) × (Int) × (Int) × (Int) × (Int) × (Int) × (Int) × (Int) × (Int) × (List Int) × (Int) × (Int) × (Int) × (Int) × (Int) × (Int) × (Int) × (Int) × (Int) × (Int)
abbrev H74 : Type := (List Int) × (Int) × (Int) × (Int) × (Int) × (Int) × (Int) × (Int) × (Int) × (Int) × (Int) × (List (YT8)) × (Int) × (Int)
def Xg : Sk := ⟨[.lf (.ptr 0 0)], [q2], []⟩
def Ake : Sk := ⟨[.agg [.pv .str, .pv (.int .i64), .pv (.int .i64), .pv (.int .i64), .pv (.int .i64), .pv (.int .i64), .pv (.int .i64), .pv (.int .i64), .pv (.int .i64), .pv (.int .i64), .pv (.int .i64)]], Xg.boxes, []⟩
def A8q : Sk := ⟨sparse 55 [(0, .lf (.ptr 0 0)), (2, .lf (.ptr 1 0)), (3, .lf (.ptr 2 0)), (4, .lf (.pv .bool))], [q2, q9, q9], []⟩
abbrev Aj9 := H72
def R1 : Aj9 → St := stOf A8q 103
def A8r : Sk := ⟨sparse 55 [(0, .lf (.ptr 0 0)), (2, .lf (.ptr 1 0)), (3, .lf (.ptr 2 0))], [q2, q9, q9], []⟩
abbrev Aka := H73
def Nl : Aka → St := stOf A8r 103
def B68 (k : Nat) : EnvL := [(133, [Oq k]), (80, [Ot k]), (82, [Aog k]), (81, [Js k]), (85, [Mf k]), (86, [I4 k])]
def D4 (k : Nat) : FnX H74 := mkX ({ mkC (B68 k) 103 1 0 with hint := fun i => look none [(11, some A8q), (14, some A8r)] i, bl := [54, 56] }) k Tryz.f134 Ake
def Vx (k : Nat) : H65 → Option H74 := hid (Ac (D4 k).C k Tryz.f134 Xg Ake)
def Bm1 (k : Nat) : Sig := Ab Xg Ake (Vx k)
noncomputable def Akb (k : Nat) (J : JF H74) (L : LF H74) : H65 → Option H74
 | (a0, a1, a2) => idx zt8 a0 (0 : Int) fun o1 => ((Ek k) (a0, a1, a2)).bind fun o2 => ((C0 k) (([118, 111, 108, 117, 109, 101] : List Int), o2.2.1, o2.2.2.1, o2.2.2.2)).bind fun o3 => ((C0 k) (([102, 108, 111, 119] : List Int), o3.2.1, o3.2.2.1, o3.2.2.2)).bind fun o4 => ((P3 k) (([117, 115, 101] : List Int), o4.2.1, o4.2.2.1, o4.2.2.2)).bind fun o5 => ((C0 k) (([115, 112, 101, 101, 100] : List Int), o5.2.2.1, o5.2.2.2.1, o5.2.2.2.2)).bind fun o6 => ((Cm k) (([103, 114, 97, 100, 101] : List Int), o6.2.1, o6.2.2.1, o6.2.2.2)).bind fun o7 => ((Il k) (([45] : List Int), o7.1, o7.2.1, o7.2.2)).bind fun o8 => bif o8.1 then (((Fd k) (o8.2.1, o8.2.2.1, o8.2.2.2)).bind fun o9 => J 11 [] (R1 (o8.1, o9.2.2.2.2.1, o9.2.2.2.2.2.1, o9.2.2.2.2.2.2, ([] : List Int), (0 : Int), (0 : Int), (0 : Int), (0 : Int), (0 : Int), (0 : Int), (0 : Int), (0 : Int), (0 : Int), (0 : Int), o2.1, o3.1, o4.1, o5.1, o5.2.1, o6.1, (0 : Int), (0 : Int), (0 : Int), (0 : Int), o1.2.2.2.1))) else (J 11 [] (R1 (o8.1, o8.2.1, o8.2.2.1, o8.2.2.2, ([] : List Int), (0 : Int), (0 : Int), (0 : Int), (0 : Int), (0 : Int), (0 : Int), (0 : Int), (0 : Int), (0 : Int), (0 : Int), o2.1, o3.1, o4.1, o5.1, o5.2.1, o6.1, (0 : Int), (0 : Int), (0 : Int), (0 : Int), o1.2.2.2.1)))
theorem B69 (k : Nat) (x : H65) : Vx k x = Akb k (D4 k).J (D4 k).L x := by
 refine (Af _ _).trans ?_; apply cutX (D4 k) [] [] (st0 (D4 k).C Tryz.f134 Xg x) [(11, []), (14, [])] [] (Akb k · · x) <;> intros <;> kernel_rfl
noncomputable def Akc (k : Nat) (J : JF H74) (L : LF H74) : Aj9 → Option H74
 | (a0, a1, a2, a3, a4, a5, a6, a7, a8, a9, a10, a11, a12, a13, a14, a15, a16, a17, a18, a19, a20, a21, a22, a23, a24, a25) => ((C0 k) (([] : List Int), a1, a2, a3)).bind fun o1 => bif a0 then (J 14 [] (Nl (o1.2.1, o1.2.2.1, o1.2.2.2, a4, a5, a6, a7, a8, a9, a10, a11, a12, a13, a14, a15, a16, a17, a18, a19, a20, (negI .i64 o1.1), a22, a23, a24, a25))) else (J 14 [] (Nl (o1.2.1, o1.2.2.1, o1.2.2.2, a4, a5, a6, a7, a8, a9, a10, a11, a12, a13, a14, a15, a16, a17, a18, a19, a20, o1.1, a22, a23, a24, a25)))
theorem B7a (k : Nat) (x : Aj9) : (D4 k).J 11 [] (R1 x) = Akc k (D4 k).J (D4 k).L x := by
 apply cutX (D4 k) [.r, .r, .r, .r, .r, .r, .r, .r, .r, .r] [] (R1 x) [(11, []), (14, [])] [] (Akc k · · x) <;> intros <;> kernel_rfl
noncomputable def Akd (k : Nat) (J : JF H74) (L : LF H74) : Aka → Option H74
 | (a0, a1, a2, a3, a4, a5, a6, a7, a8, a9, a10, a11, a12, a13, a14, a15, a16, a17, a18, a19, a20, a21, a22, a23, a24) => ((C0 k) (([119, 105, 100, 116, 104] : List Int), a0, a1, a2)).bind fun o1 => ((C0 k) (([108, 101, 110, 103, 116, 104] : List Int), o1.2.1, o1.2.2.1, o1.2.2.2)).bind fun o2 => ((C0 k) (([103, 114, 101, 101, 110] : List Int), o2.2.1, o2.2.2.1, o2.2.2.2)).bind fun o3 => ((Cm k) (([59] : List Int), o3.2.1, o3.2.2.1, o3.2.2.2)).bind fun o4 => some (a14, a15, a16, a17, a18, a19, a20, o1.1, o2.1, o3.1, a24, o4.1, o4.2.1, o4.2.2)
theorem B7b (k : Nat) (x : Aka) : (D4 k).J 14 [] (Nl x) = Akd k (D4 k).J (D4 k).L x := by
 apply cutX (D4 k) [.r, .r, .r, .r, .r, .r, .r, .r, .r, .r, .r, .r] [] (Nl x) [(11, []), (14, [])] [] (Akd k · · x) <;> intros <;> kernel_rfl
theorem Bu4 (k : Nat) : Aa Tryz.prog 134 (Bm1 k) := Ae (D4 k).C k rfl ⟨⟨P4 k, trivial⟩, ⟨P7 k, trivial⟩, ⟨Aqp k, trivial⟩, ⟨Kb k, trivial⟩, ⟨Mx k, trivial⟩, ⟨Jg k, trivial⟩, trivial⟩ Ad Tryz.func134 (by kernel_rfl)
abbrev H75 : Type := (List Int) × (List Int) × (Int) × (Int) × (Int) × (Int) × (List (YT8)) × (Int) × (Int)
def Ala : Sk := ⟨[.lf (.ptr 0 0)], [q2], []⟩
def A9j : Sk := ⟨[.agg [.pv .str, .pv .str, .pv (.int .i64), .pv (.int .i64), .pv (.int .i64), .pv (.int .i64)]], Ala.boxes, []⟩
def B7z (k : Nat) : EnvL := [(133, [Oq k]), (81, [Js k]), (80, [Ot k])]
def A9h (k : Nat) : Cfg := { mkC (B7z k) 80 1 0 with bl := [54, 56] }
def V1 (k : Nat) : H65 → Option H75 := hid (Ac (A9h k) k Tryz.f135 Ala A9j)
def Bm6 (k : Nat) : Sig := Ab Ala A9j (V1 k)
noncomputable def A9i (k : Nat) : H65 → Option H75
 | (a0, a1, a2) => idx zt8 a0 (0 : Int) fun o1 => ((Ek k) (a0, a1, a2)).bind fun o2 => ((Cm k) (([119, 105, 116, 104] : List Int), o2.2.1, o2.2.2.1, o2.2.2.2)).bind fun o3 => ((Ek k) (o3.1, o3.2.1, o3.2.2)).bind fun o4 => ((C0 k) (([108, 111, 110, 103] : List Int), o4.2.1, o4.2.2.1, o4.2.2.2)).bind fun o5 => ((C0 k) (([112, 97, 99, 101] : List Int), o5.2.1, o5.2.2.1, o5.2.2.2)).bind fun o6 => ((C0 k) (([108, 101, 97, 115, 116] : List Int), o6.2.1, o6.2.2.1, o6.2.2.2)).bind fun o7 => ((Cm k) (([59] : List Int), o7.2.1, o7.2.2.1, o7.2.2.2)).bind fun o8 => some (o2.1, o4.1, o5.1, o6.1, o7.1, o1.2.2.2.1, o8.1, o8.2.1, o8.2.2)
theorem B70 (k : Nat) (x : H65) : V1 k x = A9i k x := (Af _ _).trans (by kernel_rfl)
theorem Bu9 (k : Nat) : Aa Tryz.prog 135 (Bm6 k) := Ae (A9h k) k rfl ⟨⟨P4 k, trivial⟩, ⟨Kb k, trivial⟩, ⟨P7 k, trivial⟩, trivial⟩ Ad Tryz.func135 (by kernel_rfl)
abbrev H76 : Type := (Int) × (List (YT8)) × (Int) × (Int) × (List (List Int))
abbrev H77 : Type := (List (YT8)) × (Int) × (Int) × (List (List Int))
def Xh : Sk := ⟨[.lf (.ptr 0 0), .lf (.pv (.int .i64))], [q2], []⟩
def Akn : Sk := ⟨[.lf (.own 0)], Xh.boxes, [some (9, .str)]⟩
def A81 : Sk := ⟨sparse 48 [(0, .lf (.ptr 0 0)), (1, .lf (.pv (.int .i64))), (5, .lf (.own 0))], [q2], [some (9, .str)]⟩
abbrev Aki := H76
def R2 : Aki → St := stOf A81 96
def A82 : Sk := ⟨sparse 48 [(0, .lf (.ptr 0 0)), (1, .lf (.pv (.int .i64))), (5, .lf (.own 0))], [q2], [some (9, .str)]⟩
abbrev Akj := H76
def Lt : Akj → St := stOf A82 96
def B7g (k : Nat) : EnvL := [(133, [Oq k]), (85, [Mf k]), (86, [I4 k]), (78, [Aoe k]), (88, [Jr k]), (81, [Js k])]
def Ec (k : Nat) : FnX H77 := mkX ({ mkC (B7g k) 96 1 0 with hint := fun i => look none [(2, some A81), (6, some A82)] i }) k Tryz.f136 Akn
def P5 (k : Nat) : H66 → Option H77 := hid (Ac (Ec k).C k Tryz.f136 Xh Akn)
def Aoh (k : Nat) : Sig := Ab Xh Akn (P5 k)
noncomputable def Akk (k : Nat) (J : JF H77) (L : LF H77) : H66 → Option H77
 | (a0, a1, a2, a3) => ((Ek k) (a1, a2, a3)).bind fun o1 => L 2 [] k (R2 (a0, o1.2.1, o1.2.2.1, o1.2.2.2, ([o1.1] : List (List Int))))
theorem B7h (k : Nat) (x : H66) : P5 k x = Akk k (Ec k).J (Ec k).L x := by
 refine (Af _ _).trans ?_; apply cutX (Ec k) [] [] (st0 (Ec k).C Tryz.f136 Xh x) [] [(2, [], k)] (Akk k · · x) <;> intros <;> kernel_rfl
noncomputable def Akm (k j2 : Nat) (J : JF H77) (L : LF H77) : Aki → Option H77
 | (a0, a1, a2, a3, a4) => ((Il k) (([44] : List Int), a1, a2, a3)).bind fun o1 => bif o1.1 then (((Fd k) (o1.2.1, o1.2.2.1, o1.2.2.2)).bind fun o2 => bif (((List.length a4 : Nat) : Int) == a0) then (idx zt8 o2.2.2.2.2.1 (0 : Int) fun o3 => bif (o3.1 == (1 : Int)) then (idx zt8 o2.2.2.2.2.1 (0 : Int) fun o4 => ((Pu k) (o4.2.1)).bind fun o5 => bif (!o5) then (((Fw k) ((4 : Int), o2.2.2.2.2.1, o2.2.2.2.2.2.1, o2.2.2.2.2.2.2)).bind fun o6 => J 6 [j2] (Lt (a0, o6.1, o6.2.1, o6.2.2, a4))) else (J 6 [j2] (Lt (a0, o2.2.2.2.2.1, o2.2.2.2.2.2.1, o2.2.2.2.2.2.2, a4)))) else (J 6 [j2] (Lt (a0, o2.2.2.2.2.1, o2.2.2.2.2.2.1, o2.2.2.2.2.2.2, a4)))) else (J 6 [j2] (Lt (a0, o2.2.2.2.2.1, o2.2.2.2.2.2.1, o2.2.2.2.2.2.2, a4)))) else (((Cm k) (([59] : List Int), o1.2.1, o1.2.2.1, o1.2.2.2)).bind fun o7 => some (o7.1, o7.2.1, o7.2.2, a4))
theorem B7j (k j2 : Nat) (x : Aki) : (Ec k).L 2 [] (j2 + 1) (R2 x) = Akm k j2 (Ec k).J (Ec k).L x := by
 apply cutX (Ec k) [.r, .r, .l, .b, .b] [j2] (R2 x) [(6, [j2])] [(2, [], j2)] (Akm k j2 · · x) <;> intros <;> kernel_rfl
noncomputable def Akl (k j2 : Nat) (J : JF H77) (L : LF H77) : Akj → Option H77
 | (a0, a1, a2, a3, a4) => ((Ek k) (a1, a2, a3)).bind fun o1 => app 16 a4 ([o1.1] : List (List Int)) fun o2 => L 2 [] j2 (R2 (a0, o1.2.1, o1.2.2.1, o1.2.2.2, o2))
theorem B7i (k j2 : Nat) (x : Akj) : (Ec k).J 6 [j2] (Lt x) = Akl k j2 (Ec k).J (Ec k).L x := by
 apply cutX (Ec k) [.r, .r, .l, .b, .b, .r, .b, .r, .r] [j2] (Lt x) [(6, [j2])] [(2, [], j2)] (Akl k j2 · · x) <;> intros <;> kernel_rfl
theorem Aqq (k : Nat) : Aa Tryz.prog 136 (Aoh k) := Ae (Ec k).C k rfl ⟨⟨P4 k, trivial⟩, ⟨Mx k, trivial⟩, ⟨Jg k, trivial⟩, ⟨Aqn k, trivial⟩, ⟨Ka k, trivial⟩, ⟨Kb k, trivial⟩, trivial⟩ Ad Tryz.func136 (by kernel_rfl)
abbrev H78 : Type := (List (YT8)) × (Int) × (Int) × (List (YT4))
abbrev H79 : Type := (List (YT8)) × (Int) × (Int) × (Bool) × (List (YT4))
def Xf : Sk := ⟨[.lf (.ptr 0 0)], [q2], []⟩
def Aj8 : Sk := ⟨[.agg [.own 0]], Xf.boxes, [some (104, yt4)]⟩
def A8p : Sk := ⟨sparse 36 [(0, .lf (.ptr 0 0)), (2, .lf (.ptr 1 0)), (3, .lf (.ptr 2 0))], [q2, [.nil .sl], [.own 0]], [some (104, yt4)]⟩
abbrev Rz := H78
def Ip : Rz → St := stOf A8p 85
def A8o : Sk := ⟨sparse 36 [(0, .lf (.ptr 0 0)), (2, .lf (.ptr 1 0)), (3, .lf (.ptr 2 0)), (4, .lf (.ptr 3 0))], [q2, [.nil .sl], [.own 0], [.pv .bool, .nil .sl]], [some (104, yt4)]⟩
abbrev Aj4 := H79
def R0 : Aj4 → St := stOf A8o 85
def B64 (k : Nat) : EnvL := [(81, [Js k]), (85, [Mf k]), (88, [Jr k]), (83, [Su k]), (86, [I4 k]), (136, [Aoh k])]
def C1 (k : Nat) : FnX H78 := mkX ({ mkC (B64 k) 85 1 0 with hint := fun i => look none [(5, some A8p), (10, some A8o)] i, bl := [54, 56] }) k Tryz.f137 Aj8
def Vw (k : Nat) : H65 → Option H78 := hid (Ac (C1 k).C k Tryz.f137 Xf Aj8)
def Bm0 (k : Nat) : Sig := Ab Xf Aj8 (Vw k)
noncomputable def Aj5 (k : Nat) (J : JF H78) (L : LF H78) : H65 → Option H78
 | (a0, a1, a2) => ((Cm k) (([123] : List Int), a0, a1, a2)).bind fun o1 => ((Il k) (([114, 105, 110, 103] : List Int), o1.1, o1.2.1, o1.2.2)).bind fun o2 => bif (!o2.1) then (((Fw k) ((50 : Int), o2.2.1, o2.2.2.1, o2.2.2.2)).bind fun o3 => J 5 [] (Ip (o3.1, o3.2.1, o3.2.2, []))) else (J 5 [] (Ip (o2.2.1, o2.2.2.1, o2.2.2.2, [])))
theorem B65 (k : Nat) (x : H65) : Vw k x = Aj5 k (C1 k).J (C1 k).L x := by
 refine (Af _ _).trans ?_; apply cutX (C1 k) [] [] (st0 (C1 k).C Tryz.f137 Xf x) [(5, [])] [(5, [], k)] (Aj5 k · · x) <;> intros <;> kernel_rfl
noncomputable def Xe (k : Nat) (J : JF H78) (L : LF H78) : Rz → Option H78
 | (a0, a1, a2, a3) => L 5 [] k (Ip (a0, a1, a2, a3))
theorem A8n (k : Nat) (x : Rz) : (C1 k).J 5 [] (Ip x) = Xe k (C1 k).J (C1 k).L x := by
 apply cutX (C1 k) [.r, .r, .r, .r] [] (Ip x) [(5, [])] [(5, [], k)] (Xe k · · x) <;> intros <;> kernel_rfl
noncomputable def Aj7 (k j5 : Nat) (J : JF H78) (L : LF H78) : Rz → Option H78
 | (a0, a1, a2, a3) => ((Gq k) (([114, 105, 110, 103] : List Int), ((List.length a3 : Nat) : Int), (2 : Int), a0, a1, a2)).bind fun o1 => bif o1.1 then (((Il k) (([102, 114, 101, 101] : List Int), o1.2.1, o1.2.2.1, o1.2.2.2)).bind fun o2 => bif o2.1 then (((Fd k) (o2.2.1, o2.2.2.1, o2.2.2.2)).bind fun o3 => J 10 [j5] (R0 (o3.2.2.2.2.1, o3.2.2.2.2.2.1, o3.2.2.2.2.2.2, o2.1, a3))) else (J 10 [j5] (R0 (o2.2.1, o2.2.2.1, o2.2.2.2, o2.1, a3)))) else (((Cm k) (([125] : List Int), o1.2.1, o1.2.2.1, o1.2.2.2)).bind fun o4 => some (o4.1, o4.2.1, o4.2.2, a3))
theorem B67 (k j5 : Nat) (x : Rz) : (C1 k).L 5 [] (j5 + 1) (Ip x) = Aj7 k j5 (C1 k).J (C1 k).L x := by
 apply cutX (C1 k) [.r, .r, .r, .r, .l, .b, .b] [j5] (Ip x) [(5, []), (10, [j5])] [(5, [], j5)] (Aj7 k j5 · · x) <;> intros <;> kernel_rfl
noncomputable def Aj6 (k j5 : Nat) (J : JF H78) (L : LF H78) : Aj4 → Option H78
 | (a0, a1, a2, a3, a4) => ((P5 k) ((4 : Int), a0, a1, a2)).bind fun o1 => app 32 a4 ([(a3, (o1.2.2.2, ()))] : List (YT4)) fun o2 => L 5 [] j5 (Ip (o1.1, o1.2.1, o1.2.2.1, o2))
theorem B66 (k j5 : Nat) (x : Aj4) : (C1 k).J 10 [j5] (R0 x) = Aj6 k j5 (C1 k).J (C1 k).L x := by
 apply cutX (C1 k) [.r, .r, .r, .r, .l, .b, .b, .r, .b, .r, .r, .r] [j5] (R0 x) [(5, []), (10, [j5])] [(5, [], j5)] (Aj6 k j5 · · x) <;> intros <;> kernel_rfl
theorem Bu3 (k : Nat) : Aa Tryz.prog 137 (Bm0 k) := Ae (C1 k).C k rfl ⟨⟨Kb k, trivial⟩, ⟨Mx k, trivial⟩, ⟨Ka k, trivial⟩, ⟨Vt k, trivial⟩, ⟨Jg k, trivial⟩, ⟨Aqq k, trivial⟩, trivial⟩ Ad Tryz.func137 (by kernel_rfl)
end
end Go.Proofs.YtipcabmhdokfjaaGreatDoorV
