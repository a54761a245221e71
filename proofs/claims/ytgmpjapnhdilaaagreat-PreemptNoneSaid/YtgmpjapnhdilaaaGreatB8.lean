import Derived.Test.YtgmpjapnhdilaaaGreatB7
import Derived.Test.YtgmpjapnhdilaaaGreatB4
/-! Joined, names shortened: H6, VM, QA, QB, QC, QD, QE, QF, QG, QH, QI, QJ, QK. -/
set_option linter.unusedSectionVars false
set_option linter.unusedVariables false
set_option linter.unusedSimpArgs false
set_option maxHeartbeats 4000000
set_option maxRecDepth 100000
namespace Go.Proofs.YtgmpjapnhdilaaaGreatV
open Go Go.RowKit
noncomputable section
abbrev H117 : Type := (Int) ⊕ ((Int) × (List Int) × (List (YT1)) × (List (YT2)) × (List (YT3)) × (Int) × (List Int) × (Int) × (List ((List (List (YT6))) × (Unit))) × (Int) × (Int) × (Int) × (Int) × (Int) × (List (YT11)))
def Akn : Sk := ⟨[.agg [.pv .str, .pv (.slice yt1), .pv (.slice yt2), .pv (.slice yt3), .pv (.slice (.cons (.slice yt4) .nil)), .pv (.slice yt7), .pv (.int .i64)], .agg [.pv .str, .pv (.int .i64), .pv (.slice (.cons (.slice (.slice yt6)) .nil)), .pv (.int .i64), .pv (.int .i64)]], [], []⟩
def Ako : Sk := ⟨[.lf (.nil .ptr), .lf (.pv (.int .i64))], [], []⟩
def Akp : Sk := ⟨[.lf (.ptr 0 0), .lf (.pv (.int .i64))], [q2], [some (100, yt11)]⟩
def Bgg (k : Nat) : EnvL := [(23, [Ld k]), (28, [sgsimnode k]), (29, [sgsimcopied k]), (27, [Ht k]), (30, [Pz k]), (31, [P2 k])]
def A09 (k : Nat) : Cfg := { mkC (Bgg k) 140 0 0 with ef := [(44, (([66], [94]), ([], [92])))], ld := [(23, 9999), (24, 9999), (25, 66), (26, 9999), (27, 51), (29, 9999), (30, 9999), (31, 66), (34, 9999), (35, 9999), (36, 66), (39, 9999), (40, 9999), (41, 66)] }
def Fr (k : Nat) : H20 → Option H117 := hid (E2 (A09 k) k Tryz.f7 Akn Ako Akp)
def A8c (k : Nat) : Sig := ⟨Akn, Ako, F4 Akn.tys Ako.tys Akp (Fr k)⟩
noncomputable def Akm (k : Nat) : H20 → Option H117
 | (a0, a1, a2, a3, a4, a5, a6, a7, a8, a9, a10, a11) => ((E0 k) (a0, a1, a2, a3, a4, a5, a6, a7, a8, a9, a10, a11)).bind fun o1 => bif (!o1) then (some (.inl (180 : Int))) else (((csimnode k) (a0, a1, a2, a3, a4, a5, a6)).bind fun o2 => ((csimcopied k) (a7, a8, a9, a10, a11)).bind fun o3 => ((Du k) (a7, a8, a9, a10, a11)).bind fun o4 => ((Fq k) ((0 : Int), o2.1, o2.2.1, o2.2.2.1, o2.2.2.2.1, o2.2.2.2.2, o3.1, o3.2.1, o3.2.2.1, o3.2.2.2.1, o3.2.2.2.2, o4, (0 : Int), (0 : Int))).bind fun o5 => bif (!decide (o5.2.2.2.2.2.2.2.2.2.2.1 = 0)) then bif (!decide (o5.2.2.2.2.2.2.2.2.2.2.1 = 0)) then ((Gv k) ((IntKind.wrap .i64 (o5.2.2.2.2.2.2.2.2.2.2.1 - (Int.tmod (IntKind.wrap .i64 ((Int.tmod a8 o5.2.2.2.2.2.2.2.2.2.2.1) + o5.2.2.2.2.2.2.2.2.2.2.1)) o5.2.2.2.2.2.2.2.2.2.2.1))), o5.1, o5.2.1, o5.2.2.1, o5.2.2.2.1, o5.2.2.2.2.1, o5.2.2.2.2.2.1, o5.2.2.2.2.2.2.1, o5.2.2.2.2.2.2.2.1, o5.2.2.2.2.2.2.2.2.1, o5.2.2.2.2.2.2.2.2.2.1, o5.2.2.2.2.2.2.2.2.2.2.1, o5.2.2.2.2.2.2.2.2.2.2.2.1, o5.2.2.2.2.2.2.2.2.2.2.2.2.1, o5.2.2.2.2.2.2.2.2.2.2.2.2.2)).bind fun o6 => some (.inr ((0 : Int), o6.1, o6.2.1, o6.2.2.1, o6.2.2.2.1, o6.2.2.2.2.1, o6.2.2.2.2.2.1, o6.2.2.2.2.2.2.1, o6.2.2.2.2.2.2.2.1, o6.2.2.2.2.2.2.2.2.1, o6.2.2.2.2.2.2.2.2.2.1, o6.2.2.2.2.2.2.2.2.2.2.1, o6.2.2.2.2.2.2.2.2.2.2.2.1, o6.2.2.2.2.2.2.2.2.2.2.2.2.1, o6.2.2.2.2.2.2.2.2.2.2.2.2.2)) else none else none)
theorem A1a (k : Nat) (x : H20) : Fr k x = Akm k x := (Aj _ _).trans (by kernel_rfl)
theorem Bb2 (k : Nat) : Af Tryz.prog 7 (A8c k) := sgOK2 (A09 k) k Akp rfl ⟨⟨Ab0 k, trivial⟩, ⟨Aue k, trivial⟩, ⟨Aud k, trivial⟩, ⟨Ro k, trivial⟩, ⟨Atv k, trivial⟩, ⟨Aty k, trivial⟩, trivial⟩ Ag Tryz.func7 (by kernel_rfl)
abbrev H118 : Type := (List Int) × (Int) × (List Int) × (List (YT1)) × (List (YT2)) × (List (YT3)) × (List ((List (YT4)) × (Unit))) × (List (YT7)) × (Int)
def Aht : Sk := ⟨[.agg [.pv .str, .pv (.slice yt1), .pv (.slice yt2), .pv (.slice yt3), .pv (.slice (.cons (.slice yt4) .nil)), .pv (.slice yt7), .pv (.int .i64)], .lf (.pv .str)], [], []⟩
def Ahu : Sk := ⟨[.lf (.pv (.int .i64))], [], []⟩
def Azk : Sk := ⟨sparse 22 [(1, .lf (.pv .str)), (2, .lf (.ptr 0 0)), (5, .lf (.pv (.int .i64)))], [q14], []⟩
abbrev Ahr := H118
def Nw : Ahr → St := stOf Azk 70
def Dy (k : Nat) : FnX Int := mkX ({ mkC [] 70 0 0 with hint := fun i => look none [(2, some Azk)] i }) k Tryz.f8 Ahu
def Gt (k : Nat) : H76 → Option Int := hid (Ac (Dy k).C k Tryz.f8 Aht Ahu)
def A7y (k : Nat) : Sig := Ab Aht Ahu (Gt k)
noncomputable def Ahs (k : Nat) (J : JF Int) (L : LF Int) : H76 → Option Int
 | (a0, a1, a2, a3, a4, a5, a6, a7) => L 2 [] k (Nw (a7, (0 : Int), a0, a1, a2, a3, a4, a5, a6))
theorem Bfp (k : Nat) (x : H76) : Gt k x = Ahs k (Dy k).J (Dy k).L x := by
 refine (Aj _ _).trans ?_; apply cutX (Dy k) [] [] (st0 (Dy k).C Tryz.f8 Aht x) [] [(2, [], k)] (Ahs k · · x) <;> intros <;> kernel_rfl
noncomputable def Tt (k j2 : Nat) (J : JF Int) (L : LF Int) : Ahr → Option Int
 | (a0, a1, a2, a3, a4, a5, a6, a7, a8) => bif (decide (a1 < ((List.length a5 : Nat) : Int))) then (idx zt3 a5 a1 fun o1 => bif (o1.1 == a0) then (some a1) else (L 2 [] j2 (Nw (a0, (IntKind.wrap .i64 (a1 + (1 : Int))), a2, a3, a4, a5, a6, a7, a8)))) else (some (-1 : Int))
theorem Azj (k j2 : Nat) (x : Ahr) : (Dy k).L 2 [] (j2 + 1) (Nw x) = Tt k j2 (Dy k).J (Dy k).L x := by
 apply cutX (Dy k) [.r, .l, .r, .b, .b] [j2] (Nw x) [] [(2, [], j2)] (Tt k j2 · · x) <;> intros <;> kernel_rfl
theorem Bbs (k : Nat) : Af Tryz.prog 8 (A7y k) := Ah (Dy k).C (l := []) k rfl trivial Ag Tryz.func8 (by kernel_rfl)
abbrev H119 : Type := (List (Int)) × (List (Int)) × (Int)
abbrev H120 : Type := (List (Int)) × (List (Int))
def Aic : Sk := ⟨[.lf (.pv (.slice (.int .i64))), .lf (.pv (.slice (.int .i64)))], [], []⟩
def Aid : Sk := ⟨[.lf (.pv .bool)], [], []⟩
def Az6 : Sk := ⟨sparse 26 [(0, .lf (.pv (.slice (.int .i64)))), (1, .lf (.pv (.slice (.int .i64)))), (5, .lf (.pv (.int .i64)))], [], []⟩
abbrev Aia := H119
def N1 : Aia → St := stOf Az6 74
def D3 (k : Nat) : FnX Bool := mkX ({ mkC [] 74 0 0 with hint := fun i => look none [(4, some Az6)] i }) k Tryz.f35 Aid
def Mg (k : Nat) : H120 → Option Bool := hid (Ac (D3 k).C k Tryz.f35 Aic Aid)
def A74 (k : Nat) : Sig := Ab Aic Aid (Mg k)
noncomputable def Aib (k : Nat) (J : JF Bool) (L : LF Bool) : H120 → Option Bool
 | (a0, a1) => bif (((List.length a0 : Nat) : Int) != ((List.length a1 : Nat) : Int)) then (some false) else (L 4 [] k (N1 (a0, a1, (0 : Int))))
theorem Bfy (k : Nat) (x : H120) : Mg k x = Aib k (D3 k).J (D3 k).L x := by
 refine (Aj _ _).trans ?_; apply cutX (D3 k) [] [] (st0 (D3 k).C Tryz.f35 Aic x) [] [(4, [], k)] (Aib k · · x) <;> intros <;> kernel_rfl
noncomputable def T1 (k j4 : Nat) (J : JF Bool) (L : LF Bool) : Aia → Option Bool
 | (a0, a1, a2) => bif (decide (a2 < ((List.length a0 : Nat) : Int))) then (idxI a0 a2 fun o1 => idxI a1 a2 fun o2 => bif (o1 != o2) then (some false) else (L 4 [] j4 (N1 (a0, a1, (IntKind.wrap .i64 (a2 + (1 : Int))))))) else (some true)
theorem Az5 (k j4 : Nat) (x : Aia) : (D3 k).L 4 [] (j4 + 1) (N1 x) = T1 k j4 (D3 k).J (D3 k).L x := by
 apply cutX (D3 k) [.r, .r, .l, .r, .b, .b] [j4] (N1 x) [] [(4, [], j4)] (T1 k j4 · · x) <;> intros <;> kernel_rfl
theorem Bby (k : Nat) : Af Tryz.prog 35 (A74 k) := Ah (D3 k).C (l := []) k rfl trivial Ag Tryz.func35 (by kernel_rfl)
abbrev H121 : Type := (List (Int)) × (List (Int)) × (List (Int)) × (List (Int))
def Az3 : Sk := ⟨[.agg [.pv (.slice (.int .i64)), .pv (.slice (.int .i64))], .agg [.pv (.slice (.int .i64)), .pv (.slice (.int .i64))]], [], []⟩
def Az4 : Sk := ⟨[.lf (.pv .bool)], [], []⟩
def Bfw (k : Nat) : EnvL := [(35, [A74 k])]
def Az1 (k : Nat) : Cfg := mkC (Bfw k) 65 0 0
def Rm (k : Nat) : H121 → Option Bool := hid (Ac (Az1 k) k Tryz.f11 Az3 Az4)
def A73 (k : Nat) : Sig := Ab Az3 Az4 (Rm k)
noncomputable def Az2 (k : Nat) : H121 → Option Bool
 | (a0, a1, a2, a3) => ((Mg k) (a0, a2)).bind fun o1 => bif o1 then (((Mg k) (a1, a3)).bind fun o2 => some o2) else (some false)
theorem Bfx (k : Nat) (x : H121) : Rm k x = Az2 k x := (Aj _ _).trans (by kernel_rfl)
theorem Bbx (k : Nat) : Af Tryz.prog 11 (A73 k) := Ah (Az1 k) k rfl ⟨⟨Bby k, trivial⟩, trivial⟩ Ag Tryz.func11 (by kernel_rfl)
abbrev H122 : Type := (Int) × (List Int) × (Int) × (List Int) × (List (YT1)) × (List (YT2)) × (List (YT3)) × (List ((List (YT4)) × (Unit))) × (List (YT7)) × (Int) × (List Int) × (Int) × (List ((List (List (YT6))) × (Unit))) × (Int) × (Int) × (Int) × (Int) × (Int) × (List Int) × (Int) × (Int) × (Int) × (Int) × (List Int) × (List (YT1)) × (List (YT2)) × (List (YT3)) × (Int) × (List Int) × (Int) × (List ((List (List (YT6))) × (Unit))) × (Int) × (Int) × (Int) × (Int) × (Int) × (List Int) × (List (YT1)) × (List (YT2)) × (List (YT3)) × (Int) × (List Int) × (Int) × (List ((List (List (YT6))) × (Unit))) × (Int) × (Int) × (Int) × (Int) × (Int) × (List (Int)) × (List (Int)) × (List (YT11)) × (List (YT11))
abbrev H123 : Type := (List Int) × (List (YT1)) × (List (YT2)) × (List (YT3)) × (List ((List (YT4)) × (Unit))) × (List (YT7)) × (Int) × (List Int) × (Int) × (List ((List (List (YT6))) × (Unit))) × (Int) × (Int) × (Int)
def Anu : Sk := ⟨[.agg [.pv .str, .pv (.slice yt1), .pv (.slice yt2), .pv (.slice yt3), .pv (.slice (.cons (.slice yt4) .nil)), .pv (.slice yt7), .pv (.int .i64)], .agg [.pv .str, .pv (.int .i64), .pv (.slice (.cons (.slice (.slice yt6)) .nil)), .pv (.int .i64), .pv (.int .i64)], .lf (.pv (.int .i64))], [], []⟩
def Anv : Sk := ⟨[.lf (.pv .bool)], [], []⟩
def A3q : Sk := ⟨sparse 89 [(2, .lf (.pv (.int .i64))), (7, .lf (.ptr 0 0)), (9, .lf (.ptr 1 0)), (11, .lf (.pv .str)), (12, .lf (.pv (.int .i64)))], [q10, q6, q11], [some (2, (.int .i64)), some (3, (.int .i64)), some (100, yt11), some (100, yt11)]⟩
abbrev Anr := H122
def O3 : Anr → St := stOf A3q 143
def Bhh (k : Nat) : EnvL := [(4, [A8x k]), (5, [A8y k]), (6, [Ap2 k]), (7, [A8c k]), (8, [A7y k]), (9, [App k, Apq k]), (10, [Apm k]), (12, [Apl k]), (13, [Py k]), (11, [A73 k]), (14, [K9 k]), (15, [Apn k, Apo k])]
def D4 (k : Nat) : FnX Bool := mkX ({ mkC (Bhh k) 143 0 0 with hint := fun i => look none [(11, some A3q)] i }) k Tryz.f3 Anv
def Ach (k : Nat) : H123 → Option Bool := hid (Ac (D4 k).C k Tryz.f3 Anu Anv)
def Bjk (k : Nat) : Sig := Ab Anu Anv (Ach k)
noncomputable def Ans (k : Nat) (J : JF Bool) (L : LF Bool) : H123 → Option Bool
 | (a0, a1, a2, a3, a4, a5, a6, a7, a8, a9, a10, a11, a12) => ((Rt k) (a0, a1, a2, a3, a4, a5, a6, a7, a8, a9, a10, a11)).bind fun o1 => bif (!o1) then (((B2 k) (())).bind fun o2 => some o2) else (bif (decide (a12 < (0 : Int))) then (((B2 k) (())).bind fun o3 => some o3) else (bif (decide (a12 > (300 : Int))) then (((B2 k) (())).bind fun o4 => some o4) else (((Ej k) (a0, a1, a2, a3, a4, a5, a6, a7, a8, a9, a10, a11)).bind (orP (fun o5 => ((Fr k) (a0, a1, a2, a3, a4, a5, a6, a7, a8, a9, a10, a11)).bind (orP (fun o7 => bif (o5 != (0 : Int)) then (((B2 k) (())).bind fun o9 => some o9) else (bif (o7 != (0 : Int)) then (((B2 k) (())).bind fun o10 => some o10) else (((Gt k) (a0, a1, a2, a3, a4, a5, a6, ([110, 111, 32, 112, 104, 97, 115, 101, 32, 111, 102, 32, 116, 104, 105, 115, 32, 110, 111, 100, 101, 32, 104, 97, 115, 32, 116, 104, 105, 115, 32, 110, 97, 109, 101] : List Int))).bind fun o11 => bif (decide (o11 ≥ (0 : Int))) then (((B2 k) (())).bind fun o12 => some o12) else (none)))) (fun o8 => bif (o5 != (0 : Int)) then (((B2 k) (())).bind fun o13 => some o13) else (bif (o8.1 != (0 : Int)) then (((B2 k) (())).bind fun o14 => some o14) else (((Gt k) (a0, a1, a2, a3, a4, a5, a6, ([110, 111, 32, 112, 104, 97, 115, 101, 32, 111, 102, 32, 116, 104, 105, 115, 32, 110, 111, 100, 101, 32, 104, 97, 115, 32, 116, 104, 105, 115, 32, 110, 97, 109, 101] : List Int))).bind fun o15 => bif (decide (o15 ≥ (0 : Int))) then (((B2 k) (())).bind fun o16 => some o16) else (none)))))) (fun o6 => ((Fr k) (a0, a1, a2, a3, a4, a5, a6, a7, a8, a9, a10, a11)).bind (orP (fun o17 => bif (o6.1 != (0 : Int)) then (some false) else (bif (o17 != (0 : Int)) then (some false) else (((Gt k) (a0, a1, a2, a3, a4, a5, a6, ([110, 111, 32, 112, 104, 97, 115, 101, 32, 111, 102, 32, 116, 104, 105, 115, 32, 110, 111, 100, 101, 32, 104, 97, 115, 32, 116, 104, 105, 115, 32, 110, 97, 109, 101] : List Int))).bind fun o19 => bif (decide (o19 ≥ (0 : Int))) then (((B2 k) (())).bind fun o20 => some o20) else (none)))) (fun o18 => bif (o6.1 != (0 : Int)) then (some false) else (bif (o18.1 != (0 : Int)) then (some false) else (((Gt k) (a0, a1, a2, a3, a4, a5, a6, ([110, 111, 32, 112, 104, 97, 115, 101, 32, 111, 102, 32, 116, 104, 105, 115, 32, 110, 111, 100, 101, 32, 104, 97, 115, 32, 116, 104, 105, 115, 32, 110, 97, 109, 101] : List Int))).bind fun o21 => bif (decide (o21 ≥ (0 : Int))) then (((B2 k) (())).bind fun o22 => some o22) else (L 11 [] k (O3 (a12, ([110, 111, 32, 112, 104, 97, 115, 101, 32, 111, 102, 32, 116, 104, 105, 115, 32, 110, 111, 100, 101, 32, 104, 97, 115, 32, 116, 104, 105, 115, 32, 110, 97, 109, 101] : List Int), (0 : Int), o6.2.1, o6.2.2.1, o6.2.2.2.1, o6.2.2.2.2.1, o6.2.2.2.2.2.1, o6.2.2.2.2.2.2.1, o6.2.2.2.2.2.2.2.1, o6.2.2.2.2.2.2.2.2.1, o6.2.2.2.2.2.2.2.2.2.1, o6.2.2.2.2.2.2.2.2.2.2.1, o6.2.2.2.2.2.2.2.2.2.2.2.1, o6.2.2.2.2.2.2.2.2.2.2.2.2.1, o6.2.2.2.2.2.2.2.2.2.2.2.2.2.1, o6.2.2.2.2.2.2.2.2.2.2.2.2.2.2.1, o6.2.2.2.2.2.2.2.2.2.2.2.2.2.2.2.1, o6.2.2.2.2.2.2.2.2.2.2.2.2.2.2.2.2.1, o6.2.2.2.2.2.2.2.2.2.2.2.2.2.2.2.2.2.1, o6.2.2.2.2.2.2.2.2.2.2.2.2.2.2.2.2.2.2.1, o6.2.2.2.2.2.2.2.2.2.2.2.2.2.2.2.2.2.2.2.1, o6.2.2.2.2.2.2.2.2.2.2.2.2.2.2.2.2.2.2.2.2.1, o18.2.1, o18.2.2.1, o18.2.2.2.1, o18.2.2.2.2.1, o18.2.2.2.2.2.1, o18.2.2.2.2.2.2.1, o18.2.2.2.2.2.2.2.1, o18.2.2.2.2.2.2.2.2.1, o18.2.2.2.2.2.2.2.2.2.1, o18.2.2.2.2.2.2.2.2.2.2.1, o18.2.2.2.2.2.2.2.2.2.2.2.1, o18.2.2.2.2.2.2.2.2.2.2.2.2.1, o18.2.2.2.2.2.2.2.2.2.2.2.2.2.1, o6.2.2.2.2.2.2.2.2.2.2.2.2.2.2.2.2.2.2.2.2.2.1, o6.2.2.2.2.2.2.2.2.2.2.2.2.2.2.2.2.2.2.2.2.2.2.1, o6.2.2.2.2.2.2.2.2.2.2.2.2.2.2.2.2.2.2.2.2.2.2.2.1, o6.2.2.2.2.2.2.2.2.2.2.2.2.2.2.2.2.2.2.2.2.2.2.2.2.1, o6.2.2.2.2.2.2.2.2.2.2.2.2.2.2.2.2.2.2.2.2.2.2.2.2.2.1, o6.2.2.2.2.2.2.2.2.2.2.2.2.2.2.2.2.2.2.2.2.2.2.2.2.2.2.1, o6.2.2.2.2.2.2.2.2.2.2.2.2.2.2.2.2.2.2.2.2.2.2.2.2.2.2.2.1, o6.2.2.2.2.2.2.2.2.2.2.2.2.2.2.2.2.2.2.2.2.2.2.2.2.2.2.2.2.1, o6.2.2.2.2.2.2.2.2.2.2.2.2.2.2.2.2.2.2.2.2.2.2.2.2.2.2.2.2.2.1, o6.2.2.2.2.2.2.2.2.2.2.2.2.2.2.2.2.2.2.2.2.2.2.2.2.2.2.2.2.2.2.1, o6.2.2.2.2.2.2.2.2.2.2.2.2.2.2.2.2.2.2.2.2.2.2.2.2.2.2.2.2.2.2.2.1, o6.2.2.2.2.2.2.2.2.2.2.2.2.2.2.2.2.2.2.2.2.2.2.2.2.2.2.2.2.2.2.2.2.1, o6.2.2.2.2.2.2.2.2.2.2.2.2.2.2.2.2.2.2.2.2.2.2.2.2.2.2.2.2.2.2.2.2.2.1, [], o6.2.2.2.2.2.2.2.2.2.2.2.2.2.2.2.2.2.2.2.2.2.2.2.2.2.2.2.2.2.2.2.2.2.2.1, o18.2.2.2.2.2.2.2.2.2.2.2.2.2.2, o6.2.2.2.2.2.2.2.2.2.2.2.2.2.2.2.2.2.2.2.2.2.2.2.2.2.2.2.2.2.2.2.2.2.2.2))))))))))))
theorem Bhi (k : Nat) (x : H123) : Ach k x = Ans k (D4 k).J (D4 k).L x := by
 refine (Aj _ _).trans ?_; apply cutX (D4 k) [] [] (st0 (D4 k).C Tryz.f3 Anu x) [] [(11, [], k)] (Ans k · · x) <;> intros <;> kernel_rfl
noncomputable def Ant (k j11 : Nat) (J : JF Bool) (L : LF Bool) : Anr → Option Bool
 | (a0, a1, a2, a3, a4, a5, a6, a7, a8, a9, a10, a11, a12, a13, a14, a15, a16, a17, a18, a19, a20, a21, a22, a23, a24, a25, a26, a27, a28, a29, a30, a31, a32, a33, a34, a35, a36, a37, a38, a39, a40, a41, a42, a43, a44, a45, a46, a47, a48, a49, a50, a51, a52) => bif (decide (a2 < a0)) then (bif (inB (Int.tmod a2 (2 : Int)) (List.length ([([] : List Int), a1] : List (List Int)))) then ((Cc k) ((rdA [] ([([] : List Int), a1] : List (List Int)) (Int.toNat (Int.tmod a2 (2 : Int)))), a3, a4, a5, a6, a7, a8, a9, a10, a11, a12, a13, a14, a15, a16, a17, a18, a19, a20, a21, a22, a36, a37, a38, a39, a40, a41, a42, a43, a44, a45, a46, a47, a48, a49, a50, a52)).bind fun o1 => ((Rd k) (o1.1, o1.2.1, o1.2.2.1, o1.2.2.2.1, o1.2.2.2.2.1, o1.2.2.2.2.2.1, o1.2.2.2.2.2.2.1, o1.2.2.2.2.2.2.2.1, o1.2.2.2.2.2.2.2.2.1, o1.2.2.2.2.2.2.2.2.2.1, o1.2.2.2.2.2.2.2.2.2.2.1, o1.2.2.2.2.2.2.2.2.2.2.2.1, o1.2.2.2.2.2.2.2.2.2.2.2.2.1, o1.2.2.2.2.2.2.2.2.2.2.2.2.2.1, o1.2.2.2.2.2.2.2.2.2.2.2.2.2.2.1, o1.2.2.2.2.2.2.2.2.2.2.2.2.2.2.2.1, o1.2.2.2.2.2.2.2.2.2.2.2.2.2.2.2.2.1, o1.2.2.2.2.2.2.2.2.2.2.2.2.2.2.2.2.2.1, o1.2.2.2.2.2.2.2.2.2.2.2.2.2.2.2.2.2.2.1, o1.2.2.2.2.2.2.2.2.2.2.2.2.2.2.2.2.2.2.2.1, o1.2.2.2.2.2.2.2.2.2.2.2.2.2.2.2.2.2.2.2.2.1, o1.2.2.2.2.2.2.2.2.2.2.2.2.2.2.2.2.2.2.2.2.2.1, o1.2.2.2.2.2.2.2.2.2.2.2.2.2.2.2.2.2.2.2.2.2.2.1, o1.2.2.2.2.2.2.2.2.2.2.2.2.2.2.2.2.2.2.2.2.2.2.2.1, o1.2.2.2.2.2.2.2.2.2.2.2.2.2.2.2.2.2.2.2.2.2.2.2.2.1, o1.2.2.2.2.2.2.2.2.2.2.2.2.2.2.2.2.2.2.2.2.2.2.2.2.2.1, o1.2.2.2.2.2.2.2.2.2.2.2.2.2.2.2.2.2.2.2.2.2.2.2.2.2.2.1, o1.2.2.2.2.2.2.2.2.2.2.2.2.2.2.2.2.2.2.2.2.2.2.2.2.2.2.2.1, o1.2.2.2.2.2.2.2.2.2.2.2.2.2.2.2.2.2.2.2.2.2.2.2.2.2.2.2.2.1, o1.2.2.2.2.2.2.2.2.2.2.2.2.2.2.2.2.2.2.2.2.2.2.2.2.2.2.2.2.2.1, o1.2.2.2.2.2.2.2.2.2.2.2.2.2.2.2.2.2.2.2.2.2.2.2.2.2.2.2.2.2.2.1, o1.2.2.2.2.2.2.2.2.2.2.2.2.2.2.2.2.2.2.2.2.2.2.2.2.2.2.2.2.2.2.2.1, o1.2.2.2.2.2.2.2.2.2.2.2.2.2.2.2.2.2.2.2.2.2.2.2.2.2.2.2.2.2.2.2.2.1, o1.2.2.2.2.2.2.2.2.2.2.2.2.2.2.2.2.2.2.2.2.2.2.2.2.2.2.2.2.2.2.2.2.2.2.1, o1.2.2.2.2.2.2.2.2.2.2.2.2.2.2.2.2.2.2.2.2.2.2.2.2.2.2.2.2.2.2.2.2.2.1, o1.2.2.2.2.2.2.2.2.2.2.2.2.2.2.2.2.2.2.2.2.2.2.2.2.2.2.2.2.2.2.2.2.2.2.2)).bind fun o2 => bif (o2.1 != (0 : Int)) then (some false) else (((Rc k) (o2.2.1, o2.2.2.1, o2.2.2.2.1, o2.2.2.2.2.1, o2.2.2.2.2.2.1, o2.2.2.2.2.2.2.1, o2.2.2.2.2.2.2.2.1, o2.2.2.2.2.2.2.2.2.1, o2.2.2.2.2.2.2.2.2.2.1, o2.2.2.2.2.2.2.2.2.2.2.1, o2.2.2.2.2.2.2.2.2.2.2.2.1, o2.2.2.2.2.2.2.2.2.2.2.2.2.1, o2.2.2.2.2.2.2.2.2.2.2.2.2.2.1, o2.2.2.2.2.2.2.2.2.2.2.2.2.2.2.1, o2.2.2.2.2.2.2.2.2.2.2.2.2.2.2.2.1, o2.2.2.2.2.2.2.2.2.2.2.2.2.2.2.2.2.1, o2.2.2.2.2.2.2.2.2.2.2.2.2.2.2.2.2.2.1, o2.2.2.2.2.2.2.2.2.2.2.2.2.2.2.2.2.2.2.1, o2.2.2.2.2.2.2.2.2.2.2.2.2.2.2.2.2.2.2.2.1, o2.2.2.2.2.2.2.2.2.2.2.2.2.2.2.2.2.2.2.2.2.1, o2.2.2.2.2.2.2.2.2.2.2.2.2.2.2.2.2.2.2.2.2.2.1, o2.2.2.2.2.2.2.2.2.2.2.2.2.2.2.2.2.2.2.2.2.2.2.1, o2.2.2.2.2.2.2.2.2.2.2.2.2.2.2.2.2.2.2.2.2.2.2.2.1, o2.2.2.2.2.2.2.2.2.2.2.2.2.2.2.2.2.2.2.2.2.2.2.2.2.1, o2.2.2.2.2.2.2.2.2.2.2.2.2.2.2.2.2.2.2.2.2.2.2.2.2.2.1, o2.2.2.2.2.2.2.2.2.2.2.2.2.2.2.2.2.2.2.2.2.2.2.2.2.2.2.1, o2.2.2.2.2.2.2.2.2.2.2.2.2.2.2.2.2.2.2.2.2.2.2.2.2.2.2.2.1, o2.2.2.2.2.2.2.2.2.2.2.2.2.2.2.2.2.2.2.2.2.2.2.2.2.2.2.2.2.1, o2.2.2.2.2.2.2.2.2.2.2.2.2.2.2.2.2.2.2.2.2.2.2.2.2.2.2.2.2.2.1, o2.2.2.2.2.2.2.2.2.2.2.2.2.2.2.2.2.2.2.2.2.2.2.2.2.2.2.2.2.2.2.1, o2.2.2.2.2.2.2.2.2.2.2.2.2.2.2.2.2.2.2.2.2.2.2.2.2.2.2.2.2.2.2.2.1, o2.2.2.2.2.2.2.2.2.2.2.2.2.2.2.2.2.2.2.2.2.2.2.2.2.2.2.2.2.2.2.2.2.1, o2.2.2.2.2.2.2.2.2.2.2.2.2.2.2.2.2.2.2.2.2.2.2.2.2.2.2.2.2.2.2.2.2.2.1, o2.2.2.2.2.2.2.2.2.2.2.2.2.2.2.2.2.2.2.2.2.2.2.2.2.2.2.2.2.2.2.2.2.2.2.1, o2.2.2.2.2.2.2.2.2.2.2.2.2.2.2.2.2.2.2.2.2.2.2.2.2.2.2.2.2.2.2.2.2.2.2.2.1, o2.2.2.2.2.2.2.2.2.2.2.2.2.2.2.2.2.2.2.2.2.2.2.2.2.2.2.2.2.2.2.2.2.2.2.2.2)).bind fun o3 => ((Fo k) (a23, a24, a25, a26, a27, a28, a29, a30, a31, a32, a33, a34, a35, a51)).bind fun o4 => ((Rm k) (o3.2.2.2.2.2.2.2.2.2.2.2.2.2.2.2.2.2.2.2.2.2.2.2.2.2.2.2.2.2.2.2.2.2.2.2.2, [], o4.2.2.2.2.2.2.2.2.2.2.2.2.2.2.1, [])).bind fun o5 => bif (!o5) then (some false) else (((Fp k) (o4.1, o4.2.1, o4.2.2.1, o4.2.2.2.1, o4.2.2.2.2.1, o4.2.2.2.2.2.1, o4.2.2.2.2.2.2.1, o4.2.2.2.2.2.2.2.1, o4.2.2.2.2.2.2.2.2.1, o4.2.2.2.2.2.2.2.2.2.1, o4.2.2.2.2.2.2.2.2.2.2.1, o4.2.2.2.2.2.2.2.2.2.2.2.1, o4.2.2.2.2.2.2.2.2.2.2.2.2.1, o4.2.2.2.2.2.2.2.2.2.2.2.2.2.1)).bind fun o6 => L 11 [] j11 (O3 (a0, a1, (IntKind.wrap .i64 (a2 + (1 : Int))), o3.1, o3.2.1, o3.2.2.1, o3.2.2.2.1, o3.2.2.2.2.1, o3.2.2.2.2.2.1, o3.2.2.2.2.2.2.1, o3.2.2.2.2.2.2.2.1, o3.2.2.2.2.2.2.2.2.1, o3.2.2.2.2.2.2.2.2.2.1, o3.2.2.2.2.2.2.2.2.2.2.1, o3.2.2.2.2.2.2.2.2.2.2.2.1, o3.2.2.2.2.2.2.2.2.2.2.2.2.1, o3.2.2.2.2.2.2.2.2.2.2.2.2.2.1, o3.2.2.2.2.2.2.2.2.2.2.2.2.2.2.1, o3.2.2.2.2.2.2.2.2.2.2.2.2.2.2.2.1, o3.2.2.2.2.2.2.2.2.2.2.2.2.2.2.2.2.1, o3.2.2.2.2.2.2.2.2.2.2.2.2.2.2.2.2.2.1, o3.2.2.2.2.2.2.2.2.2.2.2.2.2.2.2.2.2.2.1, o3.2.2.2.2.2.2.2.2.2.2.2.2.2.2.2.2.2.2.2.1, o6.1, o6.2.1, o6.2.2.1, o6.2.2.2.1, o6.2.2.2.2.1, o6.2.2.2.2.2.1, o6.2.2.2.2.2.2.1, o6.2.2.2.2.2.2.2.1, o6.2.2.2.2.2.2.2.2.1, o6.2.2.2.2.2.2.2.2.2.1, o6.2.2.2.2.2.2.2.2.2.2.1, o6.2.2.2.2.2.2.2.2.2.2.2.1, o6.2.2.2.2.2.2.2.2.2.2.2.2.1, o3.2.2.2.2.2.2.2.2.2.2.2.2.2.2.2.2.2.2.2.2.1, o3.2.2.2.2.2.2.2.2.2.2.2.2.2.2.2.2.2.2.2.2.2.1, o3.2.2.2.2.2.2.2.2.2.2.2.2.2.2.2.2.2.2.2.2.2.2.1, o3.2.2.2.2.2.2.2.2.2.2.2.2.2.2.2.2.2.2.2.2.2.2.2.1, o3.2.2.2.2.2.2.2.2.2.2.2.2.2.2.2.2.2.2.2.2.2.2.2.2.1, o3.2.2.2.2.2.2.2.2.2.2.2.2.2.2.2.2.2.2.2.2.2.2.2.2.2.1, o3.2.2.2.2.2.2.2.2.2.2.2.2.2.2.2.2.2.2.2.2.2.2.2.2.2.2.1, o3.2.2.2.2.2.2.2.2.2.2.2.2.2.2.2.2.2.2.2.2.2.2.2.2.2.2.2.1, o3.2.2.2.2.2.2.2.2.2.2.2.2.2.2.2.2.2.2.2.2.2.2.2.2.2.2.2.2.1, o3.2.2.2.2.2.2.2.2.2.2.2.2.2.2.2.2.2.2.2.2.2.2.2.2.2.2.2.2.2.1, o3.2.2.2.2.2.2.2.2.2.2.2.2.2.2.2.2.2.2.2.2.2.2.2.2.2.2.2.2.2.2.1, o3.2.2.2.2.2.2.2.2.2.2.2.2.2.2.2.2.2.2.2.2.2.2.2.2.2.2.2.2.2.2.2.1, o3.2.2.2.2.2.2.2.2.2.2.2.2.2.2.2.2.2.2.2.2.2.2.2.2.2.2.2.2.2.2.2.2.1, o3.2.2.2.2.2.2.2.2.2.2.2.2.2.2.2.2.2.2.2.2.2.2.2.2.2.2.2.2.2.2.2.2.2.1, o3.2.2.2.2.2.2.2.2.2.2.2.2.2.2.2.2.2.2.2.2.2.2.2.2.2.2.2.2.2.2.2.2.2.2.1, o6.2.2.2.2.2.2.2.2.2.2.2.2.2, o3.2.2.2.2.2.2.2.2.2.2.2.2.2.2.2.2.2.2.2.2.2.2.2.2.2.2.2.2.2.2.2.2.2.2.2.1)))) else none) else (((Re k) (a3, a4, a5, a6, a7, a8, a9, a10, a11, a12, a13, a14, a15, a16, a17, a18, a19, a20, a21, a22, a36, a37, a38, a39, a40, a41, a42, a43, a44, a45, a46, a47, a48, a49, a50, a52)).bind fun o7 => bif (o7.1 == a0) then (((B2 k) (())).bind fun o8 => some o8) else (some false))
theorem Bhj (k j11 : Nat) (x : Anr) : (D4 k).L 11 [] (j11 + 1) (O3 x) = Ant k j11 (D4 k).J (D4 k).L x := by
 apply cutX (D4 k) [.r, .r, .r, .r, .r, .r, .r, .l, .r, .b, .b] [j11] (O3 x) [] [(11, [], j11)] (Ant k j11 · · x) <;> intros <;> kernel_rfl
theorem Bcr (k : Nat) : Af Tryz.prog 3 (Bjk k) := Ah (D4 k).C k rfl ⟨⟨Bcq k, trivial⟩, ⟨Bcs k, trivial⟩, ⟨Atj k, trivial⟩, ⟨Bb2 k, trivial⟩, ⟨Bbs k, trivial⟩, ⟨Asy k, Asx k, trivial⟩, ⟨Asu k, trivial⟩, ⟨Ast k, trivial⟩, ⟨Atr k, trivial⟩, ⟨Bbx k, trivial⟩, ⟨Abe k, trivial⟩, ⟨Asw k, Asv k, trivial⟩, trivial⟩ Ag Tryz.func3 (by kernel_rfl)
end
section
variable {α β R : Type} {d : α} {l : List α} {i : Nat} {x : α}
theorem Av (h : l[i]? = some x) : i < l.length := (List.getElem?_eq_some_iff.1 h).1
theorem Ax (h : l[i]? = some x) : x ∈ l := List.mem_of_getElem? h
theorem Fk (h : l[i]? = some x) : l.drop i = x :: l.drop (i + 1) := by
 obtain ⟨h1, h2⟩ := List.getElem?_eq_some_iff.1 h
 rw [List.drop_eq_getElem_cons h1, h2]
theorem Ak {K : α → Option R} (h : l[i]? = some x) : idx d l (i : Int) K = K x := by
 have := Av h
 unfold idx
 rw [cinB, if_pos (by omega), Aox, List.getD_eq_getElem?_getD, h]
 rfl
theorem An4 {l : List Int} {x : Int} {K : Int → Option R} (h : l[i]? = some x) : idxI l (i : Int) K = K x := by
 have := Av h
 unfold idxI
 rw [cinB, if_pos (by omega), rdI_nat, List.getD_eq_getElem?_getD, h]
 rfl
theorem Ao {a b : β} (h : l[i]? = some x) : (bif decide ((i : Int) < ((l.length : Nat) : Int)) then a else b) = a := by
 have := Av h
 rw [cd, if_pos (by omega)]
theorem Aq {a b : β} : (bif decide (((l.length : Nat) : Int) < ((l.length : Nat) : Int)) then a else b) = b := by
 rw [cd, if_neg (by omega)]
theorem Ar (h : l[i]? = some x) (hl : l.length < 1000000) : IntKind.wrap .i64 ((i : Int) + 1) = ((i + 1 : Nat) : Int) := by
 have := Av h
 rw [w64 (by omega)]
 rfl
theorem cat_ok {a b : List Int} {K : List Int → Option R} (h : a.length + b.length ≤ 9223372036854775807) : cat a b K = K (a ++ b) := by
 unfold cat
 rw [cd]
 exact if_pos h
theorem Y8 {n : Nat} {a b : List α} {K : List α → Option R} (h : (a.length + b.length) * n ≤ 140737488355328) (h2 : a.length + b.length ≤ 9223372036854775807) : app n a b K = K (a ++ b) := by
 unfold app
 rw [cappB, if_pos ⟨h, h2⟩]
theorem Ce (hz : i ≤ l.length) : i = l.length ∨ ∃ x, l[i]? = some x := by
 by_cases h : i < l.length
 ·exact .inr ⟨l[i], List.getElem?_eq_getElem h⟩
 ·exact .inl (by omega)
theorem Qt (l : List α) (p : α → Bool) (g : α → Option Bool) (F : Nat → Int → Option Int) (hl : l.length < 1000000)
  (hF : ∀ j i, F (j + 1) i = bif decide (i < ((l.length : Nat) : Int)) then (idx d l i fun o => (g o).bind fun o2 => bif o2 then some i else F j (IntKind.wrap .i64 (i + 1))) else some (-1))
  (hg : ∀ x ∈ l, g x = some (p x)) : ∀ (j i : Nat), l.length < i + j → i ≤ l.length → ∃ r, F j (i : Int) = some r ∧ decide (r ≥ 0) = (l.drop i).any p
 | 0, i, h, hi => by omega
 | j + 1, i, h, hi => by
  rw [hF]
  rcases Ce hi with rfl | ⟨x, hx⟩
  ·rw [Aq, List.drop_length]
   exact ⟨_, rfl, rfl⟩
  ·rw [Ao hx, Ak hx, hg x (Ax hx), Option.bind_some, Ar hx hl, Fk hx, List.any_cons]
   cases p x with
   | true => exact ⟨_, rfl, by simp⟩
   | false => exact Qt l p g F hl hF hg j (i + 1) (by omega) (by have := Av hx; omega)
theorem Qs (l : List α) (p : α → Bool) : l.any (fun x => !p x) = !(l.all p) := by
 induction l with
 | nil => rfl
 | cons x r ih => rw [List.any_cons, List.all_cons, ih, Bool.not_and]
theorem Arh (l : List α) (p : α → Bool) (F : Nat → Int → Option R) (e r : Option R)
  (h1 : ∀ j i x, l[i]? = some x → F (j + 1) ((i : Nat) : Int) = if p x then F j ((i + 1 : Nat) : Int) else e) (h0 : ∀ j, F (j + 1) ((l.length : Nat) : Int) = r) :
  ∀ (j i : Nat), l.length < i + j → i ≤ l.length → F j (i : Int) = if (l.drop i).all p then r else e
 | 0, i, h, hi => by omega
 | j + 1, i, h, hi => by
  rcases Ce hi with rfl | ⟨x, hx⟩
  ·rw [h0, List.drop_length]
   rfl
  ·rw [h1 j i x hx, Fk hx, List.all_cons]
   cases p x with
   | true => exact Arh l p F e r h1 h0 j (i + 1) (by omega) (by have := Av hx; omega)
   | false => rfl
theorem Hy (l : List α) (p : α → Bool) (F : Nat → Int → Option R) (e r : Option R)
  (h1 : ∀ j i x, l[i]? = some x → F (j + 1) ((i : Nat) : Int) = if p x then F j ((i + 1 : Nat) : Int) else e) (h0 : ∀ j, F (j + 1) ((l.length : Nat) : Int) = r) (j : Nat) (h : l.length < j) :
  F j 0 = if l.all p then r else e := Arh l p F e r h1 h0 j 0 (by omega) (by omega)
theorem Avm (l : List α) (P : α → Prop) (Q : Prop) (F : Nat → Int → Option Bool)
  (h1 : ∀ j i x, l[i]? = some x → ∃ b : Bool, F (j + 1) ((i : Nat) : Int) = (if b then F j ((i + 1 : Nat) : Int) else some false) ∧ (b = true → P x))
  (h0 : ∀ j, ∃ b : Bool, F (j + 1) ((l.length : Nat) : Int) = some b ∧ (b = true → Q)) :
  ∀ (j i : Nat), l.length < i + j → i ≤ l.length → ∃ b : Bool, F j (i : Int) = some b ∧ (b = true → (∀ x ∈ l.drop i, P x) ∧ Q)
 | 0, i, h, hi => by omega
 | j + 1, i, h, hi => by
  rcases Ce hi with rfl | ⟨x, hx⟩
  ·obtain ⟨b, e, hb⟩ := h0 j
   exact ⟨b, e, fun h => ⟨by simp, hb h⟩⟩
  ·obtain ⟨b, e, hb⟩ := h1 j i x hx
   rw [e]
   cases b with
   | false => exact ⟨false, rfl, fun h => by cases h⟩
   | true =>
    obtain ⟨c, e2, hc⟩ := Avm l P Q F h1 h0 j (i + 1) (by omega) (by have := Av hx; omega)
    refine ⟨c, e2, fun h => ?_⟩
    rw [Fk hx]
    exact ⟨fun y hy => by rcases List.mem_cons.1 hy with rfl | hy; exact hb rfl; exact (hc h).1 y hy, (hc h).2⟩
theorem G6 (l : List α) (P : α → Prop) (Q : Prop) (F : Nat → Int → Option Bool)
  (h1 : ∀ j i x, l[i]? = some x → ∃ b : Bool, F (j + 1) ((i : Nat) : Int) = (if b then F j ((i + 1 : Nat) : Int) else some false) ∧ (b = true → P x))
  (h0 : ∀ j, ∃ b : Bool, F (j + 1) ((l.length : Nat) : Int) = some b ∧ (b = true → Q)) (j : Nat) (h : l.length < j) :
  ∃ b : Bool, F j 0 = some b ∧ (b = true → (∀ x ∈ l, P x) ∧ Q) := Avm l P Q F h1 h0 j 0 (by omega) (by omega)
theorem Ars (M : Nat) (l : List α) (f : α → List β) (F : Nat → Int → List β → Option R) (r : List β → Option R)
  (h1 : ∀ j i x b, l[i]? = some x → b.length + (f x).length ≤ M → F (j + 1) ((i : Nat) : Int) b = F j ((i + 1 : Nat) : Int) (b ++ f x)) (h0 : ∀ j b, b.length ≤ M → F (j + 1) ((l.length : Nat) : Int) b = r b) :
  ∀ (j i : Nat) (b : List β), l.length < i + j → i ≤ l.length → b.length + ((l.drop i).flatMap f).length ≤ M → F j (i : Int) b = r (b ++ (l.drop i).flatMap f)
 | 0, i, b, h, hi, hb => by omega
 | j + 1, i, b, h, hi, hb => by
  rcases Ce hi with rfl | ⟨x, hx⟩
  ·rw [h0 _ _ (by omega), List.drop_length]
   simp
  ·rw [Fk hx, List.flatMap_cons, List.length_append] at hb
   rw [h1 j i x b hx (by omega), Ars M l f F r h1 h0 j (i + 1) (b ++ f x) (by omega) (by have := Av hx; omega) (by rw [List.length_append]; omega), Fk hx, List.flatMap_cons, List.append_assoc]
theorem A9k (M : Nat) (l : List α) (f : α → List β) (F : Nat → Int → List β → Option R) (r : List β → Option R)
  (h1 : ∀ j i x b, l[i]? = some x → b.length + (f x).length ≤ M → F (j + 1) ((i : Nat) : Int) b = F j ((i + 1 : Nat) : Int) (b ++ f x)) (h0 : ∀ j b, b.length ≤ M → F (j + 1) ((l.length : Nat) : Int) b = r b)
  (j : Nat) (b : List β) (h : l.length < j) (hb : b.length + (l.flatMap f).length ≤ M) : F j 0 b = r (b ++ l.flatMap f) :=
 Ars M l f F r h1 h0 j 0 b (by omega) (by omega) hb
theorem Aw7 (f : α → List β) (m : Nat) : ∀ (l : List α), (∀ x ∈ l, (f x).length ≤ m) → (l.flatMap f).length ≤ l.length * m
 | [], _ => by simp
 | x :: r, h => by
  have := h x (by simp)
  have IH := Aw7 f m r fun y hy => h y (by simp [hy])
  rw [List.flatMap_cons, List.length_append, List.length_cons, Nat.add_mul]
  omega
end
abbrev Hx := YT5
abbrev A8 := YT6
abbrev Ba := (List (List YT6)) × Unit
abbrev TimT := YT10
abbrev PlanT := H12
abbrev NetT := H6
def sh (s : List Int) : Prop := s.length ≤ 100
structure NodeS (n : YT8) : Prop where
 nm : sh n.1
 hl : n.2.1.length ≤ 50
 hd : n.2.1.length ≤ 16 → ∀ h ∈ n.2.1, sh h.1
 pl : n.2.2.1.length ≤ 50
 pd : ∀ p ∈ n.2.2.1, sh p.1 ∧ sh p.2.1
 xl : n.2.2.2.1.length ≤ 50
 xd : ∀ x ∈ n.2.2.2.1, sh x.1 ∧ x.2.1.length ≤ 50 ∧ (x.2.1.length ≤ 50 → ∀ s ∈ x.2.1, sh s)
 gl : n.2.2.2.2.1.length ≤ 50
 gd : ∀ g ∈ n.2.2.2.2.1, g.1.length ≤ 5 ∧ ∀ r ∈ g.1, r.2.1.length ≤ 50 ∧ (r.2.1.length ≤ 50 → ∀ s ∈ r.2.1, sh s)
 fl : n.2.2.2.2.2.1.length ≤ 80
 fd : ∀ f ∈ n.2.2.2.2.2.1, sh f.1 ∧ sh f.2.1
structure NetS (n : NetT) : Prop where
 nl : n.2.2.2.2.2.1.length ≤ 15
 nd : ∀ x ∈ n.2.2.2.2.2.1, NodeS x
 sl : n.2.2.2.2.2.2.1.length ≤ 15
 sd : ∀ s ∈ n.2.2.2.2.2.2.1, sh s.1 ∧ sh s.2.1 ∧ sh s.2.2.1
def Gives (c : Option Bool) (P : Prop) : Prop := ∃ b : Bool, c = some b ∧ (b = true → P)
theorem An3 {P : Prop} : Gives (some false) P := ⟨false, rfl, fun h => by cases h⟩
theorem Hg {p P : Prop} [Decidable p] {c : Option Bool} (h : ¬ p → Gives c P) : Gives (bif decide p then some false else c) P := by
 by_cases hp : p
 ·rw [cd, if_pos hp]; exact An3
 ·rw [cd, if_neg hp]; exact h hp
theorem Bhp {P Q : Prop} {a : Option Bool} {c : Option Bool} (h1 : Gives a P) (h2 : P → Gives c Q) : Gives (a.bind fun o => bif !o then some false else c) Q := by
 obtain ⟨b, rfl, hb⟩ := h1
 cases b with
 | false => exact An3
 | true => exact h2 (hb rfl)
theorem Qd {P : Prop} {a c : Option Bool} (h1 : Gives a P) : ∃ b : Bool, (a.bind fun o => bif !o then some false else c) = (if b then c else some false) ∧ (b = true → P) := by
 obtain ⟨b, rfl, hb⟩ := h1
 exact ⟨b, by cases b <;> rfl, hb⟩
theorem Ku {P Q : Prop} {c : Option Bool} (h : Gives c P) (h2 : P → Q) : Gives c Q := by
 obtain ⟨b, e, hb⟩ := h
 exact ⟨b, e, fun h => h2 (hb h)⟩
section
variable (k : Nat) (hk : 1000 ≤ k)
include hk
theorem Hu (l : List (List Int)) : Gives (Dv k l) (l.length ≤ 50 ∧ (l.length ≤ 50 → ∀ s ∈ l, sh s)) := by
 rw [Bhd, Ang]
 by_cases h50 : l.length ≤ 50
 ·have L := G6 l sh True (fun j i => (Dj k).L 2 [] j (Kp (l, i)))
   (fun j i x hx => by
    have := Av hx
    rw [Anf, O1, Ao hx, cd, if_pos (by omega), Ak hx, cd, Ar hx (by omega)]
    by_cases h : x.length ≤ 100
    ·exact ⟨true, by rw [if_neg (by omega)]; rfl, fun _ => h⟩
    ·exact ⟨false, by rw [if_pos (by omega)]; rfl, fun h => by cases h⟩)
   (fun j => ⟨true, by rw [Anf, O1, Aq]; simp; omega, fun _ => trivial⟩) k (by omega)
  exact Ku L fun h => ⟨h50, fun _ => h.1⟩
 ·have L : ∀ j i : Nat, i ≤ 50 → 50 < i + j → (Dj k).L 2 [] j (Kp (l, (i : Int))) = some false := by
   intro j
   induction j with
   | zero => intro i h1 h2; omega
   | succ j ih =>
    intro i h1 h2
    rw [Anf, O1, cd, if_pos (by omega), cd]
    by_cases hi : i < 50
    ·obtain ⟨x, hx⟩ : ∃ x, l[i]? = some x := ⟨l[i], List.getElem?_eq_getElem (by omega)⟩
     rw [if_pos (by omega), Ak hx, cd, w64 (by omega), Fe, ih (i + 1) (by omega) (by omega)]
     split <;> rfl
    ·rw [if_neg (by omega)]
     simp; omega
  have := L k 0 (by omega) (by omega)
  rw [show (0 : Int) = ((0 : Nat) : Int) from rfl, this]
  exact An3
theorem Bik (n : YT8) : Gives (Rr k (n.1, n.2.1, n.2.2.1, n.2.2.2.1, n.2.2.2.2.1, n.2.2.2.2.2.1, n.2.2.2.2.2.2.1)) (NodeS n) := by
 obtain ⟨a0, a1, a2, a3, a4, a5, a6, a7⟩ := n
 rw [Bhb, Am9]
 refine Hg fun (h1 : ¬ ((a1.length : Nat) : Int) > 50) => Hg fun (h2 : ¬ ((a2.length : Nat) : Int) > 50) => Hg fun (h3 : ¬ ((a3.length : Nat) : Int) > 50) => Hg fun (h4 : ¬ ((a4.length : Nat) : Int) > 50) => Hg fun (h5 : ¬ ((a5.length : Nat) : Int) > 80) => ?_
 have L5 : Gives ((Aw k).L 31 [] k (Ko (0, a0, a1, a2, a3, a4, a5, a6))) _ := G6 a5 (fun f => sh f.1 ∧ sh f.2.1) True (fun j i => (Aw k).L 31 [] j (Ko (i, a0, a1, a2, a3, a4, a5, a6)))
  (fun j i x hx => by
   rw [A23, Vy, Ao hx, Ak hx, Ak hx, Ar hx (by omega)]
   exact Qd (Ku (Hu k hk [x.1, x.2.1]) fun h => by simpa using h.2 (by simp)))
  (fun j => ⟨true, by rw [A23, Vy, Aq], fun _ => trivial⟩) k (by omega)
 have L4 : Gives ((Aw k).L 21 [] k (Hf (0, a0, a1, a2, a3, a4, a5, a6))) _ := G6 a4 (fun g => g.1.length ≤ 5 ∧ ∀ r ∈ g.1, r.2.1.length ≤ 50 ∧ (r.2.1.length ≤ 50 → ∀ s ∈ r.2.1, sh s)) _ (fun j i => (Aw k).L 21 [] j (Hf (i, a0, a1, a2, a3, a4, a5, a6)))
  (fun j i x hx => by
   rw [A22, Vx, Ao hx, Ak hx, cd]
   by_cases hg : ((x.1.length : Nat) : Int) > 5
   ·rw [if_pos hg]
    exact ⟨false, rfl, fun h => by cases h⟩
   ·rw [if_neg hg]
    have LI : ∀ (j' i' : Nat), x.1.length < i' + j' → i' ≤ x.1.length → ∃ b : Bool, (Aw k).L 26 [j] j' (Oz ((i : Int), (i' : Int), a0, a1, a2, a3, a4, a5, a6)) = (if b then (Aw k).L 21 [] j (Hf (((i + 1 : Nat) : Int), a0, a1, a2, a3, a4, a5, a6)) else some false) ∧ (b = true → ∀ r ∈ x.1.drop i', r.2.1.length ≤ 50 ∧ (r.2.1.length ≤ 50 → ∀ s ∈ r.2.1, sh s)) := by
     intro j'
     induction j' with
     | zero => intro i' h1 h2; omega
     | succ j' ih =>
      intro i' h1 h2
      rw [Bhc, Ana, Ak hx]
      rcases Ce h2 with rfl | ⟨r, hr⟩
      ·rw [Aq, Ar hx (by omega)]
       exact ⟨true, rfl, fun _ => by simp⟩
      ·rw [Ao hr, Ak hx, Ak hr, Ar hr (by omega)]
       obtain ⟨b, e, hb⟩ : Gives (Dv k r.2.1) (r.2.1.length ≤ 50 ∧ (r.2.1.length ≤ 50 → ∀ s ∈ r.2.1, sh s)) := Hu k hk _
       obtain ⟨c, e2, hc⟩ := ih (i' + 1) (by omega) (by have := Av hr; omega)
       rw [e, Option.bind_some, e2]
       cases b with
       | false => exact ⟨false, rfl, fun h => by cases h⟩
       | true =>
        refine ⟨c, rfl, fun h => ?_⟩
        rw [Fk hr]
        intro y hy
        rcases List.mem_cons.1 hy with rfl | hy
        ·exact hb rfl
        ·exact hc h y hy
    obtain ⟨b, e, hb⟩ := LI k 0 (by omega) (by omega)
    refine ⟨b, e, fun h => ⟨by omega, ?_⟩⟩
    exact hb h)
  (fun j => by rw [A22, Vx, Aq]; exact L5) k (by omega)
 have L3 : Gives ((Aw k).L 16 [] k (He (0, a0, a1, a2, a3, a4, a5, a6))) _ := G6 a3 (fun x => sh x.1 ∧ x.2.1.length ≤ 50 ∧ (x.2.1.length ≤ 50 → ∀ s ∈ x.2.1, sh s)) _ (fun j i => (Aw k).L 16 [] j (He (i, a0, a1, a2, a3, a4, a5, a6)))
  (fun j i x hx => by
   rw [A21, Vw, Ao hx, Ak hx, Ak hx, Ar hx (by omega)]
   obtain ⟨b, e, hb⟩ := Hu k hk [x.1]
   rw [e, Option.bind_some]
   cases b with
   | false => exact ⟨false, rfl, fun h => by cases h⟩
   | true =>
    obtain ⟨c, e2, hc⟩ := Qd (c := (Aw k).L 16 [] j (He (((i + 1 : Nat) : Int), a0, a1, a2, a3, a4, a5, a6))) (Hu k hk x.2.1)
    exact ⟨c, e2, fun h => ⟨by simpa using (hb rfl).2 (by simp), hc h⟩⟩)
  (fun j => by rw [A21, Vw, Aq]; exact L4) k (by omega)
 have L2 : Gives ((Aw k).L 11 [] k (Kn (0, a0, a1, a2, a3, a4, a5, a6))) _ := G6 a2 (fun p => sh p.1 ∧ sh p.2.1) _ (fun j i => (Aw k).L 11 [] j (Kn (i, a0, a1, a2, a3, a4, a5, a6)))
  (fun j i x hx => by
   rw [A20, Vu, Ao hx, Ak hx, Ak hx, Ar hx (by omega)]
   exact Qd (Ku (Hu k hk [x.1, x.2.1]) fun h => by simpa using h.2 (by simp)))
  (fun j => by rw [A20, Vu, Aq]; exact L3) k (by omega)
 have L1 := A9k 1000 a1 (fun h => [h.1]) (fun j i b => (Aw k).L 5 [] j (O0 (i, a0, a1, a2, a3, a4, a5, a6, b))) _
  (fun j i x b hx hb => by
   rw [List.length_singleton] at hb
   rw [A24, Vz, Ao hx, Ak hx, Y8 (by rw [List.length_singleton]; omega) (by rw [List.length_singleton]; omega), Ar hx (by omega)])
  (fun j b hb => by rw [A24, Vz, Aq]) k [a0] (by omega) (by have := Aw7 (fun h : YT1 => [h.1]) 1 a1 (by simp); simp at this ⊢; omega)
 have eb : [a0] ++ a1.flatMap (fun h : YT1 => [h.1]) = a0 :: a1.map (fun h : YT1 => h.1) := by
  rw [List.singleton_append, List.map_eq_flatMap]
 rw [L1, eb]
 generalize hb : a0 :: a1.map (fun h : YT1 => h.1) = b
 have hl : b.length = a1.length + 1 := by rw [← hb]; simp
 obtain ⟨m, hm, h1m, hm2⟩ : ∃ m : Nat, minI ((b.length : Nat) : Int) 50 = (m : Int) ∧ 1 ≤ m ∧ m ≤ b.length ∧ (b.length ≤ 50 → m = b.length) := by
  by_cases h : b.length ≤ 50
  ·exact ⟨b.length, by unfold minI; split <;> omega, by omega, by omega, fun _ => rfl⟩
  ·exact ⟨50, by unfold minI; split <;> omega, by omega, by omega, fun h => by omega⟩
 rw [hm, ccutB, if_pos (by omega), show (0 : Int) = ((0 : Nat) : Int) from rfl, Au0, List.drop_zero]
 refine Bhp (Hu k hk _) fun hs => ?_
 have h0 := hs.2 hs.1
 refine Ku L2 fun h => ⟨h0 a0 ?_, by simp only; omega, fun h16 y hy => h0 y.1 ?_, by simp only; omega, h.1, by simp only; omega, h.2.1, by simp only; omega, h.2.2.1, by simp only; omega, h.2.2.2.1⟩
 ·rw [← hb]
  obtain ⟨m', rfl⟩ : ∃ m', m = m' + 1 := ⟨m - 1, by omega⟩
  rw [List.take_succ_cons]
  exact List.mem_cons_self
 ·simp only at h16 hy
  rw [hm2.2 (by omega), List.take_length, ← hb]
  exact List.mem_cons_of_mem _ (List.mem_map_of_mem hy)
theorem Bd3 (n : NetT) : Gives (Rq k n) (NetS n) := by
 obtain ⟨a0, a1, a2, a3, a4, a5, a6, a7, a8⟩ := n
 rw [Bg9, Am0]
 refine Hg fun (h1 : ¬ ((a5.length : Nat) : Int) > 15) => Hg fun (h2 : ¬ ((a6.length : Nat) : Int) > 15) => ?_
 have L2 : Gives ((B5 k).L 9 [] k (Km (0, a0, a1, a2, a3, a4, a5, a6, a7, a8))) _ := G6 a6 (fun s => sh s.1 ∧ sh s.2.1 ∧ sh s.2.2.1) True (fun j i => (B5 k).L 9 [] j (Km (i, a0, a1, a2, a3, a4, a5, a6, a7, a8)))
  (fun j i x hx => by
   rw [A2x, Vt, Ao hx, Ak hx, Ak hx, Ak hx, Ar hx (by omega)]
   exact Qd (Ku (Hu k hk [x.1, x.2.1, x.2.2.1]) fun h => by simpa using h.2 (by simp)))
  (fun j => ⟨true, by rw [A2x, Vt, Aq], fun _ => trivial⟩) k (by omega)
 have L1 : Gives ((B5 k).L 4 [] k (Kl (0, a0, a1, a2, a3, a4, a5, a6, a7, a8))) _ := G6 a5 NodeS _ (fun j i => (B5 k).L 4 [] j (Kl (i, a0, a1, a2, a3, a4, a5, a6, a7, a8)))
  (fun j i x hx => by
   rw [A2w, Vs, Ao hx, Ak hx, Ar hx (by omega)]
   exact Qd (Bik k hk x))
  (fun j => by rw [A2w, Vs, Aq]; exact L2) k (by omega)
 exact Ku L1 fun h => ⟨by simp only; omega, h.1, by simp only; omega, h.2.1⟩
end
theorem gt_n {α : Type} (l : List α) (n : Nat) : decide (((l.length : Nat) : Int) > ((n : Nat) : Int)) = !(decide (l.length ≤ n)) := by
 by_cases h : l.length ≤ n
 ·rw [decide_eq_true h]; simp; omega
 ·rw [decide_eq_false h]; simp; omega
theorem Kw {β : Type} {a b : Bool} {y e : β} : (if a then (if b then y else e) else e) = if a && b then y else e := by cases a <;> cases b <;> rfl
def wlkF (w : Hx) : Bool := decide (w.1.length ≤ 100)
def Qb (s : A8) : Bool := decide (s.1.length ≤ 100) && (decide (s.2.2.2.2.1.length ≤ 12) && s.2.2.2.2.1.all wlkF)
def Wv (l : List A8) : Bool := decide (l.length ≤ 8) && l.all Qb
def Ys (g : Ba) : Bool := decide (g.1.length ≤ 6) && g.1.all Wv
def timF (t : TimT) : Bool := decide (t.1.length ≤ 100) && (decide (t.2.2.1.length ≤ 6) && t.2.2.1.all Ys)
def Wr (p : PlanT) : Bool := decide (p.2.1.length ≤ 15) && p.2.1.all timF
theorem cif {β : Type} {b : Bool} {y e : β} : (bif !b then e else y) = if b then y else e := by cases b <;> rfl
theorem Bd4 (k : Nat) (hk : 1000 ≤ k) (p : PlanT) : Rs k p = some (Wr p) := by
 obtain ⟨a0, a1, a2, a3, a4, a5, a6, a7⟩ := p
 rw [Bhe, Ano, show decide (((a1.length : Nat) : Int) > (15 : Int)) = !(decide (a1.length ≤ 15)) from gt_n _ 15]
 unfold Wr
 simp only
 by_cases h15 : a1.length ≤ 15
 rotate_left
 ·rw [decide_eq_false h15]; rfl
 rw [decide_eq_true h15, Bool.not_true, cond_false, Bool.true_and]
 have L := Hy a1 timF (fun j i => (A2 k).L 4 [] j (Kt (i, a0, a1, a2, a3, a4, a5, a6, a7))) (some false) (some true)
  (fun j i x hx => by
   rw [A3g, V4, Ao hx, Ak hx, show decide (((x.1.length : Nat) : Int) > (100 : Int)) = !(decide (x.1.length ≤ 100)) from gt_n _ 100, show decide (((x.2.2.1.length : Nat) : Int) > (6 : Int)) = !(decide (x.2.2.1.length ≤ 6)) from gt_n _ 6, cif, cif]
   by_cases h6 : x.2.2.1.length ≤ 6
   rotate_left
   ·unfold timF; rw [decide_eq_false h6]; simp
   have LI := Hy x.2.2.1 Ys (fun j' i' => (A2 k).L 10 [j] j' (Kq ((i : Int), i', a0, a1, a2, a3, a4, a5, a6, a7, x.1, x.2.1, x.2.2.1, x.2.2.2.1.1, x.2.2.2.1.2.1))) (some false) ((A2 k).L 4 [] j (Kt (((i + 1 : Nat) : Int), a0, a1, a2, a3, a4, a5, a6, a7)))
    (fun j' i' g hg => by
     rw [A3c, V0, Ao hg, Ak hg, show decide (((g.1.length : Nat) : Int) > (6 : Int)) = !(decide (g.1.length ≤ 6)) from gt_n _ 6, cif]
     by_cases hg6 : g.1.length ≤ 6
     rotate_left
     ·unfold Ys; rw [decide_eq_false hg6]; simp
     have LR := Hy g.1 Wv (fun j'' i'' => (A2 k).L 15 [j, j'] j'' (Kr ((i : Int), (i' : Int), i'', a0, a1, a2, a3, a4, a5, a6, a7, x.1, x.2.1, x.2.2.1, x.2.2.2.1.1, x.2.2.2.1.2.1))) (some false) ((A2 k).L 10 [j] j' (Kq ((i : Int), ((i' + 1 : Nat) : Int), a0, a1, a2, a3, a4, a5, a6, a7, x.1, x.2.1, x.2.2.1, x.2.2.2.1.1, x.2.2.2.1.2.1)))
      (fun j2 i2 l hl => by
       rw [A3d, V1, Ak hg, Ao hl, Ak hg, Ak hl, show decide (((l.length : Nat) : Int) > (8 : Int)) = !(decide (l.length ≤ 8)) from gt_n _ 8, cif]
       by_cases hl8 : l.length ≤ 8
       rotate_left
       ·unfold Wv; rw [decide_eq_false hl8]; simp
       have LS := Hy l Qb (fun j3 i3 => (A2 k).L 21 [j, j', j2] j3 (Ks ((i : Int), (i' : Int), (i2 : Int), l, i3, a0, a1, a2, a3, a4, a5, a6, a7, x.1, x.2.1, x.2.2.1, x.2.2.2.1.1, x.2.2.2.1.2.1))) (some false) ((A2 k).L 15 [j, j'] j2 (Kr ((i : Int), (i' : Int), ((i2 + 1 : Nat) : Int), a0, a1, a2, a3, a4, a5, a6, a7, x.1, x.2.1, x.2.2.1, x.2.2.2.1.1, x.2.2.2.1.2.1)))
        (fun j3 i3 s hs => by
         rw [A3e, V2, Ao hs, Ak hs, Ak hs, show decide (((s.1.length : Nat) : Int) > (100 : Int)) = !(decide (s.1.length ≤ 100)) from gt_n _ 100, show decide (((s.2.2.2.2.1.length : Nat) : Int) > (12 : Int)) = !(decide (s.2.2.2.2.1.length ≤ 12)) from gt_n _ 12, cif, cif]
         by_cases hs12 : s.2.2.2.2.1.length ≤ 12
         rotate_left
         ·unfold Qb; rw [decide_eq_false hs12]; simp
         have LW := Hy s.2.2.2.2.1 wlkF (fun j4 i4 => (A2 k).L 26 [j, j', j2, j3] j4 (O2 ((i : Int), (i' : Int), (i2 : Int), l, (i3 : Int), i4, a0, a1, a2, a3, a4, a5, a6, a7, x.1, x.2.1, x.2.2.1, x.2.2.2.1.1, x.2.2.2.1.2.1))) (some false) ((A2 k).L 21 [j, j', j2] j3 (Ks ((i : Int), (i' : Int), (i2 : Int), l, ((i3 + 1 : Nat) : Int), a0, a1, a2, a3, a4, a5, a6, a7, x.1, x.2.1, x.2.2.1, x.2.2.2.1.1, x.2.2.2.1.2.1)))
          (fun j4 i4 w hw => by
           rw [A3f, V3, Ak hs, Ao hw, Ak hs, Ak hw, show decide (((w.1.length : Nat) : Int) > (100 : Int)) = !(decide (w.1.length ≤ 100)) from gt_n _ 100, cif, Ar hw (by omega)]
           rfl)
          (fun j4 => by rw [A3f, V3, Ak hs, Aq, Ar hs (by omega)]) k (by omega)
         rw [LW, Kw, Kw]
         unfold Qb
         rw [Bool.and_assoc])
        (fun j3 => by rw [A3e, V2, Aq, Ar hl (by omega)]) k (by omega)
       rw [LS, Kw]
       rfl)
      (fun j2 => by rw [A3d, V1, Ak hg, Aq, Ar hg (by omega)]) k (by omega)
     rw [LR, Kw]
     rfl)
    (fun j' => by rw [A3c, V0, Aq, Ar hx (by omega)]) k (by omega)
   rw [LI, Kw, Kw]
   unfold timF
   rw [Bool.and_assoc])
  (fun j => by rw [A3g, V4, Aq]) k (by omega)
 rw [L]
 cases a1.all timF <;> rfl
def Tot {R : Type} (c : Option R) (P : R → Prop) : Prop := ∃ r, c = some r ∧ P r
section
variable {R S α : Type} {c : Option R} {P : R → Prop} {Q : S → Prop}
theorem An {r : R} (h : P r) : Tot (some r) P := ⟨r, rfl, h⟩
theorem Dp {f : R → Option S} (h : Tot c P) (h2 : ∀ r, P r → Tot (f r) Q) : Tot (c.bind f) Q := by
 obtain ⟨r, rfl, hr⟩ := h
 exact h2 r hr
theorem A87 {b : Bool} {x y : Option S} (h1 : b = true → Tot x Q) (h2 : b = false → Tot y Q) : Tot (bif b then x else y) Q := by cases b with
 | true => exact h1 rfl
 | false => exact h2 rfl
theorem Gf {p : Prop} [Decidable p] {x y : Option S} (h1 : p → Tot x Q) (h2 : ¬ p → Tot y Q) : Tot (bif decide p then x else y) Q := by
 by_cases h : p
 ·rw [decide_eq_true h]; exact h1 h
 ·rw [decide_eq_false h]; exact h2 h
theorem A88 (l : List α) (Inv : Nat → S → Prop) (F : Nat → Int → S → Option R)
  (h1 : ∀ j i x s, l[i]? = some x → Inv i s → Tot (F (j + 1) (i : Int) s) P ∨ ∃ s', F (j + 1) (i : Int) s = F j ((i + 1 : Nat) : Int) s' ∧ Inv (i + 1) s')
  (h0 : ∀ j s, Inv l.length s → Tot (F (j + 1) ((l.length : Nat) : Int) s) P) :
  ∀ (j i : Nat) (s : S), l.length < i + j → i ≤ l.length → Inv i s → Tot (F j (i : Int) s) P
 | 0, i, s, h, hi, hs => by omega
 | j + 1, i, s, h, hi, hs => by
  rcases Ce hi with rfl | ⟨x, hx⟩
  ·exact h0 j s hs
  ·rcases h1 j i x s hx hs with h2 | ⟨s', e, h2⟩
   ·exact h2
   ·rw [e]
    exact A88 l Inv F h1 h0 j (i + 1) s' (by omega) (by have := Av hx; omega) h2
theorem B1 (l : List α) (Inv : Nat → S → Prop) (F : Nat → Int → S → Option R)
  (h1 : ∀ j i x s, l[i]? = some x → Inv i s → Tot (F (j + 1) (i : Int) s) P ∨ ∃ s', F (j + 1) (i : Int) s = F j ((i + 1 : Nat) : Int) s' ∧ Inv (i + 1) s')
  (h0 : ∀ j s, Inv l.length s → Tot (F (j + 1) ((l.length : Nat) : Int) s) P) (j : Nat) (s : S) (h : l.length < j) (hs : Inv 0 s) : Tot (F j 0 s) P :=
 A88 l Inv F h1 h0 j 0 s (by omega) (by omega) hs
end
def tiB (n : Int) : Bool := decide (0 ≤ n) && decide (n ≤ 6000)
theorem Bj1 (k : Nat) (n : Int) : Gy k n = some (!tiB n) := by
 rw [Bg0, A2g]
 unfold tiB
 by_cases h : n < 0
 ·rw [decide_eq_true h, decide_eq_false (show ¬ 0 ≤ n by omega)]; rfl
 ·rw [decide_eq_false h, decide_eq_true (show 0 ≤ n by omega)]
  simp only [cond_false, Bool.true_and]
  by_cases h2 : n ≤ 6000
  ·rw [decide_eq_true h2, decide_eq_false (show ¬ n > 6000 by omega)]; rfl
  ·rw [decide_eq_false h2, decide_eq_true (show n > 6000 by omega)]; rfl
theorem Arr (l : List Int) (p : Int → Bool) (g : Int → Option Bool) (F : Nat → Int → Option Int) (hl : l.length < 1000000)
  (hF : ∀ j i, F (j + 1) i = bif decide (i < ((l.length : Nat) : Int)) then (idxI l i fun o => (g o).bind fun o2 => bif o2 then some i else F j (IntKind.wrap .i64 (i + 1))) else some (-1))
  (hg : ∀ x ∈ l, g x = some (p x)) : ∀ (j i : Nat), l.length < i + j → i ≤ l.length → ∃ r, F j (i : Int) = some r ∧ decide (r ≥ 0) = (l.drop i).any p
 | 0, i, h, hi => by omega
 | j + 1, i, h, hi => by
  rw [hF]
  rcases Ce hi with rfl | ⟨x, hx⟩
  ·rw [Aq, List.drop_length]
   exact ⟨_, rfl, rfl⟩
  ·rw [Ao hx, An4 hx, hg x (Ax hx), Option.bind_some, Ar hx hl, Fk hx, List.any_cons]
   cases p x with
   | true => exact ⟨_, rfl, by simp⟩
   | false => exact Arr l p g F hl hF hg j (i + 1) (by omega) (by have := Av hx; omega)
section
variable (k : Nat) (hk : 1000 ≤ k)
include hk
theorem A86 (l : List Int) (hl : l.length < 1000) : ctimestimes k l = some (l.all tiB) := by
 obtain ⟨r, e1, e2⟩ := Arr l (fun n => !tiB n) (Gy k) (fun j i => (Cw k).L 2 [] j (M5 (l, ((l.length : Nat) : Int), i))) (by omega) (fun j i => by rw [Bef]; rfl) (fun x _ => Bj1 k x) k 0 (by omega) (by omega)
 rw [Bg1, A2h, Bdw, Av1, Bee, Aev]
 rw [show (0 : Int) = ((0 : Nat) : Int) from rfl, e1]
 rw [List.drop_zero, Qs] at e2
 simp only [Option.bind_some]
 rw [show ((0 : Nat) : Int) = 0 from rfl, e2, Bool.not_not]
def wkB (w : Hx) : Bool := tiB w.2.1 && tiB w.2.2.1
def slB (s : A8) : Bool := tiB s.2.1 && (tiB s.2.2.1 && tiB s.2.2.2.1) && s.2.2.2.2.1.all wkB
theorem Bjz (w : Hx) : Gx k (w.1, w.2.1, w.2.2.1) = some (!wkB w) := by
 rw [Bgy, A2c, A86 k hk _ (by simp), Option.bind_some]
 simp [wkB]
theorem Bb9 (l : List Hx) (hl : l.length < 1000) : Ie k l = some (!(l.all wkB)) := by
 obtain ⟨r, e1, e2⟩ := Qt l (fun n => !wkB n) (fun o => Gx k (o.1, o.2.1, o.2.2.1)) (fun j i => (Cv k).L 2 [] j (M3 (l, ((l.length : Nat) : Int), i))) (by omega) (fun j i => by rw [Bed]; rfl) (fun x _ => Bjz k hk x) k 0 (by omega) (by omega)
 rw [Bdv, Avy, Bec, Aep]
 rw [show (0 : Int) = ((0 : Nat) : Int) from rfl, e1]
 rw [List.drop_zero, Qs] at e2
 simp only [Option.bind_some]
 rw [show ((0 : Nat) : Int) = 0 from rfl, e2]
theorem Bj0 (s : A8) (hs : s.2.2.2.2.1.length < 1000) : ctimestimed k (s.1, s.2.1, s.2.2.1, s.2.2.2.1, s.2.2.2.2.1) = some (slB s) := by
 rw [Bgz, A2d, A86 k hk _ (by simp), Option.bind_some, Bb9 k hk _ hs]
 simp only [Option.bind_some, slB, List.all_cons, List.all_nil, Bool.and_true, Bool.not_not]
 cases tiB s.2.1 <;> cases tiB s.2.2.1 <;> cases tiB s.2.2.2.1 <;> rfl
theorem Bb8 (l : List A8) (hl : l.length < 1000) (hs : ∀ s ∈ l, s.2.2.2.2.1.length < 1000) : Ib k l = some (!(l.all slB)) := by
 obtain ⟨r, e1, e2⟩ := Qt l (fun n => !slB n) (fun o => Iw k (o.1, o.2.1, o.2.2.1, o.2.2.2.1, o.2.2.2.2.1)) (fun j i => (Ct k).L 2 [] j (Mz (l, ((l.length : Nat) : Int), i))) (by omega) (fun j i => by rw [Bea]; rfl)
  (fun x hx => by rw [Bgw, A14, Bj0 k hk x (hs x hx)]; rfl) k 0 (by omega) (by omega)
 rw [Bdt, Avs, Bd9, Aed]
 rw [show (0 : Int) = ((0 : Nat) : Int) from rfl, e1]
 rw [List.drop_zero, Qs] at e2
 simp only [Option.bind_some]
 rw [show ((0 : Nat) : Int) = 0 from rfl, e2]
def Db (l : List Ba) : Prop := l.length < 1000 ∧ ∀ g ∈ l, g.1.length < 1000 ∧ ∀ r ∈ g.1, r.length < 1000 ∧ ∀ s ∈ r, s.2.2.2.2.1.length < 1000
def Yy (l : List Ba) : Prop := l.length ≤ 4 ∧ ∀ g ∈ l, g.1.length ≤ 2 ∧ ∀ r ∈ g.1, r.length ≤ 4 ∧ ∀ s ∈ r, slB s = true
theorem A83 (a0 : List Int) (a1 : Int) (sp : List Ba) (a3 a4 : Int) (hS : Db sp) : Tot (ctimessound k (a0, a1, sp, a3, a4)) fun b => b = true → Yy sp := by
 obtain ⟨h1, h2⟩ := hS
 rw [Bgx, Al5]
 refine Gf (fun _ => An fun h => by cases h) fun h4 => ?_
 refine B1 sp (fun i (_ : Unit) => ∀ g ∈ sp.take i, g.1.length ≤ 2 ∧ ∀ r ∈ g.1, r.length ≤ 4 ∧ ∀ s ∈ r, slB s = true) (fun j i _ => (ftimessound k).L 4 [] j (Kj (sp, ((sp.length : Nat) : Int), i))) (fun j i g s hg hI => ?_) (fun j s hI => ?_) k () (by omega) (by simp)
 ·rw [A15, U6, Ao hg, Ak hg]
  obtain ⟨g1, g2⟩ := h2 g (Ax hg)
  by_cases hg2 : ((g.1.length : Nat) : Int) > 2
  ·rw [decide_eq_true hg2]
   exact .inl (An fun h => by cases h)
  rw [decide_eq_false hg2, cond_false]
  have L := Hy g.1 (fun r => decide (r.length ≤ 4) && r.all slB) (fun j' i' => (ftimessound k).L 9 [j] j' (Ow (sp, ((sp.length : Nat) : Int), (i : Int), g.1, ((g.1.length : Nat) : Int), i'))) (some false) ((ftimessound k).L 4 [] j (Kj (sp, ((sp.length : Nat) : Int), ((i + 1 : Nat) : Int))))
   (fun j' i' r hr => by
    obtain ⟨r1, r2⟩ := g2 r (Ax hr)
    rw [A16, U7, Ao hr, Ak hr, Bb8 k hk r r1 r2, Option.bind_some, Ar hr (by omega)]
    by_cases h5 : r.length ≤ 4
    ·rw [decide_eq_true h5, decide_eq_false (show ¬ ((r.length : Nat) : Int) > 4 by omega)]
     cases r.all slB <;> rfl
    ·rw [decide_eq_false h5, decide_eq_true (show ((r.length : Nat) : Int) > 4 by omega)]
     rfl)
   (fun j' => by rw [A16, U7, Aq, Ar hg (by omega)]) k (by omega)
  rw [L]
  cases hb : g.1.all (fun r => decide (r.length ≤ 4) && r.all slB) with
  | false => exact .inl (An fun h => by cases h)
  | true =>
   refine .inr ⟨(), rfl, fun g' hg' => ?_⟩
   rw [List.take_succ_eq_append_getElem (Av hg), List.mem_append, List.mem_singleton] at hg'
   rcases hg' with hg' | rfl
   ·exact hI g' hg'
   ·have e : sp[i]'(Av hg) = g := (List.getElem?_eq_some_iff.1 hg).2
    rw [e]
    refine ⟨by omega, fun r hr => ?_⟩
    have := List.all_eq_true.1 hb r hr
    simp only [Bool.and_eq_true, decide_eq_true_eq, List.all_eq_true] at this
    exact this
 ·rw [A15, U6, Aq]
  exact An fun _ => ⟨by omega, by simpa using hI⟩
end
section
variable {R S α : Type}
theorem Arb (l : List α) (f : S → α → S) (F : Nat → Int → S → Option R) (K : S → Option R)
  (h1 : ∀ j (i : Nat) x s, l[i]? = some x → F (j + 1) (i : Int) s = F j ((i + 1 : Nat) : Int) (f s x)) (h0 : ∀ j s, F (j + 1) ((l.length : Nat) : Int) s = K s) :
  ∀ (j i : Nat) (s : S), l.length < i + j → i ≤ l.length → F j (i : Int) s = K ((l.drop i).foldl f s)
 | 0, i, s, h, hi => by omega
 | j + 1, i, s, h, hi => by
  rcases Ce hi with rfl | ⟨x, hx⟩
  ·rw [h0, List.drop_length]; rfl
  ·rw [h1 j i x s hx, Arb l f F K h1 h0 j (i + 1) _ (by omega) (by have := Av hx; omega), Fk hx]; rfl
theorem Lk (l : List α) (f : S → α → S) (F : Nat → Int → S → Option R) (K : S → Option R)
  (h1 : ∀ j (i : Nat) x s, l[i]? = some x → F (j + 1) (i : Int) s = F j ((i + 1 : Nat) : Int) (f s x)) (h0 : ∀ j s, F (j + 1) ((l.length : Nat) : Int) s = K s)
  (j : Nat) (s : S) (h : l.length < j) : F j 0 s = K (l.foldl f s) := Arb l f F K h1 h0 j 0 s (by omega) (by omega)
end
theorem Dd {sz : Nat} {t : Ty} (l : List t.den) (h : List.length l < 1000) (hz : sz ≤ 1000) : clF sz t l = some l := Ma (by
 have : List.length l * sz ≤ 1000 * 1000 := Nat.mul_le_mul (by omega) hz
 simp [appB, maxLen]; omega)
def sumF (l : List A8) : Int := l.foldl (fun s x => IntKind.wrap .i64 (s + x.2.1)) 0
def Kz (g : List (List A8)) : Int := g.foldl (fun m l => maxI m (sumF l)) 0
def lenF (sp : List Ba) : Int := sp.foldl (fun s g => IntKind.wrap .i64 (s + Kz g.1)) 0
theorem Bia (g : List (List A8)) (h : ∀ l ∈ g, l = []) : Kz g = 0 := by
 unfold Kz
 suffices H : ∀ (g : List (List A8)) (m : Int), m = 0 → (∀ l ∈ g, l = []) → g.foldl (fun m l => maxI m (sumF l)) m = 0 from H g 0 rfl h
 intro g
 induction g with
 | nil => intro m hm _; exact hm
 | cons l r ih =>
  intro m hm h
  rw [List.foldl_cons]
  refine ih _ ?_ fun x hx => h x (by simp [hx])
  rw [h l (by simp), hm]; rfl
theorem Bh5 (sp : List Ba) (h : ∀ g ∈ sp, ∀ l ∈ g.1, l = []) : lenF sp = 0 := by
 unfold lenF
 suffices H : ∀ (sp : List Ba) (m : Int), m = 0 → (∀ g ∈ sp, ∀ l ∈ g.1, l = []) → sp.foldl (fun s g => IntKind.wrap .i64 (s + Kz g.1)) m = 0 from H sp 0 rfl h
 intro sp
 induction sp with
 | nil => intro m hm _; exact hm
 | cons g r ih =>
  intro m hm h
  rw [List.foldl_cons]
  refine ih _ ?_ fun x hx => h x (by simp [hx])
  rw [Bia g.1 (h g (by simp)), hm, w64 (by omega)]; rfl
theorem lenF_ex (sp : List Ba) (h : lenF sp ≠ 0) : ∃ g ∈ sp, ∃ l ∈ g.1, l ≠ [] := by
 refine Classical.byContradiction fun hn => h (Bh5 sp fun g hg l hl => Classical.byContradiction fun hne => hn ⟨g, hg, l, hl, hne⟩)
section
variable (k : Nat) (hk : 1000 ≤ k)
include hk
theorem Bib (g : List (List A8)) (hg : g.length < 1000) (hl : ∀ l ∈ g, l.length < 1000) : ctimeslong k g = some (Kz g) := by
 rw [Bgu, Alp]
 exact Lk g (fun m l => maxI m (sumF l)) (fun j i s => (ftimeslong k).L 3 [] j (Ki (s, g, ((g.length : Nat) : Int), i))) some
  (fun j i l s h => by
   have h3 := hl l (Ax h)
   have L := Lk l (fun s x => IntKind.wrap .i64 (s + x.2.1)) (fun j' i' s' => (ftimeslong k).L 7 [j] j' (Ou (s, s', g, ((g.length : Nat) : Int), (i : Int), l, ((l.length : Nat) : Int), i'))) (fun s' => (ftimeslong k).L 3 [] j (Ki (maxI s s', g, ((g.length : Nat) : Int), ((i + 1 : Nat) : Int))))
    (fun j' i' x s' hx => by rw [A1v, U1, Ao hx, Ak hx, Ar hx (by omega)])
    (fun j' s' => by rw [A1v, U1, Aq, Ar h (by omega)]) k 0 (by omega)
   rw [A1u, U0, Ao h, Ak h, L]
   rfl)
  (fun j s => by rw [A1u, U0, Aq]) k 0 (by omega)
theorem A4i (l : List A8) (h3 : l.length < 1000) : cpreemptlasts k l = some (sumF l) := by
 rw [Bfm, Ahm]
 exact Lk l (fun s x => IntKind.wrap .i64 (s + x.2.1)) (fun j' i' s' => (fpreemptlasts k).L 3 [] j' (Nt (s', l, ((l.length : Nat) : Int), i'))) some
    (fun j' i' x s' hx => by rw [Azb, Tp, Ao hx, Ak hx, Ar hx (by omega)])
    (fun j' s' => by rw [Azb, Tp, Aq]) k 0 (by omega)
theorem Bh6 (a0 : List Int) (a1 : Int) (sp : List Ba) (a3 a4 : Int) (hS : Db sp) : Tot (Du k (a0, a1, sp, a3, a4)) fun r => (r = 0 ∨ Yy sp ∧ r = lenF sp) ∧ ∀ k', 1000 ≤ k' → True := by
 rw [Bgt, All]
 refine Dp (A83 k hk a0 a1 sp a3 a4 hS) fun b hb => ?_
 cases b with
 | false => exact An ⟨.inl rfl, fun _ _ => trivial⟩
 | true =>
  obtain ⟨h1, h2⟩ := hS
  rw [Bool.not_true, cond_false]
  refine ⟨lenF sp, ?_, .inr ⟨hb rfl, rfl⟩, fun _ _ => trivial⟩
  exact Lk sp (fun s g => IntKind.wrap .i64 (s + Kz g.1)) (fun j i s => (C5 k).L 5 [] j (Oq (s, sp, ((sp.length : Nat) : Int), i))) some
   (fun j i g s h => by
    obtain ⟨g1, g2⟩ := h2 g (Ax h)
    rw [A1s, Uz, Ao h, Ak h, Bib k hk g.1 g1 fun l hl => (g2 l hl).1, Option.bind_some, Ar h (by omega)])
   (fun j s => by rw [A1s, Uz, Aq]) k 0 (by omega)
omit hk in
theorem Q9 (l : List (List Int)) (h : l.length < 1000) : Ia k l = some l := Dd (t := .str) l h (by omega)
theorem A39 (l : List (List Int)) (x : List Int) (h : l.length < 1000) : Tot (Gq k (l, x)) fun _ => True := by
 rw [Bei, Ae4]
 refine B1 l (fun _ (_ : Unit) => True) (fun j i _ => (Dh k).L 2 [] j (M9 (l, x, ((l.length : Nat) : Int), i))) (fun j i y s hy _ => ?_) (fun j s _ => ?_) k () (by omega) trivial
 ·rw [Aw4, Sn, Ao hy, Ak hy, Ar hy (by omega)]
  cases x == y with
  | true => exact .inl (An trivial)
  | false => exact .inr ⟨(), rfl, trivial⟩
 ·rw [Aw4, Sn, Aq]
  exact An trivial
theorem eqf_tot (l : List (List Int)) (w : List Hx) (h : l.length < 1000) : Tot (Ig k (l, w)) fun _ => True := by
 rw [Bd1, Adj]
 refine A87 (fun _ => An trivial) fun hne => ?_
 have hlen : l.length = w.length := by
  have : ((l.length : Nat) : Int) = ((w.length : Nat) : Int) := by simpa using hne
  omega
 refine B1 l (fun _ (_ : Unit) => True) (fun j i _ => (Cp k).L 4 [] j (Ms (w, l, ((l.length : Nat) : Int), i))) (fun j i y s hy _ => ?_) (fun j s _ => ?_) k () (by omega) trivial
 ·obtain ⟨z, hz⟩ : ∃ z, w[i]? = some z := ⟨w[i]'(by have := Av hy; omega), List.getElem?_eq_getElem _⟩
  rw [Av9, Sh, Ao hy, Ak hy, Ak hz, Ar hy (by omega), Bg2, A2j, Option.bind_some]
  cases y == z.1 with
  | true => exact .inr ⟨(), rfl, trivial⟩
  | false => exact .inl (An trivial)
 ·rw [Av9, Sh, Aq]
  exact An trivial
theorem Bka (a0 : List Int) (a1 : List YT1) (pd : List YT2) (a3 : List YT3) (a4 : List ((List YT4) × Unit)) (a5 : List YT7) (a6 : Int) (s : A8) (h : pd.length < 1000) : Tot (ctimeswalks k (a0, a1, pd, a3, a4, a5, a6, s.1, s.2.1, s.2.2.1, s.2.2.2.1, s.2.2.2.2.1)) fun _ => True := by
 rw [Bg3, Amm]
 refine B1 pd (fun i (b : List (List Int)) => b.length ≤ i) (fun j i b => (ftimeswalks k).L 3 [] j (Kk (pd, ((pd.length : Nat) : Int), i, s.1, s.2.1, s.2.2.1, s.2.2.2.1, s.2.2.2.2.1, b))) (fun j i y b hy hb => ?_) (fun j b hb => ?_) k [] (by omega) (by simp)
 ·have := Av hy
  rw [A2k, Vi, Ao hy, Ak hy, Ar hy (by omega)]
  cases y.2.1 == s.1 with
  | true => exact .inr ⟨b ++ [y.1], by rw [cond_true, Y8 (by rw [List.length_singleton]; omega) (by rw [List.length_singleton]; omega)], by rw [List.length_append, List.length_singleton]; omega⟩
  | false => exact .inr ⟨b, rfl, by omega⟩
 ·rw [A2k, Vi, Aq]
  exact Dp (eqf_tot k hk b s.2.2.2.2.1 (by omega)) fun _ _ => An trivial
end
def longer (x : A8) : Prop := IntKind.wrap .i64 (x.2.2.1 + x.2.2.2.1) < x.2.1
theorem Bcv (k : Nat) (p : List Int) (a b c : Int) (w : List Hx) (xs : List (List Int)) (h : xs.length < k) (h2 : xs.length < 1000) : Zv k (p, a, b, c, w, xs) = some (p, a, b, c, w, B9 p xs) := by
 show (bif decide (List.length xs < k) && decide (List.length xs < 4611686018427387904) then some (p, a, b, c, w, B9 p xs) else none) = _
 rw [decide_eq_true h, decide_eq_true (show xs.length < 4611686018427387904 by omega)]; rfl
theorem Bh0 (p : List Int) (xs : List (List Int)) : (B9 p xs).length ≤ xs.length := List.length_filter_le _ _
theorem Yu {α : Type} {l : List α} {i : Nat} {x : α} (h : l[i]? = some x) : l.take (i + 1) = l.take i ++ [x] := by
 obtain ⟨h1, h2⟩ := List.getElem?_eq_some_iff.1 h
 rw [List.take_succ_eq_append_getElem h1, h2]
theorem Qr {α : Type} {l : List α} {i : Nat} {x : α} {P : α → Prop} (h : l[i]? = some x) (h1 : ∀ y ∈ l.take i, P y) (h2 : P x) : ∀ y ∈ l.take (i + 1), P y := by
 rw [Yu h]
 intro y hy
 rcases List.mem_append.1 hy with hy | hy
 ·exact h1 y hy
 ·rw [List.mem_singleton.1 hy]; exact h2
section
variable (k : Nat) (hk : 1000 ≤ k) (a0 : List Int) (a1 : List YT1) (a2 : List YT2) (a3 : List YT3) (a4 : List ((List YT4) × Unit)) (a5 : List YT7) (a6 : Int)
include hk
theorem Bi8 (b : Bool) (ph : List (List Int)) (l : List A8) (h2 : a2.length < 1000) (hp : ph.length < 1000) (hl : l.length < 1000) : Tot (ctimesring k (a0, a1, a2, a3, a4, a5, a6, b, ph, l)) fun r => r = true → ∀ x ∈ l, longer x := by
 rw [Bgv, Alu, Q9 k ph hp, Option.bind_some]
 refine B1 l (fun i (s : List (List Int)) => s.length ≤ ph.length ∧ ∀ x ∈ l.take i, longer x) (fun j i s => (ftimesring k).L 3 [] j (Ov (l, l, ((l.length : Nat) : Int), i, a0, a1, a2, a3, a4, a5, a6, b, ph, s))) (fun j i x s hx hI => ?_) (fun j s hI => ?_) k ph (by omega) ⟨Nat.le_refl _, by simp⟩
 ·rw [A1z, U2, Ao hx, Ak hx, Ar hx (by omega)]
  obtain ⟨r, e, -⟩ := A39 k hk s x.1 (by omega)
  rw [e, Option.bind_some]
  by_cases hr : r < 0
  ·rw [decide_eq_true hr]; exact .inl (An fun h => by cases h)
  rw [decide_eq_false hr, cond_false]
  by_cases hs : x.2.1 ≤ IntKind.wrap .i64 (x.2.2.1 + x.2.2.2.1)
  ·rw [decide_eq_true hs]; exact .inl (An fun h => by cases h)
  rw [decide_eq_false hs, cond_false]
  obtain ⟨b', e, -⟩ := Bka k hk a0 a1 a2 a3 a4 a5 a6 x h2
  rw [e, Option.bind_some]
  cases b' with
  | false => exact .inl (An fun h => by cases h)
  | true =>
   rw [Bool.not_true, cond_false, Bcv k _ _ _ _ _ s (by omega) (by omega), Option.bind_some]
   have := Bh0 x.1 s
   exact .inr ⟨B9 x.1 s, rfl, by omega, Qr hx hI.2 (by unfold longer; omega)⟩
 ·rw [A1z, U2, Aq]
  exact An fun _ => by simpa using hI.2
def FitS (sp : List Ba) : Prop := Yy sp ∧ ∀ g ∈ sp, ∀ l ∈ g.1, ∀ x ∈ l, longer x
theorem Bd5 (tn : List Int) (off : Int) (sp : List Ba) (i1 i2 : Int) (hN : NodeS (a0, a1, a2, a3, a4, a5, a6, ())) (hS : Db sp) : Tot (E0 k (a0, a1, a2, a3, a4, a5, a6, tn, off, sp, i1, i2)) fun b => b = true → FitS sp ∧ (1 ≤ lenF sp ∧ lenF sp ≤ 6000) ∧ Du k (tn, off, sp, i1, i2) = some (lenF sp) := by
 have hp := hN.pl
 have hg := hN.gl
 have hgd := hN.gd
 simp only at hp hg hgd
 rw [Bgr, Ale]
 refine Dp (A83 k hk tn off sp i1 i2 hS) fun b hb => ?_
 cases b with
 | false => exact An fun h => by cases h
 | true =>
 rw [Bool.not_true, cond_false]
 refine A87 (fun _ => An fun h => by cases h) fun hne => ?_
 have hlen : sp.length = a4.length := by
  have : ((sp.length : Nat) : Int) = ((a4.length : Nat) : Int) := by simpa using hne
  omega
 refine B1 sp (fun i (_ : Unit) => ∀ g ∈ sp.take i, ∀ l ∈ g.1, ∀ x ∈ l, longer x) (fun j i _ => (Bu k).L 4 [] j (Ke (sp, ((sp.length : Nat) : Int), i, a0, a1, a2, a3, a4, a5, a6, tn, off, sp, i1, i2))) (fun j i g s hx hI => ?_) (fun j s hI => ?_) k () (by omega) (by simp)
 ·obtain ⟨y, hy⟩ : ∃ y, a4[i]? = some y := ⟨a4[i]'(by have := Av hx; omega), List.getElem?_eq_getElem _⟩
  rw [A1p, Uy, Ao hx, Ak hx, Ak hy]
  by_cases hgl : (((g.1.length : Nat) : Int) != ((y.1.length : Nat) : Int)) = true
  ·rw [hgl]; exact .inl (An fun h => by cases h)
  have hgl' : (((g.1.length : Nat) : Int) != ((y.1.length : Nat) : Int)) = false := by simpa using hgl
  rw [hgl', cond_false]
  have hgy : g.1.length = y.1.length := by
   have : ((g.1.length : Nat) : Int) = ((y.1.length : Nat) : Int) := by simpa using hgl'
   omega
  obtain ⟨y5, yd⟩ := hgd y (Ax hy)
  have L : ∀ (j' i' : Nat), g.1.length < i' + j' → i' ≤ g.1.length → (∀ l ∈ g.1.take i', ∀ x ∈ l, longer x) →
    (Bu k).L 9 [j] j' (Kf ((i : Int), sp, ((sp.length : Nat) : Int), (i : Int), g.1, ((g.1.length : Nat) : Int), (i' : Int), a0, a1, a2, a3, a4, a5, a6, tn, off, sp, i1, i2)) = some false ∨
    ((Bu k).L 9 [j] j' (Kf ((i : Int), sp, ((sp.length : Nat) : Int), (i : Int), g.1, ((g.1.length : Nat) : Int), (i' : Int), a0, a1, a2, a3, a4, a5, a6, tn, off, sp, i1, i2)) = (Bu k).L 4 [] j (Ke (sp, ((sp.length : Nat) : Int), ((i + 1 : Nat) : Int), a0, a1, a2, a3, a4, a5, a6, tn, off, sp, i1, i2)) ∧ ∀ l ∈ g.1, ∀ x ∈ l, longer x) := by
   intro j'
   induction j' with
   | zero => intro i' h1 h2; omega
   | succ j' ih =>
    intro i' h1 h2 h3
    rw [Bgs, Alf]
    rcases Ce h2 with rfl | ⟨r, hr⟩
    ·rw [Aq, Ar hx (by have := hS.1; omega)]
     exact .inr ⟨rfl, by simpa using h3⟩
    ·obtain ⟨z, hz⟩ : ∃ z, y.1[i']? = some z := ⟨y.1[i']'(by have := Av hr; omega), List.getElem?_eq_getElem _⟩
     have hz50 := (yd z (Ax hz)).1
     have hr1 := ((hS.2 g (Ax hx)).2 r (Ax hr)).1
     rw [Ao hr, Ak hr, Ak hy, Ak hz, Ar hr (by omega)]
     obtain ⟨b', e, hb'⟩ := Bi8 k hk a0 a1 a2 a3 a4 a5 a6 z.1 z.2.1 r (by omega) (by omega) hr1
     rw [e, Option.bind_some]
     cases b' with
     | false => exact .inl rfl
     | true =>
      rw [Bool.not_true, cond_false]
      exact ih (i' + 1) (by omega) (by have := Av hr; omega) (Qr hr h3 (hb' rfl))
  rcases L k 0 (by omega) (by omega) (by simp) with e | ⟨e, hall⟩
  ·left
   refine (congrArg (fun c => Tot c _) (show _ = _ from e)).mpr (An fun h => by cases h)
  ·exact .inr ⟨(), e, Qr hx hI hall⟩
 ·rw [A1p, Uy, Aq]
  obtain ⟨r, e, hr, -⟩ := Bh6 k hk tn off sp i1 i2 hS
  rw [e, Option.bind_some]
  refine Gf (fun h1 => An fun h2 => ?_) fun _ => An fun h => by cases h
  have h2' := of_decide_eq_true h2
  rcases hr with rfl | ⟨hr, rfl⟩
  ·omega
  ·exact ⟨⟨hr, by simpa using hI⟩, ⟨h1, h2'⟩, rfl⟩
end
section
variable {α β R : Type} {d : α} {l : List α} {i : Nat} {x : α}
theorem Ea (h : l[i]? = some x) : rdA d l (Int.toNat (i : Int)) = x := by rw [Aox, List.getD_eq_getElem?_getD, h]; rfl
theorem Dk {a b : β} (h : l[i]? = some x) : (bif inB (i : Int) (List.length l) then a else b) = a := by
 have := Av h
 rw [cinB, if_pos (by omega)]
theorem Wz (h : l[i]? = some x) : List.set l (Int.toNat (i : Int)) x = l := by
 obtain ⟨h1, h2⟩ := List.getElem?_eq_some_iff.1 h
 rw [Int.toNat_natCast, ← h2]
 exact List.set_getElem_self h1
theorem O5 (l : List α) (F : Nat → Int → Option R) (K : Option R) (h1 : ∀ j (i : Nat) x, l[i]? = some x → F (j + 1) (i : Int) = F j ((i + 1 : Nat) : Int)) (h0 : ∀ j, F (j + 1) ((l.length : Nat) : Int) = K) (j : Nat) (h : l.length < j) : F j 0 = K :=
 Lk l (fun (_ : Unit) _ => ()) (fun j i _ => F j i) (fun _ => K) (fun j i x _ hx => h1 j i x hx) (fun j _ => h0 j) j () h
theorem A5v (l : List α) (F : Nat → Int → List α → Option R) (K : List α → Option R) (h1 : ∀ j (i : Nat) x (b : List α), l[i]? = some x → b.length = i → F (j + 1) (i : Int) b = F j ((i + 1 : Nat) : Int) (b ++ [x])) (h0 : ∀ j b, F (j + 1) ((l.length : Nat) : Int) b = K b) :
  ∀ (j i : Nat), l.length < i + j → i ≤ l.length → F j (i : Int) (l.take i) = K l
 | 0, i, h, hi => by omega
 | j + 1, i, h, hi => by
  rcases Ce hi with rfl | ⟨x, hx⟩
  ·rw [h0, List.take_length]
  ·rw [h1 j i x _ hx (by simp; omega), ← Yu hx]
   exact A5v l F K h1 h0 j (i + 1) (by omega) (by have := Av hx; omega)
theorem Aou (l : List α) (F : Nat → Int → List α → Option R) (K : List α → Option R) (h1 : ∀ j (i : Nat) x (b : List α), l[i]? = some x → b.length = i → F (j + 1) (i : Int) b = F j ((i + 1 : Nat) : Int) (b ++ [x])) (h0 : ∀ j b, F (j + 1) ((l.length : Nat) : Int) b = K b)
  (j : Nat) (h : l.length < j) : F j 0 [] = K l := A5v l F K h1 h0 j 0 (by omega) (by omega)
theorem app1 {n : Nat} {a : List α} {K : List α → Option R} (h : a.length < 1000) (hn : n ≤ 1000) : app n a [x] K = K (a ++ [x]) := by
 have : (a.length + [x].length) * n ≤ 1001 * 1000 := Nat.mul_le_mul (by simp; omega) hn
 exact Y8 (by omega) (by simp; omega)
end
section
variable (k : Nat) (hk : 1000 ≤ k)
include hk
theorem Bc4 (l r : List A8) (g : List (List A8)) (hl : l.length < 1000) (hr : r.length < 1000) : Im k (l, r :: g) = some ((sumF l != sumF r), r :: g) := by
 rw [Bfj, Ay9, A4i k hk l hl, Option.bind_some]
 rw [show (0 : Int) = ((0 : Nat) : Int) from rfl, Ak (l := r :: g) (i := 0) (x := r) rfl, A4i k hk r hr, Option.bind_some]
theorem Bc5 (g : List (List A8)) (hg : g.length < 1000) (hl : ∀ l ∈ g, l.length < 1000) : Tot (Il k g) fun _ => True := by
 have H : Tot (Ih k (g, g)) fun _ => True := by
  rw [Bd6, Ads]
  cases g with
  | nil =>
   obtain ⟨k', rfl⟩ : ∃ k', k = k' + 1 := ⟨k - 1, by omega⟩
   rw [Adq, Mv]
   exact An trivial
  | cons r g =>
   refine B1 (r :: g) (fun _ (_ : Unit) => True) (fun j i _ => (Cq k).L 2 [] j (Mu (r :: g, (((r :: g).length : Nat) : Int), i, r :: g))) (fun j i y s hy _ => ?_) (fun j s _ => ?_) k () (by omega) trivial
   ·rw [Adq, Mv, Ao hy, Ak hy, Ar hy (by omega), Bc4 k hk y r g (hl y (Ax hy)) (hl r (by simp)), Option.bind_some]
    cases (sumF y != sumF r) with
    | true => exact .inl (An trivial)
    | false => exact .inr ⟨(), rfl, trivial⟩
   ·rw [Adq, Mv, Aq]
    exact An trivial
 rw [Bfg, Ayy, Bfk, Aza, Bds, Avp]
 obtain ⟨r, e, -⟩ := H
 rw [e]
 exact An trivial
theorem Bjp (sp : List Ba) (hS : Db sp) : Tot (Ic k sp) fun _ => True := by
 have h1 := hS.1
 rw [Bdu, Avv, Beb, Aej]
 refine Dp (P := fun _ => True) ?_ fun _ _ => An trivial
 refine B1 sp (fun _ (_ : Unit) => True) (fun j i _ => (Cu k).L 2 [] j (M1 (sp, ((sp.length : Nat) : Int), i))) (fun j i y s hy _ => ?_) (fun j s _ => ?_) k () (by omega) trivial
 ·obtain ⟨g1, g2⟩ := hS.2 y (Ax hy)
  obtain ⟨b, e, -⟩ := Bc5 k hk y.1 g1 fun l hl => (g2 l hl).1
  rw [Awt, Sm, Ao hy, Ak hy, Ar hy (by omega), e, Option.bind_some]
  cases b with
  | true => exact .inl (An trivial)
  | false => exact .inr ⟨(), rfl, trivial⟩
 ·rw [Awt, Sm, Aq]
  exact An trivial
theorem Ba1 (a0 : List Int) (a1 : List YT1) (a2 : List YT2) (a3 : List YT3) (a4 : List ((List YT4) × Unit)) (a5 : List YT7) (a6 : Int) (hN : NodeS (a0, a1, a2, a3, a4, a5, a6, ())) : cpreemptnode k (a0, a1, a2, a3, a4, a5, a6) = some (a0, a1, a2, a3, a4, a5, a6) := by
 have h1 := hN.hl; have h2 := hN.pl; have h3 := hN.xl; have h3d := hN.xd; have h4 := hN.gl; have h4d := hN.gd
 simp only at h1 h2 h3 h3d h4 h4d
 have c1 : Zf k a1 = some a1 := Dd (t := yt1) a1 (show a1.length < 1000 by omega) (by omega)
 have c2 : Zh k a2 = some a2 := Dd (t := yt2) a2 (show a2.length < 1000 by omega) (by omega)
 have c3 : Zj k a3 = some a3 := Dd (t := yt3) a3 (show a3.length < 1000 by omega) (by omega)
 have c4 : Ze k a4 = some a4 := Dd (t := .cons (.slice yt4) .nil) a4 (show a4.length < 1000 by omega) (by omega)
 have LG : (fpreemptnode k).L 10 [] k (G9 (((a4.length : Nat) : Int), 0, a0, a5, a6, [], 0, a1, a2, a3, a4)) = some (a0, a1, a2, a3, a4, a5, a6) :=
  O5 a4 (fun j i => (fpreemptnode k).L 10 [] j (G9 (((a4.length : Nat) : Int), i, a0, a5, a6, [], 0, a1, a2, a3, a4))) _
   (fun j i g hg => by
    obtain ⟨g5, gd⟩ := h4d g (Ax hg)
    have c5 : Zk k g.1 = some g.1 := Dd (t := yt4) g.1 (show g.1.length < 1000 by omega) (by omega)
    have LR := O5 g.1 (fun j' i' => (fpreemptnode k).L 14 [j] j' (Nu ((i : Int), ((a4.length : Nat) : Int), (i : Int), ((g.1.length : Nat) : Int), i', a0, a5, a6, [], 0, g.1, a1, a2, a3, a4))) ((fpreemptnode k).L 10 [] j (G9 (((a4.length : Nat) : Int), ((i + 1 : Nat) : Int), a0, a5, a6, [], 0, a1, a2, a3, a4)))
     (fun j' i' r hr => by
      have h50 := (gd r (Ax hr)).1
      have e5 : List.set g.1 (Int.toNat (i' : Int)) (r.1, (r.2.1, ())) = g.1 := Wz hr
      rw [Aze, Tr, Ao hr, Dk hr, Ea hr, Q9 k r.2.1 (by omega), Option.bind_some, Dk hr, Ar hr (by omega), e5])
     (fun j' => by
      have e5 : List.set a4 (Int.toNat (i : Int)) (g.1, ()) = a4 := Wz hg
      rw [Aze, Tr, Aq, Dk hg, Ar hg (by omega), e5]) k (by omega)
    rw [Azd, Tq, Ao hg, Dk hg, Ea hg, c5, Option.bind_some]
    exact LR)
   (fun j => by rw [Azd, Tq, Aq]) k (by omega)
 rw [Bfo, Ahq, c1, Option.bind_some, c2, Option.bind_some, c3, Option.bind_some]
 exact O5 a3 (fun j i => (fpreemptnode k).L 4 [] j (Nv (((a3.length : Nat) : Int), i, a0, a4, a5, a6, [], 0, a1, a2, a3))) _
  (fun j i x hx => by
   have h50 := (h3d x (Ax hx)).2.1
   have e5 : List.set a3 (Int.toNat (i : Int)) (x.1, (x.2.1, (x.2.2.1, ()))) = a3 := Wz hx
   rw [Azf, Ts, Ao hx, Dk hx, Ea hx, Q9 k x.2.1 (by omega), Option.bind_some, Dk hx, Ar hx (by omega), e5])
  (fun j => by rw [Azf, Ts, Aq, c4, Option.bind_some]; exact LG) k (by omega)
theorem Aul (a0 : List Int) (a1 : List YT1) (a2 : List YT2) (a3 : List YT3) (a4 : List ((List YT4) × Unit)) (a5 : List YT7) (a6 : Int) (hN : NodeS (a0, a1, a2, a3, a4, a5, a6, ())) : csimnode k (a0, a1, a2, a3, a4, a5, a6) = some ([], a1, a2, a3, 0) := by
 have h1 := hN.hl; have h2 := hN.pl; have h3 := hN.xl; have h3d := hN.xd
 simp only at h1 h2 h3 h3d
 have c1 : Zg k a1 = some a1 := Dd (t := yt1) a1 (show a1.length < 1000 by omega) (by omega)
 have c2 : Zi k a2 = some a2 := Dd (t := yt2) a2 (show a2.length < 1000 by omega) (by omega)
 rw [Bgk, Akv, c1, Option.bind_some, c2, Option.bind_some]
 exact Aou a3 (fun j i b => (fsimnode k).L 3 [] j (Oi (a3, ((a3.length : Nat) : Int), i, [], 0, [], a1, a2, 0, b))) (fun b => some ([], a1, a2, b, 0))
  (fun j i x b hx hb => by
   have := Av hx
   have h50 := (h3d x (Ax hx)).2.1
   rw [A1f, Ur, Ao hx, Ak hx, Q9 k x.2.1 (by omega), Option.bind_some, app1 (by omega) (by omega), Ar hx (by omega)])
  (fun j b => by rw [A1f, Ur, Aq]) k (by omega)
theorem Ba0 (tn : List Int) (off : Int) (sp : List Ba) (i1 i2 : Int) (hS : Db sp) : cpreemptcopied k (tn, off, sp, i1, i2) = some (tn, off, sp, i1, i2) := by
 obtain ⟨h1, h2⟩ := hS
 rw [Bfi, Ahd]
 exact Aou sp (fun j i b => (fpreemptcopied k).L 3 [] j (Js (sp, ((sp.length : Nat) : Int), i, tn, off, sp, i1, i2, [], 0, 0, 0, b))) (fun b => some (tn, off, b, i1, i2))
  (fun j i g b hg hb => by
   have := Av hg
   obtain ⟨g1, g2⟩ := h2 g (Ax hg)
   have L := Aou g.1 (fun j' i' c => (fpreemptcopied k).L 7 [j] j' (Ju (sp, ((sp.length : Nat) : Int), (i : Int), g.1, ((g.1.length : Nat) : Int), i', tn, off, sp, i1, i2, [], 0, 0, 0, b, c))) (fun c => (fpreemptcopied k).L 3 [] j (Js (sp, ((sp.length : Nat) : Int), ((i + 1 : Nat) : Int), tn, off, sp, i1, i2, [], 0, 0, 0, b ++ [(c, ())])))
    (fun j' i' r c hr hc => by
     have := Av hr
     obtain ⟨r1, r2⟩ := g2 r (Ax hr)
     have c1 : Zl k r = some r := Dd (t := yt6) r (show r.length < 1000 by omega) (by omega)
     have LW := O5 r (fun j2 i2' => (fpreemptcopied k).L 11 [j, j'] j2 (Nq (sp, ((sp.length : Nat) : Int), (i : Int), g.1, ((g.1.length : Nat) : Int), (i' : Int), ((r.length : Nat) : Int), i2', tn, off, sp, i1, i2, [], 0, 0, 0, b, r, c))) ((fpreemptcopied k).L 7 [j] j' (Ju (sp, ((sp.length : Nat) : Int), (i : Int), g.1, ((g.1.length : Nat) : Int), ((i' + 1 : Nat) : Int), tn, off, sp, i1, i2, [], 0, 0, 0, b, c ++ [r])))
      (fun j2 i2' s hs => by
       have c2 : Zm k s.2.2.2.2.1 = some s.2.2.2.2.1 := Dd (t := yt5) s.2.2.2.2.1 (r2 s (Ax hs)) (by omega)
       have e5 : List.set r (Int.toNat (i2' : Int)) (s.1, (s.2.1, (s.2.2.1, (s.2.2.2.1, (s.2.2.2.2.1, ()))))) = r := Wz hs
       rw [Ayz, Ti, Ao hs, Dk hs, Ea hs, c2, Option.bind_some, Dk hs, Ar hs (by omega), e5])
      (fun j2 => by rw [Ayz, Ti, Aq, app1 (by omega) (by omega), Ar hr (by omega)]) k (by omega)
     rw [Ay1, Tk, Ao hr, Ak hr, c1, Option.bind_some]
     exact LW)
    (fun j' c => by rw [Ay1, Tk, Aq, app1 (by omega) (by omega), Ar hg (by omega)]) k (by omega)
   rw [Ay0, Tj, Ao hg, Ak hg]
   exact L)
  (fun j b => by rw [Ay0, Tj, Aq]) k (by omega)
end
abbrev Az := YT11
def Yx (l : List A8) : Prop := l.length ≤ 4 ∧ ∀ x ∈ l, 1 ≤ x.2.1 ∧ x.2.1 ≤ 6000 ∧ x.2.2.2.2.1.length < 1000
def SpOK (sp : List Ba) : Prop := sp.length ≤ 4 ∧ (∀ g ∈ sp, g.1.length ≤ 2 ∧ ∀ l ∈ g.1, Yx l) ∧ ∃ g ∈ sp, ∃ l ∈ g.1, l ≠ []
theorem spOK_of {sp : List Ba} (hS : Db sp) (h : FitS sp) (h1 : 1 ≤ lenF sp) : SpOK sp := by
 obtain ⟨⟨h2, h3⟩, h4⟩ := h
 refine ⟨h2, fun g hg => ⟨(h3 g hg).1, fun l hl => ⟨((h3 g hg).2 l hl).1, fun x hx => ?_⟩⟩, lenF_ex sp (by omega)⟩
 have h5 := ((h3 g hg).2 l hl).2 x hx
 have h6 := h4 g hg l hl x hx
 unfold slB tiB at h5
 unfold longer at h6
 simp only [Bool.and_eq_true, decide_eq_true_eq] at h5
 obtain ⟨⟨⟨a1, a2⟩, ⟨a3, a4⟩, a5, a6⟩, _⟩ := h5
 rw [w64 (by omega)] at h6
 exact ⟨by omega, by omega, ((hS.2 g hg).2 l hl).2 x hx⟩
def wt (r : Az) : Bool := r.1.1 == ((r.2.1.length : Nat) : Int)
structure RI (r : Az) : Prop where
 ok : Yx r.2.1
 s0 : 0 ≤ r.1.1
 s1 : r.1.1 ≤ ((r.2.1.length : Nat) : Int)
 g0 : 0 ≤ r.1.2.1
 g1 : r.1.2.1 ≤ 6000
 lt : ∀ x, r.2.1[r.1.1.toNat]? = some x → r.1.2.1 < x.2.1
theorem Aig {l : List A8} (h : Yx l) (s : Nat) (hs : s ≤ l.length) : RI (((s : Int), (0, ())), (l, ())) :=
 ⟨h, by simp, by simp; omega, by simp, by simp, fun x hx => by
  have := h.2 x (List.mem_of_getElem? hx)
  show (0 : Int) < _
  omega⟩
theorem Qj {r : Az} (h : RI r) (hw : wt r = false) : ∃ (s : Nat) (x : A8), r.1.1 = (s : Int) ∧ r.2.1[s]? = some x ∧ r.1.2.1 < x.2.1 ∧ 1 ≤ x.2.1 ∧ x.2.1 ≤ 6000 := by
 obtain ⟨h1, h2, h3, h4, h5, h6⟩ := h
 have hne : ¬ r.1.1 = ((r.2.1.length : Nat) : Int) := by unfold wt at hw; simpa using hw
 obtain ⟨s, hs⟩ : ∃ s : Nat, r.1.1 = (s : Int) := ⟨r.1.1.toNat, by omega⟩
 have hlt : s < r.2.1.length := by omega
 have hx := List.getElem?_eq_getElem hlt
 refine ⟨s, r.2.1[s], hs, hx, h6 _ (by rw [hs, Int.toNat_natCast]; exact hx), ?_⟩
 have h7 := h1.2 _ (List.getElem_mem hlt)
 exact ⟨h7.1, h7.2.1⟩
theorem ofn (i : Nat) : Int.ofNat (Int.toNat (i : Int)) = (i : Int) := by simp
section
variable (k : Nat) (hk : 10000 ≤ k)
include hk
omit hk in
theorem Bj9 (r : Az) : Iv k (r.1.1, r.1.2.1, r.2.1) = some (wt r, r.1.1, r.1.2.1, r.2.1) := by
 rw [Bgq, A1n]; rfl
omit hk in
theorem Aq3 (rs : List Az) (i : Nat) (r : Az) (h : rs[i]? = some r) : Fs k ((i : Int), rs) = some (wt r, rs) := by
 rw [Bgp, A1m, Ea h]; rfl
theorem Bca (rs : List Az) (h : rs.length < 1000) : If k rs = some (!(rs.all wt)) := by
 obtain ⟨r, e1, e2⟩ := Qt rs (fun n => !wt n) (fun o => Ip k (o.1.1, o.1.2.1, o.2.1)) (fun j i => (Cx k).L 2 [] j (M7 (rs, ((rs.length : Nat) : Int), i))) (by omega) (fun j i => by rw [Beh]; rfl)
  (fun x hx => by rw [Bge, A03, Bj9]; rfl) k 0 (by omega) (by omega)
 rw [Bdx, Av4, Beg, Ae1]
 rw [show (0 : Int) = ((0 : Nat) : Int) from rfl, e1]
 rw [List.drop_zero, Qs] at e2
 simp only [Option.bind_some]
 rw [show ((0 : Nat) : Int) = 0 from rfl, e2]
theorem Bh4 (rs : List Az) (i : Nat) (r : Az) (h : rs[i]? = some r) (hR : RI r) : Tot (It k ((i : Int), rs)) fun o => o.2 = rs ∧ 0 ≤ o.1 ∧ o.1 ≤ 30000 ∧ (wt r = false → 1 ≤ o.1) := by
 rw [Bgm, Aky]
 simp only [Ea h]
 obtain ⟨s, hs⟩ : ∃ s : Nat, r.1.1 = (s : Int) := ⟨r.1.1.toNat, by have := hR.s0; omega⟩
 have hsl : s ≤ r.2.1.length := by have := hR.s1; omega
 have h4 := hR.ok.1
 have hg0 := hR.g0
 have hg1 := hR.g1
 have hneg : negI .i64 r.1.2.1 = -r.1.2.1 := by unfold negI; rw [w64 (by omega)]; omega
 unfold cut
 rw [hs, ccutB, if_pos (by omega), Au0, List.take_length, hneg]
 have hdl : (r.2.1.drop s).length ≤ 4 := by simp; omega
 have hx0 : ∀ x, (r.2.1.drop s)[0]? = some x → r.1.2.1 < x.2.1 := fun x hx => hR.lt x (by rw [hs, Int.toNat_natCast]; simpa using hx)
 have hxa : ∀ x ∈ r.2.1.drop s, 1 ≤ x.2.1 ∧ x.2.1 ≤ 6000 := fun x hx => ⟨(hR.ok.2 x (List.mem_of_mem_drop hx)).1, (hR.ok.2 x (List.mem_of_mem_drop hx)).2.1⟩
 have hne : wt r = false → r.2.1.drop s ≠ [] := fun hw e => by
  unfold wt at hw
  have : r.2.1.length ≤ s := by simpa using e
  rw [hs] at hw
  simp at hw
  omega
 generalize r.2.1.drop s = t at *
 rw [ofn]
 refine B1 t (fun i' (m : Int) => (i' = 0 → m = -r.1.2.1) ∧ (1 ≤ i' → 1 ≤ m) ∧ m ≤ 6000 * i' ∧ -6000 ≤ m) (fun j i' m => (Di k).L 3 [] j (Oj ((i : Int), m, t, ((t.length : Nat) : Int), i', rs))) (fun j i' x m hx hI => ?_) (fun j m hI => ?_) k (-r.1.2.1) (by omega) (by simp; omega)
 ·have hx4 := Av hx
  obtain ⟨x1, x2⟩ := hxa x (Ax hx)
  obtain ⟨i0, i1, i2, i3⟩ := hI
  refine .inr ⟨m + x.2.1, ?_, by omega, fun _ => ?_, by omega, by omega⟩
  ·rw [A1i, Uu, Ao hx, Ak hx, Ar hx (by omega), ofn, w64 (by omega)]
  ·by_cases h0 : i' = 0
   ·subst h0
    have := hx0 x hx
    have := i0 rfl
    omega
   ·have := i1 (by omega)
    omega
 ·rw [A1i, Uu, Aq]
  obtain ⟨i0, i1, i2, i3⟩ := hI
  refine An ⟨rfl, ?_, ?_, fun hw => ?_⟩
  ·show 0 ≤ maxI 0 m; unfold maxI; split <;> omega
  ·show maxI 0 m ≤ 30000; unfold maxI; split <;> omega
  ·have := i1 (by
    have := hne hw
    cases t with
    | nil => exact absurd rfl this
    | cons _ _ => simp)
   show 1 ≤ maxI 0 m; unfold maxI; split <;> omega
theorem Bjn (rs0 : List Az) (i : Nat) : ∀ (j : Nat) (r : Az) (n : Int), i < rs0.length → RI r → n ≤ 30000 → (0 < n → (r.2.1.length : Int) - r.1.1 + 2 ≤ j) → 1 ≤ j →
  Tot ((C4 k).L 0 [] j (Kc ((i : Int), n, rs0.set i r))) fun o => ∃ r', o = rs0.set i r' ∧ RI r' := by
 intro j
 induction j with
 | zero => intro r n hi hR hn h1 h2; omega
 | succ j ih =>
  intro r n hi hR hn h1 h2
  have hat : (rs0.set i r)[i]? = some r := by rw [List.getElem?_set_self hi]
  rw [Bgo, Ak4]
  refine Gf (fun hn0 => ?_) fun hn0 => An ⟨r, rfl, hR⟩
  rw [ofn, Aq3 k _ i r hat, Option.bind_some]
  cases hw : wt r with
  | true => exact An ⟨r, rfl, hR⟩
  | false =>
   obtain ⟨s, x, hs, hx, hlt, x1, x2⟩ := Qj hR hw
   have hsl := Av hx
   have hg0 := hR.g0
   have h4 := hR.ok.1
   have hb := h1 hn0
   rw [Bool.not_false, cond_true]
   simp only [Ea hat, hs, Ak hx]
   have e1 : IntKind.wrap .i64 (x.2.1 - r.1.2.1) = x.2.1 - r.1.2.1 := w64 (by omega)
   rw [e1]
   obtain ⟨m, hm, hm1, hm2, hm3⟩ : ∃ m, minI n (x.2.1 - r.1.2.1) = m ∧ 1 ≤ m ∧ m ≤ x.2.1 - r.1.2.1 ∧ (m = n ∨ m = x.2.1 - r.1.2.1) := by
    refine ⟨_, rfl, ?_, ?_, ?_⟩ <;> unfold minI <;> split <;> omega
   have hmn : m ≤ n := by rw [← hm]; unfold minI; split <;> omega
   rw [hm, w64 (by omega : -9223372036854775808 ≤ r.1.2.1 + m ∧ r.1.2.1 + m ≤ 9223372036854775807), w64 (by omega : -9223372036854775808 ≤ n - m ∧ n - m ≤ 9223372036854775807), w64 (by omega : -9223372036854775808 ≤ (s : Int) + 1 ∧ (s : Int) + 1 ≤ 9223372036854775807)]
   simp only [Int.toNat_natCast, List.set_set]
   by_cases he : r.1.2.1 + m = x.2.1
   ·rw [show (r.1.2.1 + m == x.2.1) = true by simpa using he, cond_true]
    rw [Fe]
    exact ih ((((s + 1 : Nat) : Int), (0, ())), (r.2.1, ())) (n - m) hi (Aig hR.ok (s + 1) (by omega)) (by omega) (fun h => by show ((r.2.1.length : Nat) : Int) - ((s + 1 : Nat) : Int) + 2 ≤ _; omega) (by omega)
   ·rw [show (r.1.2.1 + m == x.2.1) = false by simpa using he, cond_false]
    have hmn2 : m = n := by omega
    refine ih (((s : Int), (r.1.2.1 + m, ())), (r.2.1, ())) (n - m) hi ⟨hR.ok, by simp, by simp; omega, by simp only; omega, by simp only; omega, fun y hy => ?_⟩ (by omega) (fun h => by omega) (by omega)
    have hy2 : r.2.1[s]? = some y := by simpa using hy
    rw [hx] at hy2
    cases hy2
    show r.1.2.1 + m < x.2.1
    omega
theorem Bjm (rs : List Az) (i : Nat) (r : Az) (n : Int) (h : rs[i]? = some r) (hR : RI r) (hn : n ≤ 30000) : Tot (Iu k ((i : Int), n, rs)) fun o => ∃ r', o = rs.set i r' ∧ RI r' := by
 have h4 := hR.ok.1
 have h5 := hR.s0
 have hi := Av h
 have e : rs.set i r = rs := by
  obtain ⟨h1, h2⟩ := List.getElem?_eq_some_iff.1 h
  rw [← h2]; exact List.set_getElem_self h1
 rw [Bgn, Ak3, ofn]
 have := Bjn k hk rs i k r n hi hR hn (fun _ => by omega) (by omega)
 rw [e] at this
 exact this
end
theorem maxI_le (a b : Int) : a ≤ maxI a b ∧ b ≤ maxI a b ∧ (maxI a b = a ∨ maxI a b = b) := by unfold maxI; split <;> omega
theorem minI_le (a b : Int) : minI a b ≤ a ∧ minI a b ≤ b ∧ (minI a b = a ∨ minI a b = b) := by unfold minI; split <;> omega
def fresh (g : List (List A8)) : List Az := g.map fun l => (((0 : Int), ((0 : Int), ())), (l, ()))
structure MI (sp : List Ba) (span : Int) (rs : List Az) : Prop where
 s0 : 0 ≤ span
 s1 : span < ((sp.length : Nat) : Int)
 rl : rs.length ≤ 2
 ri : ∀ r ∈ rs, RI r
 nw : rs.all wt = false
theorem Aov {α β R : Type} (l : List α) (f : α → β) (F : Nat → Int → List β → Option R) (K : List β → Option R) (h1 : ∀ j (i : Nat) x (b : List β), l[i]? = some x → b.length = i → F (j + 1) (i : Int) b = F j ((i + 1 : Nat) : Int) (b ++ [f x])) (h0 : ∀ j b, F (j + 1) ((l.length : Nat) : Int) b = K b) :
  ∀ (j i : Nat), l.length < i + j → i ≤ l.length → F j (i : Int) ((l.take i).map f) = K (l.map f)
 | 0, i, h, hi => by omega
 | j + 1, i, h, hi => by
  rcases Ce hi with rfl | ⟨x, hx⟩
  ·rw [h0, List.take_length]
  ·rw [h1 j i x _ hx (by simp; omega)]
   have e : (l.take i).map f ++ [f x] = (l.take (i + 1)).map f := by rw [Yu hx, List.map_append]; rfl
   rw [e]
   exact Aov l f F K h1 h0 j (i + 1) (by omega) (by have := Av hx; omega)
theorem Yv (a n : Nat) : Int.tmod (a : Int) (n : Int) = ((a % n : Nat) : Int) := rfl
theorem Az9 {sp : List Ba} (hS : SpOK sp) {at_ : Nat} {g : Ba} (hg : sp[at_]? = some g) (h : (fresh g.1).all wt = false) : MI sp (at_ : Int) (fresh g.1) := by
 obtain ⟨h1, h2, h3⟩ := hS
 obtain ⟨g1, g2⟩ := h2 g (Ax hg)
 have := Av hg
 refine ⟨by omega, by omega, by simpa [fresh] using g1, fun r hr => ?_, h⟩
 obtain ⟨l, hl, rfl⟩ := List.mem_map.1 hr
 exact Aig (g2 l hl) 0 (Nat.zero_le _)
theorem A0a {g : List (List A8)} {l : List A8} (hl : l ∈ g) (hne : l ≠ []) : (fresh g).all wt = false := by
 rw [List.all_eq_false]
 refine ⟨_, List.mem_map.2 ⟨l, hl, rfl⟩, ?_⟩
 unfold wt
 simp
 intro e
 exact hne (List.length_eq_zero_iff.1 (by omega))
section
variable (k : Nat) (hk : 10000 ≤ k) (nm : List Int) (hd : List YT1) (pd : List YT2) (ph : List YT3) (z : Int) (tn : List Int) (off : Int) (sp : List Ba) (i1 i2 c now : Int)
include hk
theorem Wj (span : Int) (rs : List Az) (h : rs.length < 1000) : Cn k (nm, hd, pd, ph, z, tn, off, sp, i1, i2, c, now, span, rs) = some (rs.all wt, nm, hd, pd, ph, z, tn, off, sp, i1, i2, c, now, span, rs) := by
 rw [Bgd, A0y, Bca k hk rs h, Option.bind_some, Bool.not_not]
theorem A9r (hS : SpOK sp) (gi : Nat) (hgi : ∃ g, sp[gi]? = some g ∧ ∃ l ∈ g.1, l ≠ []) : ∀ (j d at_ : Nat) (span : Int) (rs : List Az), at_ < sp.length → (at_ + d) % sp.length = gi → d < j →
  Tot ((Bs k).L 0 [] j (Hb ((at_ : Int), nm, hd, pd, ph, z, tn, off, sp, i1, i2, c, now, span, rs))) fun r => ∃ span' rs', r = (nm, hd, pd, ph, z, tn, off, sp, i1, i2, c, now, span', rs') ∧ MI sp span' rs' := by
 intro j
 induction j with
 | zero => intro d at_ span rs h1 h2 h3; omega
 | succ j ih =>
  intro d at_ span rs h1 h2 h3
  have hg : sp[at_]? = some sp[at_] := List.getElem?_eq_getElem h1
  generalize sp[at_] = g at hg
  have hg2 := (hS.2.1 g (Ax hg)).1
  have h4 := hS.1
  rw [Bf6, Ajh, Ak hg]
  have L := Aov g.1 (fun l : List A8 => ((((0 : Int), ((0 : Int), ())), (l, ())) : Az)) (fun j' i' b => (Bs k).L 2 [j] j' (N9 ((at_ : Int), g.1, ((g.1.length : Nat) : Int), i', nm, hd, pd, ph, z, tn, off, sp, i1, i2, c, now, (at_ : Int), b)))
   (fun b => (Cn k (nm, hd, pd, ph, z, tn, off, sp, i1, i2, c, now, (at_ : Int), b)).bind fun o3 => bif (!o3.1) then some o3.2 else (bif (!decide (((List.length o3.2.2.2.2.2.2.2.2.1 : Nat) : Int) = 0)) then (Bs k).L 0 [] j (Hb (Int.tmod (IntKind.wrap .i64 ((at_ : Int) + 1)) ((List.length o3.2.2.2.2.2.2.2.2.1 : Nat) : Int), o3.2)) else none))
   (fun j' i' l b hl hb => by
    have := Av hl
    rw [A0l, Ub, Ao hl, Ak hl, app1 (by omega) (by omega), Ar hl (by omega)])
   (fun j' b => by rw [A0l, Ub, Aq]) k 0 (by omega) (by omega)
  refine (congrArg (fun c => Tot c _) (show _ = _ from L)).mpr ?_
  show Tot ((Cn k (nm, hd, pd, ph, z, tn, off, sp, i1, i2, c, now, (at_ : Int), fresh g.1)).bind _) _
  rw [Wj k hk nm hd pd ph z tn off sp i1 i2 c now (at_ : Int) (fresh g.1) (by simp [fresh]; omega), Option.bind_some]
  cases hw : (fresh g.1).all wt with
  | false => exact An ⟨_, _, rfl, Az9 hS hg hw⟩
  | true =>
   have hd0 : d ≠ 0 := fun e => by
    subst e
    rw [Nat.add_zero, Nat.mod_eq_of_lt h1] at h2
    obtain ⟨g', e1, l, e2, e3⟩ := hgi
    rw [← h2, hg] at e1
    cases e1
    rw [A0a e2 e3] at hw
    cases hw
   have hn : ¬ ((sp.length : Nat) : Int) = 0 := by omega
   show Tot (bif !decide (((sp.length : Nat) : Int) = 0) then (Bs k).L 0 [] j (Hb (Int.tmod (IntKind.wrap .i64 ((at_ : Int) + 1)) ((sp.length : Nat) : Int), nm, hd, pd, ph, z, tn, off, sp, i1, i2, c, now, (at_ : Int), fresh g.1)) else none) _
   rw [decide_eq_false hn, Bool.not_false, cond_true, w64 (by omega), Fe, Yv]
   refine ih (d - 1) ((at_ + 1) % sp.length) _ _ (Nat.mod_lt _ (by omega)) ?_ (by omega)
   rw [Nat.mod_add_mod, ← h2]
   congr 1
   omega
theorem A9s (hS : SpOK sp) (at_ : Nat) (h : at_ < sp.length) (span : Int) : Tot (Fq k ((at_ : Int), nm, hd, pd, ph, z, tn, off, sp, i1, i2, c, now, span)) fun r => ∃ span' rs', r = (nm, hd, pd, ph, z, tn, off, sp, i1, i2, c, now, span', rs') ∧ MI sp span' rs' := by
 obtain ⟨g, hg, l, hl, hne⟩ := hS.2.2
 obtain ⟨gi, hgi⟩ := List.getElem?_of_mem hg
 have h4 := hS.1
 have hlt := Av hgi
 rw [Bf5, Ajg]
 refine A9r k hk nm hd pd ph z tn off sp i1 i2 c now hS gi ⟨g, hgi, l, hl, hne⟩ k (sp.length + gi - at_) at_ span _ h ?_ (by omega)
 rw [show at_ + (sp.length + gi - at_) = gi + sp.length by omega, Nat.add_mod_right, Nat.mod_eq_of_lt hlt]
theorem A9q (hS : SpOK sp) (gi : Nat) (hgi : ∃ g, sp[gi]? = some g ∧ ∃ l ∈ g.1, l ≠ []) : ∀ (j d at_ : Nat) (span : Int) (rs : List Az), at_ < sp.length → (at_ + d) % sp.length = gi → d < j →
  Tot ((Bt k).L 0 [] j (Ha ((at_ : Int), nm, hd, pd, ph, z, tn, off, sp, i1, i2, c, now, span, rs))) fun r => ∃ span' rs', r = (nm, hd, pd, ph, z, tn, off, sp, i1, i2, c, now, span', rs') ∧ MI sp span' rs' := by
 intro j
 induction j with
 | zero => intro d at_ span rs h1 h2 h3; omega
 | succ j ih =>
  intro d at_ span rs h1 h2 h3
  have hg : sp[at_]? = some sp[at_] := List.getElem?_eq_getElem h1
  generalize sp[at_] = g at hg
  have hg2 := (hS.2.1 g (Ax hg)).1
  have h4 := hS.1
  rw [Bf4, Ai7, Ak hg]
  have L := Aov g.1 (fun l : List A8 => ((((0 : Int), ((0 : Int), ())), (l, ())) : Az)) (fun j' i' b => (Bt k).L 2 [j] j' (N7 ((at_ : Int), g.1, ((g.1.length : Nat) : Int), i', nm, hd, pd, ph, z, tn, off, sp, i1, i2, c, now, (at_ : Int), b)))
   (fun b => (Cn k (nm, hd, pd, ph, z, tn, off, sp, i1, i2, c, now, (at_ : Int), b)).bind fun o3 => bif (!o3.1) then some o3.2 else (bif (!decide (((List.length o3.2.2.2.2.2.2.2.2.1 : Nat) : Int) = 0)) then (Bt k).L 0 [] j (Ha (Int.tmod (IntKind.wrap .i64 ((at_ : Int) + 1)) ((List.length o3.2.2.2.2.2.2.2.2.1 : Nat) : Int), o3.2)) else none))
   (fun j' i' l b hl hb => by
    have := Av hl
    rw [A0j, Ua, Ao hl, Ak hl, app1 (by omega) (by omega), Ar hl (by omega)])
   (fun j' b => by rw [A0j, Ua, Aq]) k 0 (by omega) (by omega)
  refine (congrArg (fun c => Tot c _) (show _ = _ from L)).mpr ?_
  show Tot ((Cn k (nm, hd, pd, ph, z, tn, off, sp, i1, i2, c, now, (at_ : Int), fresh g.1)).bind _) _
  rw [Wj k hk nm hd pd ph z tn off sp i1 i2 c now (at_ : Int) (fresh g.1) (by simp [fresh]; omega), Option.bind_some]
  cases hw : (fresh g.1).all wt with
  | false => exact An ⟨_, _, rfl, Az9 hS hg hw⟩
  | true =>
   have hd0 : d ≠ 0 := fun e => by
    subst e
    rw [Nat.add_zero, Nat.mod_eq_of_lt h1] at h2
    obtain ⟨g', e1, l, e2, e3⟩ := hgi
    rw [← h2, hg] at e1
    cases e1
    rw [A0a e2 e3] at hw
    cases hw
   have hn : ¬ ((sp.length : Nat) : Int) = 0 := by omega
   show Tot (bif !decide (((sp.length : Nat) : Int) = 0) then (Bt k).L 0 [] j (Ha (Int.tmod (IntKind.wrap .i64 ((at_ : Int) + 1)) ((sp.length : Nat) : Int), nm, hd, pd, ph, z, tn, off, sp, i1, i2, c, now, (at_ : Int), fresh g.1)) else none) _
   rw [decide_eq_false hn, Bool.not_false, cond_true, w64 (by omega), Fe, Yv]
   refine ih (d - 1) ((at_ + 1) % sp.length) _ _ (Nat.mod_lt _ (by omega)) ?_ (by omega)
   rw [Nat.mod_add_mod, ← h2]
   congr 1
   omega
theorem Arv (hS : SpOK sp) (at_ : Nat) (h : at_ < sp.length) (span : Int) (rs : List Az) : Tot (Gu k ((at_ : Int), nm, hd, pd, ph, z, tn, off, sp, i1, i2, c, now, span, rs)) fun r => ∃ span' rs', r = (nm, hd, pd, ph, z, tn, off, sp, i1, i2, c, now, span', rs') ∧ MI sp span' rs' := by
 obtain ⟨g, hg, l, hl, hne⟩ := hS.2.2
 obtain ⟨gi, hgi⟩ := List.getElem?_of_mem hg
 have h4 := hS.1
 have hlt := Av hgi
 rw [Bf3, Ai6]
 refine A9q k hk nm hd pd ph z tn off sp i1 i2 c now hS gi ⟨g, hgi, l, hl, hne⟩ k (sp.length + gi - at_) at_ span _ h ?_ (by omega)
 rw [show at_ + (sp.length + gi - at_) = gi + sp.length by omega, Nat.add_mod_right, Nat.mod_eq_of_lt hlt]
theorem Ben (hS : SpOK sp) : ∀ (j : Nat) (n span : Int) (rs : List Az), n ≤ 6000 → n < j → 1 ≤ j → MI sp span rs →
  Tot ((Bc k).L 1 [] j (J6 (n, nm, hd, pd, ph, z, tn, off, sp, i1, i2, c, now, span, rs))) fun r => ∃ span' rs', r = (nm, hd, pd, ph, z, tn, off, sp, i1, i2, c, now, span', rs') ∧ MI sp span' rs' := by
 intro j
 induction j with
 | zero => intro n span rs h0 h1 h2 hM; omega
 | succ j ih =>
  intro n span rs h0 h1 h2 hM
  rw [Bf8, Ajs]
  refine Gf (fun hn => ?_) fun hn => An ⟨span, rs, rfl, hM⟩
  have hr2 := hM.rl
  obtain ⟨m, hm0, hm1, hm2, L4⟩ : ∃ m : Int, 0 ≤ m ∧ m ≤ 30000 ∧ 1 ≤ m ∧ (Bc k).L 4 [j] k (J7 (n, 0, ((rs.length : Nat) : Int), 0, nm, hd, pd, ph, z, tn, off, sp, i1, i2, c, now, span, rs)) = (Bc k).L 11 [j] k (Hc (IntKind.wrap .i64 (n - minI n m), minI n m, ((rs.length : Nat) : Int), 0, nm, hd, pd, ph, z, tn, off, sp, i1, i2, c, now, span, rs)) := by
   have H : ∀ (j' i' : Nat) (a : Int), rs.length < i' + j' → i' ≤ rs.length → (0 ≤ a ∧ a ≤ 30000 ∧ ((∃ r ∈ rs.take i', wt r = false) → 1 ≤ a)) →
     ∃ m : Int, (0 ≤ m ∧ m ≤ 30000 ∧ 1 ≤ m) ∧ (Bc k).L 4 [j] j' (J7 (n, a, ((rs.length : Nat) : Int), (i' : Int), nm, hd, pd, ph, z, tn, off, sp, i1, i2, c, now, span, rs)) = (Bc k).L 11 [j] k (Hc (IntKind.wrap .i64 (n - minI n m), minI n m, ((rs.length : Nat) : Int), 0, nm, hd, pd, ph, z, tn, off, sp, i1, i2, c, now, span, rs)) := by
    intro j'
    induction j' with
    | zero => intro i' a g1 g2 g3; omega
    | succ j' ih' =>
     intro i' a g1 g2 g3
     rw [Bga, Aju]
     rcases Ce g2 with rfl | ⟨r, hr⟩
     ·rw [Aq]
      refine ⟨a, ⟨g3.1, g3.2.1, g3.2.2 ?_⟩, rfl⟩
      obtain ⟨r, hr, hw⟩ := List.all_eq_false.1 hM.nw
      exact ⟨r, by simpa using hr, by simpa using hw⟩
     ·obtain ⟨o, eo, o1, o2, o3, o4⟩ := Bh4 k hk rs i' r hr (hM.ri r (Ax hr))
      rw [Ao hr, Dk hr, ofn, eo, Option.bind_some, o1, Ar hr (by omega)]
      have hmx := maxI_le a o.1
      refine ih' (i' + 1) (maxI a o.1) (by omega) (by have := Av hr; omega) ⟨by omega, by omega, ?_⟩
      rw [Yu hr]
      rintro ⟨r', hr', hw⟩
      rcases List.mem_append.1 hr' with hr' | hr'
      ·have := g3.2.2 ⟨r', hr', hw⟩; omega
      ·rw [List.mem_singleton.1 hr'] at hw
       have := o4 hw; omega
   obtain ⟨m, ⟨q1, q2, q3⟩, q4⟩ := H k 0 0 (by omega) (by omega) ⟨by omega, by omega, by simp⟩
   exact ⟨m, q1, q2, q3, q4⟩
  rw [L4]
  have hmn := minI_le n m
  rw [w64 (by omega)]
  generalize minI n m = q at hmn
  have hq1 : 1 ≤ q := by omega
  have L11 : ∀ (j' i' : Nat) (rs' : List Az), rs.length < i' + j' → i' ≤ rs.length → rs'.length = rs.length → (∀ r ∈ rs', RI r) →
    Tot ((Bc k).L 11 [j] j' (Hc (n - q, q, ((rs.length : Nat) : Int), (i' : Int), nm, hd, pd, ph, z, tn, off, sp, i1, i2, c, now, span, rs'))) fun r => ∃ span' rs', r = (nm, hd, pd, ph, z, tn, off, sp, i1, i2, c, now, span', rs') ∧ MI sp span' rs' := by
   intro j'
   induction j' with
   | zero => intro i' rs' g1 g2 g3 g4; omega
   | succ j' ih' =>
    intro i' rs' g1 g2 g3 g4
    rw [Bf9, Ajt]
    rw [← g3] at g2 ⊢
    rcases Ce g2 with rfl | ⟨r, hr⟩
    ·rw [Aq, Wj k hk nm hd pd ph z tn off sp i1 i2 c now span rs' (by omega), Option.bind_some]
     simp only
     cases hw : rs'.all wt with
     | false => exact ih (n - q) span rs' (by omega) (by omega) (by omega) ⟨hM.s0, hM.s1, by omega, g4, hw⟩
     | true =>
      have hs0 := hM.s0
      have hs1 := hM.s1
      have hn : ¬ ((sp.length : Nat) : Int) = 0 := by omega
      rw [cond_true, decide_eq_false hn, Bool.not_false, cond_true]
      obtain ⟨s, rfl⟩ : ∃ s : Nat, span = (s : Int) := ⟨span.toNat, by omega⟩
      have h4 := hS.1
      rw [w64 (by omega), Fe, Yv]
      obtain ⟨o, eo, span', rs2, rfl, hM2⟩ := Arv k hk nm hd pd ph z tn off sp i1 i2 c now hS ((s + 1) % sp.length) (Nat.mod_lt _ (by omega)) (s : Int) rs'
      rw [eo, Option.bind_some]
      exact ih (n - q) span' rs2 (by omega) (by omega) (by omega) hM2
    ·have hlt := Av hr
     obtain ⟨o, eo, r', rfl, hr'⟩ := Bjm k hk rs' i' r q hr (g4 r (Ax hr)) (by omega)
     rw [Ao hr, Dk hr, ofn, eo, Option.bind_some, Ar hr (by omega), g3]
     refine ih' (i' + 1) (rs'.set i' r') (by omega) (by omega) (by simpa using g3) fun y hy => ?_
     rcases List.mem_or_eq_of_mem_set hy with hy | rfl
     ·exact g4 y hy
     ·exact hr'
  exact L11 k 0 rs (by omega) (by omega) rfl hM.ri
theorem Beo (hS : SpOK sp) (hc : 1 ≤ c ∧ c ≤ 6000) (n span : Int) (rs : List Az) (hM : MI sp span rs) : Tot (Gv k (n, nm, hd, pd, ph, z, tn, off, sp, i1, i2, c, now, span, rs)) fun r => ∃ span' rs', r = (nm, hd, pd, ph, z, tn, off, sp, i1, i2, c, now, span', rs') ∧ MI sp span' rs' := by
 rw [Bf7, Ajr]
 rw [decide_eq_false (show ¬ c = 0 by omega), Bool.not_false, cond_true]
 have := Int.tmod_lt_of_pos n (show 0 < c by omega)
 exact Ben k hk nm hd pd ph z tn off sp i1 i2 c now hS k _ span rs (by omega) (by omega) (by omega) hM
end
theorem Atq (k : Nat) (hk : 1000 ≤ k) (tn : List Int) (off : Int) (sp : List Ba) (i1 i2 : Int) (hS : Db sp) : csimcopied k (tn, off, sp, i1, i2) = some (tn, off, sp, i1, i2) := by
 obtain ⟨h1, h2⟩ := hS
 have hA : ∀ (sz n : Nat), sz ≤ 1000 → n < 1000 → appB sz 0 n = true := fun sz n hz hn => by
  have : n * sz ≤ 1000 * 1000 := Nat.mul_le_mul (by omega) hz
  simp [appB, maxLen]; omega
 have h : okT k (tn, off, sp, i1, i2) = true := by
  unfold okT
  simp only [Bool.and_eq_true, decide_eq_true_eq, List.all_eq_true]
  refine ⟨hA _ _ (by omega) h1, by omega, by omega, fun g hg => ?_⟩
  obtain ⟨g1, g2⟩ := h2 g hg
  unfold okP
  simp only [Bool.and_eq_true, decide_eq_true_eq, List.all_eq_true]
  refine ⟨hA _ _ (by omega) g1, by omega, by omega, fun r hr => ?_⟩
  obtain ⟨r1, r2⟩ := g2 r hr
  unfold okR okW
  simp only [Bool.and_eq_true, decide_eq_true_eq, List.all_eq_true]
  exact ⟨hA _ _ (by omega) r1, fun s hs => hA _ _ (by omega) (r2 s hs), by omega, by omega⟩
 show (bif okT k (tn, off, sp, i1, i2) then some (tn, off, sp, i1, i2) else none) = _
 rw [h]; rfl
section
variable (k : Nat) (hk : 10000 ≤ k) (a0 : List Int) (a1 : List YT1) (a2 : List YT2) (a3 : List YT3) (a4 : List ((List YT4) × Unit)) (a5 : List YT7) (a6 : Int) (tn : List Int) (off : Int) (sp : List Ba) (i1 i2 : Int)
include hk
theorem Bjl (hN : NodeS (a0, a1, a2, a3, a4, a5, a6, ())) (hS : Db sp) : ∃ ff : Bool, E0 k (a0, a1, a2, a3, a4, a5, a6, tn, off, sp, i1, i2) = some ff ∧
  (ff = false → Fr k (a0, a1, a2, a3, a4, a5, a6, tn, off, sp, i1, i2) = some (.inl 180)) ∧
  (ff = true → ∃ (c span : Int) (rs : List Az), (1 ≤ c ∧ c ≤ 6000) ∧ Du k (tn, off, sp, i1, i2) = some c ∧ SpOK sp ∧ MI sp span rs ∧
   Ir k (a0, a1, a2, a3, a4, a5, a6, tn, off, sp, i1, i2) = some (0, [], a1, a2, a3, 0, tn, off, sp, i1, i2, c, 0, span, rs) ∧
   Fr k (a0, a1, a2, a3, a4, a5, a6, tn, off, sp, i1, i2) = some (.inr (0, [], a1, a2, a3, 0, tn, off, sp, i1, i2, c, 0, span, rs))) := by
 obtain ⟨ff, ef, hf⟩ := Bd5 k (by omega) a0 a1 a2 a3 a4 a5 a6 tn off sp i1 i2 hN hS
 refine ⟨ff, ef, fun h => ?_, fun h => ?_⟩
 ·rw [A1a, Akm, ef, h]; rfl
 ·obtain ⟨f1, f2, f3⟩ := hf h
  have hO := spOK_of hS f1 f2.1
  have hlt : 0 < sp.length := by
   obtain ⟨g, hg, _⟩ := hO.2.2
   exact List.length_pos_of_mem hg
  generalize lenF sp = c at *
  obtain ⟨m, em, span, rs, rfl, hM⟩ := A9s k hk [] a1 a2 a3 0 tn off sp i1 i2 c 0 hO 0 hlt 0
  replace em : Fq k ((0 : Int), [], a1, a2, a3, (0 : Int), tn, off, sp, i1, i2, c, (0 : Int), (0 : Int)) = some ([], a1, a2, a3, (0 : Int), tn, off, sp, i1, i2, c, (0 : Int), span, rs) := em
  obtain ⟨m2, em2, span2, rs2, rfl, hM2⟩ := Beo k hk [] a1 a2 a3 0 tn off sp i1 i2 c 0 hO f2 (IntKind.wrap .i64 (c - (Int.tmod (IntKind.wrap .i64 ((Int.tmod off c) + c)) c))) span rs hM
  have hc : decide (c = 0) = false := decide_eq_false (by omega)
  refine ⟨c, span2, rs2, f2, f3, hO, hM2, ?_, ?_⟩
  ·rw [Bgh, A1d, ef, Option.bind_some, h, Bool.not_true, cond_false, Aul k (by omega) a0 a1 a2 a3 a4 a5 a6 hN, Option.bind_some, Atq k (by omega) tn off sp i1 i2 hS, Option.bind_some, f3, Option.bind_some]
   simp only
   rw [em, Option.bind_some]
   simp only
   rw [hc, Bool.not_false, cond_true, cond_true, em2]
   rfl
  ·rw [A1a, Akm, ef, Option.bind_some, h, Bool.not_true, cond_false, Aul k (by omega) a0 a1 a2 a3 a4 a5 a6 hN, Option.bind_some, Atq k (by omega) tn off sp i1 i2 hS, Option.bind_some, f3, Option.bind_some]
   simp only
   rw [em, Option.bind_some]
   simp only
   rw [hc, Bool.not_false, cond_true, cond_true, em2]
   rfl
end
theorem Bi3 {α : Type} {d v : α} {l : List α} {i : Nat} (h : i < l.length) : rdA d (List.set l i v) i = v := by
 unfold rdA
 rw [List.getD_eq_getElem?_getD, List.getElem?_set_self h]; rfl
theorem rdA_at' {α : Type} {d x : α} {l : List α} {i : Nat} (h : l[i]? = some x) : rdA d l i = x := by
 unfold rdA
 rw [List.getD_eq_getElem?_getD, h]; rfl
theorem Bii (k : Nat) (rs : List Az) (i : Nat) (r : Az) (h : rs[i]? = some r) (hR : RI r) (s : Nat) (x : A8) (hs : r.1.1 = (s : Int)) (hx : r.2.1[s]? = some x) : Tot (Is k ((i : Int), x.2.1, rs)) fun o => ∃ r', o = rs.set i r' ∧ RI r' := by
 have hi := Av h
 have hg0 := hR.g0
 have hg1 := hR.g1
 have hsl := Av hx
 have h4 := hR.ok.1
 have hlt := hR.lt x (by rw [hs, Int.toNat_natCast]; exact hx)
 have hx1 := hR.ok.2 x (Ax hx)
 rw [Bgl, A1h]
 simp only [Int.toNat_natCast, rdA_at' h, Bi3 hi, List.set_set, hs]
 have hi2 : i < (rs.set i (((s : Int), (IntKind.wrap .i64 (r.1.2.1 + 1), ())), (r.2.1, ()))).length := by simpa using hi
 rw [w64 (by omega : -9223372036854775808 ≤ r.1.2.1 + 1 ∧ r.1.2.1 + 1 ≤ 9223372036854775807)]
 by_cases he : r.1.2.1 + 1 = x.2.1
 ·rw [show (r.1.2.1 + 1 == x.2.1) = true by simpa using he, cond_true, w64 (by omega : -9223372036854775808 ≤ (s : Int) + 1 ∧ (s : Int) + 1 ≤ 9223372036854775807), Fe]
  exact An ⟨_, rfl, Aig hR.ok (s + 1) (by omega)⟩
 ·rw [show (r.1.2.1 + 1 == x.2.1) = false by simpa using he, cond_false]
  refine An ⟨_, rfl, hR.ok, by simp, by simp; omega, by simp only; omega, by simp only; omega, fun y hy => ?_⟩
  have hy2 : r.2.1[s]? = some y := by simpa using hy
  rw [hx] at hy2
  cases hy2
  show r.1.2.1 + 1 < x.2.1
  omega
section
variable (k : Nat) (hk : 10000 ≤ k) (nm : List Int) (hd : List YT1) (pd : List YT2) (ph : List YT3) (z : Int) (tn : List Int) (off : Int) (sp : List Ba) (i1 i2 c now : Int)
include hk
theorem Bjy (hS : SpOK sp) (hc : 1 ≤ c) (span : Int) (rs : List Az) (hM : MI sp span rs) : Tot (Fp k (nm, hd, pd, ph, z, tn, off, sp, i1, i2, c, now, span, rs)) fun r => ∃ span' rs', r = (nm, hd, pd, ph, z, tn, off, sp, i1, i2, c, IntKind.wrap .i64 (now + 1), span', rs') ∧ MI sp span' rs' := by
 have hr2 := hM.rl
 rw [Bf1, Aiy, A0u, Aj0, Option.bind_some, decide_eq_true (show c > 0 by omega), Bool.not_true, cond_false]
 have L : ∀ (j i : Nat) (rs' : List Az), rs.length < i + j → i ≤ rs.length → rs'.length = rs.length → (∀ r ∈ rs', RI r) →
   Tot ((C0 k).L 3 [] j (J2 (((rs.length : Nat) : Int), (i : Int), nm, hd, pd, ph, z, tn, off, sp, i1, i2, c, IntKind.wrap .i64 (now + 1), span, rs'))) fun r => ∃ span' rs', r = (nm, hd, pd, ph, z, tn, off, sp, i1, i2, c, IntKind.wrap .i64 (now + 1), span', rs') ∧ MI sp span' rs' := by
  intro j
  induction j with
  | zero => intro i rs' g1 g2 g3 g4; omega
  | succ j ih =>
   intro i rs' g1 g2 g3 g4
   rw [Bf2, Aiz]
   rw [← g3] at g2 ⊢
   rcases Ce g2 with rfl | ⟨r, hr⟩
   ·rw [Aq, Wj k hk nm hd pd ph z tn off sp i1 i2 c (IntKind.wrap .i64 (now + 1)) span rs' (by omega), Option.bind_some]
    simp only
    cases hw : rs'.all wt with
    | false => exact An ⟨_, _, rfl, hM.s0, hM.s1, by omega, g4, hw⟩
    | true =>
     have hs0 := hM.s0
     have hs1 := hM.s1
     have hn : ¬ ((sp.length : Nat) : Int) = 0 := by omega
     rw [cond_true, decide_eq_false hn, Bool.not_false, cond_true]
     obtain ⟨s, rfl⟩ : ∃ s : Nat, span = (s : Int) := ⟨span.toNat, by omega⟩
     have h4 := hS.1
     rw [w64 (by omega : -9223372036854775808 ≤ (s : Int) + 1 ∧ (s : Int) + 1 ≤ 9223372036854775807), Fe, Yv]
     obtain ⟨o, eo, span', rs2, rfl, hM2⟩ := Arv k hk nm hd pd ph z tn off sp i1 i2 c (IntKind.wrap .i64 (now + 1)) hS ((s + 1) % sp.length) (Nat.mod_lt _ (by omega)) (s : Int) rs'
     rw [eo, Option.bind_some]
     exact An ⟨_, _, rfl, hM2⟩
   ·have hlt := Av hr
    rw [Ao hr, Dk hr, ofn, Aq3 k rs' i r hr, Option.bind_some, Ar hr (by omega), g3]
    simp only
    cases hw : wt r with
    | true => exact ih (i + 1) rs' (by omega) (by omega) g3 g4
    | false =>
     obtain ⟨s, x, hs, hx, _⟩ := Qj (g4 r (Ax hr)) hw
     rw [Bool.not_false, cond_true, Ea hr, hs, Ak hx]
     obtain ⟨o, eo, r', rfl, hr'⟩ := Bii k rs' i r hr (g4 r (Ax hr)) s x hs hx
     rw [eo, Option.bind_some]
     refine ih (i + 1) (rs'.set i r') (by omega) (by omega) (by simpa using g3) fun y hy => ?_
     rcases List.mem_or_eq_of_mem_set hy with hy | rfl
     ·exact g4 y hy
     ·exact hr'
 exact L k 0 rs (by omega) (by omega) rfl hM.ri
theorem A41 (p : List Int) (span : Int) (rs : List Az) (hM : MI sp span rs) : Tot (Gw k (p, nm, hd, pd, ph, z, tn, off, sp, i1, i2, c, now, span, rs)) fun r => (∃ (i : Nat) (r0 : Az), rs[i]? = some r0 ∧ wt r0 = false ∧ r = .inl ((i : Int), nm, hd, pd, ph, z, tn, off, sp, i1, i2, c, now, span, rs)) ∨ r = .inr (nm, hd, pd, ph, z, tn, off, sp, i1, i2, c, now, span, rs) := by
 have hr2 := hM.rl
 rw [Bgc, Aj5]
 refine B1 rs (fun _ (_ : Unit) => True) (fun j i _ => (C2 k).L 2 [] j (J9 (p, ((rs.length : Nat) : Int), i, nm, hd, pd, ph, z, tn, off, sp, i1, i2, c, now, span, rs))) (fun j i r s hr _ => ?_) (fun j s _ => ?_) k () (by omega) trivial
 ·rw [A0w, Uf, Ao hr, Dk hr, ofn, Aq3 k rs i r hr, Option.bind_some, Ar hr (by omega)]
  simp only
  cases hw : wt r with
  | true => exact .inr ⟨(), rfl, trivial⟩
  | false =>
   obtain ⟨s, x, hs, hx, _⟩ := Qj (hM.ri r (Ax hr)) hw
   rw [Bool.not_false, cond_true, Ea hr, hs, Ak hx]
   cases (x.1 == p) with
   | true => exact .inl (An (.inl ⟨i, r, hr, hw, rfl⟩))
   | false => exact .inr ⟨(), rfl, trivial⟩
 ·rw [A0w, Uf, Aq]
  exact An (.inr rfl)
omit hk in
theorem Asr (a b c : Int) : Tot (csimcolour k (a, b, c)) fun _ => True := by
 rw [Bgi, A1e]
 exact Gf (fun _ => An trivial) fun _ => Gf (fun _ => An trivial) fun _ => An trivial
def PhS (ph : List YT3) : Prop := ph.length < 1000 ∧ ∀ x ∈ ph, x.2.1.length < 1000
theorem Bhw (hP : PhS ph) (name : List Int) : Tot (Ix k (nm, hd, pd, ph, [], [], z, name)) fun r => r < 0 ∨ ∃ (i : Nat) (x : YT3), r = (i : Int) ∧ ph[i]? = some x := by
 obtain ⟨h1, h2⟩ := hP
 rw [Bg5, A2r, Bd7, Adx]
 refine Dp (P := fun (r : Int × List Int) => r.1 < 0 ∨ ∃ (i : Nat) (x : YT3), r.1 = (i : Int) ∧ ph[i]? = some x) ?_ fun r hr => An hr
 refine B1 ph (fun _ (_ : Unit) => True) (fun j i _ => (Cs k).L 2 [] j (Mw (ph, ((ph.length : Nat) : Int), i, name))) (fun j i x s hx _ => ?_) (fun j s _ => ?_) k () (by omega) trivial
 ·obtain ⟨b, eb, -⟩ := A39 k (by omega) x.2.1 name (h2 x (Ax hx))
  rw [Awg, Si, Ao hx, Ak hx, Ar hx (by omega), Bg4, A2q, Bdy, Av7, eb, Option.bind_some, Option.bind_some, Option.bind_some]
  by_cases hb : b ≥ 0
  ·rw [decide_eq_true hb]; exact .inl (An (.inr ⟨i, x, rfl, hx⟩))
  ·rw [decide_eq_false hb]; exact .inr ⟨(), rfl, trivial⟩
 ·rw [Awg, Si, Aq]
  exact An (.inl (show (-1 : Int) < 0 by decide))
theorem Bhu (hP : PhS ph) (x0 : List Int) (x1 x2 x3 x4 x5 x6 x7 x8 x9 x10 : Int) (span : Int) (rs : List Az) (hM : MI sp span rs) : Tot (In k (x0, x1, x2, x3, x4, x5, x6, x7, x8, x9, x10, nm, hd, pd, ph, z, tn, off, sp, i1, i2, c, now, span, rs)) fun r => ∃ v, r = (v, nm, hd, pd, ph, z, tn, off, sp, i1, i2, c, now, span, rs) := by
 rw [Bgb, A0t]
 refine Dp (Bhw k hk nm hd pd ph z hP x0) fun r hr => ?_
 refine Gf (fun _ => An ⟨_, rfl⟩) fun hr0 => ?_
 rcases hr with hr | ⟨i, x, rfl, hx⟩
 ·exact absurd hr hr0
 rw [Ak hx]
 refine Dp (A41 k hk nm hd pd ph z tn off sp i1 i2 c now x.1 span rs hM) fun r hr => ?_
 rcases hr with ⟨i, r0, h1, h2, rfl⟩ | rfl
 ·obtain ⟨s, y, hs, hy, _⟩ := Qj (hM.ri r0 (Ax h1)) h2
  simp only [orP, Ea h1, hs, Ak hy]
  exact Dp (Asr k _ _ _) fun _ _ => An ⟨_, rfl⟩
 ·exact An ⟨_, rfl⟩
theorem ped_tot (x0 x1 : List Int) (x2 x3 x4 x5 : Int) (span : Int) (rs : List Az) (hM : MI sp span rs) : Tot (Iq k (x0, x1, x2, x3, x4, x5, nm, hd, pd, ph, z, tn, off, sp, i1, i2, c, now, span, rs)) fun r => ∃ v, r = (v, nm, hd, pd, ph, z, tn, off, sp, i1, i2, c, now, span, rs) := by
 rw [Bgf, Akk]
 refine Dp (A41 k hk nm hd pd ph z tn off sp i1 i2 c now x1 span rs hM) fun r hr => ?_
 rcases hr with ⟨i, r0, h1, h2, rfl⟩ | rfl
 ·obtain ⟨s, y, hs, hy, _⟩ := Qj (hM.ri r0 (Ax h1)) h2
  have hyw := ((hM.ri r0 (Ax h1)).ok.2 y (Ax hy)).2.2
  simp only [orP, Ea h1, hs, Ak hy, ofn]
  refine B1 y.2.2.2.2.1 (fun _ (_ : Unit) => True) (fun j i' _ => (C3 k).L 5 [] j (Oh ((i : Int), y.2.2.2.2.1, ((y.2.2.2.2.1.length : Nat) : Int), i', nm, hd, pd, ph, z, tn, off, sp, i1, i2, c, now, span, x0, x1, x2, x3, x4, x5, rs))) (fun j i' w s hw _ => ?_) (fun j s _ => ?_) k () (by omega) trivial
  ·rw [A07, Un, Ao hw, Ak hw, Ar hw (by omega), ofn]
   cases (w.1 == x0) with
   | true => exact .inl (Dp (Asr k _ _ _) fun _ _ => An ⟨_, rfl⟩)
   | false => exact .inr ⟨(), rfl, trivial⟩
  ·rw [A07, Un, Aq]
   exact An ⟨_, rfl⟩
 ·exact An ⟨_, rfl⟩
theorem Bic (hc : 1 ≤ c) (hP : PhS ph) (hh : hd.length < 1000) (hp : pd.length < 1000) (span : Int) (rs : List Az) (hM : MI sp span rs) :
  Tot (Fo k (nm, hd, pd, ph, z, tn, off, sp, i1, i2, c, now, span, rs)) fun r => ∃ hs ps, r = (nm, hd, pd, ph, z, tn, off, sp, i1, i2, c, now, span, rs, hs, ps) ∧ hs.length = hd.length := by
 rw [Bf0, Ais, A0u, Aj0, Option.bind_some, decide_eq_true (show c > 0 by omega), Bool.not_true, cond_false]
 refine B1 hd (fun i (b : List Int) => b.length = i) (fun j i b => (B4 k).L 5 [] j (N5 (hd, ((hd.length : Nat) : Int), i, nm, hd, pd, ph, z, tn, off, sp, i1, i2, c, now, span, rs, b))) (fun j i x b hx hb => ?_) (fun j b hb => ?_) k [] (by omega) rfl
 ·have := Av hx
  rw [A0f, T9, Ao hx, Ak hx, Ar hx (by omega)]
  obtain ⟨r, er, v, rfl⟩ := Bhu k hk nm hd pd ph z tn off sp i1 i2 c now hP x.1 x.2.1 x.2.2.1 x.2.2.2.1.1 x.2.2.2.1.2.1 x.2.2.2.2.1 x.2.2.2.2.2.1 x.2.2.2.2.2.2.1 x.2.2.2.2.2.2.2.1 x.2.2.2.2.2.2.2.2.1 x.2.2.2.2.2.2.2.2.2.1 span rs hM
  rw [er, Option.bind_some, app1 (by omega) (by omega)]
  exact .inr ⟨b ++ [v], rfl, by simp; omega⟩
 ·rw [A0f, T9, Aq]
  refine B1 pd (fun i (q : List Int) => q.length = i) (fun j i q => (B4 k).L 10 [] j (N4 (pd, ((pd.length : Nat) : Int), i, nm, hd, pd, ph, z, tn, off, sp, i1, i2, c, now, span, rs, b, q))) (fun j i x q hx hq => ?_) (fun j q hq => ?_) k [] (by omega) rfl
  ·have := Av hx
   rw [A0e, T8, Ao hx, Ak hx, Ar hx (by omega)]
   obtain ⟨r, er, v, rfl⟩ := ped_tot k hk nm hd pd ph z tn off sp i1 i2 c now x.1 x.2.1 x.2.2.1 x.2.2.2.1 x.2.2.2.2.1 x.2.2.2.2.2.1 span rs hM
   rw [er, Option.bind_some, app1 (by omega) (by omega)]
   exact .inr ⟨q ++ [v], rfl, by simp; omega⟩
  ·rw [A0e, T8, Aq]
   exact An ⟨_, _, rfl, hb⟩
end
theorem z0 : ((0 : Int) == 0) = true := rfl
theorem z1 : ((0 : Int) == 1) = false := rfl
theorem z2 : ((0 : Int) == 2) = false := rfl
theorem z3 : ((0 : Int) == 3) = false := rfl
theorem zl : (([] : List Int) == []) = true := rfl
section
variable (k : Nat) (hk : 10000 ≤ k) (a0 : List Int) (a1 : List YT1) (a2 : List YT2) (a3 : List YT3) (a4 : List ((List YT4) × Unit)) (a5 : List YT7) (a6 : Int)
include hk
theorem r07_tot (h3 : a3.length < 1000) (name : List Int) : Tot (Gt k (a0, a1, a2, a3, a4, a5, a6, name)) fun r => r < 0 → ∀ x ∈ a3, (x.1 == name) = false := by
 rw [Bfp, Ahs]
 refine B1 a3 (fun i (_ : Unit) => ∀ x ∈ a3.take i, (x.1 == name) = false) (fun j i _ => (Dy k).L 2 [] j (Nw (name, i, a0, a1, a2, a3, a4, a5, a6))) (fun j i x s hx hI => ?_) (fun j s hI => ?_) k () (by omega) (by simp)
 ·rw [Azj, Tt, Ao hx, Ak hx, Ar hx (by omega)]
  cases he : (x.1 == name) with
  | true => exact .inl (An fun h => by omega)
  | false => exact .inr ⟨(), rfl, Qr hx hI he⟩
 ·rw [Azj, Tt, Aq]
  exact An fun _ => by simpa using hI
theorem vph_tot (h3 : a3.length < 1000) (name : List Int) : Tot (Iy k (a0, a1, a2, a3, a4, a5, a6, name)) fun r => (∀ x ∈ a3, (x.1 == name) = false) → r < 0 := by
 rw [Bg7, A2v, Bd8, Ad4]
 refine Dp (P := fun (r : Int × List Int) => (∀ x ∈ a3, (x.1 == name) = false) → r.1 < 0) ?_ fun r hr => An hr
 refine B1 a3 (fun i (_ : Unit) => True) (fun j i _ => (Cr k).L 2 [] j (Mx (a3, ((a3.length : Nat) : Int), i, name))) (fun j i x s hx hI => ?_) (fun j s hI => ?_) k () (by omega) trivial
 ·rw [Awi, Sj, Ao hx, Ak hx, Ar hx (by omega), Bg6, A2u, Option.bind_some]
  cases he : (x.1 == name) with
  | true => exact .inl (An fun h => by rw [h x (Ax hx)] at he; cases he)
  | false => exact .inr ⟨(), rfl, trivial⟩
 ·rw [Awi, Sj, Aq]
  exact An fun _ => (show (-1 : Int) < 0 by decide)
variable (tn : List Int) (off : Int) (sp : List Ba) (i1 i2 c loc g lf rt st now span : Int) (yel seen : List Int) (rs : List Az)
theorem Bj3 (h3 : a3.length < 1000) (called : List Int) (hcl : called = [] ∨ ∀ x ∈ a3, (x.1 == called) = false) :
  Ik k (called, a0, a1, a2, a3, a4, a5, a6, tn, off, sp, i1, i2, c, loc, 0, [], g, lf, rt, st, [], a1, a2, a3, 0, tn, off, sp, i1, i2, c, now, span, yel, seen, rs) = some (a0, a1, a2, a3, a4, a5, a6, tn, off, sp, i1, i2, c, loc, 0, [], g, lf, rt, st, [], a1, a2, a3, 0, tn, off, sp, i1, i2, c, now, span, seen, rs, yel) := by
 have H9 : (A9 k).J 9 [] (Jq (a0, a1, a2, a3, a4, a5, a6, tn, off, sp, i1, i2, c, loc, 0, [], g, lf, rt, st, [], a1, a2, a3, 0, tn, off, sp, i1, i2, c, now, span, seen, rs, yel)) = some (a0, a1, a2, a3, a4, a5, a6, tn, off, sp, i1, i2, c, loc, 0, [], g, lf, rt, st, [], a1, a2, a3, 0, tn, off, sp, i1, i2, c, now, span, seen, rs, yel) := by rw [Bfa, Agz, z3, cond_false]
 have H6 : (A9 k).J 6 [] (Jp ([], a0, a1, a2, a3, a4, a5, a6, tn, off, sp, i1, i2, c, loc, 0, [], g, lf, rt, st, [], a1, a2, a3, 0, tn, off, sp, i1, i2, c, now, span, seen, rs, yel)) = some (a0, a1, a2, a3, a4, a5, a6, tn, off, sp, i1, i2, c, loc, 0, [], g, lf, rt, st, [], a1, a2, a3, 0, tn, off, sp, i1, i2, c, now, span, seen, rs, yel) := by rw [Be9, Agy, z2, cond_false]; exact H9
 have H4 : (A9 k).J 4 [] (Jo ([], a0, a1, a2, a3, a4, a5, a6, tn, off, sp, i1, i2, c, loc, 0, [], g, lf, rt, st, [], a1, a2, a3, 0, tn, off, sp, i1, i2, c, now, span, seen, rs, yel)) = some (a0, a1, a2, a3, a4, a5, a6, tn, off, sp, i1, i2, c, loc, 0, [], g, lf, rt, st, [], a1, a2, a3, 0, tn, off, sp, i1, i2, c, now, span, seen, rs, yel) := by rw [Be8, Agx, z1, cond_false]; exact H6
 have H2 : (A9 k).J 2 [] (No ([], a0, a1, a2, a3, a4, a5, a6, tn, off, sp, i1, i2, c, loc, 0, [], g, lf, rt, st, [], a1, a2, a3, 0, tn, off, sp, i1, i2, c, now, span, yel, seen, rs)) = some (a0, a1, a2, a3, a4, a5, a6, tn, off, sp, i1, i2, c, loc, 0, [], g, lf, rt, st, [], a1, a2, a3, 0, tn, off, sp, i1, i2, c, now, span, seen, rs, yel) := by rw [Be7, Agw, z0, cond_true, zl, Bool.not_true, cond_false]; exact H4
 rw [Be6, Agv]
 obtain ⟨r, er, hr⟩ := vph_tot k hk a0 a1 a2 a3 a4 a5 a6 h3 called
 rw [er, Option.bind_some]
 by_cases h : r < 0
 ·rw [decide_eq_true h, cond_true]; exact H2
 ·rw [decide_eq_false h, cond_false]
  rcases hcl with rfl | hcl
  ·exact H2
  ·exact absurd (hr hcl) h
theorem Bjr (hP : PhS a3) (h1 : a1.length < 1000) (h2 : a2.length < 1000) (hc : 1 ≤ c) (hS : SpOK sp) (hM : MI sp span rs) (hsn : seen.length = a1.length) (called : List Int) (hcl : called = [] ∨ ∀ x ∈ a3, (x.1 == called) = false) :
  ∃ (hs ps : List Int) (span' : Int) (rs' : List Az), Fo k ([], a1, a2, a3, 0, tn, off, sp, i1, i2, c, now, span, rs) = some ([], a1, a2, a3, 0, tn, off, sp, i1, i2, c, now, span, rs, hs, ps) ∧ hs.length = a1.length ∧ Fp k ([], a1, a2, a3, 0, tn, off, sp, i1, i2, c, now, span, rs) = some ([], a1, a2, a3, 0, tn, off, sp, i1, i2, c, IntKind.wrap .i64 (now + 1), span', rs') ∧ MI sp span' rs' ∧
   Cc k (called, a0, a1, a2, a3, a4, a5, a6, tn, off, sp, i1, i2, c, loc, 0, [], g, lf, rt, st, [], a1, a2, a3, 0, tn, off, sp, i1, i2, c, now, span, yel, seen, rs) = some (a0, a1, a2, a3, a4, a5, a6, tn, off, sp, i1, i2, c, Int.tmod (IntKind.wrap .i64 (loc + 1)) c, 0, [], g, lf, rt, IntKind.wrap .i64 (st + 1), [], a1, a2, a3, 0, tn, off, sp, i1, i2, c, IntKind.wrap .i64 (now + 1), span', hs, yel, rs') := by
 obtain ⟨r, er, hs, ps, rfl, hl⟩ := Bic k hk [] a1 a2 a3 0 tn off sp i1 i2 c now hc hP h1 h2 span rs hM
 obtain ⟨r, et, span', rs', rfl, hM'⟩ := Bjy k hk [] a1 a2 a3 0 tn off sp i1 i2 c now hS hc span rs hM
 refine ⟨hs, ps, span', rs', er, hl, et, hM', ?_⟩
 have hlk : Ij k (a0, a1, a2, a3, a4, a5, a6, tn, off, sp, i1, i2, c, loc, 0, [], g, lf, rt, st, [], a1, a2, a3, 0, tn, off, sp, i1, i2, c, now, span, yel, seen, rs) = some (a0, a1, a2, a3, a4, a5, a6, tn, off, sp, i1, i2, c, loc, 0, [], g, lf, rt, st, [], a1, a2, a3, 0, tn, off, sp, i1, i2, c, now, span, yel, hs, rs) := by
  rw [Be4, Af5]
  rw [z0, cond_true, er, Option.bind_some]
  have e1 : List.append (List.take (List.length (List.replicate (List.length seen) (0 : Int))) hs) (List.drop (List.length hs) (List.replicate (List.length seen) (0 : Int))) = hs := by
   rw [List.length_replicate, hsn, ← hl, List.take_length, List.drop_eq_nil_of_le (by simp)]
   exact List.append_nil _
  simp only [e1]
 rw [Bex, Axt, Fv, E3, Option.bind_some]
 rw [decide_eq_true (show c > 0 by omega), Bool.not_true, cond_false]
 simp only
 rw [Bj3 k hk a0 a1 a2 a3 a4 a5 a6 tn off sp i1 i2 c loc g lf rt st now span yel seen rs hP.1 called hcl, Option.bind_some]
 simp only
 rw [hlk, Option.bind_some]
 rw [z0, cond_true, et, Option.bind_some]
 rw [decide_eq_false (show ¬ c = 0 by omega)]
 rfl
end
theorem tm2 (i : Nat) : Int.tmod (i : Int) 2 = ((i % 2 : Nat) : Int) := rfl
theorem fz0 : ((0 : Int) != 0) = false := rfl
theorem fz180 : ((180 : Int) != 0) = true := rfl
theorem A34 (k : Nat) (l : List Int) (h : l.length < 1000) (hk : 10000 ≤ k) : Mg k (l, l) = some true := by
 rw [Bfy, Aib]
 have e : (((l.length : Nat) : Int) != ((l.length : Nat) : Int)) = false := by simp
 rw [e, cond_false]
 exact O5 l (fun j i => (D3 k).L 4 [] j (N1 (l, l, i))) _
  (fun j i x hx => by
   have e2 : (x != x) = false := by simp
   rw [Az5, T1, Ao hx, An4 hx, An4 hx, e2, cond_false, Ar hx (by omega)])
  (fun j => by rw [Az5, T1, Aq]) k (by omega)
theorem Bjh (k : Nat) (l : List Int) (h : l.length < 1000) (hk : 10000 ≤ k) : Rm k (l, [], l, []) = some true := by
 rw [Bfx, Az2, A34 k l h hk, Option.bind_some, cond_true, A34 k [] (by simp) hk, Option.bind_some]
section
variable (k : Nat) (hk : 10000 ≤ k) (a0 : List Int) (a1 : List YT1) (a2 : List YT2) (a3 : List YT3) (a4 : List ((List YT4) × Unit)) (a5 : List YT7) (a6 : Int)
variable (tn : List Int) (off : Int) (sp : List Ba) (i1 i2 : Int)
include hk
theorem new_tot (hN : NodeS (a0, a1, a2, a3, a4, a5, a6, ())) (hS : Db sp) :
  (Ej k (a0, a1, a2, a3, a4, a5, a6, tn, off, sp, i1, i2) = some (.inl 180) ∧ ∃ r, Fr k (a0, a1, a2, a3, a4, a5, a6, tn, off, sp, i1, i2) = some r ∧ ((∃ e, r = .inl e) ∨ ∃ m, r = .inr m)) ∨
  ∃ (c loc span : Int) (rs : List Az), 1 ≤ c ∧ SpOK sp ∧ MI sp span rs ∧ Fr k (a0, a1, a2, a3, a4, a5, a6, tn, off, sp, i1, i2) = some (.inr (0, [], a1, a2, a3, 0, tn, off, sp, i1, i2, c, 0, span, rs)) ∧
   Ej k (a0, a1, a2, a3, a4, a5, a6, tn, off, sp, i1, i2) = some (.inr (0, a0, a1, a2, a3, a4, a5, a6, tn, off, sp, i1, i2, c, loc, 0, [], 0, 0, 0, 0, [], a1, a2, a3, 0, tn, off, sp, i1, i2, c, 0, span, List.replicate a1.length 0, rs)) := by
 obtain ⟨ff, ef, hf, ht⟩ := Bjl k hk a0 a1 a2 a3 a4 a5 a6 tn off sp i1 i2 hN hS
 have h1 := hN.hl
 simp only at h1
 cases ff with
 | false =>
  left
  refine ⟨?_, _, hf rfl, .inl ⟨_, rfl⟩⟩
  rw [Ag9, Te, ef, Option.bind_some, Bool.not_false, cond_true]
 | true =>
  obtain ⟨c, span, rs, hc, eL, hO, hM, e1, e2⟩ := ht rfl
  obtain ⟨u, eu, -⟩ := Bjp k (by omega) sp hS
  cases u with
  | true =>
   left
   refine ⟨?_, _, e2, .inr ⟨_, rfl⟩⟩
   rw [Ag9, Te, ef, Option.bind_some, Bool.not_true, cond_false, eu, Option.bind_some, cond_true]
  | false =>
   right
   refine ⟨c, Int.tmod (IntKind.wrap .i64 (c - (Int.tmod (IntKind.wrap .i64 ((Int.tmod off c) + c)) c))) c, span, rs, hc.1, hO, hM, e2, ?_⟩
   have hg : (decide (0 ≤ ((a1.length : Nat) : Int)) && decide (((a1.length : Nat) : Int) = ((a1.length : Nat) : Int)) && decide (((8 : Nat) : Int) * ((a1.length : Nat) : Int) ≤ 140737488355328) && decide (((a1.length : Nat) : Int) ≤ 9223372036854775807)) = true := by simp; omega
   rw [Ag9, Te, ef, Option.bind_some, Bool.not_true, cond_false, eu, Option.bind_some, cond_false, Ba1 k (by omega) a0 a1 a2 a3 a4 a5 a6 hN, Option.bind_some, Ba0 k (by omega) tn off sp i1 i2 hS, Option.bind_some, eL, Option.bind_some, hg, cond_true]
   simp only
   rw [e1, Option.bind_some, fz0, cond_false, decide_eq_false (show ¬ c = 0 by omega), Bool.not_false, cond_true, cond_true, cond_true, Int.toNat_natCast]
theorem Bjs (hw : B2 k () = some true) (hP : PhS a3) (h1 : a1.length < 1000) (h2 : a2.length < 1000) (c : Int) (hc : 1 ≤ c) (hS : SpOK sp) (name : List Int) (hnm : ∀ x ∈ a3, (x.1 == name) = false) (n : Nat) (hn : n ≤ 300) :
  ∀ (j i : Nat) (loc now span : Int) (yel seen : List Int) (rs : List Az), n < i + j → i ≤ n → MI sp span rs → seen.length = a1.length →
  (D4 k).L 11 [] j (O3 ((n : Int), name, (i : Int), a0, a1, a2, a3, a4, a5, a6, tn, off, sp, i1, i2, c, loc, 0, [], 0, 0, 0, (i : Int), [], a1, a2, a3, 0, tn, off, sp, i1, i2, c, now, span, [], a1, a2, a3, 0, tn, off, sp, i1, i2, c, now, span, yel, seen, rs, rs)) = some true := by
 intro j
 induction j with
 | zero => intro i loc now span yel seen rs g1 g2; omega
 | succ j ih =>
  intro i loc now span yel seen rs g1 g2 hM hsn
  rw [Bhj, Ant]
  by_cases hi : i < n
  ·rw [decide_eq_true (show ((i : Int) < (n : Int)) by omega), cond_true, tm2 i]
   have hin : inB ((i % 2 : Nat) : Int) (List.length ([([] : List Int), name] : List (List Int))) = true := by
    have := Nat.mod_lt i (show 0 < 2 by omega)
    simp [inB]; omega
   obtain ⟨called, hcd, hcl⟩ : ∃ called, rdA [] ([([] : List Int), name] : List (List Int)) (Int.toNat ((i % 2 : Nat) : Int)) = called ∧ (called = [] ∨ ∀ x ∈ a3, (x.1 == called) = false) := by
    refine ⟨_, rfl, ?_⟩
    rw [Aox]
    rcases Nat.mod_two_eq_zero_or_one i with e | e <;> rw [e]
    ·exact .inl rfl
    ·exact .inr hnm
   obtain ⟨hs, ps, span', rs', eL, hl, eT, hM', eS⟩ := Bjr k hk a0 a1 a2 a3 a4 a5 a6 tn off sp i1 i2 c loc 0 0 0 (i : Int) now span yel seen rs hP h1 h2 hc hS hM hsn called hcl
   rw [hin, cond_true, hcd, eS, Option.bind_some]
   simp only
   rw [Axk, Afi, Fv, E3, Option.bind_some, decide_eq_true (show c > 0 by omega), Bool.not_true, cond_false, Option.bind_some]
   simp only
   rw [fz0, cond_false, Axh, Afg, Fv, E3, Option.bind_some, decide_eq_true (show c > 0 by omega), Bool.not_true, cond_false]
   have ecl : Q8 k hs = some hs := Dd (t := .int .i64) hs (show hs.length < 1000 by omega) (by omega)
   simp only
   rw [ecl, Option.bind_some, Option.bind_some, eL, Option.bind_some]
   simp only
   rw [Bjh k hs (by omega) hk, Option.bind_some, Bool.not_true, cond_false, eT, Option.bind_some]
   rw [w64 (by omega : -9223372036854775808 ≤ (i : Int) + 1 ∧ (i : Int) + 1 ≤ 9223372036854775807), Fe]
   exact ih (i + 1) _ _ span' yel hs rs' (by omega) (by omega) hM' hl
  ·have e : i = n := by omega
   subst e
   rw [decide_eq_false (show ¬ ((i : Int) < (i : Int)) by omega), cond_false]
   rw [Axp, Afl, Fv, E3, Option.bind_some, decide_eq_true (show c > 0 by omega), Bool.not_true, cond_false, Option.bind_some]
   simp only
   rw [show ((i : Int) == (i : Int)) = true by simp, cond_true, hw, Option.bind_some]
end
end Go.Proofs.YtgmpjapnhdilaaaGreatV
