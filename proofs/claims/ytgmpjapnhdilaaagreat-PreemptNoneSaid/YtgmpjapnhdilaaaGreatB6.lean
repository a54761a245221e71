import Derived.Test.YtgmpjapnhdilaaaGreatProg
import Derived.Test.YtgmpjapnhdilaaaGreatB4
import Derived.Test.YtgmpjapnhdilaaaGreatB5
/-! Joined, names shortened: H0, H1. -/
set_option linter.unusedVariables false
set_option linter.unusedSimpArgs false
set_option maxHeartbeats 4000000
set_option maxRecDepth 100000
namespace Go.Proofs.YtgmpjapnhdilaaaGreatV
open Go Go.RowKit
noncomputable section
abbrev yt0 : Ty := (.cons (.int .i64) (.cons (.int .i64) .nil))
abbrev YT0 : Type := (Int) × ((Int) × (Unit))
abbrev zt0 : YT0 := ((0 : Int), ((0 : Int), ()))
abbrev yt1 : Ty := (.cons .str (.cons (.int .i64) (.cons (.int .i64) (.cons yt0 (.cons (.int .i64) (.cons (.int .i64) (.cons (.int .i64) (.cons (.int .i64) (.cons (.int .i64) (.cons (.int .i64) .nil))))))))))
abbrev YT1 : Type := (List Int) × ((Int) × ((Int) × ((YT0) × ((Int) × ((Int) × ((Int) × ((Int) × ((Int) × ((Int) × (Unit))))))))))
abbrev zt1 : YT1 := ([], ((0 : Int), ((0 : Int), (zt0, ((0 : Int), ((0 : Int), ((0 : Int), ((0 : Int), ((0 : Int), ((0 : Int), ()))))))))))
abbrev yt2 : Ty := (.cons .str (.cons .str (.cons (.int .i64) (.cons (.int .i64) (.cons (.int .i64) (.cons (.int .i64) .nil))))))
abbrev YT2 : Type := (List Int) × ((List Int) × ((Int) × ((Int) × ((Int) × ((Int) × (Unit))))))
abbrev zt2 : YT2 := ([], ([], ((0 : Int), ((0 : Int), ((0 : Int), ((0 : Int), ()))))))
abbrev yt3 : Ty := (.cons .str (.cons (.slice .str) (.cons (.int .i64) .nil)))
abbrev YT3 : Type := (List Int) × ((List (List Int)) × ((Int) × (Unit)))
abbrev zt3 : YT3 := ([], ([], ((0 : Int), ())))
abbrev yt4 : Ty := (.cons .bool (.cons (.slice .str) .nil))
abbrev YT4 : Type := (Bool) × ((List (List Int)) × (Unit))
abbrev zt4 : YT4 := (false, ([], ()))
abbrev yt5 : Ty := (.cons .str (.cons (.int .i64) (.cons (.int .i64) .nil)))
abbrev YT5 : Type := (List Int) × ((Int) × ((Int) × (Unit)))
abbrev zt5 : YT5 := ([], ((0 : Int), ((0 : Int), ())))
abbrev yt6 : Ty := (.cons .str (.cons (.int .i64) (.cons (.int .i64) (.cons (.int .i64) (.cons (.slice yt5) .nil)))))
abbrev YT6 : Type := (List Int) × ((Int) × ((Int) × ((Int) × ((List (YT5)) × (Unit)))))
abbrev zt6 : YT6 := ([], ((0 : Int), ((0 : Int), ((0 : Int), ([], ())))))
abbrev yt7 : Ty := (.cons .str (.cons .str (.cons (.int .i64) .nil)))
abbrev YT7 : Type := (List Int) × ((List Int) × ((Int) × (Unit)))
abbrev zt7 : YT7 := ([], ([], ((0 : Int), ())))
abbrev yt8 : Ty := (.cons .str (.cons (.slice yt1) (.cons (.slice yt2) (.cons (.slice yt3) (.cons (.slice (.cons (.slice yt4) .nil)) (.cons (.slice yt7) (.cons (.int .i64) .nil)))))))
abbrev YT8 : Type := (List Int) × ((List (YT1)) × ((List (YT2)) × ((List (YT3)) × ((List ((List (YT4)) × (Unit))) × ((List (YT7)) × ((Int) × (Unit)))))))
abbrev zt8 : YT8 := ([], ([], ([], ([], ([], ([], ((0 : Int), ())))))))
abbrev yt9 : Ty := (.cons .str (.cons .str (.cons .str (.cons (.int .i64) (.cons (.int .i64) (.cons (.int .i64) .nil))))))
abbrev YT9 : Type := (List Int) × ((List Int) × ((List Int) × ((Int) × ((Int) × ((Int) × (Unit))))))
abbrev zt9 : YT9 := ([], ([], ([], ((0 : Int), ((0 : Int), ((0 : Int), ()))))))
abbrev yt10 : Ty := (.cons .str (.cons (.int .i64) (.cons (.slice (.cons (.slice (.slice yt6)) .nil)) (.cons yt0 .nil))))
abbrev YT10 : Type := (List Int) × ((Int) × ((List ((List (List (YT6))) × (Unit))) × ((YT0) × (Unit))))
abbrev zt10 : YT10 := ([], ((0 : Int), ([], (zt0, ()))))
abbrev yt11 : Ty := (.cons yt0 (.cons (.slice yt6) .nil))
abbrev YT11 : Type := (YT0) × ((List (YT6)) × (Unit))
abbrev zt11 : YT11 := (zt0, ([], ()))
theorem Ag : Tryz.prog.follows .mixedOrders = true := by kernel_rfl
noncomputable def mkC (l : EnvL) (n b o : Nat) : Cfg := { P := Tryz.prog, env := Dn l, n := n, npB := b, npO := o }
def q0 : List SL := [.pv .str, .pv (.slice yt1), .pv (.slice yt2), .pv (.slice yt3), .nil .sl, .nil .sl, .pv (.int .i64), .pv .str, .pv (.int .i64), .pv (.slice (.cons (.slice (.slice yt6)) .nil)), .pv (.int .i64), .pv (.int .i64), .pv (.int .i64), .pv (.int .i64), .pv (.int .i64), .nil .sl]
def q1 : List SL := [.pv (.int .i64), .pv (.int .i64), .pv (.slice yt6)]
def q2 : List SL := [.pv .str, .pv (.slice yt1), .pv (.slice yt2), .pv (.slice yt3), .nil .sl, .nil .sl, .pv (.int .i64), .pv .str, .pv (.int .i64), .pv (.slice (.cons (.slice (.slice yt6)) .nil)), .pv (.int .i64), .pv (.int .i64), .pv (.int .i64), .pv (.int .i64), .pv (.int .i64), .own 0]
def q3 : List SL := [.pv .str, .pv (.slice yt1), .pv (.slice yt2), .pv (.slice yt3), .nil .sl, .nil .sl, .pv (.int .i64), .pv .str, .pv (.int .i64), .pv (.slice (.cons (.slice (.slice yt6)) .nil)), .pv (.int .i64), .pv (.int .i64), .pv (.int .i64), .pv (.int .i64), .pv (.int .i64), .own 1]
def q4 : List SL := [.ptr 1 0, .pv .str, .pv (.slice yt1), .pv (.slice yt2), .pv (.slice yt3), .pv (.slice (.cons (.slice yt4) .nil)), .pv (.slice yt7), .pv (.int .i64), .pv .str, .pv (.int .i64), .pv (.slice (.cons (.slice (.slice yt6)) .nil)), .pv (.int .i64), .pv (.int .i64), .pv (.int .i64), .pv (.int .i64), .pv (.int .i64), .pv .str, .pv (.int .i64), .pv (.int .i64), .pv (.int .i64), .nil .sl, .pv (.int .i64), .own 0]
def q5 : List SL := [.ptr 1 0, .pv .str, .pv (.slice yt1), .pv (.slice yt2), .pv (.slice yt3), .pv (.slice (.cons (.slice yt4) .nil)), .pv (.slice yt7), .pv (.int .i64), .pv .str, .pv (.int .i64), .pv (.slice (.cons (.slice (.slice yt6)) .nil)), .pv (.int .i64), .pv (.int .i64), .pv (.int .i64), .pv (.int .i64), .pv (.int .i64), .pv .str, .pv (.int .i64), .pv (.int .i64), .pv (.int .i64), .own 0, .pv (.int .i64), .own 1]
def q6 : List SL := [.pv .str, .pv (.slice yt1), .pv (.slice yt2), .pv (.slice yt3), .nil .sl, .nil .sl, .pv (.int .i64), .pv .str, .pv (.int .i64), .pv (.slice (.cons (.slice (.slice yt6)) .nil)), .pv (.int .i64), .pv (.int .i64), .pv (.int .i64), .pv (.int .i64), .pv (.int .i64), .own 2]
def q7 : List SL := [.ptr 4 0, .pv .str, .pv (.slice yt1), .pv (.slice yt2), .pv (.slice yt3), .pv (.slice (.cons (.slice yt4) .nil)), .pv (.slice yt7), .pv (.int .i64), .pv .str, .pv (.int .i64), .pv (.slice (.cons (.slice (.slice yt6)) .nil)), .pv (.int .i64), .pv (.int .i64), .pv (.int .i64), .pv (.int .i64), .pv (.int .i64), .pv .str, .pv (.int .i64), .pv (.int .i64), .pv (.int .i64), .own 0, .pv (.int .i64), .own 1]
def q8 : List SL := [.pv .str, .pv (.int .i64), .pv (.int .i64), .pv (.int .i64), .pv (.slice yt5)]
def q9 : List SL := [.ptr 1 0, .pv .str, .pv (.slice yt1), .pv (.slice yt2), .pv (.slice yt3), .pv (.slice (.cons (.slice yt4) .nil)), .pv (.slice yt7), .pv (.int .i64), .pv .str, .pv (.int .i64), .pv (.slice (.cons (.slice (.slice yt6)) .nil)), .pv (.int .i64), .pv (.int .i64), .pv (.int .i64), .pv (.int .i64), .pv (.int .i64), .pv .str, .pv (.int .i64), .pv (.int .i64), .pv (.int .i64), .own 2, .pv (.int .i64), .own 0]
def q10 : List SL := [.ptr 2 0, .pv .str, .pv (.slice yt1), .pv (.slice yt2), .pv (.slice yt3), .pv (.slice (.cons (.slice yt4) .nil)), .pv (.slice yt7), .pv (.int .i64), .pv .str, .pv (.int .i64), .pv (.slice (.cons (.slice (.slice yt6)) .nil)), .pv (.int .i64), .pv (.int .i64), .pv (.int .i64), .pv (.int .i64), .pv (.int .i64), .pv .str, .pv (.int .i64), .pv (.int .i64), .pv (.int .i64), .own 0, .pv (.int .i64), .own 1]
def q11 : List SL := [.pv .str, .pv (.slice yt1), .pv (.slice yt2), .pv (.slice yt3), .nil .sl, .nil .sl, .pv (.int .i64), .pv .str, .pv (.int .i64), .pv (.slice (.cons (.slice (.slice yt6)) .nil)), .pv (.int .i64), .pv (.int .i64), .pv (.int .i64), .pv (.int .i64), .pv (.int .i64), .own 3]
def q12 : List SL := [.ptr 1 0, .pv .str, .pv (.slice yt1), .pv (.slice yt2), .pv (.slice yt3), .pv (.slice (.cons (.slice yt4) .nil)), .pv (.slice yt7), .pv (.int .i64), .pv .str, .pv (.int .i64), .pv (.slice (.cons (.slice (.slice yt6)) .nil)), .pv (.int .i64), .pv (.int .i64), .pv (.int .i64), .pv (.int .i64), .pv (.int .i64), .pv .str, .pv (.int .i64), .pv (.int .i64), .pv (.int .i64), .own 3, .pv (.int .i64), .own 1]
def q13 : List SL := [.pv .str, .pv (.slice yt1), .pv (.slice yt2), .pv (.slice yt3), .nil .sl, .nil .sl, .pv (.int .i64), .pv .str, .pv (.int .i64), .pv (.slice (.cons (.slice (.slice yt6)) .nil)), .pv (.int .i64), .pv (.int .i64), .pv (.int .i64), .pv (.int .i64), .pv (.int .i64), .own 4]
abbrev H0 : Type := (List (List Int)) × (Int)
def Anh : Sk := ⟨[.lf (.pv (.slice .str))], [], []⟩
def Ani : Sk := ⟨[.lf (.pv .bool)], [], []⟩
def A3b : Sk := ⟨sparse 23 [(0, .lf (.pv (.slice .str))), (3, .lf (.pv (.int .i64)))], [], []⟩
abbrev Ane := H0
def Kp : Ane → St := stOf A3b 71
def Dj (k : Nat) : FnX Bool := mkX ({ mkC [] 71 0 0 with hint := fun i => look none [(2, some A3b)] i }) k Tryz.f44 Ani
def Dv (k : Nat) : (List (List Int)) → Option Bool := hid (Ac (Dj k).C k Tryz.f44 Anh Ani)
def Aqy (k : Nat) : Sig := Ab Anh Ani (Dv k)
noncomputable def Ang (k : Nat) (J : JF Bool) (L : LF Bool) : (List (List Int)) → Option Bool
 | a0 => L 2 [] k (Kp (a0, (0 : Int)))
theorem Bhd (k : Nat) (x : (List (List Int))) : Dv k x = Ang k (Dj k).J (Dj k).L x := by
 refine (Aj _ _).trans ?_; apply cutX (Dj k) [] [] (st0 (Dj k).C Tryz.f44 Anh x) [] [(2, [], k)] (Ang k · · x) <;> intros <;> kernel_rfl
noncomputable def O1 (k j2 : Nat) (J : JF Bool) (L : LF Bool) : Ane → Option Bool
 | (a0, a1) => bif (decide (a1 < ((List.length a0 : Nat) : Int))) then (bif (decide (a1 < (50 : Int))) then (idx [] a0 a1 fun o1 => bif (decide (((List.length o1 : Nat) : Int) > (100 : Int))) then (some false) else (L 2 [] j2 (Kp (a0, (IntKind.wrap .i64 (a1 + (1 : Int))))))) else (some (decide (((List.length a0 : Nat) : Int) ≤ (50 : Int))))) else (some (decide (((List.length a0 : Nat) : Int) ≤ (50 : Int))))
theorem Anf (k j2 : Nat) (x : Ane) : (Dj k).L 2 [] (j2 + 1) (Kp x) = O1 k j2 (Dj k).J (Dj k).L x := by
 apply cutX (Dj k) [.r, .l, .r, .b, .b] [j2] (Kp x) [] [(2, [], j2)] (O1 k j2 · · x) <;> intros <;> kernel_rfl
theorem Au9 (k : Nat) : Af Tryz.prog 44 (Aqy k) := Ah (Dj k).C (l := []) k rfl trivial Ag Tryz.func44 (by kernel_rfl)
def q14 : List SL := [.pv .str, .pv (.slice yt1), .pv (.slice yt2), .pv (.slice yt3), .pv (.slice (.cons (.slice yt4) .nil)), .pv (.slice yt7), .pv (.int .i64)]
abbrev H1 : Type := (Int) × (List Int) × (List (YT1)) × (List (YT2)) × (List (YT3)) × (List ((List (YT4)) × (Unit))) × (List (YT7)) × (Int) × (List (List Int))
abbrev H2 : Type := (Int) × (List Int) × (List (YT1)) × (List (YT2)) × (List (YT3)) × (List ((List (YT4)) × (Unit))) × (List (YT7)) × (Int)
abbrev H3 : Type := (Int) × (Int) × (List Int) × (List (YT1)) × (List (YT2)) × (List (YT3)) × (List ((List (YT4)) × (Unit))) × (List (YT7)) × (Int)
abbrev H4 : Type := (List Int) × (List (YT1)) × (List (YT2)) × (List (YT3)) × (List ((List (YT4)) × (Unit))) × (List (YT7)) × (Int)
def Anb : Sk := ⟨[.agg [.pv .str, .pv (.slice yt1), .pv (.slice yt2), .pv (.slice yt3), .pv (.slice (.cons (.slice yt4) .nil)), .pv (.slice yt7), .pv (.int .i64)]], [], []⟩
def Anc : Sk := ⟨[.lf (.pv .bool)], [], []⟩
def A3a : Sk := ⟨sparse 172 [(1, .lf (.ptr 0 0)), (3, .lf (.own 0)), (4, .lf (.pv (.int .i64)))], [q14], [some (9, .str)]⟩
abbrev Am8 := H1
def O0 : Am8 → St := stOf A3a 220
def A25 : Sk := ⟨sparse 172 [(1, .lf (.ptr 0 0)), (5, .lf (.pv (.int .i64)))], [q14], []⟩
abbrev Am3 := H2
def Kn : Am3 → St := stOf A25 220
def A26 : Sk := ⟨sparse 172 [(1, .lf (.ptr 0 0)), (6, .lf (.pv (.int .i64)))], [q14], []⟩
abbrev Am4 := H2
def He : Am4 → St := stOf A26 220
def A27 : Sk := ⟨sparse 172 [(1, .lf (.ptr 0 0)), (7, .lf (.pv (.int .i64)))], [q14], []⟩
abbrev Am5 := H2
def Hf : Am5 → St := stOf A27 220
def A28 : Sk := ⟨sparse 172 [(1, .lf (.ptr 0 0)), (7, .lf (.pv (.int .i64))), (8, .lf (.pv (.int .i64)))], [q14], []⟩
abbrev Am6 := H3
def Oz : Am6 → St := stOf A28 220
def A29 : Sk := ⟨sparse 172 [(1, .lf (.ptr 0 0)), (9, .lf (.pv (.int .i64)))], [q14], []⟩
abbrev Am7 := H2
def Ko : Am7 → St := stOf A29 220
def Bha (k : Nat) : EnvL := [(44, [Aqy k])]
def Aw (k : Nat) : FnX Bool := mkX ({ mkC (Bha k) 220 0 0 with hint := fun i => look none [(5, some A3a), (11, some A25), (16, some A26), (21, some A27), (26, some A28), (31, some A29)] i, ld := [(71, 9999), (72, 0), (75, 9999), (76, 9999), (77, 9999), (78, 0), (81, 9999), (82, 9999), (157, 9999), (158, 0), (161, 9999), (162, 9999), (163, 9999), (164, 0), (167, 9999), (168, 9999)] }) k Tryz.f43 Anc
def Rr (k : Nat) : H4 → Option Bool := hid (Ac (Aw k).C k Tryz.f43 Anb Anc)
def A8v (k : Nat) : Sig := Ab Anb Anc (Rr k)
noncomputable def Am9 (k : Nat) (J : JF Bool) (L : LF Bool) : H4 → Option Bool
 | (a0, a1, a2, a3, a4, a5, a6) => bif (decide (((List.length a1 : Nat) : Int) > (50 : Int))) then (some false) else (bif (decide (((List.length a2 : Nat) : Int) > (50 : Int))) then (some false) else (bif (decide (((List.length a3 : Nat) : Int) > (50 : Int))) then (some false) else (bif (decide (((List.length a4 : Nat) : Int) > (50 : Int))) then (some false) else (bif (decide (((List.length a5 : Nat) : Int) > (80 : Int))) then (some false) else (L 5 [] k (O0 ((0 : Int), a0, a1, a2, a3, a4, a5, a6, ([a0] : List (List Int)))))))))
theorem Bhb (k : Nat) (x : H4) : Rr k x = Am9 k (Aw k).J (Aw k).L x := by
 refine (Aj _ _).trans ?_; apply cutX (Aw k) [] [] (st0 (Aw k).C Tryz.f43 Anb x) [] [(5, [], k), (11, [], k), (16, [], k), (21, [], k), (31, [], k)] (Am9 k · · x) <;> intros <;> kernel_rfl
noncomputable def Vz (k j5 : Nat) (J : JF Bool) (L : LF Bool) : Am8 → Option Bool
 | (a0, a1, a2, a3, a4, a5, a6, a7, a8) => bif (decide (a0 < ((List.length a2 : Nat) : Int))) then (idx zt1 a2 a0 fun o1 => app 16 a8 ([o1.1] : List (List Int)) fun o2 => L 5 [] j5 (O0 ((IntKind.wrap .i64 (a0 + (1 : Int))), a1, a2, a3, a4, a5, a6, a7, o2))) else (bif (cutB (0 : Int) (minI ((List.length a8 : Nat) : Int) (50 : Int)) (List.length a8)) then ((Dv k) ((cutL a8 (0 : Int) (minI ((List.length a8 : Nat) : Int) (50 : Int))))).bind fun o3 => bif (!o3) then (some false) else (L 11 [] k (Kn ((0 : Int), a1, a2, a3, a4, a5, a6, a7))) else none)
theorem A24 (k j5 : Nat) (x : Am8) : (Aw k).L 5 [] (j5 + 1) (O0 x) = Vz k j5 (Aw k).J (Aw k).L x := by
 apply cutX (Aw k) [.r, .r, .r, .l, .r, .b, .b] [j5] (O0 x) [] [(5, [], j5), (11, [], k), (16, [], k), (21, [], k), (31, [], k)] (Vz k j5 · · x) <;> intros <;> kernel_rfl
noncomputable def Vu (k j11 : Nat) (J : JF Bool) (L : LF Bool) : Am3 → Option Bool
 | (a0, a1, a2, a3, a4, a5, a6, a7) => bif (decide (a0 < ((List.length a3 : Nat) : Int))) then (idx zt2 a3 a0 fun o1 => idx zt2 a3 a0 fun o2 => ((Dv k) (([o1.1, o2.2.1] : List (List Int)))).bind fun o3 => bif (!o3) then (some false) else (L 11 [] j11 (Kn ((IntKind.wrap .i64 (a0 + (1 : Int))), a1, a2, a3, a4, a5, a6, a7)))) else (L 16 [] k (He ((0 : Int), a1, a2, a3, a4, a5, a6, a7)))
theorem A20 (k j11 : Nat) (x : Am3) : (Aw k).L 11 [] (j11 + 1) (Kn x) = Vu k j11 (Aw k).J (Aw k).L x := by
 apply cutX (Aw k) [.r, .r, .r, .r, .r, .l, .r, .b, .b] [j11] (Kn x) [] [(5, [], k), (11, [], j11), (16, [], k), (21, [], k), (31, [], k)] (Vu k j11 · · x) <;> intros <;> kernel_rfl
noncomputable def Vw (k j16 : Nat) (J : JF Bool) (L : LF Bool) : Am4 → Option Bool
 | (a0, a1, a2, a3, a4, a5, a6, a7) => bif (decide (a0 < ((List.length a4 : Nat) : Int))) then (idx zt3 a4 a0 fun o1 => ((Dv k) (([o1.1] : List (List Int)))).bind fun o2 => bif (!o2) then (some false) else (idx zt3 a4 a0 fun o3 => ((Dv k) (o3.2.1)).bind fun o4 => bif (!o4) then (some false) else (L 16 [] j16 (He ((IntKind.wrap .i64 (a0 + (1 : Int))), a1, a2, a3, a4, a5, a6, a7))))) else (L 21 [] k (Hf ((0 : Int), a1, a2, a3, a4, a5, a6, a7)))
theorem A21 (k j16 : Nat) (x : Am4) : (Aw k).L 16 [] (j16 + 1) (He x) = Vw k j16 (Aw k).J (Aw k).L x := by
 apply cutX (Aw k) [.r, .r, .r, .r, .r, .r, .l, .r, .b, .b] [j16] (He x) [] [(5, [], k), (11, [], k), (16, [], j16), (21, [], k), (31, [], k)] (Vw k j16 · · x) <;> intros <;> kernel_rfl
noncomputable def Vx (k j21 : Nat) (J : JF Bool) (L : LF Bool) : Am5 → Option Bool
 | (a0, a1, a2, a3, a4, a5, a6, a7) => bif (decide (a0 < ((List.length a5 : Nat) : Int))) then (idx ([], ()) a5 a0 fun o1 => bif (decide (((List.length o1.1 : Nat) : Int) > (5 : Int))) then (some false) else (L 26 [j21] k (Oz (a0, (0 : Int), a1, a2, a3, a4, a5, a6, a7)))) else (L 31 [] k (Ko ((0 : Int), a1, a2, a3, a4, a5, a6, a7)))
theorem A22 (k j21 : Nat) (x : Am5) : (Aw k).L 21 [] (j21 + 1) (Hf x) = Vx k j21 (Aw k).J (Aw k).L x := by
 apply cutX (Aw k) [.r, .r, .r, .r, .r, .r, .r, .l, .r, .b, .b] [j21] (Hf x) [] [(5, [], k), (11, [], k), (16, [], k), (21, [], j21), (26, [j21], k), (31, [], k)] (Vx k j21 · · x) <;> intros <;> kernel_rfl
noncomputable def Ana (k j21 j26 : Nat) (J : JF Bool) (L : LF Bool) : Am6 → Option Bool
 | (a0, a1, a2, a3, a4, a5, a6, a7, a8) => idx ([], ()) a6 a0 fun o1 => bif (decide (a1 < ((List.length o1.1 : Nat) : Int))) then (idx ([], ()) a6 a0 fun o2 => idx zt4 o2.1 a1 fun o3 => ((Dv k) (o3.2.1)).bind fun o4 => bif (!o4) then (some false) else (L 26 [j21] j26 (Oz (a0, (IntKind.wrap .i64 (a1 + (1 : Int))), a2, a3, a4, a5, a6, a7, a8)))) else (L 21 [] j21 (Hf ((IntKind.wrap .i64 (a0 + (1 : Int))), a2, a3, a4, a5, a6, a7, a8)))
theorem Bhc (k j21 j26 : Nat) (x : Am6) : (Aw k).L 26 [j21] (j26 + 1) (Oz x) = Ana k j21 j26 (Aw k).J (Aw k).L x := by
 apply cutX (Aw k) [.r, .r, .r, .r, .r, .r, .r, .l, .r, .b, .b, .r, .l, .b, .r, .r, .b, .b] [j21, j26] (Oz x) [] [(5, [], k), (11, [], k), (16, [], k), (21, [], j21), (26, [j21], j26), (31, [], k)] (Ana k j21 j26 · · x) <;> intros <;> kernel_rfl
noncomputable def Vy (k j31 : Nat) (J : JF Bool) (L : LF Bool) : Am7 → Option Bool
 | (a0, a1, a2, a3, a4, a5, a6, a7) => bif (decide (a0 < ((List.length a6 : Nat) : Int))) then (idx zt7 a6 a0 fun o1 => idx zt7 a6 a0 fun o2 => ((Dv k) (([o1.1, o2.2.1] : List (List Int)))).bind fun o3 => bif (!o3) then (some false) else (L 31 [] j31 (Ko ((IntKind.wrap .i64 (a0 + (1 : Int))), a1, a2, a3, a4, a5, a6, a7)))) else (some true)
theorem A23 (k j31 : Nat) (x : Am7) : (Aw k).L 31 [] (j31 + 1) (Ko x) = Vy k j31 (Aw k).J (Aw k).L x := by
 apply cutX (Aw k) [.r, .r, .r, .r, .r, .r, .r, .r, .l, .r, .b, .b] [j31] (Ko x) [] [(5, [], k), (11, [], k), (16, [], k), (21, [], k), (31, [], j31)] (Vy k j31 · · x) <;> intros <;> kernel_rfl
theorem Bco (k : Nat) : Af Tryz.prog 43 (A8v k) := Ah (Aw k).C k rfl ⟨⟨Au9 k, trivial⟩, trivial⟩ Ag Tryz.func43 (by kernel_rfl)
def q15 : List SL := [.pv (.int .i64), .pv (.int .i64), .pv (.int .i64), .pv (.int .i64), .pv (.int .i64), .pv (.slice yt8), .pv (.slice yt9), .pv (.int .i64), .pv (.int .i64)]
abbrev H5 : Type := (Int) × (Int) × (Int) × (Int) × (Int) × (Int) × (List (YT8)) × (List (YT9)) × (Int) × (Int)
abbrev H6 : Type := (Int) × (Int) × (Int) × (Int) × (Int) × (List (YT8)) × (List (YT9)) × (Int) × (Int)
def Am1 : Sk := ⟨[.agg [.pv (.int .i64), .pv (.int .i64), .pv (.int .i64), .pv (.int .i64), .pv (.int .i64), .pv (.slice yt8), .pv (.slice yt9), .pv (.int .i64), .pv (.int .i64)]], [], []⟩
def Am2 : Sk := ⟨[.lf (.pv .bool)], [], []⟩
def A2y : Sk := ⟨sparse 57 [(1, .lf (.ptr 0 0)), (3, .lf (.pv (.int .i64)))], [q15], []⟩
abbrev Amy := H5
def Kl : Amy → St := stOf A2y 105
def A2z : Sk := ⟨sparse 57 [(1, .lf (.ptr 0 0)), (4, .lf (.pv (.int .i64)))], [q15], []⟩
abbrev Amz := H5
def Km : Amz → St := stOf A2z 105
def Bg8 (k : Nat) : EnvL := [(43, [A8v k]), (44, [Aqy k])]
def B5 (k : Nat) : FnX Bool := mkX ({ mkC (Bg8 k) 105 0 0 with hint := fun i => look none [(4, some A2y), (9, some A2z)] i, ld := [(36, 9999), (37, 0), (40, 9999), (41, 9999), (42, 9999), (43, 0), (46, 9999), (47, 9999), (48, 9999), (49, 0), (52, 9999), (53, 9999)] }) k Tryz.f16 Am2
def Rq (k : Nat) : H6 → Option Bool := hid (Ac (B5 k).C k Tryz.f16 Am1 Am2)
def A8u (k : Nat) : Sig := Ab Am1 Am2 (Rq k)
noncomputable def Am0 (k : Nat) (J : JF Bool) (L : LF Bool) : H6 → Option Bool
 | (a0, a1, a2, a3, a4, a5, a6, a7, a8) => bif (decide (((List.length a5 : Nat) : Int) > (15 : Int))) then (some false) else (bif (decide (((List.length a6 : Nat) : Int) > (15 : Int))) then (some false) else (L 4 [] k (Kl ((0 : Int), a0, a1, a2, a3, a4, a5, a6, a7, a8))))
theorem Bg9 (k : Nat) (x : H6) : Rq k x = Am0 k (B5 k).J (B5 k).L x := by
 refine (Aj _ _).trans ?_; apply cutX (B5 k) [] [] (st0 (B5 k).C Tryz.f16 Am1 x) [] [(4, [], k), (9, [], k)] (Am0 k · · x) <;> intros <;> kernel_rfl
noncomputable def Vs (k j4 : Nat) (J : JF Bool) (L : LF Bool) : Amy → Option Bool
 | (a0, a1, a2, a3, a4, a5, a6, a7, a8, a9) => bif (decide (a0 < ((List.length a6 : Nat) : Int))) then (idx zt8 a6 a0 fun o1 => ((Rr k) (o1.1, o1.2.1, o1.2.2.1, o1.2.2.2.1, o1.2.2.2.2.1, o1.2.2.2.2.2.1, o1.2.2.2.2.2.2.1)).bind fun o2 => bif (!o2) then (some false) else (L 4 [] j4 (Kl ((IntKind.wrap .i64 (a0 + (1 : Int))), a1, a2, a3, a4, a5, a6, a7, a8, a9)))) else (L 9 [] k (Km ((0 : Int), a1, a2, a3, a4, a5, a6, a7, a8, a9)))
theorem A2w (k j4 : Nat) (x : Amy) : (B5 k).L 4 [] (j4 + 1) (Kl x) = Vs k j4 (B5 k).J (B5 k).L x := by
 apply cutX (B5 k) [.r, .r, .l, .r, .b, .b] [j4] (Kl x) [] [(4, [], j4), (9, [], k)] (Vs k j4 · · x) <;> intros <;> kernel_rfl
noncomputable def Vt (k j9 : Nat) (J : JF Bool) (L : LF Bool) : Amz → Option Bool
 | (a0, a1, a2, a3, a4, a5, a6, a7, a8, a9) => bif (decide (a0 < ((List.length a7 : Nat) : Int))) then (idx zt9 a7 a0 fun o1 => idx zt9 a7 a0 fun o2 => idx zt9 a7 a0 fun o3 => ((Dv k) (([o1.1, o2.2.1, o3.2.2.1] : List (List Int)))).bind fun o4 => bif (!o4) then (some false) else (L 9 [] j9 (Km ((IntKind.wrap .i64 (a0 + (1 : Int))), a1, a2, a3, a4, a5, a6, a7, a8, a9)))) else (some true)
theorem A2x (k j9 : Nat) (x : Amz) : (B5 k).L 9 [] (j9 + 1) (Km x) = Vt k j9 (B5 k).J (B5 k).L x := by
 apply cutX (B5 k) [.r, .r, .r, .l, .r, .b, .b] [j9] (Km x) [] [(4, [], k), (9, [], j9)] (Vt k j9 · · x) <;> intros <;> kernel_rfl
theorem Bcn (k : Nat) : Af Tryz.prog 16 (A8u k) := Ah (B5 k).C k rfl ⟨⟨Bco k, trivial⟩, ⟨Au9 k, trivial⟩, trivial⟩ Ag Tryz.func16 (by kernel_rfl)
def q16 : List SL := [.pv (.int .i64), .pv (.slice yt10), .pv (.int .i64), .pv (.int .i64), .pv (.int .i64), .pv (.int .i64), .pv .bool, .pv (.int .i64)]
abbrev H7 : Type := (Int) × (Int) × (List (YT10)) × (Int) × (Int) × (Int) × (Int) × (Bool) × (Int)
def q17 : List SL := [.pv .str, .pv (.int .i64), .pv (.slice (.cons (.slice (.slice yt6)) .nil)), .pv (.int .i64), .pv (.int .i64)]
abbrev H8 : Type := (Int) × (Int) × (Int) × (List (YT10)) × (Int) × (Int) × (Int) × (Int) × (Bool) × (Int) × (List Int) × (Int) × (List ((List (List (YT6))) × (Unit))) × (Int) × (Int)
abbrev H9 : Type := (Int) × (Int) × (Int) × (Int) × (List (YT10)) × (Int) × (Int) × (Int) × (Int) × (Bool) × (Int) × (List Int) × (Int) × (List ((List (List (YT6))) × (Unit))) × (Int) × (Int)
abbrev H10 : Type := (Int) × (Int) × (Int) × (List (YT6)) × (Int) × (Int) × (List (YT10)) × (Int) × (Int) × (Int) × (Int) × (Bool) × (Int) × (List Int) × (Int) × (List ((List (List (YT6))) × (Unit))) × (Int) × (Int)
abbrev H11 : Type := (Int) × (Int) × (Int) × (List (YT6)) × (Int) × (Int) × (Int) × (List (YT10)) × (Int) × (Int) × (Int) × (Int) × (Bool) × (Int) × (List Int) × (Int) × (List ((List (List (YT6))) × (Unit))) × (Int) × (Int)
abbrev H12 : Type := (Int) × (List (YT10)) × (Int) × (Int) × (Int) × (Int) × (Bool) × (Int)
def Anp : Sk := ⟨[.agg [.pv (.int .i64), .pv (.slice yt10), .pv (.int .i64), .pv (.int .i64), .pv (.int .i64), .pv (.int .i64), .pv .bool, .pv (.int .i64)]], [], []⟩
def Anq : Sk := ⟨[.lf (.pv .bool)], [], []⟩
def A3l : Sk := ⟨sparse 117 [(1, .lf (.ptr 0 0)), (3, .lf (.pv (.int .i64)))], [q16], []⟩
abbrev Ann := H7
def Kt : Ann → St := stOf A3l 165
def A3h : Sk := ⟨sparse 117 [(1, .lf (.ptr 0 0)), (3, .lf (.pv (.int .i64))), (4, .lf (.ptr 1 0)), (5, .lf (.pv (.int .i64)))], [q16, q17], []⟩
abbrev Anj := H8
def Kq : Anj → St := stOf A3h 165
def A3i : Sk := ⟨sparse 117 [(1, .lf (.ptr 0 0)), (3, .lf (.pv (.int .i64))), (4, .lf (.ptr 1 0)), (5, .lf (.pv (.int .i64))), (6, .lf (.pv (.int .i64)))], [q16, q17], []⟩
abbrev Ank := H9
def Kr : Ank → St := stOf A3i 165
def A3j : Sk := ⟨sparse 117 [(1, .lf (.ptr 0 0)), (3, .lf (.pv (.int .i64))), (4, .lf (.ptr 1 0)), (5, .lf (.pv (.int .i64))), (6, .lf (.pv (.int .i64))), (7, .lf (.pv (.slice yt6))), (8, .lf (.pv (.int .i64)))], [q16, q17], []⟩
abbrev Anl := H10
def Ks : Anl → St := stOf A3j 165
def A3k : Sk := ⟨sparse 117 [(1, .lf (.ptr 0 0)), (3, .lf (.pv (.int .i64))), (4, .lf (.ptr 1 0)), (5, .lf (.pv (.int .i64))), (6, .lf (.pv (.int .i64))), (7, .lf (.pv (.slice yt6))), (8, .lf (.pv (.int .i64))), (9, .lf (.pv (.int .i64)))], [q16, q17], []⟩
abbrev Anm := H11
def O2 : Anm → St := stOf A3k 165
def A2 (k : Nat) : FnX Bool := mkX ({ mkC [] 165 0 0 with hint := fun i => look none [(4, some A3l), (10, some A3h), (15, some A3i), (21, some A3j), (26, some A3k)] i }) k Tryz.f17 Anq
def Rs (k : Nat) : H12 → Option Bool := hid (Ac (A2 k).C k Tryz.f17 Anp Anq)
def A8w (k : Nat) : Sig := Ab Anp Anq (Rs k)
noncomputable def Ano (k : Nat) (J : JF Bool) (L : LF Bool) : H12 → Option Bool
 | (a0, a1, a2, a3, a4, a5, a6, a7) => bif (decide (((List.length a1 : Nat) : Int) > (15 : Int))) then (some false) else (L 4 [] k (Kt ((0 : Int), a0, a1, a2, a3, a4, a5, a6, a7)))
theorem Bhe (k : Nat) (x : H12) : Rs k x = Ano k (A2 k).J (A2 k).L x := by
 refine (Aj _ _).trans ?_; apply cutX (A2 k) [] [] (st0 (A2 k).C Tryz.f17 Anp x) [] [(4, [], k)] (Ano k · · x) <;> intros <;> kernel_rfl
noncomputable def V4 (k j4 : Nat) (J : JF Bool) (L : LF Bool) : Ann → Option Bool
 | (a0, a1, a2, a3, a4, a5, a6, a7, a8) => bif (decide (a0 < ((List.length a2 : Nat) : Int))) then (idx zt10 a2 a0 fun o1 => bif (decide (((List.length o1.1 : Nat) : Int) > (100 : Int))) then (some false) else (bif (decide (((List.length o1.2.2.1 : Nat) : Int) > (6 : Int))) then (some false) else (L 10 [j4] k (Kq (a0, (0 : Int), a1, a2, a3, a4, a5, a6, a7, a8, o1.1, o1.2.1, o1.2.2.1, o1.2.2.2.1.1, o1.2.2.2.1.2.1))))) else (some true)
theorem A3g (k j4 : Nat) (x : Ann) : (A2 k).L 4 [] (j4 + 1) (Kt x) = V4 k j4 (A2 k).J (A2 k).L x := by
 apply cutX (A2 k) [.r, .r, .l, .r, .b, .b] [j4] (Kt x) [] [(4, [], j4), (10, [j4], k)] (V4 k j4 · · x) <;> intros <;> kernel_rfl
noncomputable def V0 (k j4 j10 : Nat) (J : JF Bool) (L : LF Bool) : Anj → Option Bool
 | (a0, a1, a2, a3, a4, a5, a6, a7, a8, a9, a10, a11, a12, a13, a14) => bif (decide (a1 < ((List.length a12 : Nat) : Int))) then (idx ([], ()) a12 a1 fun o1 => bif (decide (((List.length o1.1 : Nat) : Int) > (6 : Int))) then (some false) else (L 15 [j4, j10] k (Kr (a0, a1, (0 : Int), a2, a3, a4, a5, a6, a7, a8, a9, a10, a11, a12, a13, a14)))) else (L 4 [] j4 (Kt ((IntKind.wrap .i64 (a0 + (1 : Int))), a2, a3, a4, a5, a6, a7, a8, a9)))
theorem A3c (k j4 j10 : Nat) (x : Anj) : (A2 k).L 10 [j4] (j10 + 1) (Kq x) = V0 k j4 j10 (A2 k).J (A2 k).L x := by
 apply cutX (A2 k) [.r, .r, .l, .r, .b, .b, .r, .l, .b, .r, .r, .r, .b, .b] [j4, j10] (Kq x) [] [(4, [], j4), (10, [j4], j10), (15, [j4, j10], k)] (V0 k j4 j10 · · x) <;> intros <;> kernel_rfl
noncomputable def V1 (k j4 j10 j15 : Nat) (J : JF Bool) (L : LF Bool) : Ank → Option Bool
 | (a0, a1, a2, a3, a4, a5, a6, a7, a8, a9, a10, a11, a12, a13, a14, a15) => idx ([], ()) a13 a1 fun o1 => bif (decide (a2 < ((List.length o1.1 : Nat) : Int))) then (idx ([], ()) a13 a1 fun o2 => idx [] o2.1 a2 fun o3 => bif (decide (((List.length o3 : Nat) : Int) > (8 : Int))) then (some false) else (L 21 [j4, j10, j15] k (Ks (a0, a1, a2, o3, (0 : Int), a3, a4, a5, a6, a7, a8, a9, a10, a11, a12, a13, a14, a15)))) else (L 10 [j4] j10 (Kq (a0, (IntKind.wrap .i64 (a1 + (1 : Int))), a3, a4, a5, a6, a7, a8, a9, a10, a11, a12, a13, a14, a15)))
theorem A3d (k j4 j10 j15 : Nat) (x : Ank) : (A2 k).L 15 [j4, j10] (j15 + 1) (Kr x) = V1 k j4 j10 j15 (A2 k).J (A2 k).L x := by
 apply cutX (A2 k) [.r, .r, .l, .r, .b, .b, .r, .l, .b, .r, .r, .r, .b, .b, .r, .l, .b, .r, .r, .b, .b] [j4, j10, j15] (Kr x) [] [(4, [], j4), (10, [j4], j10), (15, [j4, j10], j15), (21, [j4, j10, j15], k)] (V1 k j4 j10 j15 · · x) <;> intros <;> kernel_rfl
noncomputable def V2 (k j4 j10 j15 j21 : Nat) (J : JF Bool) (L : LF Bool) : Anl → Option Bool
 | (a0, a1, a2, a3, a4, a5, a6, a7, a8, a9, a10, a11, a12, a13, a14, a15, a16, a17) => bif (decide (a4 < ((List.length a3 : Nat) : Int))) then (idx zt6 a3 a4 fun o1 => bif (decide (((List.length o1.1 : Nat) : Int) > (100 : Int))) then (some false) else (idx zt6 a3 a4 fun o2 => bif (decide (((List.length o2.2.2.2.2.1 : Nat) : Int) > (12 : Int))) then (some false) else (L 26 [j4, j10, j15, j21] k (O2 (a0, a1, a2, a3, a4, (0 : Int), a5, a6, a7, a8, a9, a10, a11, a12, a13, a14, a15, a16, a17))))) else (L 15 [j4, j10] j15 (Kr (a0, a1, (IntKind.wrap .i64 (a2 + (1 : Int))), a5, a6, a7, a8, a9, a10, a11, a12, a13, a14, a15, a16, a17)))
theorem A3e (k j4 j10 j15 j21 : Nat) (x : Anl) : (A2 k).L 21 [j4, j10, j15] (j21 + 1) (Ks x) = V2 k j4 j10 j15 j21 (A2 k).J (A2 k).L x := by
 apply cutX (A2 k) [.r, .r, .l, .r, .b, .b, .r, .l, .b, .r, .r, .r, .b, .b, .r, .l, .b, .r, .r, .b, .b, .r, .l, .b, .r, .r, .r, .b, .b] [j4, j10, j15, j21] (Ks x) [] [(4, [], j4), (10, [j4], j10), (15, [j4, j10], j15), (21, [j4, j10, j15], j21), (26, [j4, j10, j15, j21], k)] (V2 k j4 j10 j15 j21 · · x) <;> intros <;> kernel_rfl
noncomputable def V3 (k j4 j10 j15 j21 j26 : Nat) (J : JF Bool) (L : LF Bool) : Anm → Option Bool
 | (a0, a1, a2, a3, a4, a5, a6, a7, a8, a9, a10, a11, a12, a13, a14, a15, a16, a17, a18) => idx zt6 a3 a4 fun o1 => bif (decide (a5 < ((List.length o1.2.2.2.2.1 : Nat) : Int))) then (idx zt6 a3 a4 fun o2 => idx zt5 o2.2.2.2.2.1 a5 fun o3 => bif (decide (((List.length o3.1 : Nat) : Int) > (100 : Int))) then (some false) else (L 26 [j4, j10, j15, j21] j26 (O2 (a0, a1, a2, a3, a4, (IntKind.wrap .i64 (a5 + (1 : Int))), a6, a7, a8, a9, a10, a11, a12, a13, a14, a15, a16, a17, a18)))) else (L 21 [j4, j10, j15] j21 (Ks (a0, a1, a2, a3, (IntKind.wrap .i64 (a4 + (1 : Int))), a6, a7, a8, a9, a10, a11, a12, a13, a14, a15, a16, a17, a18)))
theorem A3f (k j4 j10 j15 j21 j26 : Nat) (x : Anm) : (A2 k).L 26 [j4, j10, j15, j21] (j26 + 1) (O2 x) = V3 k j4 j10 j15 j21 j26 (A2 k).J (A2 k).L x := by
 apply cutX (A2 k) [.r, .r, .l, .r, .b, .b, .r, .l, .b, .r, .r, .r, .b, .b, .r, .l, .b, .r, .r, .b, .b, .r, .l, .b, .r, .r, .r, .b, .b, .r, .l, .b, .r, .r, .b, .b] [j4, j10, j15, j21, j26] (O2 x) [] [(4, [], j4), (10, [j4], j10), (15, [j4, j10], j15), (21, [j4, j10, j15], j21), (26, [j4, j10, j15, j21], j26)] (V3 k j4 j10 j15 j21 j26 · · x) <;> intros <;> kernel_rfl
theorem Bcp (k : Nat) : Af Tryz.prog 17 (A8w k) := Ah (A2 k).C (l := []) k rfl trivial Ag Tryz.func17 (by kernel_rfl)
abbrev H13 : Type := (List (YT6)) × (Int) × (Int)
def Ah8 : Sk := ⟨[.lf (.pv (.slice yt6))], [], []⟩
def Ah9 : Sk := ⟨[.lf (.pv (.int .i64))], [], []⟩
def Azw : Sk := ⟨sparse 19 [(0, .lf (.pv (.slice yt6))), (3, .lf (.pv (.int .i64))), (4, .lf (.pv (.int .i64)))], [], []⟩
abbrev Ah6 := H13
def Nz : Ah6 → St := stOf Azw 67
def D0 (k : Nat) : FnX Int := mkX ({ mkC [] 67 0 0 with hint := fun i => look none [(3, some Azw)] i }) k Tryz.f78 Ah9
def Rl (k : Nat) : (List (YT6)) → Option Int := hid (Ac (D0 k).C k Tryz.f78 Ah8 Ah9)
def A71 (k : Nat) : Sig := Ab Ah8 Ah9 (Rl k)
noncomputable def Ah7 (k : Nat) (J : JF Int) (L : LF Int) : (List (YT6)) → Option Int
 | a0 => L 3 [] k (Nz (a0, (0 : Int), (0 : Int)))
theorem Bfu (k : Nat) (x : (List (YT6))) : Rl k x = Ah7 k (D0 k).J (D0 k).L x := by
 refine (Aj _ _).trans ?_; apply cutX (D0 k) [] [] (st0 (D0 k).C Tryz.f78 Ah8 x) [] [(3, [], k)] (Ah7 k · · x) <;> intros <;> kernel_rfl
noncomputable def T0 (k j3 : Nat) (J : JF Int) (L : LF Int) : Ah6 → Option Int
 | (a0, a1, a2) => bif (decide (a2 < ((List.length a0 : Nat) : Int))) then (idx zt6 a0 a2 fun o1 => L 3 [] j3 (Nz (a0, (IntKind.wrap .i64 (a1 + o1.2.1)), (IntKind.wrap .i64 (a2 + (1 : Int)))))) else (some a1)
theorem Azv (k j3 : Nat) (x : Ah6) : (D0 k).L 3 [] (j3 + 1) (Nz x) = T0 k j3 (D0 k).J (D0 k).L x := by
 apply cutX (D0 k) [.r, .r, .l, .r, .b, .b] [j3] (Nz x) [] [(3, [], j3)] (T0 k j3 · · x) <;> intros <;> kernel_rfl
theorem Bbv (k : Nat) : Af Tryz.prog 78 (A71 k) := Ah (D0 k).C (l := []) k rfl trivial Ag Tryz.func78 (by kernel_rfl)
abbrev H14 : Type := (Int) × (Int) × (List (List (YT6)))
def Ah4 : Sk := ⟨[.agg [.pv (.slice (.slice yt6))]], [], []⟩
def Ah5 : Sk := ⟨[.lf (.pv (.int .i64))], [], []⟩
def Azu : Sk := ⟨sparse 21 [(1, .lf (.ptr 0 0)), (3, .lf (.pv (.int .i64))), (4, .lf (.pv (.int .i64)))], [[.pv (.slice (.slice yt6))]], []⟩
abbrev Ah2 := H14
def Ny : Ah2 → St := stOf Azu 69
def Bfs (k : Nat) : EnvL := [(78, [A71 k])]
def Dz (k : Nat) : FnX Int := mkX ({ mkC (Bfs k) 69 0 0 with hint := fun i => look none [(3, some Azu)] i }) k Tryz.f46 Ah5
def Rk (k : Nat) : (List (List (YT6))) → Option Int := hid (Ac (Dz k).C k Tryz.f46 Ah4 Ah5)
def A70 (k : Nat) : Sig := Ab Ah4 Ah5 (Rk k)
noncomputable def Ah3 (k : Nat) (J : JF Int) (L : LF Int) : (List (List (YT6))) → Option Int
 | a0 => L 3 [] k (Ny ((0 : Int), (0 : Int), a0))
theorem Bft (k : Nat) (x : (List (List (YT6)))) : Rk k x = Ah3 k (Dz k).J (Dz k).L x := by
 refine (Aj _ _).trans ?_; apply cutX (Dz k) [] [] (st0 (Dz k).C Tryz.f46 Ah4 x) [] [(3, [], k)] (Ah3 k · · x) <;> intros <;> kernel_rfl
noncomputable def Tz (k j3 : Nat) (J : JF Int) (L : LF Int) : Ah2 → Option Int
 | (a0, a1, a2) => bif (decide (a1 < ((List.length a2 : Nat) : Int))) then (idx [] a2 a1 fun o1 => ((Rl k) (o1)).bind fun o2 => L 3 [] j3 (Ny ((maxI a0 o2), (IntKind.wrap .i64 (a1 + (1 : Int))), a2))) else (some a0)
theorem Azt (k j3 : Nat) (x : Ah2) : (Dz k).L 3 [] (j3 + 1) (Ny x) = Tz k j3 (Dz k).J (Dz k).L x := by
 apply cutX (Dz k) [.r, .r, .l, .r, .b, .b] [j3] (Ny x) [] [(3, [], j3)] (Tz k j3 · · x) <;> intros <;> kernel_rfl
theorem Bbu (k : Nat) : Af Tryz.prog 46 (A70 k) := Ah (Dz k).C k rfl ⟨⟨Bbv k, trivial⟩, trivial⟩ Ag Tryz.func46 (by kernel_rfl)
def Azz : Sk := ⟨[.lf (.pv (.int .i64))], [], []⟩
def Az0 : Sk := ⟨[.lf (.pv .bool)], [], []⟩
def Azx (k : Nat) : Cfg := mkC [] 57 0 0
def Fn (k : Nat) : Int → Option Bool := hid (Ac (Azx k) k Tryz.f45 Azz Az0)
def A72 (k : Nat) : Sig := Ab Azz Az0 (Fn k)
noncomputable def Azy (k : Nat) : Int → Option Bool
 | a0 => bif (decide (a0 ≥ (0 : Int))) then (some (decide (a0 ≤ (6000 : Int)))) else (some false)
theorem Bfv (k : Nat) (x : Int) : Fn k x = Azy k x := (Aj _ _).trans (by kernel_rfl)
theorem Bbw (k : Nat) : Af Tryz.prog 45 (A72 k) := Ah (Azx k) (l := []) k rfl trivial Ag Tryz.func45 (by kernel_rfl)
abbrev H15 : Type := (Int) × (Int) × (List Int) × (Int) × (List ((List (List (YT6))) × (Unit))) × (Int) × (Int)
abbrev H16 : Type := (Int) × (Int) × (List (List (YT6))) × (Int) × (List Int) × (Int) × (List ((List (List (YT6))) × (Unit))) × (Int) × (Int)
abbrev H17 : Type := (Int) × (Int) × (List (List (YT6))) × (Int) × (Int) × (List Int) × (Int) × (List ((List (List (YT6))) × (Unit))) × (Int) × (Int)
abbrev H18 : Type := (Int) × (Int) × (List (List (YT6))) × (Int) × (Int) × (Int) × (List Int) × (Int) × (List ((List (List (YT6))) × (Unit))) × (Int) × (Int) × (List Int) × (Int) × (Int) × (Int) × (List (YT5))
abbrev H19 : Type := (List Int) × (Int) × (List ((List (List (YT6))) × (Unit))) × (Int) × (Int)
def Ah0 : Sk := ⟨[.agg [.pv .str, .pv (.int .i64), .pv (.slice (.cons (.slice (.slice yt6)) .nil)), .pv (.int .i64), .pv (.int .i64)]], [], []⟩
def Ah1 : Sk := ⟨[.lf (.pv (.int .i64))], [], []⟩
def Azs : Sk := ⟨sparse 108 [(1, .lf (.ptr 0 0)), (3, .lf (.pv (.int .i64))), (4, .lf (.pv (.int .i64)))], [q17], []⟩
abbrev Ahy := H15
def Jx : Ahy → St := stOf Azs 156
def Azp : Sk := ⟨sparse 108 [(1, .lf (.ptr 0 0)), (3, .lf (.pv (.int .i64))), (4, .lf (.pv (.int .i64))), (5, .lf (.pv (.slice (.slice yt6)))), (6, .lf (.pv (.int .i64)))], [q17], []⟩
abbrev Ahv := H16
def Jv : Ahv → St := stOf Azp 156
def Azq : Sk := ⟨sparse 108 [(1, .lf (.ptr 0 0)), (3, .lf (.pv (.int .i64))), (4, .lf (.pv (.int .i64))), (5, .lf (.pv (.slice (.slice yt6)))), (6, .lf (.pv (.int .i64))), (7, .lf (.pv (.int .i64)))], [q17], []⟩
abbrev Ahw := H17
def Jw : Ahw → St := stOf Azq 156
def Azr : Sk := ⟨sparse 108 [(1, .lf (.ptr 0 0)), (3, .lf (.pv (.int .i64))), (4, .lf (.pv (.int .i64))), (5, .lf (.pv (.slice (.slice yt6)))), (6, .lf (.pv (.int .i64))), (7, .lf (.pv (.int .i64))), (8, .lf (.ptr 1 0)), (9, .lf (.pv (.int .i64)))], [q17, q8], []⟩
abbrev Ahx := H18
def Nx : Ahx → St := stOf Azr 156
def Bfq (k : Nat) : EnvL := [(46, [A70 k]), (45, [A72 k])]
def A5 (k : Nat) : FnX Int := mkX ({ mkC (Bfq k) 156 0 0 with hint := fun i => look none [(5, some Azs), (11, some Azp), (16, some Azq), (22, some Azr)] i }) k Tryz.f18 Ah1
def Rj (k : Nat) : H19 → Option Int := hid (Ac (A5 k).C k Tryz.f18 Ah0 Ah1)
def A7z (k : Nat) : Sig := Ab Ah0 Ah1 (Rj k)
noncomputable def Ahz (k : Nat) (J : JF Int) (L : LF Int) : H19 → Option Int
 | (a0, a1, a2, a3, a4) => bif (decide (((List.length a2 : Nat) : Int) > (4 : Int))) then (some (0 : Int)) else (L 5 [] k (Jx ((0 : Int), (0 : Int), a0, a1, a2, a3, a4)))
theorem Bfr (k : Nat) (x : H19) : Rj k x = Ahz k (A5 k).J (A5 k).L x := by
 refine (Aj _ _).trans ?_; apply cutX (A5 k) [] [] (st0 (A5 k).C Tryz.f18 Ah0 x) [] [(5, [], k)] (Ahz k · · x) <;> intros <;> kernel_rfl
noncomputable def Tx (k j5 : Nat) (J : JF Int) (L : LF Int) : Ahy → Option Int
 | (a0, a1, a2, a3, a4, a5, a6) => bif (decide (a1 < ((List.length a4 : Nat) : Int))) then (idx ([], ()) a4 a1 fun o1 => bif (decide (((List.length o1.1 : Nat) : Int) > (2 : Int))) then (some (0 : Int)) else (L 11 [j5] k (Jv (a0, a1, o1.1, (0 : Int), a2, a3, a4, a5, a6)))) else (some a0)
theorem Azo (k j5 : Nat) (x : Ahy) : (A5 k).L 5 [] (j5 + 1) (Jx x) = Tx k j5 (A5 k).J (A5 k).L x := by
 apply cutX (A5 k) [.r, .r, .r, .l, .r, .b, .b] [j5] (Jx x) [] [(5, [], j5), (11, [j5], k)] (Tx k j5 · · x) <;> intros <;> kernel_rfl
noncomputable def Tu (k j5 j11 : Nat) (J : JF Int) (L : LF Int) : Ahv → Option Int
 | (a0, a1, a2, a3, a4, a5, a6, a7, a8) => bif (decide (a3 < ((List.length a2 : Nat) : Int))) then (idx [] a2 a3 fun o1 => bif (decide (((List.length o1 : Nat) : Int) > (4 : Int))) then (some (0 : Int)) else (L 16 [j5, j11] k (Jw (a0, a1, a2, a3, (0 : Int), a4, a5, a6, a7, a8)))) else (idx ([], ()) a6 a1 fun o2 => ((Rk k) (o2.1)).bind fun o3 => L 5 [] j5 (Jx ((IntKind.wrap .i64 (a0 + o3)), (IntKind.wrap .i64 (a1 + (1 : Int))), a4, a5, a6, a7, a8)))
theorem Azl (k j5 j11 : Nat) (x : Ahv) : (A5 k).L 11 [j5] (j11 + 1) (Jv x) = Tu k j5 j11 (A5 k).J (A5 k).L x := by
 apply cutX (A5 k) [.r, .r, .r, .l, .r, .b, .b, .r, .l, .b, .r, .r, .l, .r, .b, .b] [j5, j11] (Jv x) [] [(5, [], j5), (11, [j5], j11), (16, [j5, j11], k)] (Tu k j5 j11 · · x) <;> intros <;> kernel_rfl
noncomputable def Tv (k j5 j11 j16 : Nat) (J : JF Int) (L : LF Int) : Ahw → Option Int
 | (a0, a1, a2, a3, a4, a5, a6, a7, a8, a9) => idx [] a2 a3 fun o1 => bif (decide (a4 < ((List.length o1 : Nat) : Int))) then (idx [] a2 a3 fun o2 => idx zt6 o2 a4 fun o3 => ((Fn k) (o3.2.1)).bind fun o4 => bif (!o4) then (some (0 : Int)) else (((Fn k) (o3.2.2.1)).bind fun o5 => bif (!o5) then (some (0 : Int)) else (((Fn k) (o3.2.2.2.1)).bind fun o6 => bif (!o6) then (some (0 : Int)) else (L 22 [j5, j11, j16] k (Nx (a0, a1, a2, a3, a4, (0 : Int), a5, a6, a7, a8, a9, o3.1, o3.2.1, o3.2.2.1, o3.2.2.2.1, o3.2.2.2.2.1)))))) else (L 11 [j5] j11 (Jv (a0, a1, a2, (IntKind.wrap .i64 (a3 + (1 : Int))), a5, a6, a7, a8, a9)))
theorem Azm (k j5 j11 j16 : Nat) (x : Ahw) : (A5 k).L 16 [j5, j11] (j16 + 1) (Jw x) = Tv k j5 j11 j16 (A5 k).J (A5 k).L x := by
 apply cutX (A5 k) [.r, .r, .r, .l, .r, .b, .b, .r, .l, .b, .r, .r, .l, .r, .b, .b, .r, .l, .b, .r, .r, .b, .b] [j5, j11, j16] (Jw x) [] [(5, [], j5), (11, [j5], j11), (16, [j5, j11], j16), (22, [j5, j11, j16], k)] (Tv k j5 j11 j16 · · x) <;> intros <;> kernel_rfl
noncomputable def Tw (k j5 j11 j16 j22 : Nat) (J : JF Int) (L : LF Int) : Ahx → Option Int
 | (a0, a1, a2, a3, a4, a5, a6, a7, a8, a9, a10, a11, a12, a13, a14, a15) => bif (decide (a5 < ((List.length a15 : Nat) : Int))) then (idx zt5 a15 a5 fun o1 => ((Fn k) (o1.2.1)).bind fun o2 => bif (!o2) then (some (0 : Int)) else (idx zt5 a15 a5 fun o3 => ((Fn k) (o3.2.2.1)).bind fun o4 => bif (!o4) then (some (0 : Int)) else (L 22 [j5, j11, j16] j22 (Nx (a0, a1, a2, a3, a4, (IntKind.wrap .i64 (a5 + (1 : Int))), a6, a7, a8, a9, a10, a11, a12, a13, a14, a15))))) else (L 16 [j5, j11] j16 (Jw (a0, a1, a2, a3, (IntKind.wrap .i64 (a4 + (1 : Int))), a6, a7, a8, a9, a10)))
theorem Azn (k j5 j11 j16 j22 : Nat) (x : Ahx) : (A5 k).L 22 [j5, j11, j16] (j22 + 1) (Nx x) = Tw k j5 j11 j16 j22 (A5 k).J (A5 k).L x := by
 apply cutX (A5 k) [.r, .r, .r, .l, .r, .b, .b, .r, .l, .b, .r, .r, .l, .r, .b, .b, .r, .l, .b, .r, .r, .b, .b, .r, .l, .b, .r, .r, .r, .b, .b] [j5, j11, j16, j22] (Nx x) [] [(5, [], j5), (11, [j5], j11), (16, [j5, j11], j16), (22, [j5, j11, j16], j22)] (Tw k j5 j11 j16 j22 · · x) <;> intros <;> kernel_rfl
theorem Bbt (k : Nat) : Af Tryz.prog 18 (A7z k) := Ah (A5 k).C k rfl ⟨⟨Bbu k, trivial⟩, ⟨Bbw k, trivial⟩, trivial⟩ Ag Tryz.func18 (by kernel_rfl)
abbrev H20 : Type := (List Int) × (List (YT1)) × (List (YT2)) × (List (YT3)) × (List ((List (YT4)) × (Unit))) × (List (YT7)) × (Int) × (List Int) × (Int) × (List ((List (List (YT6))) × (Unit))) × (Int) × (Int)
def A3o : Sk := ⟨[.agg [.pv .str, .pv (.slice yt1), .pv (.slice yt2), .pv (.slice yt3), .pv (.slice (.cons (.slice yt4) .nil)), .pv (.slice yt7), .pv (.int .i64)], .agg [.pv .str, .pv (.int .i64), .pv (.slice (.cons (.slice (.slice yt6)) .nil)), .pv (.int .i64), .pv (.int .i64)]], [], []⟩
def A3p : Sk := ⟨[.lf (.pv .bool)], [], []⟩
def Bhf (k : Nat) : EnvL := [(16, [A8u k]), (17, [A8w k]), (18, [A7z k])]
def A3m (k : Nat) : Cfg := mkC (Bhf k) 68 0 0
def Rt (k : Nat) : H20 → Option Bool := hid (Ac (A3m k) k Tryz.f4 A3o A3p)
def A8x (k : Nat) : Sig := Ab A3o A3p (Rt k)
noncomputable def A3n (k : Nat) : H20 → Option Bool
 | (a0, a1, a2, a3, a4, a5, a6, a7, a8, a9, a10, a11) => ((Rq k) ((0 : Int), (0 : Int), (0 : Int), (0 : Int), (0 : Int), ([(a0, (a1, (a2, (a3, (a4, (a5, (a6, ())))))))] : List (YT8)), [], (0 : Int), (0 : Int))).bind fun o1 => bif o1 then (((Rs k) ((0 : Int), ([(a7, (a8, (a9, ((a10, (a11, ())), ()))))] : List (YT10)), (0 : Int), (0 : Int), (0 : Int), (0 : Int), false, (0 : Int))).bind fun o2 => bif o2 then (((Rj k) (a7, a8, a9, a10, a11)).bind fun o3 => some (decide (o3 ≤ (500 : Int)))) else (some false)) else (some false)
theorem Bhg (k : Nat) (x : H20) : Rt k x = A3n k x := (Aj _ _).trans (by kernel_rfl)
theorem Bcq (k : Nat) : Af Tryz.prog 4 (A8x k) := Ah (A3m k) k rfl ⟨⟨Bcn k, trivial⟩, ⟨Bcp k, trivial⟩, ⟨Bbt k, trivial⟩, trivial⟩ Ag Tryz.func4 (by kernel_rfl)
abbrev H21 : Type := (List Int) × (Int) × (List Int) × (Int) × (Int) × (Int) × (List (YT1)) × (List (YT3)) × (List ((List (YT4)) × (Unit))) × (List ((List (List (YT6))) × (Unit)))
def A3v : Sk := ⟨[], [], []⟩
def A3w : Sk := ⟨[.agg [.pv .str, .own 0, .nil .sl, .own 1, .own 2, .nil .sl, .pv (.int .i64)], .agg [.pv .str, .pv (.int .i64), .own 3, .pv (.int .i64), .pv (.int .i64)]], [], [some (90, yt1), some (86, yt3), some (116, (.cons (.slice yt4) .nil)), some (72, (.cons (.slice (.slice yt6)) .nil))]⟩
def A3t (k : Nat) : Cfg := mkC [] 73 0 0
def Aci (k : Nat) : Unit → Option H21 := hid (Ac (A3t k) k Tryz.f19 A3v A3w)
def A8z (k : Nat) : Sig := Ab A3v A3w (Aci k)
noncomputable def A3u (k : Nat) : Unit → Option H21
 | _ => some (([] : List Int), (0 : Int), ([] : List Int), (0 : Int), (0 : Int), (0 : Int), ([(([97] : List Int), ((0 : Int), ((0 : Int), (((0 : Int), ((0 : Int), ())), ((0 : Int), ((0 : Int), ((0 : Int), ((0 : Int), ((0 : Int), ((0 : Int), ())))))))))), (([98] : List Int), ((0 : Int), ((0 : Int), (((0 : Int), ((0 : Int), ())), ((0 : Int), ((0 : Int), ((0 : Int), ((0 : Int), ((0 : Int), ((0 : Int), ()))))))))))] : List (YT1)), ([(([112] : List Int), (([([97] : List Int)] : List (List Int)), ((0 : Int), ()))), (([113] : List Int), (([([98] : List Int)] : List (List Int)), ((0 : Int), ())))] : List (YT3)), ([(([(false, (([([112] : List Int), ([113] : List Int)] : List (List Int)), ()))] : List (YT4)), ())] : List ((List (YT4)) × (Unit))), ([(([([(([112] : List Int), ((10 : Int), ((3 : Int), ((2 : Int), ([], ()))))), (([113] : List Int), ((10 : Int), ((2 : Int), ((0 : Int), ([], ())))))] : List (YT6))] : List (List (YT6))), ())] : List ((List (List (YT6))) × (Unit))))
theorem Bhm (k : Nat) (x : Unit) : Aci k x = A3u k x := (Aj _ _).trans (by kernel_rfl)
theorem Bct (k : Nat) : Af Tryz.prog 19 (A8z k) := Ah (A3t k) (l := []) k rfl trivial Ag Tryz.func19 (by kernel_rfl)
def Vd : Sk := ⟨[.lf (.pv (.int .i64))], [], []⟩
def Ve : Sk := ⟨[.lf (.pv .bool)], [], []⟩
def Amg (k : Nat) : Cfg := mkC [] 57 0 0
def Gy (k : Nat) : Int → Option Bool := hid (Ac (Amg k) k Tryz.f104 Vd Ve)
def Yk (k : Nat) : Sig := Ab Vd Ve (Gy k)
noncomputable def A2g (k : Nat) : Int → Option Bool
 | a0 => bif (decide (a0 < (0 : Int))) then (some true) else (some (decide (a0 > (6000 : Int))))
theorem Bg0 (k : Nat) (x : Int) : Gy k x = A2g k x := (Aj _ _).trans (by kernel_rfl)
theorem Bcg (k : Nat) : Af Tryz.prog 104 (Yk k) := Ah (Amg k) (l := []) k rfl trivial Ag Tryz.func104 (by kernel_rfl)
abbrev H22 : Type := (List (Int)) × (Int) × (Int)
def M6 : Sk := ⟨[.lf (.pv (.slice (.int .i64))), .lf (.fn 104 [] [])], [], []⟩
def Jf : Sk := ⟨[.lf (.pv (.int .i64))], [], []⟩
def Aeu : Sk := ⟨sparse 19 [(0, .lf (.pv (.slice (.int .i64)))), (1, .lf (.fn 104 [] [])), (7, .lf (.pv (.int .i64))), (8, .lf (.pv (.int .i64)))], [], []⟩
abbrev Aet := H22
def M5 : Aet → St := stOf Aeu 67
def Aer (k : Nat) : EnvL := [(104, [Yk k])]
def Cw (k : Nat) : FnX Int := mkX ({ mkC (Aer k) 67 0 0 with hint := fun i => look none [(2, some Aeu)] i }) k Tryz.f106 Jf
def L8 (k : Nat) : (List (Int)) → Option Int := hid (Ac (Cw k).C k Tryz.f106 M6 Jf)
def Xg (k : Nat) : Sig := Ab M6 Jf (L8 k)
noncomputable def Aev (k : Nat) (J : JF Int) (L : LF Int) : (List (Int)) → Option Int
 | a0 => L 2 [] k (M5 (a0, ((List.length a0 : Nat) : Int), (0 : Int)))
theorem Bee (k : Nat) (x : (List (Int))) : L8 k x = Aev k (Cw k).J (Cw k).L x := by
 refine (Aj _ _).trans ?_; apply cutX (Cw k) [] [] (st0 (Cw k).C Tryz.f106 M6 x) [] [(2, [], k)] (Aev k · · x) <;> intros <;> kernel_rfl
noncomputable def Awz (k j2 : Nat) (J : JF Int) (L : LF Int) : Aet → Option Int
 | (a0, a1, a2) => bif (decide (a2 < a1)) then (idxI a0 a2 fun o1 => ((Gy k) (o1)).bind fun o2 => bif o2 then (some a2) else (L 2 [] j2 (M5 (a0, a1, (IntKind.wrap .i64 (a2 + (1 : Int))))))) else (some (-1 : Int))
theorem Bef (k j2 : Nat) (x : Aet) : (Cw k).L 2 [] (j2 + 1) (M5 x) = Awz k j2 (Cw k).J (Cw k).L x := by
 apply cutX (Cw k) [.r, .l, .r, .b, .b] [j2] (M5 x) [] [(2, [], j2)] (Awz k j2 · · x) <;> intros <;> kernel_rfl
theorem Bas (k : Nat) : Af Tryz.prog 106 (Xg k) := Ah (Cw k).C k rfl ⟨⟨Bcg k, trivial⟩, trivial⟩ Ag Tryz.func106 (by kernel_rfl)
def R9 : Sk := ⟨[.lf (.pv (.slice (.int .i64))), .lf (.fn 104 [] [])], [], []⟩
def Sa : Sk := ⟨[.lf (.pv .bool)], [], []⟩
def Ac7 (k : Nat) : EnvL := [(106, [Xg k])]
def R8 (k : Nat) : Cfg := mkC (Ac7 k) 57 0 0
def Lw (k : Nat) : (List (Int)) → Option Bool := hid (Ac (R8 k) k Tryz.f103 R9 Sa)
def W4 (k : Nat) : Sig := Ab R9 Sa (Lw k)
noncomputable def Av1 (k : Nat) : (List (Int)) → Option Bool
 | a0 => ((L8 k) (a0)).bind fun o1 => some (decide (o1 ≥ (0 : Int)))
theorem Bdw (k : Nat) (x : (List (Int))) : Lw k x = Av1 k x := (Aj _ _).trans (by kernel_rfl)
theorem Bag (k : Nat) : Af Tryz.prog 103 (W4 k) := Ah (R8 k) k rfl ⟨⟨Bas k, trivial⟩, trivial⟩ Ag Tryz.func103 (by kernel_rfl)
def ftimestimesi : Sk := ⟨[.lf (.pv (.slice (.int .i64)))], [], []⟩
def ftimestimeso : Sk := ⟨[.lf (.pv .bool)], [], []⟩
def Ame (k : Nat) : EnvL := [(103, [W4 k])]
def Vc (k : Nat) : Cfg := mkC (Ame k) 54 0 0
def ctimestimes (k : Nat) : (List (Int)) → Option Bool := hid (Ac (Vc k) k Tryz.f97 ftimestimesi ftimestimeso)
def sgtimestimes (k : Nat) : Sig := Ab ftimestimesi ftimestimeso (ctimestimes k)
noncomputable def A2h (k : Nat) : (List (Int)) → Option Bool
 | a0 => ((Lw k) (a0)).bind fun o1 => some (!o1)
theorem Bg1 (k : Nat) (x : (List (Int))) : ctimestimes k x = A2h k x := (Aj _ _).trans (by kernel_rfl)
theorem Auw (k : Nat) : Af Tryz.prog 97 (sgtimestimes k) := Ah (Vc k) k rfl ⟨⟨Bag k, trivial⟩, trivial⟩ Ag Tryz.func97 (by kernel_rfl)
abbrev H23 : Type := (List Int) × (Int) × (Int)
def Va : Sk := ⟨[.agg [.pv .str, .pv (.int .i64), .pv (.int .i64)]], [], []⟩
def Vb : Sk := ⟨[.lf (.pv .bool)], [], []⟩
def Amb (k : Nat) : EnvL := [(97, [sgtimestimes k])]
def U9 (k : Nat) : Cfg := mkC (Amb k) 58 0 0
def Gx (k : Nat) : H23 → Option Bool := hid (Ac (U9 k) k Tryz.f99 Va Vb)
def Yj (k : Nat) : Sig := Ab Va Vb (Gx k)
noncomputable def A2c (k : Nat) : H23 → Option Bool
 | (a0, a1, a2) => ((ctimestimes k) (([a1, a2] : List (Int)))).bind fun o1 => some (!o1)
theorem Bgy (k : Nat) (x : H23) : Gx k x = A2c k x := (Aj _ _).trans (by kernel_rfl)
theorem Bce (k : Nat) : Af Tryz.prog 99 (Yj k) := Ah (U9 k) k rfl ⟨⟨Auw k, trivial⟩, trivial⟩ Ag Tryz.func99 (by kernel_rfl)
abbrev H24 : Type := (List (YT5)) × (Int) × (Int)
def M4 : Sk := ⟨[.lf (.pv (.slice yt5)), .lf (.fn 99 [] [])], [], []⟩
def Je : Sk := ⟨[.lf (.pv (.int .i64))], [], []⟩
def Aeo : Sk := ⟨sparse 19 [(0, .lf (.pv (.slice yt5))), (1, .lf (.fn 99 [] [])), (7, .lf (.pv (.int .i64))), (8, .lf (.pv (.int .i64)))], [], []⟩
abbrev Aen := H24
def M3 : Aen → St := stOf Aeo 67
def Ael (k : Nat) : EnvL := [(99, [Yj k])]
def Cv (k : Nat) : FnX Int := mkX ({ mkC (Ael k) 67 0 0 with hint := fun i => look none [(2, some Aeo)] i }) k Tryz.f105 Je
def L7 (k : Nat) : (List (YT5)) → Option Int := hid (Ac (Cv k).C k Tryz.f105 M4 Je)
def Xf (k : Nat) : Sig := Ab M4 Je (L7 k)
noncomputable def Aep (k : Nat) (J : JF Int) (L : LF Int) : (List (YT5)) → Option Int
 | a0 => L 2 [] k (M3 (a0, ((List.length a0 : Nat) : Int), (0 : Int)))
theorem Bec (k : Nat) (x : (List (YT5))) : L7 k x = Aep k (Cv k).J (Cv k).L x := by
 refine (Aj _ _).trans ?_; apply cutX (Cv k) [] [] (st0 (Cv k).C Tryz.f105 M4 x) [] [(2, [], k)] (Aep k · · x) <;> intros <;> kernel_rfl
noncomputable def Aww (k j2 : Nat) (J : JF Int) (L : LF Int) : Aen → Option Int
 | (a0, a1, a2) => bif (decide (a2 < a1)) then (idx zt5 a0 a2 fun o1 => ((Gx k) (o1.1, o1.2.1, o1.2.2.1)).bind fun o2 => bif o2 then (some a2) else (L 2 [] j2 (M3 (a0, a1, (IntKind.wrap .i64 (a2 + (1 : Int))))))) else (some (-1 : Int))
theorem Bed (k j2 : Nat) (x : Aen) : (Cv k).L 2 [] (j2 + 1) (M3 x) = Aww k j2 (Cv k).J (Cv k).L x := by
 apply cutX (Cv k) [.r, .l, .r, .b, .b] [j2] (M3 x) [] [(2, [], j2)] (Aww k j2 · · x) <;> intros <;> kernel_rfl
theorem Bar (k : Nat) : Af Tryz.prog 105 (Xf k) := Ah (Cv k).C k rfl ⟨⟨Bce k, trivial⟩, trivial⟩ Ag Tryz.func105 (by kernel_rfl)
def R6 : Sk := ⟨[.lf (.pv (.slice yt5)), .lf (.fn 99 [] [])], [], []⟩
def R7 : Sk := ⟨[.lf (.pv .bool)], [], []⟩
def Ac4 (k : Nat) : EnvL := [(105, [Xf k])]
def R5 (k : Nat) : Cfg := mkC (Ac4 k) 57 0 0
def Ie (k : Nat) : (List (YT5)) → Option Bool := hid (Ac (R5 k) k Tryz.f98 R6 R7)
def W3 (k : Nat) : Sig := Ab R6 R7 (Ie k)
noncomputable def Avy (k : Nat) : (List (YT5)) → Option Bool
 | a0 => ((L7 k) (a0)).bind fun o1 => some (decide (o1 ≥ (0 : Int)))
theorem Bdv (k : Nat) (x : (List (YT5))) : Ie k x = Avy k x := (Aj _ _).trans (by kernel_rfl)
theorem Baf (k : Nat) : Af Tryz.prog 98 (W3 k) := Ah (R5 k) k rfl ⟨⟨Bar k, trivial⟩, trivial⟩ Ag Tryz.func98 (by kernel_rfl)
abbrev H25 : Type := (List Int) × (Int) × (Int) × (Int) × (List (YT5))
def ftimestimedi : Sk := ⟨[.agg [.pv .str, .pv (.int .i64), .pv (.int .i64), .pv (.int .i64), .pv (.slice yt5)]], [], []⟩
def ftimestimedo : Sk := ⟨[.lf (.pv .bool)], [], []⟩
def Al8 (k : Nat) : EnvL := [(97, [sgtimestimes k]), (98, [W3 k])]
def U8 (k : Nat) : Cfg := mkC (Al8 k) 65 0 0
def ctimestimed (k : Nat) : H25 → Option Bool := hid (Ac (U8 k) k Tryz.f82 ftimestimedi ftimestimedo)
def sgtimestimed (k : Nat) : Sig := Ab ftimestimedi ftimestimedo (ctimestimed k)
noncomputable def A2d (k : Nat) : H25 → Option Bool
 | (a0, a1, a2, a3, a4) => ((ctimestimes k) (([a1, a2, a3] : List (Int)))).bind fun o1 => bif o1 then (((Ie k) (a4)).bind fun o2 => some (!o2)) else (some false)
theorem Bgz (k : Nat) (x : H25) : ctimestimed k x = A2d k x := (Aj _ _).trans (by kernel_rfl)
theorem Bcf (k : Nat) : Af Tryz.prog 82 (sgtimestimed k) := Ah (U8 k) k rfl ⟨⟨Auw k, trivial⟩, ⟨Baf k, trivial⟩, trivial⟩ Ag Tryz.func82 (by kernel_rfl)
def U4 : Sk := ⟨[.agg [.pv .str, .pv (.int .i64), .pv (.int .i64), .pv (.int .i64), .pv (.slice yt5)]], [], []⟩
def U5 : Sk := ⟨[.lf (.pv .bool)], [], []⟩
def Alz (k : Nat) : EnvL := [(82, [sgtimestimed k])]
def U3 (k : Nat) : Cfg := mkC (Alz k) 54 0 0
def Iw (k : Nat) : H25 → Option Bool := hid (Ac (U3 k) k Tryz.f81 U4 U5)
def Yg (k : Nat) : Sig := Ab U4 U5 (Iw k)
noncomputable def A14 (k : Nat) : H25 → Option Bool
 | (a0, a1, a2, a3, a4) => ((ctimestimed k) (a0, a1, a2, a3, a4)).bind fun o1 => some (!o1)
theorem Bgw (k : Nat) (x : H25) : Iw k x = A14 k x := (Aj _ _).trans (by kernel_rfl)
theorem Bcd (k : Nat) : Af Tryz.prog 81 (Yg k) := Ah (U3 k) k rfl ⟨⟨Bcf k, trivial⟩, trivial⟩ Ag Tryz.func81 (by kernel_rfl)
def M0 : Sk := ⟨[.lf (.pv (.slice yt6)), .lf (.fn 81 [] [])], [], []⟩
def Jc : Sk := ⟨[.lf (.pv (.int .i64))], [], []⟩
def Aea : Sk := ⟨sparse 19 [(0, .lf (.pv (.slice yt6))), (1, .lf (.fn 81 [] [])), (7, .lf (.pv (.int .i64))), (8, .lf (.pv (.int .i64)))], [], []⟩
abbrev Ad9 := H13
def Mz : Ad9 → St := stOf Aea 67
def Ad7 (k : Nat) : EnvL := [(81, [Yg k])]
def Ct (k : Nat) : FnX Int := mkX ({ mkC (Ad7 k) 67 0 0 with hint := fun i => look none [(2, some Aea)] i }) k Tryz.f91 Jc
def L0 (k : Nat) : (List (YT6)) → Option Int := hid (Ac (Ct k).C k Tryz.f91 M0 Jc)
def Xc (k : Nat) : Sig := Ab M0 Jc (L0 k)
noncomputable def Aed (k : Nat) (J : JF Int) (L : LF Int) : (List (YT6)) → Option Int
 | a0 => L 2 [] k (Mz (a0, ((List.length a0 : Nat) : Int), (0 : Int)))
theorem Bd9 (k : Nat) (x : (List (YT6))) : L0 k x = Aed k (Ct k).J (Ct k).L x := by
 refine (Aj _ _).trans ?_; apply cutX (Ct k) [] [] (st0 (Ct k).C Tryz.f91 M0 x) [] [(2, [], k)] (Aed k · · x) <;> intros <;> kernel_rfl
noncomputable def Awq (k j2 : Nat) (J : JF Int) (L : LF Int) : Ad9 → Option Int
 | (a0, a1, a2) => bif (decide (a2 < a1)) then (idx zt6 a0 a2 fun o1 => ((Iw k) (o1.1, o1.2.1, o1.2.2.1, o1.2.2.2.1, o1.2.2.2.2.1)).bind fun o2 => bif o2 then (some a2) else (L 2 [] j2 (Mz (a0, a1, (IntKind.wrap .i64 (a2 + (1 : Int))))))) else (some (-1 : Int))
theorem Bea (k j2 : Nat) (x : Ad9) : (Ct k).L 2 [] (j2 + 1) (Mz x) = Awq k j2 (Ct k).J (Ct k).L x := by
 apply cutX (Ct k) [.r, .l, .r, .b, .b] [j2] (Mz x) [] [(2, [], j2)] (Awq k j2 · · x) <;> intros <;> kernel_rfl
theorem Bap (k : Nat) : Af Tryz.prog 91 (Xc k) := Ah (Ct k).C k rfl ⟨⟨Bcd k, trivial⟩, trivial⟩ Ag Tryz.func91 (by kernel_rfl)
def R0 : Sk := ⟨[.lf (.pv (.slice yt6)), .lf (.fn 81 [] [])], [], []⟩
def R1 : Sk := ⟨[.lf (.pv .bool)], [], []⟩
def Acy (k : Nat) : EnvL := [(91, [Xc k])]
def Rz (k : Nat) : Cfg := mkC (Acy k) 57 0 0
def Ib (k : Nat) : (List (YT6)) → Option Bool := hid (Ac (Rz k) k Tryz.f80 R0 R1)
def W1 (k : Nat) : Sig := Ab R0 R1 (Ib k)
noncomputable def Avs (k : Nat) : (List (YT6)) → Option Bool
 | a0 => ((L0 k) (a0)).bind fun o1 => some (decide (o1 ≥ (0 : Int)))
theorem Bdt (k : Nat) (x : (List (YT6))) : Ib k x = Avs k x := (Aj _ _).trans (by kernel_rfl)
theorem Bad (k : Nat) : Af Tryz.prog 80 (W1 k) := Ah (Rz k) k rfl ⟨⟨Bap k, trivial⟩, trivial⟩ Ag Tryz.func80 (by kernel_rfl)
abbrev H26 : Type := (List ((List (List (YT6))) × (Unit))) × (Int) × (Int)
abbrev H27 : Type := (List ((List (List (YT6))) × (Unit))) × (Int) × (Int) × (List (List (YT6))) × (Int) × (Int)
def ftimessoundi : Sk := ⟨[.agg [.pv .str, .pv (.int .i64), .pv (.slice (.cons (.slice (.slice yt6)) .nil)), .pv (.int .i64), .pv (.int .i64)]], [], []⟩
def ftimessoundo : Sk := ⟨[.lf (.pv .bool)], [], []⟩
def Al3 : Sk := ⟨sparse 38 [(12, .lf (.pv (.slice (.cons (.slice (.slice yt6)) .nil)))), (13, .lf (.pv (.int .i64))), (14, .lf (.pv (.int .i64)))], [], []⟩
abbrev Al1 := H26
def Kj : Al1 → St := stOf Al3 86
def Al4 : Sk := ⟨sparse 38 [(12, .lf (.pv (.slice (.cons (.slice (.slice yt6)) .nil)))), (13, .lf (.pv (.int .i64))), (14, .lf (.pv (.int .i64))), (23, .lf (.pv (.slice (.slice yt6)))), (24, .lf (.pv (.int .i64))), (25, .lf (.pv (.int .i64)))], [], []⟩
abbrev Al2 := H27
def Ow : Al2 → St := stOf Al4 86
def Alw (k : Nat) : EnvL := [(80, [W1 k])]
def ftimessound (k : Nat) : FnX Bool := mkX ({ mkC (Alw k) 86 0 0 with hint := fun i => look none [(4, some Al3), (9, some Al4)] i }) k Tryz.f50 ftimessoundo
def ctimessound (k : Nat) : H19 → Option Bool := hid (Ac (ftimessound k).C k Tryz.f50 ftimessoundi ftimessoundo)
def sgtimessound (k : Nat) : Sig := Ab ftimessoundi ftimessoundo (ctimessound k)
noncomputable def Al5 (k : Nat) (J : JF Bool) (L : LF Bool) : H19 → Option Bool
 | (a0, a1, a2, a3, a4) => bif (decide (((List.length a2 : Nat) : Int) > (4 : Int))) then (some false) else (L 4 [] k (Kj (a2, ((List.length a2 : Nat) : Int), (0 : Int))))
theorem Bgx (k : Nat) (x : H19) : ctimessound k x = Al5 k (ftimessound k).J (ftimessound k).L x := by
 refine (Aj _ _).trans ?_; apply cutX (ftimessound k) [] [] (st0 (ftimessound k).C Tryz.f50 ftimessoundi x) [] [(4, [], k)] (Al5 k · · x) <;> intros <;> kernel_rfl
noncomputable def U6 (k j4 : Nat) (J : JF Bool) (L : LF Bool) : Al1 → Option Bool
 | (a0, a1, a2) => bif (decide (a2 < a1)) then (idx ([], ()) a0 a2 fun o1 => bif (decide (((List.length o1.1 : Nat) : Int) > (2 : Int))) then (some false) else (L 9 [j4] k (Ow (a0, a1, a2, o1.1, ((List.length o1.1 : Nat) : Int), (0 : Int))))) else (some true)
theorem A15 (k j4 : Nat) (x : Al1) : (ftimessound k).L 4 [] (j4 + 1) (Kj x) = U6 k j4 (ftimessound k).J (ftimessound k).L x := by
 apply cutX (ftimessound k) [.r, .r, .l, .r, .b, .b] [j4] (Kj x) [] [(4, [], j4), (9, [j4], k)] (U6 k j4 · · x) <;> intros <;> kernel_rfl
noncomputable def U7 (k j4 j9 : Nat) (J : JF Bool) (L : LF Bool) : Al2 → Option Bool
 | (a0, a1, a2, a3, a4, a5) => bif (decide (a5 < a4)) then (idx [] a3 a5 fun o1 => bif (decide (((List.length o1 : Nat) : Int) > (4 : Int))) then (some false) else (((Ib k) (o1)).bind fun o2 => bif o2 then (some false) else (L 9 [j4] j9 (Ow (a0, a1, a2, a3, a4, (IntKind.wrap .i64 (a5 + (1 : Int)))))))) else (L 4 [] j4 (Kj (a0, a1, (IntKind.wrap .i64 (a2 + (1 : Int))))))
theorem A16 (k j4 j9 : Nat) (x : Al2) : (ftimessound k).L 9 [j4] (j9 + 1) (Ow x) = U7 k j4 j9 (ftimessound k).J (ftimessound k).L x := by
 apply cutX (ftimessound k) [.r, .r, .l, .r, .b, .b, .r, .r, .l, .b, .r, .r, .r, .b, .b] [j4, j9] (Ow x) [] [(4, [], j4), (9, [j4], j9)] (U7 k j4 j9 · · x) <;> intros <;> kernel_rfl
theorem Aur (k : Nat) : Af Tryz.prog 50 (sgtimessound k) := Ah (ftimessound k).C k rfl ⟨⟨Bad k, trivial⟩, trivial⟩ Ag Tryz.func50 (by kernel_rfl)
abbrev H28 : Type := (Int) × (List (List (YT6))) × (Int) × (Int)
abbrev H29 : Type := (Int) × (Int) × (List (List (YT6))) × (Int) × (Int) × (List (YT6)) × (Int) × (Int)
def ftimeslongi : Sk := ⟨[.agg [.pv (.slice (.slice yt6))]], [], []⟩
def ftimeslongo : Sk := ⟨[.lf (.pv (.int .i64))], [], []⟩
def A1w : Sk := ⟨sparse 32 [(3, .lf (.pv (.int .i64))), (10, .lf (.pv (.slice (.slice yt6)))), (11, .lf (.pv (.int .i64))), (12, .lf (.pv (.int .i64)))], [], []⟩
abbrev Aln := H28
def Ki : Aln → St := stOf A1w 80
def A1x : Sk := ⟨sparse 32 [(3, .lf (.pv (.int .i64))), (6, .lf (.pv (.int .i64))), (10, .lf (.pv (.slice (.slice yt6)))), (11, .lf (.pv (.int .i64))), (12, .lf (.pv (.int .i64))), (16, .lf (.pv (.slice yt6))), (17, .lf (.pv (.int .i64))), (18, .lf (.pv (.int .i64)))], [], []⟩
abbrev Alo := H29
def Ou : Alo → St := stOf A1x 80
def ftimeslong (k : Nat) : FnX Int := mkX ({ mkC [] 80 0 0 with hint := fun i => look none [(3, some A1w), (7, some A1x)] i }) k Tryz.f61 ftimeslongo
def ctimeslong (k : Nat) : (List (List (YT6))) → Option Int := hid (Ac (ftimeslong k).C k Tryz.f61 ftimeslongi ftimeslongo)
def sgtimeslong (k : Nat) : Sig := Ab ftimeslongi ftimeslongo (ctimeslong k)
noncomputable def Alp (k : Nat) (J : JF Int) (L : LF Int) : (List (List (YT6))) → Option Int
 | a0 => L 3 [] k (Ki ((0 : Int), a0, ((List.length a0 : Nat) : Int), (0 : Int)))
theorem Bgu (k : Nat) (x : (List (List (YT6)))) : ctimeslong k x = Alp k (ftimeslong k).J (ftimeslong k).L x := by
 refine (Aj _ _).trans ?_; apply cutX (ftimeslong k) [] [] (st0 (ftimeslong k).C Tryz.f61 ftimeslongi x) [] [(3, [], k)] (Alp k · · x) <;> intros <;> kernel_rfl
noncomputable def U0 (k j3 : Nat) (J : JF Int) (L : LF Int) : Aln → Option Int
 | (a0, a1, a2, a3) => bif (decide (a3 < a2)) then (idx [] a1 a3 fun o1 => L 7 [j3] k (Ou (a0, (0 : Int), a1, a2, a3, o1, ((List.length o1 : Nat) : Int), (0 : Int)))) else (some a0)
theorem A1u (k j3 : Nat) (x : Aln) : (ftimeslong k).L 3 [] (j3 + 1) (Ki x) = U0 k j3 (ftimeslong k).J (ftimeslong k).L x := by
 apply cutX (ftimeslong k) [.r, .r, .l, .r, .b, .b] [j3] (Ki x) [] [(3, [], j3), (7, [j3], k)] (U0 k j3 · · x) <;> intros <;> kernel_rfl
noncomputable def U1 (k j3 j7 : Nat) (J : JF Int) (L : LF Int) : Alo → Option Int
 | (a0, a1, a2, a3, a4, a5, a6, a7) => bif (decide (a7 < a6)) then (idx zt6 a5 a7 fun o1 => L 7 [j3] j7 (Ou (a0, (IntKind.wrap .i64 (a1 + o1.2.1)), a2, a3, a4, a5, a6, (IntKind.wrap .i64 (a7 + (1 : Int)))))) else (L 3 [] j3 (Ki ((maxI a0 a1), a2, a3, (IntKind.wrap .i64 (a4 + (1 : Int))))))
theorem A1v (k j3 j7 : Nat) (x : Alo) : (ftimeslong k).L 7 [j3] (j7 + 1) (Ou x) = U1 k j3 j7 (ftimeslong k).J (ftimeslong k).L x := by
 apply cutX (ftimeslong k) [.r, .r, .l, .r, .b, .b, .r, .r, .l, .b, .r, .r, .l, .r, .b, .b] [j3, j7] (Ou x) [] [(3, [], j3), (7, [j3], j7)] (U1 k j3 j7 · · x) <;> intros <;> kernel_rfl
theorem Bcb (k : Nat) : Af Tryz.prog 61 (sgtimeslong k) := Ah (ftimeslong k).C (l := []) k rfl trivial Ag Tryz.func61 (by kernel_rfl)
abbrev H30 : Type := (Int) × (List ((List (List (YT6))) × (Unit))) × (Int) × (Int)
def Ot : Sk := ⟨[.agg [.pv .str, .pv (.int .i64), .pv (.slice (.cons (.slice (.slice yt6)) .nil)), .pv (.int .i64), .pv (.int .i64)]], [], []⟩
def Kh : Sk := ⟨[.lf (.pv (.int .i64))], [], []⟩
def Alk : Sk := ⟨sparse 22 [(3, .lf (.pv (.int .i64))), (10, .lf (.pv (.slice (.cons (.slice (.slice yt6)) .nil)))), (11, .lf (.pv (.int .i64))), (12, .lf (.pv (.int .i64)))], [], []⟩
abbrev Alj := H30
def Oq : Alj → St := stOf Alk 70
def Alh (k : Nat) : EnvL := [(50, [sgtimessound k]), (61, [sgtimeslong k])]
def C5 (k : Nat) : FnX Int := mkX ({ mkC (Alh k) 70 0 0 with hint := fun i => look none [(5, some Alk)] i }) k Tryz.f27 Kh
def Du (k : Nat) : H19 → Option Int := hid (Ac (C5 k).C k Tryz.f27 Ot Kh)
def Ht (k : Nat) : Sig := Ab Ot Kh (Du k)
noncomputable def All (k : Nat) (J : JF Int) (L : LF Int) : H19 → Option Int
 | (a0, a1, a2, a3, a4) => ((ctimessound k) (a0, a1, a2, a3, a4)).bind fun o1 => bif (!o1) then (some (0 : Int)) else (L 5 [] k (Oq ((0 : Int), a2, ((List.length a2 : Nat) : Int), (0 : Int))))
theorem Bgt (k : Nat) (x : H19) : Du k x = All k (C5 k).J (C5 k).L x := by
 refine (Aj _ _).trans ?_; apply cutX (C5 k) [] [] (st0 (C5 k).C Tryz.f27 Ot x) [] [(5, [], k)] (All k · · x) <;> intros <;> kernel_rfl
noncomputable def Uz (k j5 : Nat) (J : JF Int) (L : LF Int) : Alj → Option Int
 | (a0, a1, a2, a3) => bif (decide (a3 < a2)) then (idx ([], ()) a1 a3 fun o1 => ((ctimeslong k) (o1.1)).bind fun o2 => L 5 [] j5 (Oq ((IntKind.wrap .i64 (a0 + o2)), a1, a2, (IntKind.wrap .i64 (a3 + (1 : Int)))))) else (some a0)
theorem A1s (k j5 : Nat) (x : Alj) : (C5 k).L 5 [] (j5 + 1) (Oq x) = Uz k j5 (C5 k).J (C5 k).L x := by
 apply cutX (C5 k) [.r, .r, .r, .l, .r, .b, .b] [j5] (Oq x) [] [(5, [], j5)] (Uz k j5 · · x) <;> intros <;> kernel_rfl
theorem Ro (k : Nat) : Af Tryz.prog 27 (Ht k) := Ah (C5 k).C k rfl ⟨⟨Aur k, trivial⟩, ⟨Bcb k, trivial⟩, trivial⟩ Ag Tryz.func27 (by kernel_rfl)
def Bdq : Sk := ⟨[.lf (.pv (.slice .str))], [], []⟩
def Bdr : Sk := ⟨[.lf (.own 0)], [], [some (9, .str)]⟩
def Ia (k : Nat) : (List (List Int)) → Option (List (List Int)) := clF 16 .str
def Pp (k : Nat) : Sig := Ab Bdq Bdr (Ia k)
theorem Zn (k : Nat) : Af Tryz.prog 56 (Pp k) := De (C := clC) clE clD rfl rfl (fn := Tryz.f56) (T := 45) (e := 9) (bt := 4) (sz := 16) (t := .str) (A := clA (Au Tryz.f56)) (B := clB (Au Tryz.f56)) Tryz.func56 (by kernel_rfl) (by kernel_rfl) rfl Tryz.underlying45 (fun x => by kernel_rfl) (fun x => by kernel_rfl)
abbrev H31 : Type := (List (List Int)) × (List Int) × (Int) × (Int)
abbrev H32 : Type := (List (List Int)) × (List Int)
def Na : Sk := ⟨[.lf (.pv (.slice .str)), .lf (.pv .str)], [], []⟩
def Nb : Sk := ⟨[.lf (.pv (.int .i64))], [], []⟩
def Aw5 : Sk := ⟨sparse 19 [(0, .lf (.pv (.slice .str))), (1, .lf (.pv .str)), (7, .lf (.pv (.int .i64))), (8, .lf (.pv (.int .i64)))], [], []⟩
abbrev Ae3 := H31
def M9 : Ae3 → St := stOf Aw5 67
def Dh (k : Nat) : FnX Int := mkX ({ mkC [] 67 0 0 with hint := fun i => look none [(2, some Aw5)] i }) k Tryz.f83 Nb
def Gq (k : Nat) : H32 → Option Int := hid (Ac (Dh k).C k Tryz.f83 Na Nb)
def Pr (k : Nat) : Sig := Ab Na Nb (Gq k)
noncomputable def Ae4 (k : Nat) (J : JF Int) (L : LF Int) : H32 → Option Int
 | (a0, a1) => L 2 [] k (M9 (a0, a1, ((List.length a0 : Nat) : Int), (0 : Int)))
theorem Bei (k : Nat) (x : H32) : Gq k x = Ae4 k (Dh k).J (Dh k).L x := by
 refine (Aj _ _).trans ?_; apply cutX (Dh k) [] [] (st0 (Dh k).C Tryz.f83 Na x) [] [(2, [], k)] (Ae4 k · · x) <;> intros <;> kernel_rfl
noncomputable def Sn (k j2 : Nat) (J : JF Int) (L : LF Int) : Ae3 → Option Int
 | (a0, a1, a2, a3) => bif (decide (a3 < a2)) then (idx [] a0 a3 fun o1 => bif (a1 == o1) then (some a3) else (L 2 [] j2 (M9 (a0, a1, a2, (IntKind.wrap .i64 (a3 + (1 : Int))))))) else (some (-1 : Int))
theorem Aw4 (k j2 : Nat) (x : Ae3) : (Dh k).L 2 [] (j2 + 1) (M9 x) = Sn k j2 (Dh k).J (Dh k).L x := by
 apply cutX (Dh k) [.r, .l, .r, .b, .b] [j2] (M9 x) [] [(2, [], j2)] (Sn k j2 · · x) <;> intros <;> kernel_rfl
theorem Asl (k : Nat) : Af Tryz.prog 83 (Pr k) := Ah (Dh k).C (l := []) k rfl trivial Ag Tryz.func83 (by kernel_rfl)
abbrev H33 : Type := (List Int) × (List Int) × (Int) × (Int)
def Vf : Sk := ⟨[.lf (.pv .str), .agg [.pv .str, .pv (.int .i64), .pv (.int .i64)]], [], []⟩
def Vh : Sk := ⟨[.lf (.pv .bool)], [], []⟩
def Amj (k : Nat) : Cfg := mkC [] 57 0 0
def Mh (k : Nat) : H33 → Option Bool := hid (Ac (Amj k) k Tryz.f101 Vf Vh)
def Yn (k : Nat) : Sig := Ab Vf Vh (Mh k)
noncomputable def A2j (k : Nat) : H33 → Option Bool
 | (a0, a1, a2, a3) => some (a0 == a1)
theorem Bg2 (k : Nat) (x : H33) : Mh k x = A2j k x := (Aj _ _).trans (by kernel_rfl)
theorem Bch (k : Nat) : Af Tryz.prog 101 (Yn k) := Ah (Amj k) (l := []) k rfl trivial Ag Tryz.func101 (by kernel_rfl)
end
noncomputable section
abbrev H34 : Type := (List (YT5)) × (List (List Int)) × (Int) × (Int)
abbrev H35 : Type := (List (List Int)) × (List (YT5))
def Mt : Sk := ⟨[.lf (.pv (.slice .str)), .lf (.pv (.slice yt5)), .lf (.fn 101 [] [])], [], []⟩
def I4 : Sk := ⟨[.lf (.pv .bool)], [], []⟩
def Adi : Sk := ⟨sparse 32 [(1, .lf (.pv (.slice yt5))), (2, .lf (.fn 101 [] [])), (15, .lf (.pv (.slice .str))), (16, .lf (.pv (.int .i64))), (17, .lf (.pv (.int .i64)))], [], []⟩
abbrev Adh := H34
def Ms : Adh → St := stOf Adi 80
def Adf (k : Nat) : EnvL := [(101, [Yn k])]
def Cp (k : Nat) : FnX Bool := mkX ({ mkC (Adf k) 80 0 0 with hint := fun i => look none [(4, some Adi)] i }) k Tryz.f100 I4
def Ig (k : Nat) : H35 → Option Bool := hid (Ac (Cp k).C k Tryz.f100 Mt I4)
def W8 (k : Nat) : Sig := Ab Mt I4 (Ig k)
noncomputable def Adj (k : Nat) (J : JF Bool) (L : LF Bool) : H35 → Option Bool
 | (a0, a1) => bif (((List.length a0 : Nat) : Int) != ((List.length a1 : Nat) : Int)) then (some false) else (L 4 [] k (Ms (a1, a0, ((List.length a0 : Nat) : Int), (0 : Int))))
theorem Bd1 (k : Nat) (x : H35) : Ig k x = Adj k (Cp k).J (Cp k).L x := by
 refine (Aj _ _).trans ?_; apply cutX (Cp k) [] [] (st0 (Cp k).C Tryz.f100 Mt x) [] [(4, [], k)] (Adj k · · x) <;> intros <;> kernel_rfl
noncomputable def Sh (k j4 : Nat) (J : JF Bool) (L : LF Bool) : Adh → Option Bool
 | (a0, a1, a2, a3) => bif (decide (a3 < a2)) then (idx [] a1 a3 fun o1 => idx zt5 a0 a3 fun o2 => ((Mh k) (o1, o2.1, o2.2.1, o2.2.2.1)).bind fun o3 => bif (!o3) then (some false) else (L 4 [] j4 (Ms (a0, a1, a2, (IntKind.wrap .i64 (a3 + (1 : Int))))))) else (some true)
theorem Av9 (k j4 : Nat) (x : Adh) : (Cp k).L 4 [] (j4 + 1) (Ms x) = Sh k j4 (Cp k).J (Cp k).L x := by
 apply cutX (Cp k) [.r, .r, .l, .r, .b, .b] [j4] (Ms x) [] [(4, [], j4)] (Sh k j4 · · x) <;> intros <;> kernel_rfl
theorem Bak (k : Nat) : Af Tryz.prog 100 (W8 k) := Ah (Cp k).C k rfl ⟨⟨Bch k, trivial⟩, trivial⟩ Ag Tryz.func100 (by kernel_rfl)
abbrev H36 : Type := (List (YT2)) × (Int) × (Int) × (List Int) × (Int) × (Int) × (Int) × (List (YT5)) × (List (List Int))
abbrev H37 : Type := (List Int) × (List (YT1)) × (List (YT2)) × (List (YT3)) × (List ((List (YT4)) × (Unit))) × (List (YT7)) × (Int) × (List Int) × (Int) × (Int) × (Int) × (List (YT5))
def ftimeswalksi : Sk := ⟨[.agg [.pv .str, .pv (.slice yt1), .pv (.slice yt2), .pv (.slice yt3), .pv (.slice (.cons (.slice yt4) .nil)), .pv (.slice yt7), .pv (.int .i64)], .agg [.pv .str, .pv (.int .i64), .pv (.int .i64), .pv (.int .i64), .pv (.slice yt5)]], [], []⟩
def ftimeswalkso : Sk := ⟨[.lf (.pv .bool)], [], []⟩
def Aml : Sk := ⟨sparse 30 [(3, .lf (.ptr 0 0)), (5, .lf (.own 0)), (9, .lf (.pv (.slice yt2))), (10, .lf (.pv (.int .i64))), (11, .lf (.pv (.int .i64)))], [q8], [some (9, .str)]⟩
abbrev Amk := H36
def Kk : Amk → St := stOf Aml 78
def Amh (k : Nat) : EnvL := [(100, [W8 k])]
def ftimeswalks (k : Nat) : FnX Bool := mkX ({ mkC (Amh k) 78 0 0 with hint := fun i => look none [(3, some Aml)] i }) k Tryz.f84 ftimeswalkso
def ctimeswalks (k : Nat) : H37 → Option Bool := hid (Ac (ftimeswalks k).C k Tryz.f84 ftimeswalksi ftimeswalkso)
def sgtimeswalks (k : Nat) : Sig := Ab ftimeswalksi ftimeswalkso (ctimeswalks k)
noncomputable def Amm (k : Nat) (J : JF Bool) (L : LF Bool) : H37 → Option Bool
 | (a0, a1, a2, a3, a4, a5, a6, a7, a8, a9, a10, a11) => L 3 [] k (Kk (a2, ((List.length a2 : Nat) : Int), (0 : Int), a7, a8, a9, a10, a11, []))
theorem Bg3 (k : Nat) (x : H37) : ctimeswalks k x = Amm k (ftimeswalks k).J (ftimeswalks k).L x := by
 refine (Aj _ _).trans ?_; apply cutX (ftimeswalks k) [] [] (st0 (ftimeswalks k).C Tryz.f84 ftimeswalksi x) [] [(3, [], k)] (Amm k · · x) <;> intros <;> kernel_rfl
noncomputable def Vi (k j3 : Nat) (J : JF Bool) (L : LF Bool) : Amk → Option Bool
 | (a0, a1, a2, a3, a4, a5, a6, a7, a8) => bif (decide (a2 < a1)) then (idx zt2 a0 a2 fun o1 => bif (o1.2.1 == a3) then (app 16 a8 ([o1.1] : List (List Int)) fun o2 => L 3 [] j3 (Kk (a0, a1, (IntKind.wrap .i64 (a2 + (1 : Int))), a3, a4, a5, a6, a7, o2))) else (L 3 [] j3 (Kk (a0, a1, (IntKind.wrap .i64 (a2 + (1 : Int))), a3, a4, a5, a6, a7, a8)))) else (((Ig k) (a8, a7)).bind fun o3 => some o3)
theorem A2k (k j3 : Nat) (x : Amk) : (ftimeswalks k).L 3 [] (j3 + 1) (Kk x) = Vi k j3 (ftimeswalks k).J (ftimeswalks k).L x := by
 apply cutX (ftimeswalks k) [.r, .r, .l, .r, .b, .b] [j3] (Kk x) [] [(3, [], j3)] (Vi k j3 · · x) <;> intros <;> kernel_rfl
theorem Bci (k : Nat) : Af Tryz.prog 84 (sgtimeswalks k) := Ah (ftimeswalks k).C k rfl ⟨⟨Bak k, trivial⟩, trivial⟩ Ag Tryz.func84 (by kernel_rfl)
def Bdz : Sk := ⟨[.lf (.own 0), .lf (.fn 86 [] [(0, 0)])], [q8], [some (9, .str)]⟩
def Bd0 : Sk := ⟨[.lf (.own 1)], [q8], [none, some (9, .str)]⟩
def Zv (k : Nat) : ((List Int) × (Int) × (Int) × (Int) × (List (YT5)) × (List (List Int))) → Option ((List Int) × (Int) × (Int) × (Int) × (List (YT5)) × (List (List Int))) := dlF k
def Apa (k : Nat) : Sig := Ab Bdz Bd0 (Zv k)
theorem Bai (k : Nat) : Af Tryz.prog 85 (Apa k) := dlF_ok k
abbrev H38 : Type := (List (YT6)) × (List (YT6)) × (Int) × (Int) × (List Int) × (List (YT1)) × (List (YT2)) × (List (YT3)) × (List ((List (YT4)) × (Unit))) × (List (YT7)) × (Int) × (Bool) × (List (List Int)) × (List (List Int))
abbrev H39 : Type := (List Int) × (List (YT1)) × (List (YT2)) × (List (YT3)) × (List ((List (YT4)) × (Unit))) × (List (YT7)) × (Int) × (Bool) × (List (List Int)) × (List (YT6))
def ftimesringi : Sk := ⟨[.agg [.pv .str, .pv (.slice yt1), .pv (.slice yt2), .pv (.slice yt3), .pv (.slice (.cons (.slice yt4) .nil)), .pv (.slice yt7), .pv (.int .i64)], .agg [.pv .bool, .pv (.slice .str)], .lf (.pv (.slice yt6))], [], []⟩
def ftimesringo : Sk := ⟨[.lf (.pv .bool)], [], []⟩
def Alt : Sk := ⟨sparse 52 [(2, .lf (.pv (.slice yt6))), (3, .lf (.ptr 0 0)), (4, .lf (.ptr 1 0)), (7, .lf (.own 0)), (14, .lf (.pv (.slice yt6))), (15, .lf (.pv (.int .i64))), (16, .lf (.pv (.int .i64)))], [q14, [.pv .bool, .pv (.slice .str)]], [some (9, .str)]⟩
abbrev Als := H38
def Ov : Als → St := stOf Alt 101
def Alq (k : Nat) : EnvL := [(56, [Pp k]), (83, [Pr k]), (84, [sgtimeswalks k]), (85, [Apa k])]
def ftimesring (k : Nat) : FnX Bool := mkX ({ mkC (Alq k) 101 0 0 with hint := fun i => look none [(3, some Alt)] i }) k Tryz.f51 ftimesringo
def ctimesring (k : Nat) : H39 → Option Bool := hid (Ac (ftimesring k).C k Tryz.f51 ftimesringi ftimesringo)
def sgtimesring (k : Nat) : Sig := Ab ftimesringi ftimesringo (ctimesring k)
noncomputable def Alu (k : Nat) (J : JF Bool) (L : LF Bool) : H39 → Option Bool
 | (a0, a1, a2, a3, a4, a5, a6, a7, a8, a9) => ((Ia k) (a8)).bind fun o1 => L 3 [] k (Ov (a9, a9, ((List.length a9 : Nat) : Int), (0 : Int), a0, a1, a2, a3, a4, a5, a6, a7, a8, o1))
theorem Bgv (k : Nat) (x : H39) : ctimesring k x = Alu k (ftimesring k).J (ftimesring k).L x := by
 refine (Aj _ _).trans ?_; apply cutX (ftimesring k) [] [] (st0 (ftimesring k).C Tryz.f51 ftimesringi x) [] [(3, [], k)] (Alu k · · x) <;> intros <;> kernel_rfl
noncomputable def U2 (k j3 : Nat) (J : JF Bool) (L : LF Bool) : Als → Option Bool
 | (a0, a1, a2, a3, a4, a5, a6, a7, a8, a9, a10, a11, a12, a13) => bif (decide (a3 < a2)) then (idx zt6 a1 a3 fun o1 => ((Gq k) (a13, o1.1)).bind fun o2 => bif (decide (o2 < (0 : Int))) then (some false) else (bif (decide (o1.2.1 ≤ (IntKind.wrap .i64 (o1.2.2.1 + o1.2.2.2.1)))) then (some false) else (((ctimeswalks k) (a4, a5, a6, a7, a8, a9, a10, o1.1, o1.2.1, o1.2.2.1, o1.2.2.2.1, o1.2.2.2.2.1)).bind fun o3 => bif (!o3) then (some false) else (((Zv k) (o1.1, o1.2.1, o1.2.2.1, o1.2.2.2.1, o1.2.2.2.2.1, a13)).bind fun o4 => L 3 [] j3 (Ov (a0, a1, a2, (IntKind.wrap .i64 (a3 + (1 : Int))), a4, a5, a6, a7, a8, a9, a10, a11, a12, o4.2.2.2.2.2)))))) else (some (((List.length a0 : Nat) : Int) == ((List.length a12 : Nat) : Int)))
theorem A1z (k j3 : Nat) (x : Als) : (ftimesring k).L 3 [] (j3 + 1) (Ov x) = U2 k j3 (ftimesring k).J (ftimesring k).L x := by
 apply cutX (ftimesring k) [.r, .r, .l, .r, .b, .b] [j3] (Ov x) [] [(3, [], j3)] (U2 k j3 · · x) <;> intros <;> kernel_rfl
theorem Bcc (k : Nat) : Af Tryz.prog 51 (sgtimesring k) := Ah (ftimesring k).C k rfl ⟨⟨Zn k, trivial⟩, ⟨Asl k, trivial⟩, ⟨Bci k, trivial⟩, ⟨Bai k, trivial⟩, trivial⟩ Ag Tryz.func51 (by kernel_rfl)
abbrev H40 : Type := (List ((List (List (YT6))) × (Unit))) × (Int) × (Int) × (List Int) × (List (YT1)) × (List (YT2)) × (List (YT3)) × (List ((List (YT4)) × (Unit))) × (List (YT7)) × (Int) × (List Int) × (Int) × (List ((List (List (YT6))) × (Unit))) × (Int) × (Int)
abbrev H41 : Type := (Int) × (List ((List (List (YT6))) × (Unit))) × (Int) × (Int) × (List (List (YT6))) × (Int) × (Int) × (List Int) × (List (YT1)) × (List (YT2)) × (List (YT3)) × (List ((List (YT4)) × (Unit))) × (List (YT7)) × (Int) × (List Int) × (Int) × (List ((List (List (YT6))) × (Unit))) × (Int) × (Int)
def Oo : Sk := ⟨[.agg [.pv .str, .pv (.slice yt1), .pv (.slice yt2), .pv (.slice yt3), .pv (.slice (.cons (.slice yt4) .nil)), .pv (.slice yt7), .pv (.int .i64)], .agg [.pv .str, .pv (.int .i64), .pv (.slice (.cons (.slice (.slice yt6)) .nil)), .pv (.int .i64), .pv (.int .i64)]], [], []⟩
def Kg : Sk := ⟨[.lf (.pv .bool)], [], []⟩
def Alc : Sk := ⟨sparse 72 [(2, .lf (.ptr 0 0)), (3, .lf (.ptr 1 0)), (23, .lf (.pv (.slice (.cons (.slice (.slice yt6)) .nil)))), (24, .lf (.pv (.int .i64))), (25, .lf (.pv (.int .i64)))], [q14, q17], []⟩
abbrev Ala := H40
def Ke : Ala → St := stOf Alc 120
def Ald : Sk := ⟨sparse 72 [(2, .lf (.ptr 0 0)), (3, .lf (.ptr 1 0)), (5, .lf (.pv (.int .i64))), (23, .lf (.pv (.slice (.cons (.slice (.slice yt6)) .nil)))), (24, .lf (.pv (.int .i64))), (25, .lf (.pv (.int .i64))), (42, .lf (.pv (.slice (.slice yt6)))), (43, .lf (.pv (.int .i64))), (44, .lf (.pv (.int .i64)))], [q14, q17], []⟩
abbrev Alb := H41
def Kf : Alb → St := stOf Ald 120
def Ak8 (k : Nat) : EnvL := [(50, [sgtimessound k]), (27, [Ht k]), (51, [sgtimesring k])]
def Bu (k : Nat) : FnX Bool := mkX ({ mkC (Ak8 k) 120 0 0 with hint := fun i => look none [(4, some Alc), (9, some Ald)] i }) k Tryz.f23 Kg
def E0 (k : Nat) : H20 → Option Bool := hid (Ac (Bu k).C k Tryz.f23 Oo Kg)
def Ld (k : Nat) : Sig := Ab Oo Kg (E0 k)
noncomputable def Ale (k : Nat) (J : JF Bool) (L : LF Bool) : H20 → Option Bool
 | (a0, a1, a2, a3, a4, a5, a6, a7, a8, a9, a10, a11) => ((ctimessound k) (a7, a8, a9, a10, a11)).bind fun o1 => bif (!o1) then (some false) else (bif (((List.length a9 : Nat) : Int) != ((List.length a4 : Nat) : Int)) then (some false) else (L 4 [] k (Ke (a9, ((List.length a9 : Nat) : Int), (0 : Int), a0, a1, a2, a3, a4, a5, a6, a7, a8, a9, a10, a11))))
theorem Bgr (k : Nat) (x : H20) : E0 k x = Ale k (Bu k).J (Bu k).L x := by
 refine (Aj _ _).trans ?_; apply cutX (Bu k) [] [] (st0 (Bu k).C Tryz.f23 Oo x) [] [(4, [], k)] (Ale k · · x) <;> intros <;> kernel_rfl
noncomputable def Uy (k j4 : Nat) (J : JF Bool) (L : LF Bool) : Ala → Option Bool
 | (a0, a1, a2, a3, a4, a5, a6, a7, a8, a9, a10, a11, a12, a13, a14) => bif (decide (a2 < a1)) then (idx ([], ()) a0 a2 fun o1 => idx ([], ()) a7 a2 fun o2 => bif (((List.length o1.1 : Nat) : Int) != ((List.length o2.1 : Nat) : Int)) then (some false) else (L 9 [j4] k (Kf (a2, a0, a1, a2, o1.1, ((List.length o1.1 : Nat) : Int), (0 : Int), a3, a4, a5, a6, a7, a8, a9, a10, a11, a12, a13, a14)))) else (((Du k) (a10, a11, a12, a13, a14)).bind fun o3 => bif (decide ((1 : Int) ≤ o3)) then (some (decide (o3 ≤ (6000 : Int)))) else (some false))
theorem A1p (k j4 : Nat) (x : Ala) : (Bu k).L 4 [] (j4 + 1) (Ke x) = Uy k j4 (Bu k).J (Bu k).L x := by
 apply cutX (Bu k) [.r, .r, .l, .r, .b, .b] [j4] (Ke x) [] [(4, [], j4), (9, [j4], k)] (Uy k j4 · · x) <;> intros <;> kernel_rfl
noncomputable def Alf (k j4 j9 : Nat) (J : JF Bool) (L : LF Bool) : Alb → Option Bool
 | (a0, a1, a2, a3, a4, a5, a6, a7, a8, a9, a10, a11, a12, a13, a14, a15, a16, a17, a18) => bif (decide (a6 < a5)) then (idx [] a4 a6 fun o1 => idx ([], ()) a11 a0 fun o2 => idx zt4 o2.1 a6 fun o3 => ((ctimesring k) (a7, a8, a9, a10, a11, a12, a13, o3.1, o3.2.1, o1)).bind fun o4 => bif (!o4) then (some false) else (L 9 [j4] j9 (Kf (a0, a1, a2, a3, a4, a5, (IntKind.wrap .i64 (a6 + (1 : Int))), a7, a8, a9, a10, a11, a12, a13, a14, a15, a16, a17, a18)))) else (L 4 [] j4 (Ke (a1, a2, (IntKind.wrap .i64 (a3 + (1 : Int))), a7, a8, a9, a10, a11, a12, a13, a14, a15, a16, a17, a18)))
theorem Bgs (k j4 j9 : Nat) (x : Alb) : (Bu k).L 9 [j4] (j9 + 1) (Kf x) = Alf k j4 j9 (Bu k).J (Bu k).L x := by
 apply cutX (Bu k) [.r, .r, .l, .r, .b, .b, .r, .r, .l, .b, .r, .r, .r, .b, .b] [j4, j9] (Kf x) [] [(4, [], j4), (9, [j4], j9)] (Alf k j4 j9 · · x) <;> intros <;> kernel_rfl
theorem Ab0 (k : Nat) : Af Tryz.prog 23 (Ld k) := Ah (Bu k).C k rfl ⟨⟨Aur k, trivial⟩, ⟨Ro k, trivial⟩, ⟨Bcc k, trivial⟩, trivial⟩ Ag Tryz.func23 (by kernel_rfl)
abbrev H42 : Type := (Int) × (List (YT6)) × (Int) × (Int)
def fpreemptlastsi : Sk := ⟨[.lf (.pv (.slice yt6))], [], []⟩
def fpreemptlastso : Sk := ⟨[.lf (.pv (.int .i64))], [], []⟩
def Azc : Sk := ⟨sparse 18 [(3, .lf (.pv (.int .i64))), (6, .lf (.pv (.slice yt6))), (7, .lf (.pv (.int .i64))), (8, .lf (.pv (.int .i64)))], [], []⟩
abbrev Ahl := H42
def Nt : Ahl → St := stOf Azc 66
def fpreemptlasts (k : Nat) : FnX Int := mkX ({ mkC [] 66 0 0 with hint := fun i => look none [(3, some Azc)] i }) k Tryz.f49 fpreemptlastso
def cpreemptlasts (k : Nat) : (List (YT6)) → Option Int := hid (Ac (fpreemptlasts k).C k Tryz.f49 fpreemptlastsi fpreemptlastso)
def sgpreemptlasts (k : Nat) : Sig := Ab fpreemptlastsi fpreemptlastso (cpreemptlasts k)
noncomputable def Ahm (k : Nat) (J : JF Int) (L : LF Int) : (List (YT6)) → Option Int
 | a0 => L 3 [] k (Nt ((0 : Int), a0, ((List.length a0 : Nat) : Int), (0 : Int)))
theorem Bfm (k : Nat) (x : (List (YT6))) : cpreemptlasts k x = Ahm k (fpreemptlasts k).J (fpreemptlasts k).L x := by
 refine (Aj _ _).trans ?_; apply cutX (fpreemptlasts k) [] [] (st0 (fpreemptlasts k).C Tryz.f49 fpreemptlastsi x) [] [(3, [], k)] (Ahm k · · x) <;> intros <;> kernel_rfl
noncomputable def Tp (k j3 : Nat) (J : JF Int) (L : LF Int) : Ahl → Option Int
 | (a0, a1, a2, a3) => bif (decide (a3 < a2)) then (idx zt6 a1 a3 fun o1 => L 3 [] j3 (Nt ((IntKind.wrap .i64 (a0 + o1.2.1)), a1, a2, (IntKind.wrap .i64 (a3 + (1 : Int)))))) else (some a0)
theorem Azb (k j3 : Nat) (x : Ahl) : (fpreemptlasts k).L 3 [] (j3 + 1) (Nt x) = Tp k j3 (fpreemptlasts k).J (fpreemptlasts k).L x := by
 apply cutX (fpreemptlasts k) [.r, .r, .l, .r, .b, .b] [j3] (Nt x) [] [(3, [], j3)] (Tp k j3 · · x) <;> intros <;> kernel_rfl
theorem Bbq (k : Nat) : Af Tryz.prog 49 (sgpreemptlasts k) := Ah (fpreemptlasts k).C (l := []) k rfl trivial Ag Tryz.func49 (by kernel_rfl)
abbrev H43 : Type := (List (YT6)) × (List (List (YT6)))
abbrev H44 : Type := (Bool) × (List (List (YT6)))
def Nr : Sk := ⟨[.lf (.pv (.slice yt6)), .lf (.ptr 0 0)], [[.pv (.slice (.slice yt6))]], []⟩
def Tn : Sk := ⟨[.lf (.pv .bool)], Nr.boxes, []⟩
def Ahi (k : Nat) : EnvL := [(49, [sgpreemptlasts k])]
def Tm (k : Nat) : Cfg := mkC (Ahi k) 60 1 0
def Im (k : Nat) : H43 → Option H44 := hid (Ac (Tm k) k Tryz.f48 Nr Tn)
def Xu (k : Nat) : Sig := Ab Nr Tn (Im k)
noncomputable def Ay9 (k : Nat) : H43 → Option H44
 | (a0, a1) => ((cpreemptlasts k) (a0)).bind fun o1 => idx [] a1 (0 : Int) fun o2 => ((cpreemptlasts k) (o2)).bind fun o3 => some ((o1 != o3), a1)
theorem Bfj (k : Nat) (x : H43) : Im k x = Ay9 k x := (Aj _ _).trans (by kernel_rfl)
theorem Bbn (k : Nat) : Af Tryz.prog 48 (Xu k) := Ah (Tm k) k rfl ⟨⟨Bbq k, trivial⟩, trivial⟩ Ag Tryz.func48 (by kernel_rfl)
abbrev H45 : Type := (List (List (YT6))) × (Int) × (Int) × (List (List (YT6)))
abbrev H46 : Type := (List (List (YT6))) × (List (List (YT6)))
abbrev H47 : Type := (Int) × (List (List (YT6)))
def I5 : Sk := ⟨[.lf (.pv (.slice (.slice yt6))), .lf (.fn 48 [] [(0, 0)])], [[.pv (.slice (.slice yt6))]], []⟩
def I6 : Sk := ⟨[.lf (.pv (.int .i64))], I5.boxes, []⟩
def Adr : Sk := ⟨sparse 19 [(0, .lf (.pv (.slice (.slice yt6)))), (1, .lf (.fn 48 [] [(0, 0)])), (7, .lf (.pv (.int .i64))), (8, .lf (.pv (.int .i64)))], [[.pv (.slice (.slice yt6))]], []⟩
abbrev Adp := H45
def Mu : Adp → St := stOf Adr 67
def Adn (k : Nat) : EnvL := [(48, [Xu k])]
def Cq (k : Nat) : FnX H47 := mkX ({ mkC (Adn k) 67 1 0 with hint := fun i => look none [(2, some Adr)] i }) k Tryz.f79 I6
def Ih (k : Nat) : H46 → Option H47 := hid (Ac (Cq k).C k Tryz.f79 I5 I6)
def W9 (k : Nat) : Sig := Ab I5 I6 (Ih k)
noncomputable def Ads (k : Nat) (J : JF H47) (L : LF H47) : H46 → Option H47
 | (a0, a1) => L 2 [] k (Mu (a0, ((List.length a0 : Nat) : Int), (0 : Int), a1))
theorem Bd6 (k : Nat) (x : H46) : Ih k x = Ads k (Cq k).J (Cq k).L x := by
 refine (Aj _ _).trans ?_; apply cutX (Cq k) [] [] (st0 (Cq k).C Tryz.f79 I5 x) [] [(2, [], k)] (Ads k · · x) <;> intros <;> kernel_rfl
noncomputable def Mv (k j2 : Nat) (J : JF H47) (L : LF H47) : Adp → Option H47
 | (a0, a1, a2, a3) => bif (decide (a2 < a1)) then (idx [] a0 a2 fun o1 => ((Im k) (o1, a3)).bind fun o2 => bif o2.1 then (some (a2, o2.2)) else (L 2 [] j2 (Mu (a0, a1, (IntKind.wrap .i64 (a2 + (1 : Int))), o2.2)))) else (some ((-1 : Int), a3))
theorem Adq (k j2 : Nat) (x : Adp) : (Cq k).L 2 [] (j2 + 1) (Mu x) = Mv k j2 (Cq k).J (Cq k).L x := by
 apply cutX (Cq k) [.r, .l, .r, .b, .b] [j2] (Mu x) [] [(2, [], j2)] (Mv k j2 · · x) <;> intros <;> kernel_rfl
theorem Bal (k : Nat) : Af Tryz.prog 79 (W9 k) := Ah (Cq k).C k rfl ⟨⟨Bbn k, trivial⟩, trivial⟩ Ag Tryz.func79 (by kernel_rfl)
def Mr : Sk := ⟨[.lf (.pv (.slice (.slice yt6))), .lf (.fn 48 [] [(0, 0)])], [[.pv (.slice (.slice yt6))]], []⟩
def Ry : Sk := ⟨[.lf (.pv .bool)], Mr.boxes, []⟩
def Acv (k : Nat) : EnvL := [(79, [W9 k])]
def Rx (k : Nat) : Cfg := mkC (Acv k) 57 1 0
def Lv (k : Nat) : H46 → Option H44 := hid (Ac (Rx k) k Tryz.f47 Mr Ry)
def W0 (k : Nat) : Sig := Ab Mr Ry (Lv k)
noncomputable def Avp (k : Nat) : H46 → Option H44
 | (a0, a1) => ((Ih k) (a0, a1)).bind fun o1 => some ((decide (o1.1 ≥ (0 : Int))), o1.2)
theorem Bds (k : Nat) (x : H46) : Lv k x = Avp k x := (Aj _ _).trans (by kernel_rfl)
theorem Bac (k : Nat) : Af Tryz.prog 47 (W0 k) := Ah (Rx k) k rfl ⟨⟨Bal k, trivial⟩, trivial⟩ Ag Tryz.func47 (by kernel_rfl)
def fpreempteveni : Sk := ⟨[.agg [.pv (.slice (.slice yt6))]], [], []⟩
def fpreempteveno : Sk := ⟨[.lf (.pv .bool)], [], []⟩
def Ahf (k : Nat) : EnvL := [(47, [W0 k])]
def Tl (k : Nat) : Cfg := mkC (Ahf k) 56 0 0
def cpreempteven (k : Nat) : (List (List (YT6))) → Option Bool := hid (Ac (Tl k) k Tryz.f22 fpreempteveni fpreempteveno)
def sgpreempteven (k : Nat) : Sig := Ab fpreempteveni fpreempteveno (cpreempteven k)
noncomputable def Aza (k : Nat) : (List (List (YT6))) → Option Bool
 | a0 => ((Lv k) (a0, a0)).bind fun o1 => some (!o1.1)
theorem Bfk (k : Nat) (x : (List (List (YT6)))) : cpreempteven k x = Aza k x := (Aj _ _).trans (by kernel_rfl)
theorem Bbo (k : Nat) : Af Tryz.prog 22 (sgpreempteven k) := Ah (Tl k) k rfl ⟨⟨Bac k, trivial⟩, trivial⟩ Ag Tryz.func22 (by kernel_rfl)
def Tc : Sk := ⟨[.agg [.pv (.slice (.slice yt6))]], [], []⟩
def Td : Sk := ⟨[.lf (.pv .bool)], [], []⟩
def Ag7 (k : Nat) : EnvL := [(22, [sgpreempteven k])]
def Tb (k : Nat) : Cfg := mkC (Ag7 k) 54 0 0
def Il (k : Nat) : (List (List (YT6))) → Option Bool := hid (Ac (Tb k) k Tryz.f21 Tc Td)
def Xt (k : Nat) : Sig := Ab Tc Td (Il k)
noncomputable def Ayy (k : Nat) : (List (List (YT6))) → Option Bool
 | a0 => ((cpreempteven k) (a0)).bind fun o1 => some (!o1)
theorem Bfg (k : Nat) (x : (List (List (YT6)))) : Il k x = Ayy k x := (Aj _ _).trans (by kernel_rfl)
theorem Bbk (k : Nat) : Af Tryz.prog 21 (Xt k) := Ah (Tb k) k rfl ⟨⟨Bbo k, trivial⟩, trivial⟩ Ag Tryz.func21 (by kernel_rfl)
abbrev H48 : Type := List ((List (List (YT6))) × (Unit))
def M2 : Sk := ⟨[.lf (.pv (.slice (.cons (.slice (.slice yt6)) .nil))), .lf (.fn 21 [] [])], [], []⟩
def Jd : Sk := ⟨[.lf (.pv (.int .i64))], [], []⟩
def Aei : Sk := ⟨sparse 19 [(0, .lf (.pv (.slice (.cons (.slice (.slice yt6)) .nil)))), (1, .lf (.fn 21 [] [])), (7, .lf (.pv (.int .i64))), (8, .lf (.pv (.int .i64)))], [], []⟩
abbrev Aeh := H26
def M1 : Aeh → St := stOf Aei 67
def Aef (k : Nat) : EnvL := [(21, [Xt k])]
def Cu (k : Nat) : FnX Int := mkX ({ mkC (Aef k) 67 0 0 with hint := fun i => look none [(2, some Aei)] i }) k Tryz.f52 Jd
def L6 (k : Nat) : H48 → Option Int := hid (Ac (Cu k).C k Tryz.f52 M2 Jd)
def Xe (k : Nat) : Sig := Ab M2 Jd (L6 k)
noncomputable def Aej (k : Nat) (J : JF Int) (L : LF Int) : H48 → Option Int
 | a0 => L 2 [] k (M1 (a0, ((List.length a0 : Nat) : Int), (0 : Int)))
theorem Beb (k : Nat) (x : H48) : L6 k x = Aej k (Cu k).J (Cu k).L x := by
 refine (Aj _ _).trans ?_; apply cutX (Cu k) [] [] (st0 (Cu k).C Tryz.f52 M2 x) [] [(2, [], k)] (Aej k · · x) <;> intros <;> kernel_rfl
noncomputable def Sm (k j2 : Nat) (J : JF Int) (L : LF Int) : Aeh → Option Int
 | (a0, a1, a2) => bif (decide (a2 < a1)) then (idx ([], ()) a0 a2 fun o1 => ((Il k) (o1.1)).bind fun o2 => bif o2 then (some a2) else (L 2 [] j2 (M1 (a0, a1, (IntKind.wrap .i64 (a2 + (1 : Int))))))) else (some (-1 : Int))
theorem Awt (k j2 : Nat) (x : Aeh) : (Cu k).L 2 [] (j2 + 1) (M1 x) = Sm k j2 (Cu k).J (Cu k).L x := by
 apply cutX (Cu k) [.r, .l, .r, .b, .b] [j2] (M1 x) [] [(2, [], j2)] (Sm k j2 · · x) <;> intros <;> kernel_rfl
theorem Baq (k : Nat) : Af Tryz.prog 52 (Xe k) := Ah (Cu k).C k rfl ⟨⟨Bbk k, trivial⟩, trivial⟩ Ag Tryz.func52 (by kernel_rfl)
def R3 : Sk := ⟨[.lf (.pv (.slice (.cons (.slice (.slice yt6)) .nil))), .lf (.fn 21 [] [])], [], []⟩
def R4 : Sk := ⟨[.lf (.pv .bool)], [], []⟩
def Ac1 (k : Nat) : EnvL := [(52, [Xe k])]
def R2 (k : Nat) : Cfg := mkC (Ac1 k) 57 0 0
def Ic (k : Nat) : H48 → Option Bool := hid (Ac (R2 k) k Tryz.f24 R3 R4)
def W2 (k : Nat) : Sig := Ab R3 R4 (Ic k)
noncomputable def Avv (k : Nat) : H48 → Option Bool
 | a0 => ((L6 k) (a0)).bind fun o1 => some (decide (o1 ≥ (0 : Int)))
theorem Bdu (k : Nat) (x : H48) : Ic k x = Avv k x := (Aj _ _).trans (by kernel_rfl)
theorem Bae (k : Nat) : Af Tryz.prog 24 (W2 k) := Ah (R2 k) k rfl ⟨⟨Baq k, trivial⟩, trivial⟩ Ag Tryz.func24 (by kernel_rfl)
def Bda : Sk := ⟨[.lf (.pv (.slice yt1))], [], []⟩
def Bdb : Sk := ⟨[.lf (.own 0)], [], [some (90, yt1)]⟩
def Zf (k : Nat) : (List (YT1)) → Option (List (YT1)) := clF 96 yt1
def A6m (k : Nat) : Sig := Ab Bda Bdb (Zf k)
theorem A94 (k : Nat) : Af Tryz.prog 53 (A6m k) := De (C := clC) clE clD rfl rfl (fn := Tryz.f53) (T := 22) (e := 90) (bt := 4) (sz := 96) (t := yt1) (A := clA (Au Tryz.f53)) (B := clB (Au Tryz.f53)) Tryz.func53 (by kernel_rfl) (by kernel_rfl) rfl Tryz.underlying22 (fun x => by kernel_rfl) (fun x => by kernel_rfl)
def Bde : Sk := ⟨[.lf (.pv (.slice yt2))], [], []⟩
def Bdf : Sk := ⟨[.lf (.own 0)], [], [some (93, yt2)]⟩
def Zh (k : Nat) : (List (YT2)) → Option (List (YT2)) := clF 64 yt2
def A6o (k : Nat) : Sig := Ab Bde Bdf (Zh k)
theorem A96 (k : Nat) : Af Tryz.prog 54 (A6o k) := De (C := clC) clE clD rfl rfl (fn := Tryz.f54) (T := 23) (e := 93) (bt := 4) (sz := 64) (t := yt2) (A := clA (Au Tryz.f54)) (B := clB (Au Tryz.f54)) Tryz.func54 (by kernel_rfl) (by kernel_rfl) rfl Tryz.underlying23 (fun x => by kernel_rfl) (fun x => by kernel_rfl)
def Bdg : Sk := ⟨[.lf (.pv (.slice yt3))], [], []⟩
def Bdh : Sk := ⟨[.lf (.own 0)], [], [some (86, yt3)]⟩
def Zj (k : Nat) : (List (YT3)) → Option (List (YT3)) := clF 48 yt3
def A6q (k : Nat) : Sig := Ab Bdg Bdh (Zj k)
theorem A97 (k : Nat) : Af Tryz.prog 55 (A6q k) := De (C := clC) clE clD rfl rfl (fn := Tryz.f55) (T := 24) (e := 86) (bt := 4) (sz := 48) (t := yt3) (A := clA (Au Tryz.f55)) (B := clB (Au Tryz.f55)) Tryz.func55 (by kernel_rfl) (by kernel_rfl) rfl Tryz.underlying24 (fun x => by kernel_rfl) (fun x => by kernel_rfl)
def Bc6 : Sk := ⟨[.lf (.pv (.slice (.cons (.slice yt4) .nil)))], [], []⟩
def Bc7 : Sk := ⟨[.lf (.own 0)], [], [some (116, (.cons (.slice yt4) .nil))]⟩
def Ze (k : Nat) : (List ((List (YT4)) × (Unit))) → Option (List ((List (YT4)) × (Unit))) := clF 24 (.cons (.slice yt4) .nil)
def A6l (k : Nat) : Sig := Ab Bc6 Bc7 (Ze k)
theorem A92 (k : Nat) : Af Tryz.prog 57 (A6l k) := De (C := clC) clE clD rfl rfl (fn := Tryz.f57) (T := 25) (e := 116) (bt := 4) (sz := 24) (t := (.cons (.slice yt4) .nil)) (A := clA (Au Tryz.f57)) (B := clB (Au Tryz.f57)) Tryz.func57 (by kernel_rfl) (by kernel_rfl) rfl Tryz.underlying25 (fun x => by kernel_rfl) (fun x => by kernel_rfl)
def Bdi : Sk := ⟨[.lf (.pv (.slice yt4))], [], []⟩
def Bdj : Sk := ⟨[.lf (.own 0)], [], [some (113, yt4)]⟩
def Zk (k : Nat) : (List (YT4)) → Option (List (YT4)) := clF 32 yt4
def A6r (k : Nat) : Sig := Ab Bdi Bdj (Zk k)
theorem A98 (k : Nat) : Af Tryz.prog 58 (A6r k) := De (C := clC) clE clD rfl rfl (fn := Tryz.f58) (T := 114) (e := 113) (bt := 4) (sz := 32) (t := yt4) (A := clA (Au Tryz.f58)) (B := clB (Au Tryz.f58)) Tryz.func58 (by kernel_rfl) (by kernel_rfl) rfl Tryz.underlying114 (fun x => by kernel_rfl) (fun x => by kernel_rfl)
def q18 : List SL := [.pv .str, .own 0, .own 1, .own 2, .pv (.slice (.cons (.slice yt4) .nil)), .pv (.slice yt7), .pv (.int .i64)]
def q19 : List SL := [.pv .str, .nil .sl, .nil .sl, .nil .sl, .nil .sl, .nil .sl, .pv (.int .i64)]
abbrev H49 : Type := (Int) × (Int) × (List Int) × (List ((List (YT4)) × (Unit))) × (List (YT7)) × (Int) × (List Int) × (Int) × (List (YT1)) × (List (YT2)) × (List (YT3))
def q20 : List SL := [.pv .str, .own 0, .own 1, .own 2, .own 3, .pv (.slice yt7), .pv (.int .i64)]
abbrev H50 : Type := (Int) × (Int) × (List Int) × (List (YT7)) × (Int) × (List Int) × (Int) × (List (YT1)) × (List (YT2)) × (List (YT3)) × (List ((List (YT4)) × (Unit)))
def q21 : List SL := [.pv .str, .own 1, .own 2, .own 3, .own 4, .pv (.slice yt7), .pv (.int .i64)]
abbrev H51 : Type := (Int) × (Int) × (Int) × (Int) × (Int) × (List Int) × (List (YT7)) × (Int) × (List Int) × (Int) × (List (YT4)) × (List (YT1)) × (List (YT2)) × (List (YT3)) × (List ((List (YT4)) × (Unit)))
def fpreemptnodei : Sk := ⟨[.agg [.pv .str, .pv (.slice yt1), .pv (.slice yt2), .pv (.slice yt3), .pv (.slice (.cons (.slice yt4) .nil)), .pv (.slice yt7), .pv (.int .i64)]], [], []⟩
def fpreemptnodeo : Sk := ⟨[.agg [.pv .str, .pv (.slice yt1), .pv (.slice yt2), .pv (.slice yt3), .pv (.slice (.cons (.slice yt4) .nil)), .pv (.slice yt7), .pv (.int .i64)]], [], []⟩
def Azi : Sk := ⟨sparse 79 [(1, .lf (.ptr 0 0)), (2, .lf (.ptr 1 0)), (21, .lf (.pv (.int .i64))), (22, .lf (.pv (.int .i64)))], [q18, q19], [some (90, yt1), some (93, yt2), some (86, yt3)]⟩
abbrev Ahp := H49
def Nv : Ahp → St := stOf Azi 128
def Azg : Sk := ⟨sparse 79 [(1, .lf (.ptr 0 0)), (2, .lf (.ptr 1 0)), (44, .lf (.pv (.int .i64))), (45, .lf (.pv (.int .i64)))], [q20, q19], [some (90, yt1), some (93, yt2), some (86, yt3), some (116, (.cons (.slice yt4) .nil))]⟩
abbrev Ahn := H50
def G9 : Ahn → St := stOf Azg 128
def Azh : Sk := ⟨sparse 79 [(1, .lf (.ptr 0 0)), (2, .lf (.ptr 1 0)), (4, .lf (.pv (.int .i64))), (5, .lf (.own 0)), (44, .lf (.pv (.int .i64))), (45, .lf (.pv (.int .i64))), (56, .lf (.pv (.int .i64))), (57, .lf (.pv (.int .i64)))], [q21, q19], [some (113, yt4), some (90, yt1), some (93, yt2), some (86, yt3), some (116, (.cons (.slice yt4) .nil))]⟩
abbrev Aho := H51
def Nu : Aho → St := stOf Azh 128
def Bfn (k : Nat) : EnvL := [(53, [A6m k]), (54, [A6o k]), (55, [A6q k]), (56, [Pp k]), (57, [A6l k]), (58, [A6r k])]
def fpreemptnode (k : Nat) : FnX H4 := mkX ({ mkC (Bfn k) 128 0 0 with hint := fun i => look none [(4, some Azi), (10, some Azg), (14, some Azh)] i, ef := [(9, (([], []), ([], [57]))), (12, (([], []), ([], [60]))), (34, (([], []), ([], [82])))], ld := [(7, 9999), (8, 49), (10, 9999), (11, 49), (13, 9999), (14, 9999), (25, 9999), (26, 0), (28, 9999), (29, 0)], sr := [(13, 49), (14, 49)] }) k Tryz.f25 fpreemptnodeo
def cpreemptnode (k : Nat) : H4 → Option H4 := hid (Ac (fpreemptnode k).C k Tryz.f25 fpreemptnodei fpreemptnodeo)
def sgpreemptnode (k : Nat) : Sig := Ab fpreemptnodei fpreemptnodeo (cpreemptnode k)
noncomputable def Ahq (k : Nat) (J : JF H4) (L : LF H4) : H4 → Option H4
 | (a0, a1, a2, a3, a4, a5, a6) => ((Zf k) (a1)).bind fun o1 => ((Zh k) (a2)).bind fun o2 => ((Zj k) (a3)).bind fun o3 => L 4 [] k (Nv (((List.length o3 : Nat) : Int), (0 : Int), a0, a4, a5, a6, ([] : List Int), (0 : Int), o1, o2, o3))
theorem Bfo (k : Nat) (x : H4) : cpreemptnode k x = Ahq k (fpreemptnode k).J (fpreemptnode k).L x := by
 refine (Aj _ _).trans ?_; apply cutX (fpreemptnode k) [] [] (st0 (fpreemptnode k).C Tryz.f25 fpreemptnodei x) [] [(4, [], k), (10, [], k)] (Ahq k · · x) <;> intros <;> kernel_rfl
noncomputable def Ts (k j4 : Nat) (J : JF H4) (L : LF H4) : Ahp → Option H4
 | (a0, a1, a2, a3, a4, a5, a6, a7, a8, a9, a10) => bif (decide (a1 < a0)) then (bif (inB a1 (List.length a10)) then ((Ia k) ((rdA zt3 a10 (Int.toNat a1)).2.1)).bind fun o1 => bif (inB a1 (List.length a10)) then L 4 [] j4 (Nv (a0, (IntKind.wrap .i64 (a1 + (1 : Int))), a2, a3, a4, a5, a6, a7, a8, a9, (List.set a10 (Int.toNat a1) ((rdA zt3 a10 (Int.toNat a1)).1, (o1, ((rdA zt3 a10 (Int.toNat a1)).2.2.1, ())))))) else none else none) else (((Ze k) (a3)).bind fun o2 => L 10 [] k (G9 (((List.length o2 : Nat) : Int), (0 : Int), a2, a4, a5, a6, a7, a8, a9, a10, o2)))
theorem Azf (k j4 : Nat) (x : Ahp) : (fpreemptnode k).L 4 [] (j4 + 1) (Nv x) = Ts k j4 (fpreemptnode k).J (fpreemptnode k).L x := by
 apply cutX (fpreemptnode k) [.r, .r, .r, .l, .r, .b, .b] [j4] (Nv x) [] [(4, [], j4), (10, [], k)] (Ts k j4 · · x) <;> intros <;> kernel_rfl
noncomputable def Tq (k j10 : Nat) (J : JF H4) (L : LF H4) : Ahn → Option H4
 | (a0, a1, a2, a3, a4, a5, a6, a7, a8, a9, a10) => bif (decide (a1 < a0)) then (bif (inB a1 (List.length a10)) then ((Zk k) ((rdA ([], ()) a10 (Int.toNat a1)).1)).bind fun o1 => L 14 [j10] k (Nu (a1, a0, a1, ((List.length o1 : Nat) : Int), (0 : Int), a2, a3, a4, a5, a6, o1, a7, a8, a9, a10)) else none) else (some (a2, a7, a8, a9, a10, a3, a4))
theorem Azd (k j10 : Nat) (x : Ahn) : (fpreemptnode k).L 10 [] (j10 + 1) (G9 x) = Tq k j10 (fpreemptnode k).J (fpreemptnode k).L x := by
 apply cutX (fpreemptnode k) [.r, .r, .r, .r, .r, .l, .r, .b, .b] [j10] (G9 x) [] [(4, [], k), (10, [], j10), (14, [j10], k)] (Tq k j10 · · x) <;> intros <;> kernel_rfl
noncomputable def Tr (k j10 j14 : Nat) (J : JF H4) (L : LF H4) : Aho → Option H4
 | (a0, a1, a2, a3, a4, a5, a6, a7, a8, a9, a10, a11, a12, a13, a14) => bif (decide (a4 < a3)) then (bif (inB a4 (List.length a10)) then ((Ia k) ((rdA zt4 a10 (Int.toNat a4)).2.1)).bind fun o1 => bif (inB a4 (List.length a10)) then L 14 [j10] j14 (Nu (a0, a1, a2, a3, (IntKind.wrap .i64 (a4 + (1 : Int))), a5, a6, a7, a8, a9, (List.set a10 (Int.toNat a4) ((rdA zt4 a10 (Int.toNat a4)).1, (o1, ()))), a11, a12, a13, a14)) else none else none) else (bif (inB a0 (List.length a14)) then L 10 [] j10 (G9 (a1, (IntKind.wrap .i64 (a2 + (1 : Int))), a5, a6, a7, a8, a9, a11, a12, a13, (List.set a14 (Int.toNat a0) (a10, ())))) else none)
theorem Aze (k j10 j14 : Nat) (x : Aho) : (fpreemptnode k).L 14 [j10] (j14 + 1) (Nu x) = Tr k j10 j14 (fpreemptnode k).J (fpreemptnode k).L x := by
 apply cutX (fpreemptnode k) [.r, .r, .r, .r, .r, .l, .r, .b, .b, .r, .r, .l, .b, .r, .r, .l, .r, .b, .b] [j10, j14] (Nu x) [] [(4, [], k), (10, [], j10), (14, [j10], j14)] (Tr k j10 j14 · · x) <;> intros <;> kernel_rfl
theorem Bbr (k : Nat) : Af Tryz.prog 25 (sgpreemptnode k) := Ah (fpreemptnode k).C k rfl ⟨⟨A94 k, trivial⟩, ⟨A96 k, trivial⟩, ⟨A97 k, trivial⟩, ⟨Zn k, trivial⟩, ⟨A92 k, trivial⟩, ⟨A98 k, trivial⟩, trivial⟩ Ag Tryz.func25 (by kernel_rfl)
def Bdk : Sk := ⟨[.lf (.pv (.slice yt6))], [], []⟩
def Bdl : Sk := ⟨[.lf (.own 0)], [], [some (103, yt6)]⟩
def Zl (k : Nat) : (List (YT6)) → Option (List (YT6)) := clF 64 yt6
def A6s (k : Nat) : Sig := Ab Bdk Bdl (Zl k)
theorem A99 (k : Nat) : Af Tryz.prog 59 (A6s k) := De (C := clC) clE clD rfl rfl (fn := Tryz.f59) (T := 98) (e := 103) (bt := 4) (sz := 64) (t := yt6) (A := clA (Au Tryz.f59)) (B := clB (Au Tryz.f59)) Tryz.func59 (by kernel_rfl) (by kernel_rfl) rfl Tryz.underlying98 (fun x => by kernel_rfl) (fun x => by kernel_rfl)
def Bdm : Sk := ⟨[.lf (.pv (.slice yt5))], [], []⟩
def Bdn : Sk := ⟨[.lf (.own 0)], [], [some (109, yt5)]⟩
def Zm (k : Nat) : (List (YT5)) → Option (List (YT5)) := clF 32 yt5
def A6t (k : Nat) : Sig := Ab Bdm Bdn (Zm k)
theorem Baa (k : Nat) : Af Tryz.prog 60 (A6t k) := De (C := clC) clE clD rfl rfl (fn := Tryz.f60) (T := 101) (e := 109) (bt := 4) (sz := 32) (t := yt5) (A := clA (Au Tryz.f60)) (B := clB (Au Tryz.f60)) Tryz.func60 (by kernel_rfl) (by kernel_rfl) rfl Tryz.underlying101 (fun x => by kernel_rfl) (fun x => by kernel_rfl)
def q22 : List SL := [.pv .str, .pv (.int .i64), .nil .sl, .pv (.int .i64), .pv (.int .i64)]
abbrev H52 : Type := (List ((List (List (YT6))) × (Unit))) × (Int) × (Int) × (List Int) × (Int) × (List ((List (List (YT6))) × (Unit))) × (Int) × (Int) × (List Int) × (Int) × (Int) × (Int) × (List ((List (List (YT6))) × (Unit)))
abbrev H53 : Type := (List ((List (List (YT6))) × (Unit))) × (Int) × (Int) × (List (List (YT6))) × (Int) × (Int) × (List Int) × (Int) × (List ((List (List (YT6))) × (Unit))) × (Int) × (Int) × (List Int) × (Int) × (Int) × (Int) × (List ((List (List (YT6))) × (Unit))) × (List (List (YT6)))
abbrev H54 : Type := (List ((List (List (YT6))) × (Unit))) × (Int) × (Int) × (List (List (YT6))) × (Int) × (Int) × (Int) × (Int) × (List Int) × (Int) × (List ((List (List (YT6))) × (Unit))) × (Int) × (Int) × (List Int) × (Int) × (Int) × (Int) × (List ((List (List (YT6))) × (Unit))) × (List (YT6)) × (List (List (YT6)))
def fpreemptcopiedi : Sk := ⟨[.agg [.pv .str, .pv (.int .i64), .pv (.slice (.cons (.slice (.slice yt6)) .nil)), .pv (.int .i64), .pv (.int .i64)]], [], []⟩
def fpreemptcopiedo : Sk := ⟨[.agg [.pv .str, .pv (.int .i64), .pv (.slice (.cons (.slice (.slice yt6)) .nil)), .pv (.int .i64), .pv (.int .i64)]], [], []⟩
def Ay3 : Sk := ⟨sparse 57 [(1, .lf (.ptr 0 0)), (2, .lf (.ptr 1 0)), (3, .lf (.own 0)), (11, .lf (.pv (.slice (.cons (.slice (.slice yt6)) .nil)))), (12, .lf (.pv (.int .i64))), (13, .lf (.pv (.int .i64)))], [q17, q22], [some (72, (.cons (.slice (.slice yt6)) .nil))]⟩
abbrev Ahb := H52
def Js : Ahb → St := stOf Ay3 106
def Ay4 : Sk := ⟨sparse 57 [(1, .lf (.ptr 0 0)), (2, .lf (.ptr 1 0)), (3, .lf (.own 0)), (6, .lf (.ptr 2 0)), (11, .lf (.pv (.slice (.cons (.slice (.slice yt6)) .nil)))), (12, .lf (.pv (.int .i64))), (13, .lf (.pv (.int .i64))), (18, .lf (.pv (.slice (.slice yt6)))), (19, .lf (.pv (.int .i64))), (20, .lf (.pv (.int .i64)))], [q17, q22, [.own 1]], [some (72, (.cons (.slice (.slice yt6)) .nil)), some (98, (.slice yt6))]⟩
abbrev Ahc := H53
def Ju : Ahc → St := stOf Ay4 106
def Ay2 : Sk := ⟨sparse 57 [(1, .lf (.ptr 0 0)), (2, .lf (.ptr 1 0)), (3, .lf (.own 0)), (6, .lf (.ptr 2 0)), (8, .lf (.own 1)), (11, .lf (.pv (.slice (.cons (.slice (.slice yt6)) .nil)))), (12, .lf (.pv (.int .i64))), (13, .lf (.pv (.int .i64))), (18, .lf (.pv (.slice (.slice yt6)))), (19, .lf (.pv (.int .i64))), (20, .lf (.pv (.int .i64))), (27, .lf (.pv (.int .i64))), (28, .lf (.pv (.int .i64)))], [q17, q22, [.own 2]], [some (72, (.cons (.slice (.slice yt6)) .nil)), some (103, yt6), some (98, (.slice yt6))]⟩
abbrev Aha := H54
def Nq : Aha → St := stOf Ay2 106
def Bfh (k : Nat) : EnvL := [(59, [A6s k]), (60, [A6t k])]
def fpreemptcopied (k : Nat) : FnX H19 := mkX ({ mkC (Bfh k) 106 0 0 with hint := fun i => look none [(3, some Ay3), (7, some Ay4), (11, some Ay2)] i }) k Tryz.f26 fpreemptcopiedo
def cpreemptcopied (k : Nat) : H19 → Option H19 := hid (Ac (fpreemptcopied k).C k Tryz.f26 fpreemptcopiedi fpreemptcopiedo)
def sgpreemptcopied (k : Nat) : Sig := Ab fpreemptcopiedi fpreemptcopiedo (cpreemptcopied k)
noncomputable def Ahd (k : Nat) (J : JF H19) (L : LF H19) : H19 → Option H19
 | (a0, a1, a2, a3, a4) => L 3 [] k (Js (a2, ((List.length a2 : Nat) : Int), (0 : Int), a0, a1, a2, a3, a4, ([] : List Int), (0 : Int), (0 : Int), (0 : Int), []))
theorem Bfi (k : Nat) (x : H19) : cpreemptcopied k x = Ahd k (fpreemptcopied k).J (fpreemptcopied k).L x := by
 refine (Aj _ _).trans ?_; apply cutX (fpreemptcopied k) [] [] (st0 (fpreemptcopied k).C Tryz.f26 fpreemptcopiedi x) [] [(3, [], k)] (Ahd k · · x) <;> intros <;> kernel_rfl
noncomputable def Tj (k j3 : Nat) (J : JF H19) (L : LF H19) : Ahb → Option H19
 | (a0, a1, a2, a3, a4, a5, a6, a7, a8, a9, a10, a11, a12) => bif (decide (a2 < a1)) then (idx ([], ()) a0 a2 fun o1 => L 7 [j3] k (Ju (a0, a1, a2, o1.1, ((List.length o1.1 : Nat) : Int), (0 : Int), a3, a4, a5, a6, a7, a8, a9, a10, a11, a12, []))) else (some (a3, a4, a12, a6, a7))
theorem Ay0 (k j3 : Nat) (x : Ahb) : (fpreemptcopied k).L 3 [] (j3 + 1) (Js x) = Tj k j3 (fpreemptcopied k).J (fpreemptcopied k).L x := by
 apply cutX (fpreemptcopied k) [.r, .r, .l, .r, .b, .b] [j3] (Js x) [] [(3, [], j3), (7, [j3], k)] (Tj k j3 · · x) <;> intros <;> kernel_rfl
noncomputable def Tk (k j3 j7 : Nat) (J : JF H19) (L : LF H19) : Ahc → Option H19
 | (a0, a1, a2, a3, a4, a5, a6, a7, a8, a9, a10, a11, a12, a13, a14, a15, a16) => bif (decide (a5 < a4)) then (idx [] a3 a5 fun o1 => ((Zl k) (o1)).bind fun o2 => L 11 [j3, j7] k (Nq (a0, a1, a2, a3, a4, a5, ((List.length o2 : Nat) : Int), (0 : Int), a6, a7, a8, a9, a10, a11, a12, a13, a14, a15, o2, a16))) else (app 24 a15 ([(a16, ())] : List ((List (List (YT6))) × (Unit))) fun o3 => L 3 [] j3 (Js (a0, a1, (IntKind.wrap .i64 (a2 + (1 : Int))), a6, a7, a8, a9, a10, a11, a12, a13, a14, o3)))
theorem Ay1 (k j3 j7 : Nat) (x : Ahc) : (fpreemptcopied k).L 7 [j3] (j7 + 1) (Ju x) = Tk k j3 j7 (fpreemptcopied k).J (fpreemptcopied k).L x := by
 apply cutX (fpreemptcopied k) [.r, .r, .l, .r, .b, .b, .r, .r, .l, .b, .r, .r, .l, .r, .b, .b] [j3, j7] (Ju x) [] [(3, [], j3), (7, [j3], j7), (11, [j3, j7], k)] (Tk k j3 j7 · · x) <;> intros <;> kernel_rfl
noncomputable def Ti (k j3 j7 j11 : Nat) (J : JF H19) (L : LF H19) : Aha → Option H19
 | (a0, a1, a2, a3, a4, a5, a6, a7, a8, a9, a10, a11, a12, a13, a14, a15, a16, a17, a18, a19) => bif (decide (a7 < a6)) then (bif (inB a7 (List.length a18)) then ((Zm k) ((rdA zt6 a18 (Int.toNat a7)).2.2.2.2.1)).bind fun o1 => bif (inB a7 (List.length a18)) then L 11 [j3, j7] j11 (Nq (a0, a1, a2, a3, a4, a5, a6, (IntKind.wrap .i64 (a7 + (1 : Int))), a8, a9, a10, a11, a12, a13, a14, a15, a16, a17, (List.set a18 (Int.toNat a7) ((rdA zt6 a18 (Int.toNat a7)).1, ((rdA zt6 a18 (Int.toNat a7)).2.1, ((rdA zt6 a18 (Int.toNat a7)).2.2.1, ((rdA zt6 a18 (Int.toNat a7)).2.2.2.1, (o1, ())))))), a19)) else none else none) else (app 24 a19 ([a18] : List (List (YT6))) fun o2 => L 7 [j3] j7 (Ju (a0, a1, a2, a3, a4, (IntKind.wrap .i64 (a5 + (1 : Int))), a8, a9, a10, a11, a12, a13, a14, a15, a16, a17, o2)))
theorem Ayz (k j3 j7 j11 : Nat) (x : Aha) : (fpreemptcopied k).L 11 [j3, j7] (j11 + 1) (Nq x) = Ti k j3 j7 j11 (fpreemptcopied k).J (fpreemptcopied k).L x := by
 apply cutX (fpreemptcopied k) [.r, .r, .l, .r, .b, .b, .r, .r, .l, .b, .r, .r, .l, .r, .b, .b, .r, .r, .l, .b, .r, .r, .l, .r, .b, .b] [j3, j7, j11] (Nq x) [] [(3, [], j3), (7, [j3], j7), (11, [j3, j7], j11)] (Ti k j3 j7 j11 · · x) <;> intros <;> kernel_rfl
theorem Bbm (k : Nat) : Af Tryz.prog 26 (sgpreemptcopied k) := Ah (fpreemptcopied k).C k rfl ⟨⟨A99 k, trivial⟩, ⟨Baa k, trivial⟩, trivial⟩ Ag Tryz.func26 (by kernel_rfl)
def Bc8 : Sk := ⟨[.lf (.pv (.slice yt1))], [], []⟩
def Bc9 : Sk := ⟨[.lf (.pv (.slice yt1))], [], []⟩
def Zg (k : Nat) : (List (YT1)) → Option (List (YT1)) := clF 96 yt1
def A6n (k : Nat) : Sig := Ab Bc8 Bc9 (Zg k)
theorem A93 (k : Nat) : Af Tryz.prog 53 (A6n k) := Aaf (C := clC) clE clD rfl rfl (fn := Tryz.f53) (T := 22) (e := 90) (bt := 4) (sz := 96) (t := yt1) (A := clA (Au Tryz.f53)) (B := clB (Au Tryz.f53)) Tryz.func53 (by kernel_rfl) (by kernel_rfl) rfl Tryz.underlying22 (fun x => by kernel_rfl) (fun x => by kernel_rfl)
def Bdc : Sk := ⟨[.lf (.pv (.slice yt2))], [], []⟩
def Bdd : Sk := ⟨[.lf (.pv (.slice yt2))], [], []⟩
def Zi (k : Nat) : (List (YT2)) → Option (List (YT2)) := clF 64 yt2
def A6p (k : Nat) : Sig := Ab Bdc Bdd (Zi k)
theorem A95 (k : Nat) : Af Tryz.prog 54 (A6p k) := Aaf (C := clC) clE clD rfl rfl (fn := Tryz.f54) (T := 23) (e := 93) (bt := 4) (sz := 64) (t := yt2) (A := clA (Au Tryz.f54)) (B := clB (Au Tryz.f54)) Tryz.func54 (by kernel_rfl) (by kernel_rfl) rfl Tryz.underlying23 (fun x => by kernel_rfl) (fun x => by kernel_rfl)
def q23 : List SL := [.pv .str, .pv (.slice yt1), .pv (.slice yt2), .own 0, .nil .sl, .nil .sl, .pv (.int .i64)]
abbrev H55 : Type := (List (YT3)) × (Int) × (Int) × (List Int) × (Int) × (List Int) × (List (YT1)) × (List (YT2)) × (Int) × (List (YT3))
abbrev H56 : Type := (List Int) × (List (YT1)) × (List (YT2)) × (List (YT3)) × (Int)
def fsimnodei : Sk := ⟨[.agg [.pv .str, .pv (.slice yt1), .pv (.slice yt2), .pv (.slice yt3), .pv (.slice (.cons (.slice yt4) .nil)), .pv (.slice yt7), .pv (.int .i64)]], [], []⟩
def fsimnodeo : Sk := ⟨[.agg [.pv .str, .pv (.slice yt1), .pv (.slice yt2), .pv (.slice yt3), .nil .sl, .nil .sl, .pv (.int .i64)]], [], []⟩
def A1g : Sk := ⟨sparse 32 [(2, .lf (.ptr 0 0)), (3, .lf (.ptr 1 0)), (14, .lf (.pv (.slice yt3))), (15, .lf (.pv (.int .i64))), (16, .lf (.pv (.int .i64)))], [q19, q23], [some (86, yt3)]⟩
abbrev Aku := H55
def Oi : Aku → St := stOf A1g 81
def Bgj (k : Nat) : EnvL := [(53, [A6n k]), (54, [A6p k]), (56, [Pp k])]
def fsimnode (k : Nat) : FnX H56 := mkX ({ mkC (Bgj k) 81 0 0 with hint := fun i => look none [(3, some A1g)] i, ld := [(6, 9999), (7, 49), (9, 9999), (10, 49)], sr := [(3, 51)] }) k Tryz.f28 fsimnodeo
def csimnode (k : Nat) : H4 → Option H56 := hid (Ac (fsimnode k).C k Tryz.f28 fsimnodei fsimnodeo)
def sgsimnode (k : Nat) : Sig := Ab fsimnodei fsimnodeo (csimnode k)
noncomputable def Akv (k : Nat) (J : JF H56) (L : LF H56) : H4 → Option H56
 | (a0, a1, a2, a3, a4, a5, a6) => ((Zg k) (a1)).bind fun o1 => ((Zi k) (a2)).bind fun o2 => L 3 [] k (Oi (a3, ((List.length a3 : Nat) : Int), (0 : Int), ([] : List Int), (0 : Int), ([] : List Int), o1, o2, (0 : Int), []))
theorem Bgk (k : Nat) (x : H4) : csimnode k x = Akv k (fsimnode k).J (fsimnode k).L x := by
 refine (Aj _ _).trans ?_; apply cutX (fsimnode k) [] [] (st0 (fsimnode k).C Tryz.f28 fsimnodei x) [] [(3, [], k)] (Akv k · · x) <;> intros <;> kernel_rfl
noncomputable def Ur (k j3 : Nat) (J : JF H56) (L : LF H56) : Aku → Option H56
 | (a0, a1, a2, a3, a4, a5, a6, a7, a8, a9) => bif (decide (a2 < a1)) then (idx zt3 a0 a2 fun o1 => ((Ia k) (o1.2.1)).bind fun o2 => app 48 a9 ([(o1.1, (o2, (o1.2.2.1, ())))] : List (YT3)) fun o3 => L 3 [] j3 (Oi (a0, a1, (IntKind.wrap .i64 (a2 + (1 : Int))), a3, a4, a5, a6, a7, a8, o3))) else (some (a5, a6, a7, a9, a8))
theorem A1f (k j3 : Nat) (x : Aku) : (fsimnode k).L 3 [] (j3 + 1) (Oi x) = Ur k j3 (fsimnode k).J (fsimnode k).L x := by
 apply cutX (fsimnode k) [.r, .r, .l, .r, .b, .b] [j3] (Oi x) [] [(3, [], j3)] (Ur k j3 · · x) <;> intros <;> kernel_rfl
theorem Aue (k : Nat) : Af Tryz.prog 28 (sgsimnode k) := Ah (fsimnode k).C k rfl ⟨⟨A93 k, trivial⟩, ⟨A95 k, trivial⟩, ⟨Zn k, trivial⟩, trivial⟩ Ag Tryz.func28 (by kernel_rfl)
def fsimcopiedi : Sk := ⟨[.agg [.pv .str, .pv (.int .i64), .pv (.slice (.cons (.slice (.slice yt6)) .nil)), .pv (.int .i64), .pv (.int .i64)]], [], []⟩
def fsimcopiedo : Sk := ⟨[.agg [.pv .str, .pv (.int .i64), .pv (.slice (.cons (.slice (.slice yt6)) .nil)), .pv (.int .i64), .pv (.int .i64)]], [], []⟩
def csimcopied (k : Nat) : ((List Int) × (Int) × (List ((List (List (YT6))) × (Unit))) × (Int) × (Int)) → Option ((List Int) × (Int) × (List ((List (List (YT6))) × (Unit))) × (Int) × (Int)) := cpF k
def sgsimcopied (k : Nat) : Sig := Ab fsimcopiedi fsimcopiedo (csimcopied k)
theorem Aud (k : Nat) : Af Tryz.prog 29 (sgsimcopied k) := cpF_ok k
abbrev H57 : Type := (Int) × (Int) × (List (YT6))
abbrev H58 : Type := (Bool) × (Int) × (Int) × (List (YT6))
def On : Sk := ⟨[.lf (.ptr 0 0)], [q1], []⟩
def Ux : Sk := ⟨[.lf (.pv .bool)], On.boxes, []⟩
def Ak7 (k : Nat) : Cfg := mkC [] 62 1 0
def Iv (k : Nat) : H57 → Option H58 := hid (Ac (Ak7 k) k Tryz.f40 On Ux)
def Yd (k : Nat) : Sig := Ab On Ux (Iv k)
noncomputable def A1n (k : Nat) : H57 → Option H58
 | (a0, a1, a2) => some ((a0 == ((List.length a2 : Nat) : Int)), a0, a1, a2)
theorem Bgq (k : Nat) (x : H57) : Iv k x = A1n k x := (Aj _ _).trans (by kernel_rfl)
theorem Bb7 (k : Nat) : Af Tryz.prog 40 (Yd k) := Ah (Ak7 k) (l := []) k rfl trivial Ag Tryz.func40 (by kernel_rfl)
def Uk : Sk := ⟨[.agg [.pv (.int .i64), .pv (.int .i64), .pv (.slice yt6)]], [], []⟩
def Ul : Sk := ⟨[.lf (.pv .bool)], [], []⟩
def Akc (k : Nat) : EnvL := [(40, [Yd k])]
def Uj (k : Nat) : Cfg := mkC (Akc k) 53 0 0
def Ip (k : Nat) : H57 → Option Bool := hid (Ac (Uj k) k Tryz.f77 Uk Ul)
def X3 (k : Nat) : Sig := Ab Uk Ul (Ip k)
noncomputable def A03 (k : Nat) : H57 → Option Bool
 | (a0, a1, a2) => ((Iv k) (a0, a1, a2)).bind fun o1 => some (!o1.1)
theorem Bge (k : Nat) (x : H57) : Ip k x = A03 k x := (Aj _ _).trans (by kernel_rfl)
theorem Bb0 (k : Nat) : Af Tryz.prog 77 (X3 k) := Ah (Uj k) k rfl ⟨⟨Bb7 k, trivial⟩, trivial⟩ Ag Tryz.func77 (by kernel_rfl)
abbrev H59 : Type := (List (YT11)) × (Int) × (Int)
def M8 : Sk := ⟨[.lf (.pv (.slice yt11)), .lf (.fn 77 [] [])], [], []⟩
def Jg : Sk := ⟨[.lf (.pv (.int .i64))], [], []⟩
def Ae0 : Sk := ⟨sparse 19 [(0, .lf (.pv (.slice yt11))), (1, .lf (.fn 77 [] [])), (7, .lf (.pv (.int .i64))), (8, .lf (.pv (.int .i64)))], [], []⟩
abbrev Aez := H59
def M7 : Aez → St := stOf Ae0 67
def Aex (k : Nat) : EnvL := [(77, [X3 k])]
def Cx (k : Nat) : FnX Int := mkX ({ mkC (Aex k) 67 0 0 with hint := fun i => look none [(2, some Ae0)] i }) k Tryz.f96 Jg
def L9 (k : Nat) : (List (YT11)) → Option Int := hid (Ac (Cx k).C k Tryz.f96 M8 Jg)
def Xh (k : Nat) : Sig := Ab M8 Jg (L9 k)
noncomputable def Ae1 (k : Nat) (J : JF Int) (L : LF Int) : (List (YT11)) → Option Int
 | a0 => L 2 [] k (M7 (a0, ((List.length a0 : Nat) : Int), (0 : Int)))
theorem Beg (k : Nat) (x : (List (YT11))) : L9 k x = Ae1 k (Cx k).J (Cx k).L x := by
 refine (Aj _ _).trans ?_; apply cutX (Cx k) [] [] (st0 (Cx k).C Tryz.f96 M8 x) [] [(2, [], k)] (Ae1 k · · x) <;> intros <;> kernel_rfl
noncomputable def Aw2 (k j2 : Nat) (J : JF Int) (L : LF Int) : Aez → Option Int
 | (a0, a1, a2) => bif (decide (a2 < a1)) then (idx zt11 a0 a2 fun o1 => ((Ip k) (o1.1.1, o1.1.2.1, o1.2.1)).bind fun o2 => bif o2 then (some a2) else (L 2 [] j2 (M7 (a0, a1, (IntKind.wrap .i64 (a2 + (1 : Int))))))) else (some (-1 : Int))
theorem Beh (k j2 : Nat) (x : Aez) : (Cx k).L 2 [] (j2 + 1) (M7 x) = Aw2 k j2 (Cx k).J (Cx k).L x := by
 apply cutX (Cx k) [.r, .l, .r, .b, .b] [j2] (M7 x) [] [(2, [], j2)] (Aw2 k j2 · · x) <;> intros <;> kernel_rfl
theorem Bat (k : Nat) : Af Tryz.prog 96 (Xh k) := Ah (Cx k).C k rfl ⟨⟨Bb0 k, trivial⟩, trivial⟩ Ag Tryz.func96 (by kernel_rfl)
def Sc : Sk := ⟨[.lf (.pv (.slice yt11)), .lf (.fn 77 [] [])], [], []⟩
def Sd : Sk := ⟨[.lf (.pv .bool)], [], []⟩
def Ada (k : Nat) : EnvL := [(96, [Xh k])]
def Sb (k : Nat) : Cfg := mkC (Ada k) 57 0 0
def If (k : Nat) : (List (YT11)) → Option Bool := hid (Ac (Sb k) k Tryz.f76 Sc Sd)
def Pq (k : Nat) : Sig := Ab Sc Sd (If k)
noncomputable def Av4 (k : Nat) : (List (YT11)) → Option Bool
 | a0 => ((L9 k) (a0)).bind fun o1 => some (decide (o1 ≥ (0 : Int)))
theorem Bdx (k : Nat) (x : (List (YT11))) : If k x = Av4 k x := (Aj _ _).trans (by kernel_rfl)
theorem Ar7 (k : Nat) : Af Tryz.prog 76 (Pq k) := Ah (Sb k) k rfl ⟨⟨Bat k, trivial⟩, trivial⟩ Ag Tryz.func76 (by kernel_rfl)
abbrev H60 : Type := (List Int) × (List (YT1)) × (List (YT2)) × (List (YT3)) × (Int) × (List Int) × (Int) × (List ((List (List (YT6))) × (Unit))) × (Int) × (Int) × (Int) × (Int) × (Int)
abbrev H61 : Type := (Bool) × (List Int) × (List (YT1)) × (List (YT2)) × (List (YT3)) × (Int) × (List Int) × (Int) × (List ((List (List (YT6))) × (Unit))) × (Int) × (Int) × (Int) × (Int) × (Int)
def Og : Sk := ⟨[.lf (.ptr 0 0)], [q0], []⟩
def Um : Sk := ⟨[.lf (.pv .bool)], Og.boxes, []⟩
def Aj9 (k : Nat) : EnvL := [(76, [Pq k])]
def Ui (k : Nat) : Cfg := mkC (Aj9 k) 57 1 0
def Abm (k : Nat) : H60 → Option H61 := hid (Ac (Ui k) k Tryz.f42 Og Um)
def P5 (k : Nat) : Sig := Ab Og Um (Abm k)
theorem At6 (k : Nat) : Af Tryz.prog 42 (P5 k) := Ah (Ui k) k rfl ⟨⟨Ar7 k, trivial⟩, trivial⟩ Ag Tryz.func42 (by kernel_rfl)
abbrev H62 : Type := (List Int) × (List (YT1)) × (List (YT2)) × (List (YT3)) × (Int) × (List Int) × (Int) × (List ((List (List (YT6))) × (Unit))) × (Int) × (Int) × (Int) × (Int) × (Int) × (List (YT11))
abbrev H63 : Type := (Bool) × (List Int) × (List (YT1)) × (List (YT2)) × (List (YT3)) × (Int) × (List Int) × (Int) × (List ((List (List (YT6))) × (Unit))) × (Int) × (Int) × (Int) × (Int) × (Int) × (List (YT11))
def Of : Sk := ⟨[.lf (.ptr 0 0)], [q2], [some (100, yt11)]⟩
def Uh : Sk := ⟨[.lf (.pv .bool)], Of.boxes, [some (100, yt11)]⟩
def Aj7 (k : Nat) : EnvL := [(76, [Pq k])]
def Ug (k : Nat) : Cfg := mkC (Aj7 k) 57 1 1
def Cn (k : Nat) : H62 → Option H63 := hid (Ac (Ug k) k Tryz.f42 Of Uh)
def Hs (k : Nat) : Sig := Ab Of Uh (Cn k)
noncomputable def A0y (k : Nat) : H62 → Option H63
 | (a0, a1, a2, a3, a4, a5, a6, a7, a8, a9, a10, a11, a12, a13) => ((If k) (a13)).bind fun o1 => some ((!o1), a0, a1, a2, a3, a4, a5, a6, a7, a8, a9, a10, a11, a12, a13)
theorem Bgd (k : Nat) (x : H62) : Cn k x = A0y k x := (Aj _ _).trans (by kernel_rfl)
theorem Rn (k : Nat) : Af Tryz.prog 42 (Hs k) := Ah (Ug k) k rfl ⟨⟨Ar7 k, trivial⟩, trivial⟩ Ag Tryz.func42 (by kernel_rfl)
abbrev H64 : Type := (Int) × (List Int) × (List (YT1)) × (List (YT2)) × (List (YT3)) × (Int) × (List Int) × (Int) × (List ((List (List (YT6))) × (Unit))) × (Int) × (Int) × (Int) × (Int) × (Int) × (List (YT11))
abbrev H65 : Type := (Int) × (List (List (YT6))) × (Int) × (Int) × (List Int) × (List (YT1)) × (List (YT2)) × (List (YT3)) × (Int) × (List Int) × (Int) × (List ((List (List (YT6))) × (Unit))) × (Int) × (Int) × (Int) × (Int) × (Int) × (List (YT11))
abbrev H66 : Type := (Int) × (List Int) × (List (YT1)) × (List (YT2)) × (List (YT3)) × (Int) × (List Int) × (Int) × (List ((List (List (YT6))) × (Unit))) × (Int) × (Int) × (Int) × (Int) × (Int)
def Oa : Sk := ⟨[.lf (.ptr 0 0), .lf (.pv (.int .i64))], [q0], []⟩
def J5 : Sk := ⟨[], [q2], [some (100, yt11)]⟩
def Ajc : Sk := ⟨sparse 51 [(0, .lf (.ptr 0 0)), (1, .lf (.pv (.int .i64)))], [q2], [some (100, yt11)]⟩
abbrev Aja := H64
def Hb : Aja → St := stOf Ajc 99
def Ajd : Sk := ⟨sparse 51 [(0, .lf (.ptr 0 0)), (1, .lf (.pv (.int .i64))), (21, .lf (.pv (.slice (.slice yt6)))), (22, .lf (.pv (.int .i64))), (23, .lf (.pv (.int .i64)))], [q2], [some (100, yt11)]⟩
abbrev Ajb := H65
def N9 : Ajb → St := stOf Ajd 99
def Ai8 (k : Nat) : EnvL := [(42, [P5 k, Hs k])]
def Bs (k : Nat) : FnX H62 := mkX ({ mkC (Ai8 k) 99 1 0 with hint := fun i => look none [(0, some Ajc), (2, some Ajd)] i }) k Tryz.f30 J5
def Fq (k : Nat) : H66 → Option H62 := hid (Ac (Bs k).C k Tryz.f30 Oa J5)
def Pz (k : Nat) : Sig := Ab Oa J5 (Fq k)
noncomputable def Ajg (k : Nat) (J : JF H62) (L : LF H62) : H66 → Option H62
 | (a0, a1, a2, a3, a4, a5, a6, a7, a8, a9, a10, a11, a12, a13) => L 0 [] k (Hb (a0, a1, a2, a3, a4, a5, a6, a7, a8, a9, a10, a11, a12, a13, []))
theorem Bf5 (k : Nat) (x : H66) : Fq k x = Ajg k (Bs k).J (Bs k).L x := by
 refine (Aj _ _).trans ?_; apply cutX (Bs k) [] [] (st0 (Bs k).C Tryz.f30 Oa x) [] [(0, [], k)] (Ajg k · · x) <;> intros <;> kernel_rfl
noncomputable def Ajh (k j0 : Nat) (J : JF H62) (L : LF H62) : Aja → Option H62
 | (a0, a1, a2, a3, a4, a5, a6, a7, a8, a9, a10, a11, a12, a13, a14) => idx ([], ()) a8 a0 fun o1 => L 2 [j0] k (N9 (a0, o1.1, ((List.length o1.1 : Nat) : Int), (0 : Int), a1, a2, a3, a4, a5, a6, a7, a8, a9, a10, a11, a12, a0, []))
theorem Bf6 (k j0 : Nat) (x : Aja) : (Bs k).L 0 [] (j0 + 1) (Hb x) = Ajh k j0 (Bs k).J (Bs k).L x := by
 apply cutX (Bs k) [.b, .b] [j0] (Hb x) [] [(0, [], j0), (2, [j0], k)] (Ajh k j0 · · x) <;> intros <;> kernel_rfl
noncomputable def Ub (k j0 j2 : Nat) (J : JF H62) (L : LF H62) : Ajb → Option H62
 | (a0, a1, a2, a3, a4, a5, a6, a7, a8, a9, a10, a11, a12, a13, a14, a15, a16, a17) => bif (decide (a3 < a2)) then (idx [] a1 a3 fun o1 => app 40 a17 ([(((0 : Int), ((0 : Int), ())), (o1, ()))] : List (YT11)) fun o2 => L 2 [j0] j2 (N9 (a0, a1, a2, (IntKind.wrap .i64 (a3 + (1 : Int))), a4, a5, a6, a7, a8, a9, a10, a11, a12, a13, a14, a15, a16, o2))) else (((Cn k) (a4, a5, a6, a7, a8, a9, a10, a11, a12, a13, a14, a15, a16, a17)).bind fun o3 => bif (!o3.1) then (some (o3.2.1, o3.2.2.1, o3.2.2.2.1, o3.2.2.2.2.1, o3.2.2.2.2.2.1, o3.2.2.2.2.2.2.1, o3.2.2.2.2.2.2.2.1, o3.2.2.2.2.2.2.2.2.1, o3.2.2.2.2.2.2.2.2.2.1, o3.2.2.2.2.2.2.2.2.2.2.1, o3.2.2.2.2.2.2.2.2.2.2.2.1, o3.2.2.2.2.2.2.2.2.2.2.2.2.1, o3.2.2.2.2.2.2.2.2.2.2.2.2.2.1, o3.2.2.2.2.2.2.2.2.2.2.2.2.2.2)) else (bif (!decide (((List.length o3.2.2.2.2.2.2.2.2.1 : Nat) : Int) = 0)) then L 0 [] j0 (Hb ((Int.tmod (IntKind.wrap .i64 (a0 + (1 : Int))) ((List.length o3.2.2.2.2.2.2.2.2.1 : Nat) : Int)), o3.2.1, o3.2.2.1, o3.2.2.2.1, o3.2.2.2.2.1, o3.2.2.2.2.2.1, o3.2.2.2.2.2.2.1, o3.2.2.2.2.2.2.2.1, o3.2.2.2.2.2.2.2.2.1, o3.2.2.2.2.2.2.2.2.2.1, o3.2.2.2.2.2.2.2.2.2.2.1, o3.2.2.2.2.2.2.2.2.2.2.2.1, o3.2.2.2.2.2.2.2.2.2.2.2.2.1, o3.2.2.2.2.2.2.2.2.2.2.2.2.2.1, o3.2.2.2.2.2.2.2.2.2.2.2.2.2.2)) else none))
theorem A0l (k j0 j2 : Nat) (x : Ajb) : (Bs k).L 2 [j0] (j2 + 1) (N9 x) = Ub k j0 j2 (Bs k).J (Bs k).L x := by
 apply cutX (Bs k) [.b, .b, .b, .r, .l, .r, .b, .b] [j0, j2] (N9 x) [] [(0, [], j0), (2, [j0], j2)] (Ub k j0 j2 · · x) <;> intros <;> kernel_rfl
theorem Atv (k : Nat) : Af Tryz.prog 30 (Pz k) := Ah (Bs k).C k rfl ⟨⟨At6 k, Rn k, trivial⟩, trivial⟩ Ag Tryz.func30 (by kernel_rfl)
abbrev H67 : Type := (Int) × (Int) × (List (YT6)) × (Int) × (Int) × (List (YT11))
def Ok : Sk := ⟨[.lf (.ept 0 0 3)], [], [some (100, yt11)]⟩
def Ol : Sk := ⟨[.lf (.pv (.int .i64))], [], [some (100, yt11)]⟩
def A1j : Sk := ⟨sparse 34 [(0, .lf (.ept 0 0 3)), (3, .lf (.pv (.int .i64))), (21, .lf (.pv (.slice yt6))), (22, .lf (.pv (.int .i64))), (23, .lf (.pv (.int .i64)))], [], [some (100, yt11)]⟩
abbrev Akx := H67
def Oj : Akx → St := stOf A1j 82
def Di (k : Nat) : FnX ((Int) × (List (YT11))) := mkX ({ mkC [] 82 0 1 with hint := fun i => look none [(3, some A1j)] i }) k Tryz.f64 Ol
def It (k : Nat) : ((Int) × (List (YT11))) → Option ((Int) × (List (YT11))) := hid (Ac (Di k).C k Tryz.f64 Ok Ol)
def Yb (k : Nat) : Sig := Ab Ok Ol (It k)
noncomputable def Aky (k : Nat) (J : JF ((Int) × (List (YT11)))) (L : LF ((Int) × (List (YT11)))) : ((Int) × (List (YT11))) → Option ((Int) × (List (YT11)))
 | (a0, a1) => cut (rdA zt11 a1 (Int.toNat a0)).2.1 (rdA zt11 a1 (Int.toNat a0)).1.1 (((List.length (rdA zt11 a1 (Int.toNat a0)).2.1) : Nat) : Int) fun o1 => L 3 [] k (Oj ((Int.ofNat (Int.toNat a0)), (negI .i64 (rdA zt11 a1 (Int.toNat a0)).1.2.1), o1, ((List.length o1 : Nat) : Int), (0 : Int), a1))
theorem Bgm (k : Nat) (x : ((Int) × (List (YT11)))) : It k x = Aky k (Di k).J (Di k).L x := by
 refine (Aj _ _).trans ?_; apply cutX (Di k) [] [] (st0 (Di k).C Tryz.f64 Ok x) [] [(3, [], k)] (Aky k · · x) <;> intros <;> kernel_rfl
noncomputable def Uu (k j3 : Nat) (J : JF ((Int) × (List (YT11)))) (L : LF ((Int) × (List (YT11)))) : Akx → Option ((Int) × (List (YT11)))
 | (a0, a1, a2, a3, a4, a5) => bif (decide (a4 < a3)) then (idx zt6 a2 a4 fun o1 => L 3 [] j3 (Oj ((Int.ofNat (Int.toNat a0)), (IntKind.wrap .i64 (a1 + o1.2.1)), a2, a3, (IntKind.wrap .i64 (a4 + (1 : Int))), a5))) else (some ((maxI (0 : Int) a1), a5))
theorem A1i (k j3 : Nat) (x : Akx) : (Di k).L 3 [] (j3 + 1) (Oj x) = Uu k j3 (Di k).J (Di k).L x := by
 apply cutX (Di k) [.r, .r, .l, .r, .b, .b] [j3] (Oj x) [] [(3, [], j3)] (Uu k j3 · · x) <;> intros <;> kernel_rfl
theorem Bb5 (k : Nat) : Af Tryz.prog 64 (Yb k) := Ah (Di k).C (l := []) k rfl trivial Ag Tryz.func64 (by kernel_rfl)
def Uv : Sk := ⟨[.lf (.ept 0 0 3)], [], [some (100, yt11)]⟩
def Uw : Sk := ⟨[.lf (.pv .bool)], [], [some (100, yt11)]⟩
def Ak6 (k : Nat) : Cfg := mkC [] 62 0 1
def Fs (k : Nat) : ((Int) × (List (YT11))) → Option ((Bool) × (List (YT11))) := hid (Ac (Ak6 k) k Tryz.f40 Uv Uw)
def Lb (k : Nat) : Sig := Ab Uv Uw (Fs k)
noncomputable def A1m (k : Nat) : ((Int) × (List (YT11))) → Option ((Bool) × (List (YT11)))
 | (a0, a1) => some (((rdA zt11 a1 (Int.toNat a0)).1.1 == ((List.length (rdA zt11 a1 (Int.toNat a0)).2.1 : Nat) : Int)), a1)
theorem Bgp (k : Nat) (x : ((Int) × (List (YT11)))) : Fs k x = A1m k x := (Aj _ _).trans (by kernel_rfl)
theorem Abx (k : Nat) : Af Tryz.prog 40 (Lb k) := Ah (Ak6 k) (l := []) k rfl trivial Ag Tryz.func40 (by kernel_rfl)
abbrev H68 : Type := (Int) × (Int) × (List (YT11))
def Om : Sk := ⟨[.lf (.ept 0 0 3), .lf (.pv (.int .i64))], [], [some (100, yt11)]⟩
def Kd : Sk := ⟨[], [], [some (100, yt11)]⟩
def Ak2 : Sk := ⟨sparse 75 [(0, .lf (.ept 0 0 3)), (1, .lf (.pv (.int .i64)))], [], [some (100, yt11)]⟩
abbrev Ak1 := H68
def Kc : Ak1 → St := stOf Ak2 123
def Akz (k : Nat) : EnvL := [(40, [Lb k])]
def C4 (k : Nat) : FnX (List (YT11)) := mkX ({ mkC (Akz k) 123 0 1 with hint := fun i => look none [(0, some Ak2)] i }) k Tryz.f65 Kd
def Iu (k : Nat) : H68 → Option (List (YT11)) := hid (Ac (C4 k).C k Tryz.f65 Om Kd)
def Yc (k : Nat) : Sig := Ab Om Kd (Iu k)
noncomputable def Ak3 (k : Nat) (J : JF (List (YT11))) (L : LF (List (YT11))) : H68 → Option (List (YT11))
 | (a0, a1, a2) => L 0 [] k (Kc ((Int.ofNat (Int.toNat a0)), a1, a2))
theorem Bgn (k : Nat) (x : H68) : Iu k x = Ak3 k (C4 k).J (C4 k).L x := by
 refine (Aj _ _).trans ?_; apply cutX (C4 k) [] [] (st0 (C4 k).C Tryz.f65 Om x) [] [(0, [], k)] (Ak3 k · · x) <;> intros <;> kernel_rfl
noncomputable def Ak4 (k j0 : Nat) (J : JF (List (YT11))) (L : LF (List (YT11))) : Ak1 → Option (List (YT11))
 | (a0, a1, a2) => bif (decide (a1 > (0 : Int))) then (((Fs k) ((Int.ofNat (Int.toNat a0)), a2)).bind fun o1 => bif (!o1.1) then (idx zt6 (rdA zt11 o1.2 (Int.toNat a0)).2.1 (rdA zt11 o1.2 (Int.toNat a0)).1.1 fun o2 => idx zt6 (rdA zt11 o1.2 (Int.toNat a0)).2.1 (rdA zt11 o1.2 (Int.toNat a0)).1.1 fun o3 => bif ((IntKind.wrap .i64 ((rdA zt11 o1.2 (Int.toNat a0)).1.2.1 + (minI a1 (IntKind.wrap .i64 (o2.2.1 - (rdA zt11 o1.2 (Int.toNat a0)).1.2.1))))) == o3.2.1) then (L 0 [] j0 (Kc ((Int.ofNat (Int.toNat a0)), (IntKind.wrap .i64 (a1 - (minI a1 (IntKind.wrap .i64 (o2.2.1 - (rdA zt11 o1.2 (Int.toNat a0)).1.2.1))))), (List.set o1.2 (Int.toNat a0) (((IntKind.wrap .i64 ((rdA zt11 o1.2 (Int.toNat a0)).1.1 + (1 : Int))), ((0 : Int), ())), ((rdA zt11 o1.2 (Int.toNat a0)).2.1, ())))))) else (L 0 [] j0 (Kc ((Int.ofNat (Int.toNat a0)), (IntKind.wrap .i64 (a1 - (minI a1 (IntKind.wrap .i64 (o2.2.1 - (rdA zt11 o1.2 (Int.toNat a0)).1.2.1))))), (List.set o1.2 (Int.toNat a0) (((rdA zt11 o1.2 (Int.toNat a0)).1.1, ((IntKind.wrap .i64 ((rdA zt11 o1.2 (Int.toNat a0)).1.2.1 + (minI a1 (IntKind.wrap .i64 (o2.2.1 - (rdA zt11 o1.2 (Int.toNat a0)).1.2.1))))), ())), ((rdA zt11 o1.2 (Int.toNat a0)).2.1, ()))))))) else (some o1.2)) else (some a2)
theorem Bgo (k j0 : Nat) (x : Ak1) : (C4 k).L 0 [] (j0 + 1) (Kc x) = Ak4 k j0 (C4 k).J (C4 k).L x := by
 apply cutX (C4 k) [.b, .b] [j0] (Kc x) [] [(0, [], j0)] (Ak4 k j0 · · x) <;> intros <;> kernel_rfl
theorem Bb6 (k : Nat) : Af Tryz.prog 65 (Yc k) := Ah (C4 k).C k rfl ⟨⟨Abx k, trivial⟩, trivial⟩ Ag Tryz.func65 (by kernel_rfl)
end
end Go.Proofs.YtgmpjapnhdilaaaGreatV
